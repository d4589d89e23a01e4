/- The verification conditions of the functions, evaluated: printed by program. -/
import Derived.Test.YtdclhgcgpcddlaaBase
namespace Go.Proofs.Ytdclhgcgpcddlaa
open Go Go.Vc

set_option maxRecDepth 100000 in
def rencode_T (form : Int) (l_p : Option Addr) (l_n : Nat) (l_c : Nat) (w : World) (R : Ending → World → Prop) : Prop :=
  ((form < 0 ∨ 3 < form) ∨ 4096 < (↑l_n : Int) → R (Ending.returned (Value.tuple #[Value.slice none 0 0, Value.int IntKind.i64 2])) w) ∧
 ((0 ≤ form ∧ form ≤ 3) ∧ (↑l_n : Int) ≤ 4096 →
 ∀ (b3 : Nat) (w'4 : World),
 New w (Obj.cells #[Value.int IntKind.u8 (IntKind.u8.wrap form)] 5) b3 w'4 →
 (form = 1 →
 Calls Try.prog 66 #[Value.slice (some (Addr.mk b3 0 none)) 1 1, Value.slice l_p l_n l_c] w'4 fun (e7 : Ending) (w8 : World) ↦
 ∃ (p9 : Option Addr),
 ∃ (n10 : Nat), ∃ (c11 : Nat), e7 = Ending.returned (Value.slice p9 n10 c11) ∧ R (Ending.returned (Value.tuple #[Value.slice p9 n10 c11, Value.int IntKind.i64 0])) w8) ∧
 (form ≠ 1 →
 (form = 2 →
 Calls Try.prog 67 #[Value.slice (some (Addr.mk b3 0 none)) 1 1, Value.slice l_p l_n l_c] w'4 fun (e14 : Ending) (w15 : World) ↦
 ∃ (p16 : Option Addr),
 ∃ (n17 : Nat),
 ∃ (c18 : Nat), e14 = Ending.returned (Value.slice p16 n17 c18) ∧ R (Ending.returned (Value.tuple #[Value.slice p16 n17 c18, Value.int IntKind.i64 0])) w15) ∧
 (form ≠ 2 →
 (form = 3 →
 Calls Try.prog 68 #[Value.slice (some (Addr.mk b3 0 none)) 1 1, Value.slice l_p l_n l_c] w'4 fun (e21 : Ending) (w22 : World) ↦
 ∃ (p23 : Option Addr),
 ∃ (n24 : Nat),
 ∃ (c25 : Nat), e21 = Ending.returned (Value.slice p23 n24 c25) ∧ R (Ending.returned (Value.tuple #[Value.slice p23 n24 c25, Value.int IntKind.i64 0])) w22) ∧
 (form ≠ 3 →
 ∃ (I27 : Option Addr → Nat → Nat → Int → World → Prop),
 ∃ (M28 : Option Addr → Nat → Nat → Int → World → Nat),
 I27 (some (Addr.mk b3 0 none)) 1 1 0 w'4 ∧
 ∀ (p29 : Option Addr) (n30 c31 : Nat) (n32 : Int) (w'33 : World),
 I27 p29 n30 c31 n32 w'33 →
 (n32 < (↑l_n : Int) →
 ∃ (b36 : Nat),
 ∃ (o37 : Nat),
 l_p = some (Addr.mk b36 o37 none) ∧
 0 ≤ n32 ∧
 n32 < (↑l_n : Int) ∧
 ∃ (n38 : Int),
 w'33.cell? (Addr.mk b36 (o37 + n32.toNat) none) = some (Value.int IntKind.i64 n38) ∧
 Calls Try.prog 43 #[Value.slice p29 n30 c31, Value.int IntKind.i64 n38] w'33 fun (e39 : Ending) (w40 : World) ↦
 ∃ (p41 : Option Addr),
 ∃ (n42 : Nat),
 ∃ (c43 : Nat),
 e39 = Ending.returned (Value.slice p41 n42 c43) ∧
 I27 p41 n42 c43 (IntKind.i64.wrap (n32 + 1)) w40 ∧ M28 p41 n42 c43 (IntKind.i64.wrap (n32 + 1)) w40 < M28 p29 n30 c31 n32 w'33) ∧
 ((↑l_n : Int) ≤ n32 → R (Ending.returned (Value.tuple #[Value.slice p29 n30 c31, Value.int IntKind.i64 0])) w'33)))))

set_option maxRecDepth 100000 in
theorem rencode_eq (form : Int) (l_p : Option Addr) (l_n : Nat) (l_c : Nat) (w : World) (R : Ending → World → Prop) : rencode_T form l_p l_n l_c w R = vcFn Try.prog [] [] Try.f49 [Value.int IntKind.i64 form, Value.slice l_p l_n l_c] w R := by kernel_rfl

set_option maxRecDepth 100000 in
theorem rencode_vc (form : Int) (l_p : Option Addr) (l_n : Nat) (l_c : Nat) (w : World) (R : Ending → World → Prop) (h : rencode_T form l_p l_n l_c w R) : Calls Try.prog 49 #[Value.int IntKind.i64 form, Value.slice l_p l_n l_c] w R :=
  calls_of_vc (args := [Value.int IntKind.i64 form, Value.slice l_p l_n l_c]) [] [] Try.mixed Try.func49 (cast (rencode_eq _ _ _ _ w R) h)

set_option maxRecDepth 100000 in
def rbest_T (l_p : Option Addr) (l_n : Nat) (l_c : Nat) (w : World) (R : Ending → World → Prop) : Prop :=
  (4096 < (↑l_n : Int) → R (Ending.returned (Value.tuple #[Value.int IntKind.i64 0, Value.int IntKind.i64 2])) w) ∧
 ((↑l_n : Int) ≤ 4096 →
 ∃ (I3 : Int → Int → Int → World → Prop),
 ∃ (M4 : Int → Int → Int → World → Nat),
 I3 0 0 0 w ∧
 ∀ (n5 n6 n7 : Int) (w'8 : World),
 I3 n5 n6 n7 w'8 →
 (n7 < 4 →
 Calls Try.prog 49 #[Value.int IntKind.i64 n7, Value.slice l_p l_n l_c] w'8 fun (e11 : Ending) (w12 : World) ↦
 ∃ (p13 : Option Addr),
 ∃ (n14 : Nat),
 ∃ (c15 : Nat),
 ∃ (n16 : Int),
 e11 = Ending.returned (Value.tuple #[Value.slice p13 n14 c15, Value.int IntKind.i64 n16]) ∧
 (n7 = 0 ∨ (↑n14 : Int) < n6 → I3 n7 (↑n14 : Int) (IntKind.i64.wrap (n7 + 1)) w12 ∧ M4 n7 (↑n14 : Int) (IntKind.i64.wrap (n7 + 1)) w12 < M4 n5 n6 n7 w'8) ∧
 (n7 ≠ 0 ∧ n6 ≤ (↑n14 : Int) → I3 n5 n6 (IntKind.i64.wrap (n7 + 1)) w12 ∧ M4 n5 n6 (IntKind.i64.wrap (n7 + 1)) w12 < M4 n5 n6 n7 w'8)) ∧
 (4 ≤ n7 → R (Ending.returned (Value.tuple #[Value.int IntKind.i64 n5, Value.int IntKind.i64 0])) w'8))

set_option maxRecDepth 100000 in
theorem rbest_eq (l_p : Option Addr) (l_n : Nat) (l_c : Nat) (w : World) (R : Ending → World → Prop) : rbest_T l_p l_n l_c w R = vcFn Try.prog [] [] Try.f51 [Value.slice l_p l_n l_c] w R := by kernel_rfl

set_option maxRecDepth 100000 in
theorem rbest_vc (l_p : Option Addr) (l_n : Nat) (l_c : Nat) (w : World) (R : Ending → World → Prop) (h : rbest_T l_p l_n l_c w R) : Calls Try.prog 51 #[Value.slice l_p l_n l_c] w R :=
  calls_of_vc (args := [Value.slice l_p l_n l_c]) [] [] Try.mixed Try.func51 (cast (rbest_eq _ _ _ w R) h)

set_option maxRecDepth 100000 in
def rdecode_T (b_p : Option Addr) (b_n : Nat) (b_c : Nat) (n : Int) (w : World) (R : Ending → World → Prop) : Prop :=
  (n < 0 ∨ 4096 < n → R (Ending.returned (Value.tuple #[Value.slice none 0 0, Value.int IntKind.i64 2])) w) ∧
 (0 ≤ n ∧ n ≤ 4096 →
 ((↑b_n : Int) = 0 → R (Ending.returned (Value.tuple #[Value.slice none 0 0, Value.int IntKind.i64 60])) w) ∧
 ((↑b_n : Int) ≠ 0 →
 ∃ (b5 : Nat),
 ∃ (o6 : Nat),
 b_p = some (Addr.mk b5 o6 none) ∧
 (0 : Int) ≤ 0 ∧
 0 < (↑b_n : Int) ∧
 ∃ (n7 : Int),
 w.cell? (Addr.mk b5 (o6 + 0) none) = some (Value.int IntKind.u8 n7) ∧
 (3 < n7 → R (Ending.returned (Value.tuple #[Value.slice none 0 0, Value.int IntKind.i64 60])) w) ∧
 (n7 ≤ 3 →
 ∃ (b10 : Nat),
 ∃ (o11 : Nat),
 b_p = some (Addr.mk b10 o11 none) ∧
 (0 : Int) ≤ 0 ∧
 0 < (↑b_n : Int) ∧
 ∃ (n12 : Int),
 w.cell? (Addr.mk b10 (o11 + 0) none) = some (Value.int IntKind.u8 n12) ∧
 (n12 < 2 →
 Calls Try.prog 73 #[Value.slice b_p b_n b_c, Value.int IntKind.i64 n] w fun (e14 : Ending) (w15 : World) ↦
 ∃ (p16 : Option Addr),
 ∃ (n17 : Nat),
 ∃ (c18 : Nat),
 e14 = Ending.returned (Value.slice p16 n17 c18) ∧
 ((↑n17 : Int) ≠ n → R (Ending.returned (Value.tuple #[Value.slice none 0 0, Value.int IntKind.i64 60])) w15) ∧
 ((↑n17 : Int) = n →
 ∃ (b21 : Nat),
 ∃ (o22 : Nat),
 b_p = some (Addr.mk b21 o22 none) ∧
 (0 : Int) ≤ 0 ∧
 0 < (↑b_n : Int) ∧
 ∃ (n23 : Int),
 w15.cell? (Addr.mk b21 (o22 + 0) none) = some (Value.int IntKind.u8 n23) ∧
 Calls Try.prog 49 #[Value.int IntKind.i64 (IntKind.i64.wrap n23), Value.slice p16 n17 c18] w15 fun (e24 : Ending) (w25 : World) ↦
 ∃ (p26 : Option Addr),
 ∃ (n27 : Nat),
 ∃ (c28 : Nat),
 ∃ (n29 : Int),
 e24 = Ending.returned (Value.tuple #[Value.slice p26 n27 c28, Value.int IntKind.i64 n29]) ∧
 ∃ (l30 : List UInt8),
 BytesAt w25 p26 n27 l30 ∧
 ∃ (l31 : List UInt8),
 BytesAt w25 b_p b_n l31 ∧
 (ByteArray.mk (Array.mk l30) ≠ ByteArray.mk (Array.mk l31) → R (Ending.returned (Value.tuple #[Value.slice none 0 0, Value.int IntKind.i64 60])) w25) ∧
 (ByteArray.mk (Array.mk l30) = ByteArray.mk (Array.mk l31) → R (Ending.returned (Value.tuple #[Value.slice p16 n17 c18, Value.int IntKind.i64 0])) w25))) ∧
 (2 ≤ n12 →
 Calls Try.prog 74 #[Value.slice b_p b_n b_c, Value.int IntKind.i64 n] w fun (e35 : Ending) (w36 : World) ↦
 ∃ (p37 : Option Addr),
 ∃ (n38 : Nat),
 ∃ (c39 : Nat),
 e35 = Ending.returned (Value.slice p37 n38 c39) ∧
 ((↑n38 : Int) ≠ n → R (Ending.returned (Value.tuple #[Value.slice none 0 0, Value.int IntKind.i64 60])) w36) ∧
 ((↑n38 : Int) = n →
 ∃ (b42 : Nat),
 ∃ (o43 : Nat),
 b_p = some (Addr.mk b42 o43 none) ∧
 (0 : Int) ≤ 0 ∧
 0 < (↑b_n : Int) ∧
 ∃ (n44 : Int),
 w36.cell? (Addr.mk b42 (o43 + 0) none) = some (Value.int IntKind.u8 n44) ∧
 Calls Try.prog 49 #[Value.int IntKind.i64 (IntKind.i64.wrap n44), Value.slice p37 n38 c39] w36 fun (e45 : Ending) (w46 : World) ↦
 ∃ (p47 : Option Addr),
 ∃ (n48 : Nat),
 ∃ (c49 : Nat),
 ∃ (n50 : Int),
 e45 = Ending.returned (Value.tuple #[Value.slice p47 n48 c49, Value.int IntKind.i64 n50]) ∧
 ∃ (l51 : List UInt8),
 BytesAt w46 p47 n48 l51 ∧
 ∃ (l52 : List UInt8),
 BytesAt w46 b_p b_n l52 ∧
 (ByteArray.mk (Array.mk l51) ≠ ByteArray.mk (Array.mk l52) → R (Ending.returned (Value.tuple #[Value.slice none 0 0, Value.int IntKind.i64 60])) w46) ∧
 (ByteArray.mk (Array.mk l51) = ByteArray.mk (Array.mk l52) → R (Ending.returned (Value.tuple #[Value.slice p37 n38 c39, Value.int IntKind.i64 0])) w46))))))

set_option maxRecDepth 100000 in
theorem rdecode_eq (b_p : Option Addr) (b_n : Nat) (b_c : Nat) (n : Int) (w : World) (R : Ending → World → Prop) : rdecode_T b_p b_n b_c n w R = vcFn Try.prog [] [] Try.f53 [Value.slice b_p b_n b_c, Value.int IntKind.i64 n] w R := by kernel_rfl

set_option maxRecDepth 100000 in
theorem rdecode_vc (b_p : Option Addr) (b_n : Nat) (b_c : Nat) (n : Int) (w : World) (R : Ending → World → Prop) (h : rdecode_T b_p b_n b_c n w R) : Calls Try.prog 53 #[Value.slice b_p b_n b_c, Value.int IntKind.i64 n] w R :=
  calls_of_vc (args := [Value.slice b_p b_n b_c, Value.int IntKind.i64 n]) [] [] Try.mixed Try.func53 (cast (rdecode_eq _ _ _ _ w R) h)

set_option maxRecDepth 100000 in
def same6_T (a_p : Option Addr) (a_n : Nat) (a_c : Nat) (b_p : Option Addr) (b_n : Nat) (b_c : Nat) (w : World) (R : Ending → World → Prop) : Prop :=
  ((↑a_n : Int) ≠ (↑b_n : Int) → R (Ending.returned (Value.bool false)) w) ∧
 ((↑a_n : Int) = (↑b_n : Int) →
 ∃ (I3 : Int → World → Prop),
 ∃ (M4 : Int → World → Nat),
 I3 0 w ∧
 ∀ (n5 : Int) (w'6 : World),
 I3 n5 w'6 →
 (n5 < (↑a_n : Int) →
 ∀ (w'9 : World),
 Drew w'6 w'9 →
 ∃ (b11 : Nat),
 ∃ (o12 : Nat),
 a_p = some (Addr.mk b11 o12 none) ∧
 0 ≤ n5 ∧
 n5 < (↑a_n : Int) ∧
 ∃ (n13 : Int),
 w'9.cell? (Addr.mk b11 (o12 + n5.toNat) none) = some (Value.int IntKind.i64 n13) ∧
 ∃ (b14 : Nat),
 ∃ (o15 : Nat),
 b_p = some (Addr.mk b14 o15 none) ∧
 0 ≤ n5 ∧
 n5 < (↑b_n : Int) ∧
 ∃ (n16 : Int),
 w'9.cell? (Addr.mk b14 (o15 + n5.toNat) none) = some (Value.int IntKind.i64 n16) ∧
 (n13 ≠ n16 → R (Ending.returned (Value.bool false)) w'9) ∧ (n13 = n16 → I3 (IntKind.i64.wrap (n5 + 1)) w'9 ∧ M4 (IntKind.i64.wrap (n5 + 1)) w'9 < M4 n5 w'6)) ∧
 ((↑a_n : Int) ≤ n5 → R (Ending.returned (Value.bool true)) w'6))

set_option maxRecDepth 100000 in
theorem same6_eq (a_p : Option Addr) (a_n : Nat) (a_c : Nat) (b_p : Option Addr) (b_n : Nat) (b_c : Nat) (w : World) (R : Ending → World → Prop) : same6_T a_p a_n a_c b_p b_n b_c w R = vcFn Try.prog [] [(6, [0, 2, 4, 6, 8, 10, 12, 14, 16])] Try.f54 [Value.slice a_p a_n a_c, Value.slice b_p b_n b_c] w R := by kernel_rfl

set_option maxRecDepth 100000 in
theorem same6_vc (a_p : Option Addr) (a_n : Nat) (a_c : Nat) (b_p : Option Addr) (b_n : Nat) (b_c : Nat) (w : World) (R : Ending → World → Prop) (h : same6_T a_p a_n a_c b_p b_n b_c w R) : Calls Try.prog 54 #[Value.slice a_p a_n a_c, Value.slice b_p b_n b_c] w R :=
  calls_of_vc (args := [Value.slice a_p a_n a_c, Value.slice b_p b_n b_c]) [] [(6, [0, 2, 4, 6, 8, 10, 12, 14, 16])] Try.mixed Try.func54 (cast (same6_eq _ _ _ _ _ _ w R) h)

set_option maxRecDepth 100000 in
def rruns_T (b_p : Option Addr) (b_n : Nat) (b_c : Nat) (l_p : Option Addr) (l_n : Nat) (l_c : Nat) (w : World) (R : Ending → World → Prop) : Prop :=
  ∃ (I1 : Option Addr → Nat → Nat → Int → Int → World → Prop),
 ∃ (M2 : Option Addr → Nat → Nat → Int → Int → World → Nat),
 I1 b_p b_n b_c 0 1 w ∧
 ∀ (p3 : Option Addr) (n4 c5 : Nat) (n6 n7 : Int) (w'8 : World),
 I1 p3 n4 c5 n6 n7 w'8 →
 (n7 ≤ (↑l_n : Int) →
 ∀ (w'11 : World),
 Drew w'8 w'11 →
 (n7 = (↑l_n : Int) →
 ∀ (w'14 : World),
 Drew w'11 w'14 →
 ∃ (b16 : Nat),
 ∃ (o17 : Nat),
 l_p = some (Addr.mk b16 o17 none) ∧
 0 ≤ n6 ∧
 n6 < (↑l_n : Int) ∧
 ∃ (n18 : Int),
 w'14.cell? (Addr.mk b16 (o17 + n6.toNat) none) = some (Value.int IntKind.i64 n18) ∧
 Calls Try.prog 42 #[Value.slice p3 n4 c5, Value.int IntKind.u64 (IntKind.u64.wrap (IntKind.i64.wrap (n7 - n6)))] w'14 fun (e19 : Ending) (w20 : World) ↦
 ∃ (p21 : Option Addr),
 ∃ (n22 : Nat),
 ∃ (c23 : Nat),
 e19 = Ending.returned (Value.slice p21 n22 c23) ∧
 Same w'14 w20 ∧
 Calls Try.prog 43 #[Value.slice p21 n22 c23, Value.int IntKind.i64 n18] w20 fun (e24 : Ending) (w25 : World) ↦
 ∃ (p26 : Option Addr),
 ∃ (n27 : Nat),
 ∃ (c28 : Nat),
 e24 = Ending.returned (Value.slice p26 n27 c28) ∧
 I1 p26 n27 c28 n7 (IntKind.i64.wrap (n7 + 1)) w25 ∧ M2 p26 n27 c28 n7 (IntKind.i64.wrap (n7 + 1)) w25 < M2 p3 n4 c5 n6 n7 w'8) ∧
 (n7 ≠ (↑l_n : Int) →
 ∃ (b30 : Nat),
 ∃ (o31 : Nat),
 l_p = some (Addr.mk b30 o31 none) ∧
 0 ≤ n7 ∧
 n7 < (↑l_n : Int) ∧
 ∃ (n32 : Int),
 w'11.cell? (Addr.mk b30 (o31 + n7.toNat) none) = some (Value.int IntKind.i64 n32) ∧
 ∃ (b33 : Nat),
 ∃ (o34 : Nat),
 l_p = some (Addr.mk b33 o34 none) ∧
 0 ≤ n6 ∧
 n6 < (↑l_n : Int) ∧
 ∃ (n35 : Int),
 w'11.cell? (Addr.mk b33 (o34 + n6.toNat) none) = some (Value.int IntKind.i64 n35) ∧
 (n32 ≠ n35 →
 ∀ (w'37 : World),
 Drew w'11 w'37 →
 ∃ (b39 : Nat),
 ∃ (o40 : Nat),
 l_p = some (Addr.mk b39 o40 none) ∧
 0 ≤ n6 ∧
 n6 < (↑l_n : Int) ∧
 ∃ (n41 : Int),
 w'37.cell? (Addr.mk b39 (o40 + n6.toNat) none) = some (Value.int IntKind.i64 n41) ∧
 Calls Try.prog 42 #[Value.slice p3 n4 c5, Value.int IntKind.u64 (IntKind.u64.wrap (IntKind.i64.wrap (n7 - n6)))] w'37 fun (e42 : Ending) (w43 : World) ↦
 ∃ (p44 : Option Addr),
 ∃ (n45 : Nat),
 ∃ (c46 : Nat),
 e42 = Ending.returned (Value.slice p44 n45 c46) ∧
 Same w'37 w43 ∧
 Calls Try.prog 43 #[Value.slice p44 n45 c46, Value.int IntKind.i64 n41] w43 fun (e47 : Ending) (w48 : World) ↦
 ∃ (p49 : Option Addr),
 ∃ (n50 : Nat),
 ∃ (c51 : Nat),
 e47 = Ending.returned (Value.slice p49 n50 c51) ∧
 I1 p49 n50 c51 n7 (IntKind.i64.wrap (n7 + 1)) w48 ∧ M2 p49 n50 c51 n7 (IntKind.i64.wrap (n7 + 1)) w48 < M2 p3 n4 c5 n6 n7 w'8) ∧
 (n32 = n35 → I1 p3 n4 c5 n6 (IntKind.i64.wrap (n7 + 1)) w'11 ∧ M2 p3 n4 c5 n6 (IntKind.i64.wrap (n7 + 1)) w'11 < M2 p3 n4 c5 n6 n7 w'8))) ∧
 ((↑l_n : Int) < n7 → R (Ending.returned (Value.slice p3 n4 c5)) w'8)

set_option maxRecDepth 100000 in
theorem rruns_eq (b_p : Option Addr) (b_n : Nat) (b_c : Nat) (l_p : Option Addr) (l_n : Nat) (l_c : Nat) (w : World) (R : Ending → World → Prop) : rruns_T b_p b_n b_c l_p l_n l_c w R = vcFn Try.prog [] [(5, [0, 2, 4, 6, 8, 10, 12, 14, 16, 18, 20, 22, 24, 26, 28]), (6, [0, 2, 4, 6, 8, 12, 14, 16, 18, 11, 20, 22])] Try.f66 [Value.slice b_p b_n b_c, Value.slice l_p l_n l_c] w R := by kernel_rfl

set_option maxRecDepth 100000 in
theorem rruns_vc (b_p : Option Addr) (b_n : Nat) (b_c : Nat) (l_p : Option Addr) (l_n : Nat) (l_c : Nat) (w : World) (R : Ending → World → Prop) (h : rruns_T b_p b_n b_c l_p l_n l_c w R) : Calls Try.prog 66 #[Value.slice b_p b_n b_c, Value.slice l_p l_n l_c] w R :=
  calls_of_vc (args := [Value.slice b_p b_n b_c, Value.slice l_p l_n l_c]) [] [(5, [0, 2, 4, 6, 8, 10, 12, 14, 16, 18, 20, 22, 24, 26, 28]), (6, [0, 2, 4, 6, 8, 12, 14, 16, 18, 11, 20, 22])] Try.mixed Try.func66 (cast (rruns_eq _ _ _ _ _ _ w R) h)

set_option maxRecDepth 100000 in
def rsteps_T (b_p : Option Addr) (b_n : Nat) (b_c : Nat) (l_p : Option Addr) (l_n : Nat) (l_c : Nat) (w : World) (R : Ending → World → Prop) : Prop :=
  ((↑l_n : Int) = 0 → R (Ending.returned (Value.slice b_p b_n b_c)) w) ∧
 ((↑l_n : Int) ≠ 0 →
 ∃ (I3 : Option Addr → Nat → Nat → Int → World → Prop),
 ∃ (M4 : Option Addr → Nat → Nat → Int → World → Nat),
 I3 none 0 0 1 w ∧
 ∀ (p5 : Option Addr) (n6 c7 : Nat) (n8 : Int) (w'9 : World),
 I3 p5 n6 c7 n8 w'9 →
 (n8 < (↑l_n : Int) →
 ∀ (w'12 : World),
 Drew w'9 w'12 →
 ∃ (b14 : Nat),
 ∃ (o15 : Nat),
 l_p = some (Addr.mk b14 o15 none) ∧
 0 ≤ n8 ∧
 n8 < (↑l_n : Int) ∧
 ∃ (n16 : Int),
 w'12.cell? (Addr.mk b14 (o15 + n8.toNat) none) = some (Value.int IntKind.i64 n16) ∧
 ∃ (b17 : Nat),
 ∃ (o18 : Nat),
 l_p = some (Addr.mk b17 o18 none) ∧
 0 ≤ IntKind.i64.wrap (n8 - 1) ∧
 IntKind.i64.wrap (n8 - 1) < (↑l_n : Int) ∧
 ∃ (n19 : Int),
 w'12.cell? (Addr.mk b17 (o18 + (IntKind.i64.wrap (n8 - 1)).toNat) none) = some (Value.int IntKind.i64 n19) ∧
 Calls Try.prog 61 #[Value.int IntKind.i64 (IntKind.i64.wrap (n16 - n19))] w'12 fun (e20 : Ending) (w21 : World) ↦
 ∃ (n22 : Int),
 e20 = Ending.returned (Value.int IntKind.u64 n22) ∧
 ∀ (b23 : Nat) (w'24 : World),
 New w21 (Obj.cells #[Value.int IntKind.u64 n22] 48) b23 w'24 →
 ∃ (p26 : Option Addr),
 ∃ (n27 : Nat),
 ∃ (c28 : Nat),
 ∃ (w'29 : World),
 Sem.run Try.prog (Builtin.append_ #[22, 22] 22 #[Value.slice p5 n6 c7, Value.slice (some (Addr.mk b23 0 none)) 1 1]) w'24 = Result.ok (Value.slice p26 n27 c28) w'29 ∧
 I3 p26 n27 c28 (IntKind.i64.wrap (n8 + 1)) w'29 ∧ M4 p26 n27 c28 (IntKind.i64.wrap (n8 + 1)) w'29 < M4 p5 n6 c7 n8 w'9) ∧
 ((↑l_n : Int) ≤ n8 →
 ∃ (b31 : Nat),
 ∃ (o32 : Nat),
 l_p = some (Addr.mk b31 o32 none) ∧
 (0 : Int) ≤ 0 ∧
 0 < (↑l_n : Int) ∧
 ∃ (n33 : Int),
 w'9.cell? (Addr.mk b31 (o32 + 0) none) = some (Value.int IntKind.i64 n33) ∧
 Calls Try.prog 43 #[Value.slice b_p b_n b_c, Value.int IntKind.i64 n33] w'9 fun (e34 : Ending) (w35 : World) ↦
 ∃ (p36 : Option Addr),
 ∃ (n37 : Nat),
 ∃ (c38 : Nat),
 e34 = Ending.returned (Value.slice p36 n37 c38) ∧
 Calls Try.prog 78 #[Value.slice p36 n37 c38, Value.slice p5 n6 c7] w35 fun (e39 : Ending) (w40 : World) ↦
 ∃ (p41 : Option Addr), ∃ (n42 : Nat), ∃ (c43 : Nat), e39 = Ending.returned (Value.slice p41 n42 c43) ∧ R (Ending.returned (Value.slice p41 n42 c43)) w40))

set_option maxRecDepth 100000 in
theorem rsteps_eq (b_p : Option Addr) (b_n : Nat) (b_c : Nat) (l_p : Option Addr) (l_n : Nat) (l_c : Nat) (w : World) (R : Ending → World → Prop) : rsteps_T b_p b_n b_c l_p l_n l_c w R = vcFn Try.prog [] [(7, [0, 2, 4, 6, 8, 10, 12, 14, 16, 18, 20, 22, 24, 26, 28])] Try.f67 [Value.slice b_p b_n b_c, Value.slice l_p l_n l_c] w R := by kernel_rfl

set_option maxRecDepth 100000 in
theorem rsteps_vc (b_p : Option Addr) (b_n : Nat) (b_c : Nat) (l_p : Option Addr) (l_n : Nat) (l_c : Nat) (w : World) (R : Ending → World → Prop) (h : rsteps_T b_p b_n b_c l_p l_n l_c w R) : Calls Try.prog 67 #[Value.slice b_p b_n b_c, Value.slice l_p l_n l_c] w R :=
  calls_of_vc (args := [Value.slice b_p b_n b_c, Value.slice l_p l_n l_c]) [] [(7, [0, 2, 4, 6, 8, 10, 12, 14, 16, 18, 20, 22, 24, 26, 28])] Try.mixed Try.func67 (cast (rsteps_eq _ _ _ _ _ _ w R) h)

set_option maxRecDepth 100000 in
def rframe_T (b_p : Option Addr) (b_n : Nat) (b_c : Nat) (l_p : Option Addr) (l_n : Nat) (l_c : Nat) (w : World) (R : Ending → World → Prop) : Prop :=
  ((↑l_n : Int) = 0 → R (Ending.returned (Value.slice b_p b_n b_c)) w) ∧
 ((↑l_n : Int) ≠ 0 →
 ∃ (b3 : Nat),
 ∃ (o4 : Nat),
 l_p = some (Addr.mk b3 o4 none) ∧
 (0 : Int) ≤ 0 ∧
 0 < (↑l_n : Int) ∧
 ∃ (n5 : Int),
 w.cell? (Addr.mk b3 (o4 + 0) none) = some (Value.int IntKind.i64 n5) ∧
 ∃ (I6 : Int → Int → World → Prop),
 ∃ (M7 : Int → Int → World → Nat),
 I6 n5 0 w ∧
 ∀ (n8 n9 : Int) (w'10 : World),
 I6 n8 n9 w'10 →
 (n9 < (↑l_n : Int) →
 ∃ (b13 : Nat),
 ∃ (o14 : Nat),
 l_p = some (Addr.mk b13 o14 none) ∧
 0 ≤ n9 ∧
 n9 < (↑l_n : Int) ∧
 ∃ (n15 : Int),
 w'10.cell? (Addr.mk b13 (o14 + n9.toNat) none) = some (Value.int IntKind.i64 n15) ∧
 I6 (mmI false n8 n15) (IntKind.i64.wrap (n9 + 1)) w'10 ∧ M7 (mmI false n8 n15) (IntKind.i64.wrap (n9 + 1)) w'10 < M7 n8 n9 w'10) ∧
 ((↑l_n : Int) ≤ n9 →
 ∃ (I17 : Option Addr → Nat → Nat → Int → World → Prop),
 ∃ (M18 : Option Addr → Nat → Nat → Int → World → Nat),
 I17 none 0 0 0 w'10 ∧
 ∀ (p19 : Option Addr) (n20 c21 : Nat) (n22 : Int) (w'23 : World),
 I17 p19 n20 c21 n22 w'23 →
 (n22 < (↑l_n : Int) →
 ∃ (b26 : Nat),
 ∃ (o27 : Nat),
 l_p = some (Addr.mk b26 o27 none) ∧
 0 ≤ n22 ∧
 n22 < (↑l_n : Int) ∧
 ∃ (n28 : Int),
 w'23.cell? (Addr.mk b26 (o27 + n22.toNat) none) = some (Value.int IntKind.i64 n28) ∧
 ∀ (b29 : Nat) (w'30 : World),
 New w'23 (Obj.cells #[Value.int IntKind.u64 (IntKind.u64.wrap (IntKind.u64.wrap n28 - IntKind.u64.wrap n8))] 48) b29 w'30 →
 ∃ (p32 : Option Addr),
 ∃ (n33 : Nat),
 ∃ (c34 : Nat),
 ∃ (w'35 : World),
 Sem.run Try.prog (Builtin.append_ #[22, 22] 22 #[Value.slice p19 n20 c21, Value.slice (some (Addr.mk b29 0 none)) 1 1]) w'30 = Result.ok (Value.slice p32 n33 c34) w'35 ∧
 I17 p32 n33 c34 (IntKind.i64.wrap (n22 + 1)) w'35 ∧ M18 p32 n33 c34 (IntKind.i64.wrap (n22 + 1)) w'35 < M18 p19 n20 c21 n22 w'23) ∧
 ((↑l_n : Int) ≤ n22 →
 Calls Try.prog 43 #[Value.slice b_p b_n b_c, Value.int IntKind.i64 n8] w'23 fun (e37 : Ending) (w38 : World) ↦
 ∃ (p39 : Option Addr),
 ∃ (n40 : Nat),
 ∃ (c41 : Nat),
 e37 = Ending.returned (Value.slice p39 n40 c41) ∧
 Calls Try.prog 78 #[Value.slice p39 n40 c41, Value.slice p19 n20 c21] w38 fun (e42 : Ending) (w43 : World) ↦
 ∃ (p44 : Option Addr), ∃ (n45 : Nat), ∃ (c46 : Nat), e42 = Ending.returned (Value.slice p44 n45 c46) ∧ R (Ending.returned (Value.slice p44 n45 c46)) w43)))

set_option maxRecDepth 100000 in
theorem rframe_eq (b_p : Option Addr) (b_n : Nat) (b_c : Nat) (l_p : Option Addr) (l_n : Nat) (l_c : Nat) (w : World) (R : Ending → World → Prop) : rframe_T b_p b_n b_c l_p l_n l_c w R = vcFn Try.prog [] [] Try.f68 [Value.slice b_p b_n b_c, Value.slice l_p l_n l_c] w R := by kernel_rfl

set_option maxRecDepth 100000 in
theorem rframe_vc (b_p : Option Addr) (b_n : Nat) (b_c : Nat) (l_p : Option Addr) (l_n : Nat) (l_c : Nat) (w : World) (R : Ending → World → Prop) (h : rframe_T b_p b_n b_c l_p l_n l_c w R) : Calls Try.prog 68 #[Value.slice b_p b_n b_c, Value.slice l_p l_n l_c] w R :=
  calls_of_vc (args := [Value.slice b_p b_n b_c, Value.slice l_p l_n l_c]) [] [] Try.mixed Try.func68 (cast (rframe_eq _ _ _ _ _ _ w R) h)

set_option maxRecDepth 100000 in
def plainly_T (b_p : Option Addr) (b_n : Nat) (b_c : Nat) (n : Int) (w : World) (R : Ending → World → Prop) : Prop :=
  ∃ (I1 : Option Addr → Nat → Nat → Int → World → Prop),
 ∃ (M2 : Option Addr → Nat → Nat → Int → World → Nat),
 I1 none 0 0 1 w ∧
 ∀ (p3 : Option Addr) (n4 c5 : Nat) (n6 : Int) (w'7 : World),
 I1 p3 n4 c5 n6 w'7 →
 ((↑n4 : Int) < n →
 ∃ (b10 : Nat),
 ∃ (o11 : Nat),
 b_p = some (Addr.mk b10 o11 none) ∧
 (0 : Int) ≤ 0 ∧
 0 < (↑b_n : Int) ∧
 ∃ (n12 : Int),
 w'7.cell? (Addr.mk b10 (o11 + 0) none) = some (Value.int IntKind.u8 n12) ∧
 (n12 = 1 →
 Calls Try.prog 39 #[Value.slice b_p b_n b_c, Value.int IntKind.i64 n6] w'7 fun (e14 : Ending) (w15 : World) ↦
 ∃ (n16 : Int),
 ∃ (n17 : Int),
 ∃ (n18 : Int),
 e14 = Ending.returned (Value.tuple #[Value.int IntKind.u64 n16, Value.int IntKind.i64 n17, Value.int IntKind.i64 n18]) ∧
 Calls Try.prog 41 #[Value.slice b_p b_n b_c, Value.int IntKind.i64 n17] w15 fun (e19 : Ending) (w20 : World) ↦
 ∃ (n21 : Int),
 ∃ (n22 : Int),
 ∃ (n23 : Int),
 e19 = Ending.returned (Value.tuple #[Value.int IntKind.i64 n21, Value.int IntKind.i64 n22, Value.int IntKind.i64 n23]) ∧
 ((n18 ≠ 0 ∨ n23 ≠ 0) ∨ IntKind.u64.wrap n < n16 → R (Ending.returned (Value.slice p3 n4 c5)) w20) ∧
 ((n18 = 0 ∧ n23 = 0) ∧ n16 ≤ IntKind.u64.wrap n →
 ∃ (I26 : Option Addr → Nat → Nat → Int → World → Prop),
 ∃ (M27 : Option Addr → Nat → Nat → Int → World → Nat),
 I26 p3 n4 c5 0 w20 ∧
 ∀ (p28 : Option Addr) (n29 c30 : Nat) (n31 : Int) (w'32 : World),
 I26 p28 n29 c30 n31 w'32 →
 (n31 < IntKind.i64.wrap n16 →
 ∀ (b35 : Nat) (w'36 : World),
 New w'32 (Obj.cells #[Value.int IntKind.i64 n21] 2) b35 w'36 →
 ∃ (p38 : Option Addr),
 ∃ (n39 : Nat),
 ∃ (c40 : Nat),
 ∃ (w'41 : World),
 Sem.run Try.prog (Builtin.append_ #[63, 63] 63 #[Value.slice p28 n29 c30, Value.slice (some (Addr.mk b35 0 none)) 1 1]) w'36 = Result.ok (Value.slice p38 n39 c40) w'41 ∧
 I26 p38 n39 c40 (IntKind.i64.wrap (n31 + 1)) w'41 ∧ M27 p38 n39 c40 (IntKind.i64.wrap (n31 + 1)) w'41 < M27 p28 n29 c30 n31 w'32) ∧
 (IntKind.i64.wrap n16 ≤ n31 →
 (n16 = 0 → R (Ending.returned (Value.slice p28 n29 c30)) w'32) ∧ (n16 ≠ 0 → I1 p28 n29 c30 n22 w'32 ∧ M2 p28 n29 c30 n22 w'32 < M2 p3 n4 c5 n6 w'7)))) ∧
 (n12 ≠ 1 →
 Calls Try.prog 41 #[Value.slice b_p b_n b_c, Value.int IntKind.i64 n6] w'7 fun (e46 : Ending) (w47 : World) ↦
 ∃ (n48 : Int),
 ∃ (n49 : Int),
 ∃ (n50 : Int),
 e46 = Ending.returned (Value.tuple #[Value.int IntKind.i64 n48, Value.int IntKind.i64 n49, Value.int IntKind.i64 n50]) ∧
 (((0 : Int) ≠ 0 ∨ n50 ≠ 0) ∨ IntKind.u64.wrap n < 1 → R (Ending.returned (Value.slice p3 n4 c5)) w47) ∧
 (((0 : Int) = 0 ∧ n50 = 0) ∧ 1 ≤ IntKind.u64.wrap n →
 ∃ (I53 : Option Addr → Nat → Nat → Int → World → Prop),
 ∃ (M54 : Option Addr → Nat → Nat → Int → World → Nat),
 I53 p3 n4 c5 0 w47 ∧
 ∀ (p55 : Option Addr) (n56 c57 : Nat) (n58 : Int) (w'59 : World),
 I53 p55 n56 c57 n58 w'59 →
 (n58 < 1 →
 ∀ (b62 : Nat) (w'63 : World),
 New w'59 (Obj.cells #[Value.int IntKind.i64 n48] 2) b62 w'63 →
 ∃ (p65 : Option Addr),
 ∃ (n66 : Nat),
 ∃ (c67 : Nat),
 ∃ (w'68 : World),
 Sem.run Try.prog (Builtin.append_ #[63, 63] 63 #[Value.slice p55 n56 c57, Value.slice (some (Addr.mk b62 0 none)) 1 1]) w'63 = Result.ok (Value.slice p65 n66 c67) w'68 ∧
 I53 p65 n66 c67 (IntKind.i64.wrap (n58 + 1)) w'68 ∧ M54 p65 n66 c67 (IntKind.i64.wrap (n58 + 1)) w'68 < M54 p55 n56 c57 n58 w'59) ∧
 (1 ≤ n58 → ((1 : Int) = 0 → R (Ending.returned (Value.slice p55 n56 c57)) w'59) ∧ ((1 : Int) ≠ 0 → I1 p55 n56 c57 n49 w'59 ∧ M2 p55 n56 c57 n49 w'59 < M2 p3 n4 c5 n6 w'7))))) ∧
 (n ≤ (↑n4 : Int) → R (Ending.returned (Value.slice p3 n4 c5)) w'7)

set_option maxRecDepth 100000 in
theorem plainly_eq (b_p : Option Addr) (b_n : Nat) (b_c : Nat) (n : Int) (w : World) (R : Ending → World → Prop) : plainly_T b_p b_n b_c n w R = vcFn Try.prog [] [] Try.f73 [Value.slice b_p b_n b_c, Value.int IntKind.i64 n] w R := by kernel_rfl

set_option maxRecDepth 100000 in
theorem plainly_vc (b_p : Option Addr) (b_n : Nat) (b_c : Nat) (n : Int) (w : World) (R : Ending → World → Prop) (h : plainly_T b_p b_n b_c n w R) : Calls Try.prog 73 #[Value.slice b_p b_n b_c, Value.int IntKind.i64 n] w R :=
  calls_of_vc (args := [Value.slice b_p b_n b_c, Value.int IntKind.i64 n]) [] [] Try.mixed Try.func73 (cast (plainly_eq _ _ _ _ w R) h)

set_option maxRecDepth 100000 in
def widely_T (b_p : Option Addr) (b_n : Nat) (b_c : Nat) (n : Int) (w : World) (R : Ending → World → Prop) : Prop :=
  Calls Try.prog 41 #[Value.slice b_p b_n b_c, Value.int IntKind.i64 1] w fun (e1 : Ending) (w2 : World) ↦
 ∃ (n3 : Int),
 ∃ (n4 : Int),
 ∃ (n5 : Int),
 e1 = Ending.returned (Value.tuple #[Value.int IntKind.i64 n3, Value.int IntKind.i64 n4, Value.int IntKind.i64 n5]) ∧
 ((n = 0 ∨ n5 ≠ 0) ∨ (↑b_n : Int) ≤ n4 → R (Ending.returned (Value.slice none 0 0)) w2) ∧
 ((n ≠ 0 ∧ n5 = 0) ∧ n4 < (↑b_n : Int) →
 ∃ (b8 : Nat),
 ∃ (o9 : Nat),
 b_p = some (Addr.mk b8 o9 none) ∧
 (0 : Int) ≤ 0 ∧
 0 < (↑b_n : Int) ∧
 ∃ (n10 : Int),
 w2.cell? (Addr.mk b8 (o9 + 0) none) = some (Value.int IntKind.u8 n10) ∧
 (n10 = 3 →
 ∀ (w'12 : World),
 Drew w2 w'12 →
 0 ≤ IntKind.i64.wrap (n4 + 1) ∧
 IntKind.i64.wrap (n4 + 1) ≤ (↑b_n : Int) ∧
 ∃ (b14 : Nat),
 ∃ (o15 : Nat),
 b_p = some (Addr.mk b14 o15 none) ∧
 0 ≤ n4 ∧
 n4 < (↑b_n : Int) ∧
 ∃ (n16 : Int),
 w'12.cell? (Addr.mk b14 (o15 + n4.toNat) none) = some (Value.int IntKind.u8 n16) ∧
 Calls Try.prog 30
 #[Value.slice (slBase b_p (IntKind.i64.wrap (n4 + 1)).toNat b_c 1) (b_n - (IntKind.i64.wrap (n4 + 1)).toNat) (b_c - (IntKind.i64.wrap (n4 + 1)).toNat),
 Value.int IntKind.i64 n, Value.int IntKind.i64 (IntKind.i64.wrap n16)]
 w'12 fun (e17 : Ending) (w18 : World) ↦
 ∃ (p19 : Option Addr),
 ∃ (n20 : Nat),
 ∃ (c21 : Nat),
 ∃ (n22 : Int),
 e17 = Ending.returned (Value.tuple #[Value.slice p19 n20 c21, Value.int IntKind.i64 n22]) ∧
 (n22 ≠ 0 → R (Ending.returned (Value.slice none 0 0)) w18) ∧
 (n22 = 0 →
 ∃ (I25 : Option Addr → Nat → Nat → Int → World → Prop),
 ∃ (M26 : Option Addr → Nat → Nat → Int → World → Nat),
 I25 none 0 0 0 w18 ∧
 ∀ (p27 : Option Addr) (n28 c29 : Nat) (n30 : Int) (w'31 : World),
 I25 p27 n28 c29 n30 w'31 →
 (n30 < n →
 ∃ (b34 : Nat),
 ∃ (o35 : Nat),
 p19 = some (Addr.mk b34 o35 none) ∧
 0 ≤ n30 ∧
 n30 < (↑n20 : Int) ∧
 ∃ (n36 : Int),
 w'31.cell? (Addr.mk b34 (o35 + n30.toNat) none) = some (Value.int IntKind.u64 n36) ∧
 ∀ (b37 : Nat) (w'38 : World),
 New w'31 (Obj.cells #[Value.int IntKind.i64 (IntKind.i64.wrap (IntKind.u64.wrap (IntKind.u64.wrap n3 + n36)))] 2) b37 w'38 →
 ∃ (p40 : Option Addr),
 ∃ (n41 : Nat),
 ∃ (c42 : Nat),
 ∃ (w'43 : World),
 Sem.run Try.prog (Builtin.append_ #[63, 63] 63 #[Value.slice p27 n28 c29, Value.slice (some (Addr.mk b37 0 none)) 1 1]) w'38 = Result.ok (Value.slice p40 n41 c42) w'43 ∧
 I25 p40 n41 c42 (IntKind.i64.wrap (n30 + 1)) w'43 ∧ M26 p40 n41 c42 (IntKind.i64.wrap (n30 + 1)) w'43 < M26 p27 n28 c29 n30 w'31) ∧
 (n ≤ n30 → R (Ending.returned (Value.slice p27 n28 c29)) w'31))) ∧
 (n10 ≠ 3 →
 ∀ (w'46 : World),
 Drew w2 w'46 →
 0 ≤ IntKind.i64.wrap (n4 + 1) ∧
 IntKind.i64.wrap (n4 + 1) ≤ (↑b_n : Int) ∧
 ∃ (b48 : Nat),
 ∃ (o49 : Nat),
 b_p = some (Addr.mk b48 o49 none) ∧
 0 ≤ n4 ∧
 n4 < (↑b_n : Int) ∧
 ∃ (n50 : Int),
 w'46.cell? (Addr.mk b48 (o49 + n4.toNat) none) = some (Value.int IntKind.u8 n50) ∧
 Calls Try.prog 30
 #[Value.slice (slBase b_p (IntKind.i64.wrap (n4 + 1)).toNat b_c 1) (b_n - (IntKind.i64.wrap (n4 + 1)).toNat) (b_c - (IntKind.i64.wrap (n4 + 1)).toNat),
 Value.int IntKind.i64 (IntKind.i64.wrap (n - 1)), Value.int IntKind.i64 (IntKind.i64.wrap n50)]
 w'46 fun (e51 : Ending) (w52 : World) ↦
 ∃ (p53 : Option Addr),
 ∃ (n54 : Nat),
 ∃ (c55 : Nat),
 ∃ (n56 : Int),
 e51 = Ending.returned (Value.tuple #[Value.slice p53 n54 c55, Value.int IntKind.i64 n56]) ∧
 (n56 ≠ 0 → R (Ending.returned (Value.slice none 0 0)) w52) ∧
 (n56 = 0 →
 ∀ (b59 : Nat) (w'60 : World),
 New w52 (Obj.cells #[Value.int IntKind.i64 n3] 2) b59 w'60 →
 ∃ (I62 : Int → Option Addr → Nat → Nat → Int → World → Prop),
 ∃ (M63 : Int → Option Addr → Nat → Nat → Int → World → Nat),
 I62 n3 (some (Addr.mk b59 0 none)) 1 1 0 w'60 ∧
 ∀ (n64 : Int) (p65 : Option Addr) (n66 c67 : Nat) (n68 : Int) (w'69 : World),
 I62 n64 p65 n66 c67 n68 w'69 →
 (n68 < IntKind.i64.wrap (n - 1) →
 ∃ (b72 : Nat),
 ∃ (o73 : Nat),
 p53 = some (Addr.mk b72 o73 none) ∧
 0 ≤ n68 ∧
 n68 < (↑n54 : Int) ∧
 ∃ (n74 : Int),
 w'69.cell? (Addr.mk b72 (o73 + n68.toNat) none) = some (Value.int IntKind.u64 n74) ∧
 ∃ (b75 : Nat),
 ∃ (o76 : Nat),
 p53 = some (Addr.mk b75 o76 none) ∧
 0 ≤ n68 ∧
 n68 < (↑n54 : Int) ∧
 ∃ (n77 : Int),
 w'69.cell? (Addr.mk b75 (o76 + n68.toNat) none) = some (Value.int IntKind.u64 n77) ∧
 (remI n77 (2 : Int) = 1 →
 ∀ (b79 : Nat) (w'80 : World),
 New w'69 (Obj.cells #[Value.int IntKind.i64 (IntKind.i64.wrap (n64 + IntKind.i64.wrap (IntKind.i64.wrap (0 - IntKind.i64.wrap (quoI IntKind.u64 n74 2)) - 1)))] 2) b79
 w'80 →
 ∃ (p82 : Option Addr),
 ∃ (n83 : Nat),
 ∃ (c84 : Nat),
 ∃ (w'85 : World),
 Sem.run Try.prog (Builtin.append_ #[63, 63] 63 #[Value.slice p65 n66 c67, Value.slice (some (Addr.mk b79 0 none)) 1 1]) w'80 = Result.ok (Value.slice p82 n83 c84) w'85 ∧
 I62 (IntKind.i64.wrap (n64 + IntKind.i64.wrap (IntKind.i64.wrap (0 - IntKind.i64.wrap (quoI IntKind.u64 n74 2)) - 1))) p82 n83 c84 (IntKind.i64.wrap (n68 + 1)) w'85 ∧
 M63 (IntKind.i64.wrap (n64 + IntKind.i64.wrap (IntKind.i64.wrap (0 - IntKind.i64.wrap (quoI IntKind.u64 n74 2)) - 1))) p82 n83 c84 (IntKind.i64.wrap (n68 + 1)) w'85 <
 M63 n64 p65 n66 c67 n68 w'69) ∧
 (remI n77 (2 : Int) ≠ 1 →
 ∀ (b87 : Nat) (w'88 : World),
 New w'69 (Obj.cells #[Value.int IntKind.i64 (IntKind.i64.wrap (n64 + IntKind.i64.wrap (quoI IntKind.u64 n74 2)))] 2) b87 w'88 →
 ∃ (p90 : Option Addr),
 ∃ (n91 : Nat),
 ∃ (c92 : Nat),
 ∃ (w'93 : World),
 Sem.run Try.prog (Builtin.append_ #[63, 63] 63 #[Value.slice p65 n66 c67, Value.slice (some (Addr.mk b87 0 none)) 1 1]) w'88 = Result.ok (Value.slice p90 n91 c92) w'93 ∧
 I62 (IntKind.i64.wrap (n64 + IntKind.i64.wrap (quoI IntKind.u64 n74 2))) p90 n91 c92 (IntKind.i64.wrap (n68 + 1)) w'93 ∧
 M63 (IntKind.i64.wrap (n64 + IntKind.i64.wrap (quoI IntKind.u64 n74 2))) p90 n91 c92 (IntKind.i64.wrap (n68 + 1)) w'93 < M63 n64 p65 n66 c67 n68 w'69)) ∧
 (IntKind.i64.wrap (n - 1) ≤ n68 → R (Ending.returned (Value.slice p65 n66 c67)) w'69))))

set_option maxRecDepth 100000 in
theorem widely_eq (b_p : Option Addr) (b_n : Nat) (b_c : Nat) (n : Int) (w : World) (R : Ending → World → Prop) : widely_T b_p b_n b_c n w R = vcFn Try.prog [] [(5, [0, 2, 4, 6, 8, 10, 12, 14, 16, 18, 20, 22, 24, 26, 28, 30]), (14, [0, 2, 4, 6, 8, 10, 12, 14, 16, 18, 20, 22, 24, 26, 28, 30, 32])] Try.f74 [Value.slice b_p b_n b_c, Value.int IntKind.i64 n] w R := by kernel_rfl

set_option maxRecDepth 100000 in
theorem widely_vc (b_p : Option Addr) (b_n : Nat) (b_c : Nat) (n : Int) (w : World) (R : Ending → World → Prop) (h : widely_T b_p b_n b_c n w R) : Calls Try.prog 74 #[Value.slice b_p b_n b_c, Value.int IntKind.i64 n] w R :=
  calls_of_vc (args := [Value.slice b_p b_n b_c, Value.int IntKind.i64 n]) [] [(5, [0, 2, 4, 6, 8, 10, 12, 14, 16, 18, 20, 22, 24, 26, 28, 30]), (14, [0, 2, 4, 6, 8, 10, 12, 14, 16, 18, 20, 22, 24, 26, 28, 30, 32])] Try.mixed Try.func74 (cast (widely_eq _ _ _ _ w R) h)

set_option maxRecDepth 100000 in
def rpacked_T (b_p : Option Addr) (b_n : Nat) (b_c : Nat) (l_p : Option Addr) (l_n : Nat) (l_c : Nat) (w : World) (R : Ending → World → Prop) : Prop :=
  Calls Try.prog 26 #[Value.slice l_p l_n l_c] w fun (e1 : Ending) (w2 : World) ↦
 ∃ (n3 : Int),
 e1 = Ending.returned (Value.int IntKind.i64 n3) ∧
 Calls Try.prog 28 #[Value.int IntKind.i64 n3, Value.slice l_p l_n l_c] w2 fun (e4 : Ending) (w5 : World) ↦
 ∃ (p6 : Option Addr),
 ∃ (n7 : Nat),
 ∃ (c8 : Nat),
 ∃ (n9 : Int),
 e4 = Ending.returned (Value.tuple #[Value.slice p6 n7 c8, Value.int IntKind.i64 n9]) ∧
 ∀ (b10 : Nat) (w'11 : World),
 New w5 (Obj.cells #[Value.int IntKind.u8 (IntKind.u8.wrap n3)] 5) b10 w'11 →
 ∃ (p13 : Option Addr),
 ∃ (n14 : Nat),
 ∃ (c15 : Nat),
 ∃ (w'16 : World),
 Sem.run Try.prog (Builtin.append_ #[30, 30] 30 #[Value.slice b_p b_n b_c, Value.slice (some (Addr.mk b10 0 none)) 1 1]) w'11 = Result.ok (Value.slice p13 n14 c15) w'16 ∧
 ∃ (p17 : Option Addr),
 ∃ (n18 : Nat),
 ∃ (c19 : Nat),
 ∃ (w'20 : World),
 Sem.run Try.prog (Builtin.append_ #[30, 30] 30 #[Value.slice p13 n14 c15, Value.slice p6 n7 c8]) w'16 = Result.ok (Value.slice p17 n18 c19) w'20 ∧
 R (Ending.returned (Value.slice p17 n18 c19)) w'20

set_option maxRecDepth 100000 in
theorem rpacked_eq (b_p : Option Addr) (b_n : Nat) (b_c : Nat) (l_p : Option Addr) (l_n : Nat) (l_c : Nat) (w : World) (R : Ending → World → Prop) : rpacked_T b_p b_n b_c l_p l_n l_c w R = vcFn Try.prog [] [] Try.f78 [Value.slice b_p b_n b_c, Value.slice l_p l_n l_c] w R := by kernel_rfl

set_option maxRecDepth 100000 in
theorem rpacked_vc (b_p : Option Addr) (b_n : Nat) (b_c : Nat) (l_p : Option Addr) (l_n : Nat) (l_c : Nat) (w : World) (R : Ending → World → Prop) (h : rpacked_T b_p b_n b_c l_p l_n l_c w R) : Calls Try.prog 78 #[Value.slice b_p b_n b_c, Value.slice l_p l_n l_c] w R :=
  calls_of_vc (args := [Value.slice b_p b_n b_c, Value.slice l_p l_n l_c]) [] [] Try.mixed Try.func78 (cast (rpacked_eq _ _ _ _ _ _ w R) h)


end Go.Proofs.Ytdclhgcgpcddlaa
