/- The verification conditions of the functions, evaluated: printed by program. -/
import Derived.Test.YtdclhgcgpcddlaaL02v
namespace Go.Proofs.Ytdclhgcgpcddlaa
open Go Go.Vc

set_option maxRecDepth 100000 in
def lawSums_T (parts_p : Option Addr) (parts_n : Nat) (parts_c : Nat) (w : World) (R : Ending → World → Prop) : Prop :=
  Calls Try.prog 32 #[] w fun (e1 : Ending) (w2 : World) ↦
 ∃ (b3 : Bool),
 e1 = Ending.returned (Value.bool b3) ∧
 ∃ (I4 : Option Addr → Nat → Nat → Int → World → Prop),
 ∃ (M5 : Option Addr → Nat → Nat → Int → World → Nat),
 I4 none 0 0 0 w2 ∧
 ∀ (p6 : Option Addr) (n7 c8 : Nat) (n9 : Int) (w'10 : World),
 I4 p6 n7 c8 n9 w'10 →
 (n9 < (↑parts_n : Int) →
 ∃ (b13 : Nat),
 ∃ (o14 : Nat),
 parts_p = some (Addr.mk b13 o14 none) ∧
 0 ≤ n9 ∧
 n9 < (↑parts_n : Int) ∧
 ∃ (p15 : Option Addr),
 ∃ (n16 : Nat),
 ∃ (c17 : Nat),
 w'10.cell? (Addr.mk b13 (o14 + n9.toNat) none) = some (Value.slice p15 n16 c17) ∧
 ∃ (p18 : Option Addr),
 ∃ (n19 : Nat),
 ∃ (c20 : Nat),
 ∃ (w'21 : World),
 Sem.run Try.prog (Builtin.append_ #[30, 30] 30 #[Value.slice p6 n7 c8, Value.slice p15 n16 c17]) w'10 = Result.ok (Value.slice p18 n19 c20) w'21 ∧
 (100000 < (↑n19 : Int) → R (Ending.returned (Value.bool b3)) w'21) ∧
 ((↑n19 : Int) ≤ 100000 → I4 p18 n19 c20 (IntKind.i64.wrap (n9 + 1)) w'21 ∧ M5 p18 n19 c20 (IntKind.i64.wrap (n9 + 1)) w'21 < M5 p6 n7 c8 n9 w'10)) ∧
 ((↑parts_n : Int) ≤ n9 →
 (b3 = true →
 Calls Try.prog 33 #[Value.slice parts_p parts_n parts_c] w'10 fun (e26 : Ending) (w27 : World) ↦
 ∃ (n28 : Int),
 e26 = Ending.returned (Value.int IntKind.u32 n28) ∧
 Calls Try.prog 34 #[Value.slice p6 n7 c8] w27 fun (e29 : Ending) (w30 : World) ↦
 ∃ (n31 : Int), e29 = Ending.returned (Value.int IntKind.u32 n31) ∧ R (Ending.returned (Value.bool (decide (n28 = n31)))) w30) ∧
 (b3 = false → R (Ending.returned (Value.bool false)) w'10))

set_option maxRecDepth 100000 in
theorem lawSums_eq (parts_p : Option Addr) (parts_n : Nat) (parts_c : Nat) (w : World) (R : Ending → World → Prop) : lawSums_T parts_p parts_n parts_c w R = vcFn Try.prog [] [] Try.f9 [Value.slice parts_p parts_n parts_c] w R := by kernel_rfl

set_option maxRecDepth 100000 in
theorem lawSums_vc (parts_p : Option Addr) (parts_n : Nat) (parts_c : Nat) (w : World) (R : Ending → World → Prop) (h : lawSums_T parts_p parts_n parts_c w R) : Calls Try.prog 9 #[Value.slice parts_p parts_n parts_c] w R :=
  calls_of_vc (args := [Value.slice parts_p parts_n parts_c]) [] [] Try.mixed Try.func9 (cast (lawSums_eq _ _ _ w R) h)

set_option maxRecDepth 100000 in
def lawKeeps_T (b_p : Option Addr) (b_n : Nat) (b_c : Nat) (n : Int) (w : World) (R : Ending → World → Prop) : Prop :=
  Calls Try.prog 32 #[] w fun (e1 : Ending) (w2 : World) ↦
 ∃ (b3 : Bool),
 e1 = Ending.returned (Value.bool b3) ∧
 (0 : Int) ≤ 0 ∧
 0 ≤ IntKind.i64.wrap ((↑b_n : Int) + 20) ∧
 1 * IntKind.i64.wrap ((↑b_n : Int) + 20) ≤ 281474976710656 ∧
 IntKind.i64.wrap ((↑b_n : Int) + 20) ≤ 9223372036854775807 ∧
 ∀ (b4 : Nat) (w'5 : World),
 New w2 (Obj.cells (madeCells #[Value.int IntKind.u8 0] (IntKind.i64.wrap ((↑b_n : Int) + 20)).toNat) 5) b4 w'5 →
 ∃ (p7 : Option Addr),
 ∃ (n8 : Nat),
 ∃ (c9 : Nat),
 ∃ (w'10 : World),
 Sem.run Try.prog (Builtin.append_ #[30, 30] 30 #[Value.slice (some (Addr.mk b4 0 none)) 0 (IntKind.i64.wrap ((↑b_n : Int) + 20)).toNat, Value.slice b_p b_n b_c]) w'5 =
 Result.ok (Value.slice p7 n8 c9) w'10 ∧
 0 ≤ (↑c9 : Int) ∧
 (↑c9 : Int) ≤ (↑c9 : Int) ∧
 ∃ (I11 : Int → World → Prop),
 ∃ (M12 : Int → World → Nat),
 I11 (↑b_n : Int) w'10 ∧
 ∀ (n13 : Int) (w'14 : World),
 I11 n13 w'14 →
 (n13 < (↑c9 : Int) →
 ∃ (b17 : Nat),
 ∃ (o18 : Nat),
 p7 = some (Addr.mk b17 o18 none) ∧
 0 ≤ n13 ∧
 n13 < (↑c9 : Int) ∧
 (∃ (u19 : Value), w'14.cell? (Addr.mk b17 (o18 + n13.toNat) none) = some u19) ∧
 w'14.frozen? (Addr.mk b17 (o18 + n13.toNat) none) = false ∧
 ∀ (w'20 : World),
 Put w'14 b17 (o18 + n13.toNat) [Value.int IntKind.u8 77] w'20 → I11 (IntKind.i64.wrap (n13 + 1)) w'20 ∧ M12 (IntKind.i64.wrap (n13 + 1)) w'20 < M12 n13 w'14) ∧
 ((↑c9 : Int) ≤ n13 →
 Calls Try.prog 35 #[Value.slice p7 n8 c9, Value.int IntKind.u64 n] w'14 fun (e23 : Ending) (w24 : World) ↦
 ∃ (p25 : Option Addr),
 ∃ (n26 : Nat),
 ∃ (c27 : Nat),
 e23 = Ending.returned (Value.slice p25 n26 c27) ∧
 Calls Try.prog 36 #[Value.slice p7 n8 c9, Value.int IntKind.i64 (-5)] w24 fun (e28 : Ending) (w29 : World) ↦
 ∃ (p30 : Option Addr),
 ∃ (n31 : Nat),
 ∃ (c32 : Nat),
 e28 = Ending.returned (Value.slice p30 n31 c32) ∧
 Calls Try.prog 37 #[Value.slice p7 n8 c9, Value.string (ByteArray.mk #[97, 98])] w29 fun (e33 : Ending) (w34 : World) ↦
 ∃ (p35 : Option Addr),
 ∃ (n36 : Nat),
 ∃ (c37 : Nat),
 ∃ (n38 : Int),
 e33 = Ending.returned (Value.tuple #[Value.slice p35 n36 c37, Value.int IntKind.i64 n38]) ∧
 ∃ (I39 : Int → World → Prop),
 ∃ (M40 : Int → World → Nat),
 I39 0 w34 ∧
 ∀ (n41 : Int) (w'42 : World),
 I39 n41 w'42 →
 (n41 < (↑n26 : Int) →
 ∃ (b45 : Nat),
 ∃ (o46 : Nat),
 p25 = some (Addr.mk b45 o46 none) ∧
 0 ≤ n41 ∧
 n41 < (↑n26 : Int) ∧
 (∃ (u47 : Value), w'42.cell? (Addr.mk b45 (o46 + n41.toNat) none) = some u47) ∧
 w'42.frozen? (Addr.mk b45 (o46 + n41.toNat) none) = false ∧
 ∀ (w'48 : World),
 Put w'42 b45 (o46 + n41.toNat) [Value.int IntKind.u8 1] w'48 → I39 (IntKind.i64.wrap (n41 + 1)) w'48 ∧ M40 (IntKind.i64.wrap (n41 + 1)) w'48 < M40 n41 w'42) ∧
 ((↑n26 : Int) ≤ n41 →
 ∃ (I51 : Int → World → Prop),
 ∃ (M52 : Int → World → Nat),
 I51 (↑b_n : Int) w'42 ∧
 ∀ (n53 : Int) (w'54 : World),
 I51 n53 w'54 →
 (n53 < (↑c9 : Int) →
 ∃ (b57 : Nat),
 ∃ (o58 : Nat),
 p7 = some (Addr.mk b57 o58 none) ∧
 0 ≤ n53 ∧
 n53 < (↑c9 : Int) ∧
 ∃ (n59 : Int),
 w'54.cell? (Addr.mk b57 (o58 + n53.toNat) none) = some (Value.int IntKind.u8 n59) ∧
 (n59 ≠ 77 → R (Ending.returned (Value.bool false)) w'54) ∧ (n59 = 77 → I51 (IntKind.i64.wrap (n53 + 1)) w'54 ∧ M52 (IntKind.i64.wrap (n53 + 1)) w'54 < M52 n53 w'54)) ∧
 ((↑c9 : Int) ≤ n53 →
 ∀ (w'63 : World),
 Drew w'54 w'63 →
 (b3 = true →
 0 ≤ (↑b_n : Int) ∧
 (↑b_n : Int) ≤ (↑c9 : Int) ∧
 ∃ (l66 : List UInt8),
 BytesAt w'63 p7 b_n l66 ∧
 ∃ (l67 : List UInt8), BytesAt w'63 b_p b_n l67 ∧ R (Ending.returned (Value.bool (sEq (ByteArray.mk (Array.mk l66)) (ByteArray.mk (Array.mk l67))))) w'63) ∧
 (b3 = false → R (Ending.returned (Value.bool false)) w'63))))

set_option maxRecDepth 100000 in
theorem lawKeeps_eq (b_p : Option Addr) (b_n : Nat) (b_c : Nat) (n : Int) (w : World) (R : Ending → World → Prop) : lawKeeps_T b_p b_n b_c n w R = vcFn Try.prog [] [(20, [0, 2, 4, 6, 8, 10, 12, 14, 16, 18, 20, 22])] Try.f11 [Value.slice b_p b_n b_c, Value.int IntKind.u64 n] w R := by kernel_rfl

set_option maxRecDepth 100000 in
theorem lawKeeps_vc (b_p : Option Addr) (b_n : Nat) (b_c : Nat) (n : Int) (w : World) (R : Ending → World → Prop) (h : lawKeeps_T b_p b_n b_c n w R) : Calls Try.prog 11 #[Value.slice b_p b_n b_c, Value.int IntKind.u64 n] w R :=
  calls_of_vc (args := [Value.slice b_p b_n b_c, Value.int IntKind.u64 n]) [] [(20, [0, 2, 4, 6, 8, 10, 12, 14, 16, 18, 20, 22])] Try.mixed Try.func11 (cast (lawKeeps_eq _ _ _ _ w R) h)

set_option maxRecDepth 100000 in
def lawNumbers_T (b_p : Option Addr) (b_n : Nat) (b_c : Nat) (n : Int) (s : Int) (at_ : Int) (w : World) (R : Ending → World → Prop) : Prop :=
  Calls Try.prog 32 #[] w fun (e1 : Ending) (w2 : World) ↦
 ∃ (b3 : Bool),
 e1 = Ending.returned (Value.bool b3) ∧
 Calls Try.prog 38 #[Value.slice b_p b_n b_c, Value.int IntKind.i64 at_] w2 fun (e4 : Ending) (w5 : World) ↦
 ∃ (n6 : Int),
 ∃ (n7 : Int),
 ∃ (n8 : Int),
 e4 = Ending.returned (Value.tuple #[Value.int IntKind.u64 n6, Value.int IntKind.i64 n7, Value.int IntKind.i64 n8]) ∧
 Calls Try.prog 39 #[Value.slice b_p b_n b_c, Value.int IntKind.i64 at_] w5 fun (e9 : Ending) (w10 : World) ↦
 ∃ (n11 : Int),
 ∃ (n12 : Int),
 ∃ (n13 : Int),
 e9 = Ending.returned (Value.tuple #[Value.int IntKind.u64 n11, Value.int IntKind.i64 n12, Value.int IntKind.i64 n13]) ∧
 Calls Try.prog 40 #[Value.slice b_p b_n b_c, Value.int IntKind.i64 at_] w10 fun (e14 : Ending) (w15 : World) ↦
 ∃ (n16 : Int),
 ∃ (n17 : Int),
 ∃ (n18 : Int),
 e14 = Ending.returned (Value.tuple #[Value.int IntKind.i64 n16, Value.int IntKind.i64 n17, Value.int IntKind.i64 n18]) ∧
 Calls Try.prog 41 #[Value.slice b_p b_n b_c, Value.int IntKind.i64 at_] w15 fun (e19 : Ending) (w20 : World) ↦
 ∃ (n21 : Int),
 ∃ (n22 : Int),
 ∃ (n23 : Int),
 e19 = Ending.returned (Value.tuple #[Value.int IntKind.i64 n21, Value.int IntKind.i64 n22, Value.int IntKind.i64 n23]) ∧
 ∀ (w'24 : World),
 Drew w20 w'24 →
 (b3 = true →
 Calls Try.prog 35 #[Value.slice b_p b_n b_c, Value.int IntKind.u64 n] w'24 fun (e27 : Ending) (w28 : World) ↦
 ∃ (p29 : Option Addr),
 ∃ (n30 : Nat),
 ∃ (c31 : Nat),
 e27 = Ending.returned (Value.slice p29 n30 c31) ∧
 ∃ (l32 : List UInt8),
 BytesAt w28 p29 n30 l32 ∧
 Calls Try.prog 42 #[Value.slice b_p b_n b_c, Value.int IntKind.u64 n] w28 fun (e33 : Ending) (w34 : World) ↦
 ∃ (p35 : Option Addr),
 ∃ (n36 : Nat),
 ∃ (c37 : Nat),
 e33 = Ending.returned (Value.slice p35 n36 c37) ∧
 Same w28 w34 ∧
 ∃ (l38 : List UInt8),
 BytesAt w34 p35 n36 l38 ∧
 (ByteArray.mk (Array.mk l32) = ByteArray.mk (Array.mk l38) →
 Calls Try.prog 36 #[Value.slice b_p b_n b_c, Value.int IntKind.i64 s] w34 fun (e40 : Ending) (w41 : World) ↦
 ∃ (p42 : Option Addr),
 ∃ (n43 : Nat),
 ∃ (c44 : Nat),
 e40 = Ending.returned (Value.slice p42 n43 c44) ∧
 ∃ (l45 : List UInt8),
 BytesAt w41 p42 n43 l45 ∧
 Calls Try.prog 43 #[Value.slice b_p b_n b_c, Value.int IntKind.i64 s] w41 fun (e46 : Ending) (w47 : World) ↦
 ∃ (p48 : Option Addr),
 ∃ (n49 : Nat),
 ∃ (c50 : Nat),
 e46 = Ending.returned (Value.slice p48 n49 c50) ∧
 Same w41 w47 ∧
 ∃ (l51 : List UInt8),
 BytesAt w47 p48 n49 l51 ∧
 R
 (Ending.returned
 (Value.bool
 (sEq (ByteArray.mk (Array.mk l45)) (ByteArray.mk (Array.mk l51)) && decide (n6 = n11) && decide (n7 = n12) && decide (n8 = n13) && decide (n16 = n21) &&
 decide (n17 = n22) &&
 decide (n18 = n23))))
 w47) ∧
 (ByteArray.mk (Array.mk l32) ≠ ByteArray.mk (Array.mk l38) → Same w34 w34 ∧ R (Ending.returned (Value.bool false)) w34)) ∧
 (b3 = false → Same w'24 w'24 ∧ Same w'24 w'24 ∧ R (Ending.returned (Value.bool false)) w'24)

set_option maxRecDepth 100000 in
theorem lawNumbers_eq (b_p : Option Addr) (b_n : Nat) (b_c : Nat) (n : Int) (s : Int) (at_ : Int) (w : World) (R : Ending → World → Prop) : lawNumbers_T b_p b_n b_c n s at_ w R = vcFn Try.prog [] [(6, [0, 2, 4, 6, 12, 14, 8, 10, 17, 18, 20, 22, 24, 26, 28, 34, 36, 30, 32, 39, 40, 42, 44, 46, 48, 50, 52, 54, 56, 58, 60, 62, 64, 66, 68, 70, 72, 74, 76, 78, 80, 82, 84, 86, 88, 90, 92, 94, 96, 98, 100, 102, 104, 106])] Try.f12 [Value.slice b_p b_n b_c, Value.int IntKind.u64 n, Value.int IntKind.i64 s, Value.int IntKind.i64 at_] w R := by kernel_rfl

set_option maxRecDepth 100000 in
theorem lawNumbers_vc (b_p : Option Addr) (b_n : Nat) (b_c : Nat) (n : Int) (s : Int) (at_ : Int) (w : World) (R : Ending → World → Prop) (h : lawNumbers_T b_p b_n b_c n s at_ w R) : Calls Try.prog 12 #[Value.slice b_p b_n b_c, Value.int IntKind.u64 n, Value.int IntKind.i64 s, Value.int IntKind.i64 at_] w R :=
  calls_of_vc (args := [Value.slice b_p b_n b_c, Value.int IntKind.u64 n, Value.int IntKind.i64 s, Value.int IntKind.i64 at_]) [] [(6, [0, 2, 4, 6, 12, 14, 8, 10, 17, 18, 20, 22, 24, 26, 28, 34, 36, 30, 32, 39, 40, 42, 44, 46, 48, 50, 52, 54, 56, 58, 60, 62, 64, 66, 68, 70, 72, 74, 76, 78, 80, 82, 84, 86, 88, 90, 92, 94, 96, 98, 100, 102, 104, 106])] Try.mixed Try.func12 (cast (lawNumbers_eq _ _ _ _ _ _ w R) h)

set_option maxRecDepth 100000 in
def lawOne_T (b_p : Option Addr) (b_n : Nat) (b_c : Nat) (at_ : Int) (w : World) (R : Ending → World → Prop) : Prop :=
  Calls Try.prog 32 #[] w fun (e1 : Ending) (w2 : World) ↦
 ∃ (b3 : Bool),
 e1 = Ending.returned (Value.bool b3) ∧
 Calls Try.prog 38 #[Value.slice b_p b_n b_c, Value.int IntKind.i64 at_] w2 fun (e4 : Ending) (w5 : World) ↦
 ∃ (n6 : Int),
 ∃ (n7 : Int),
 ∃ (n8 : Int),
 e4 = Ending.returned (Value.tuple #[Value.int IntKind.u64 n6, Value.int IntKind.i64 n7, Value.int IntKind.i64 n8]) ∧
 Calls Try.prog 40 #[Value.slice b_p b_n b_c, Value.int IntKind.i64 at_] w5 fun (e9 : Ending) (w10 : World) ↦
 ∃ (n11 : Int),
 ∃ (n12 : Int),
 ∃ (n13 : Int),
 e9 = Ending.returned (Value.tuple #[Value.int IntKind.i64 n11, Value.int IntKind.i64 n12, Value.int IntKind.i64 n13]) ∧
 (n8 ≠ 0 ∨ n13 ≠ 0 → R (Ending.returned (Value.bool (b3 && decide (n8 = n13) && decide (n7 = 0) && decide (n12 = 0)))) w10) ∧
 (n8 = 0 ∧ n13 = 0 →
 Calls Try.prog 35 #[Value.slice none 0 0, Value.int IntKind.u64 n6] w10 fun (e16 : Ending) (w17 : World) ↦
 ∃ (p18 : Option Addr),
 ∃ (n19 : Nat),
 ∃ (c20 : Nat),
 e16 = Ending.returned (Value.slice p18 n19 c20) ∧
 Calls Try.prog 36 #[Value.slice none 0 0, Value.int IntKind.i64 n11] w17 fun (e21 : Ending) (w22 : World) ↦
 ∃ (p23 : Option Addr),
 ∃ (n24 : Nat),
 ∃ (c25 : Nat),
 e21 = Ending.returned (Value.slice p23 n24 c25) ∧
 ∀ (w'26 : World),
 Drew w22 w'26 →
 (b3 = true ∧ n7 = n12 →
 ∃ (l29 : List UInt8),
 BytesAt w'26 p18 n19 l29 ∧
 0 ≤ at_ ∧
 at_ ≤ n7 ∧
 n7 ≤ (↑b_c : Int) ∧
 ∃ (l30 : List UInt8),
 BytesAt w'26 (slBase b_p at_.toNat b_c 1) (n7.toNat - at_.toNat) l30 ∧
 (ByteArray.mk (Array.mk l29) = ByteArray.mk (Array.mk l30) →
 ∃ (l32 : List UInt8),
 BytesAt w'26 p23 n24 l32 ∧
 0 ≤ at_ ∧
 at_ ≤ n7 ∧
 n7 ≤ (↑b_c : Int) ∧
 ∃ (l33 : List UInt8),
 BytesAt w'26 (slBase b_p at_.toNat b_c 1) (n7.toNat - at_.toNat) l33 ∧
 R (Ending.returned (Value.bool (sEq (ByteArray.mk (Array.mk l32)) (ByteArray.mk (Array.mk l33))))) w'26) ∧
 (ByteArray.mk (Array.mk l29) ≠ ByteArray.mk (Array.mk l30) → R (Ending.returned (Value.bool false)) w'26)) ∧
 (b3 = false ∨ n7 ≠ n12 → R (Ending.returned (Value.bool false)) w'26))

set_option maxRecDepth 100000 in
theorem lawOne_eq (b_p : Option Addr) (b_n : Nat) (b_c : Nat) (at_ : Int) (w : World) (R : Ending → World → Prop) : lawOne_T b_p b_n b_c at_ w R = vcFn Try.prog [] [(8, [0, 2, 4, 6, 8, 10, 12, 14, 16, 18, 20, 22, 24, 26, 28, 30, 32, 34, 36, 38, 40, 42, 44, 46, 48, 50, 52])] Try.f13 [Value.slice b_p b_n b_c, Value.int IntKind.i64 at_] w R := by kernel_rfl

set_option maxRecDepth 100000 in
theorem lawOne_vc (b_p : Option Addr) (b_n : Nat) (b_c : Nat) (at_ : Int) (w : World) (R : Ending → World → Prop) (h : lawOne_T b_p b_n b_c at_ w R) : Calls Try.prog 13 #[Value.slice b_p b_n b_c, Value.int IntKind.i64 at_] w R :=
  calls_of_vc (args := [Value.slice b_p b_n b_c, Value.int IntKind.i64 at_]) [] [(8, [0, 2, 4, 6, 8, 10, 12, 14, 16, 18, 20, 22, 24, 26, 28, 30, 32, 34, 36, 38, 40, 42, 44, 46, 48, 50, 52])] Try.mixed Try.func13 (cast (lawOne_eq _ _ _ _ w R) h)

set_option maxRecDepth 100000 in
def lawTexts_T (b_p : Option Addr) (b_n : Nat) (b_c : Nat) (s : ByteArray) (at_ : Int) (most : Int) (w : World) (R : Ending → World → Prop) : Prop :=
  Calls Try.prog 32 #[] w fun (e1 : Ending) (w2 : World) ↦
 ∃ (b3 : Bool),
 e1 = Ending.returned (Value.bool b3) ∧
 0 ≤ mmI false (↑s.size : Int) 2000000 ∧
 mmI false (↑s.size : Int) 2000000 ≤ (↑s.size : Int) ∧
 Calls Try.prog 37 #[Value.slice b_p b_n b_c, Value.string (s.extract 0 (mmI false (↑s.size : Int) 2000000).toNat)] w2 fun (e4 : Ending) (w5 : World) ↦
 ∃ (p6 : Option Addr),
 ∃ (n7 : Nat),
 ∃ (c8 : Nat),
 ∃ (n9 : Int),
 e4 = Ending.returned (Value.tuple #[Value.slice p6 n7 c8, Value.int IntKind.i64 n9]) ∧
 Calls Try.prog 44 #[Value.slice b_p b_n b_c, Value.string (s.extract 0 (mmI false (↑s.size : Int) 2000000).toNat)] w5 fun (e10 : Ending) (w11 : World) ↦
 ∃ (p12 : Option Addr),
 ∃ (n13 : Nat),
 ∃ (c14 : Nat),
 ∃ (n15 : Int),
 e10 = Ending.returned (Value.tuple #[Value.slice p12 n13 c14, Value.int IntKind.i64 n15]) ∧
 Calls Try.prog 45 #[Value.slice b_p b_n b_c, Value.int IntKind.i64 at_, Value.int IntKind.i64 most] w11 fun (e16 : Ending) (w17 : World) ↦
 ∃ (s18 : ByteArray),
 ∃ (n19 : Int),
 ∃ (n20 : Int),
 e16 = Ending.returned (Value.tuple #[Value.string s18, Value.int IntKind.i64 n19, Value.int IntKind.i64 n20]) ∧
 Calls Try.prog 46 #[Value.slice b_p b_n b_c, Value.int IntKind.i64 at_, Value.int IntKind.i64 most] w17 fun (e21 : Ending) (w22 : World) ↦
 ∃ (s23 : ByteArray),
 ∃ (n24 : Int),
 ∃ (n25 : Int),
 e21 = Ending.returned (Value.tuple #[Value.string s23, Value.int IntKind.i64 n24, Value.int IntKind.i64 n25]) ∧
 (b3 = true →
 ∃ (l27 : List UInt8),
 BytesAt w22 p6 n7 l27 ∧
 ∃ (l28 : List UInt8),
 BytesAt w22 p12 n13 l28 ∧
 R
 (Ending.returned
 (Value.bool (sEq (ByteArray.mk (Array.mk l27)) (ByteArray.mk (Array.mk l28)) && decide (n9 = n15) && sEq s18 s23 && decide (n19 = n24) && decide (n20 = n25))))
 w22) ∧
 (b3 = false → R (Ending.returned (Value.bool false)) w22)

set_option maxRecDepth 100000 in
theorem lawTexts_eq (b_p : Option Addr) (b_n : Nat) (b_c : Nat) (s : ByteArray) (at_ : Int) (most : Int) (w : World) (R : Ending → World → Prop) : lawTexts_T b_p b_n b_c s at_ most w R = vcFn Try.prog [] [] Try.f14 [Value.slice b_p b_n b_c, Value.string s, Value.int IntKind.i64 at_, Value.int IntKind.i64 most] w R := by kernel_rfl

set_option maxRecDepth 100000 in
theorem lawTexts_vc (b_p : Option Addr) (b_n : Nat) (b_c : Nat) (s : ByteArray) (at_ : Int) (most : Int) (w : World) (R : Ending → World → Prop) (h : lawTexts_T b_p b_n b_c s at_ most w R) : Calls Try.prog 14 #[Value.slice b_p b_n b_c, Value.string s, Value.int IntKind.i64 at_, Value.int IntKind.i64 most] w R :=
  calls_of_vc (args := [Value.slice b_p b_n b_c, Value.string s, Value.int IntKind.i64 at_, Value.int IntKind.i64 most]) [] [] Try.mixed Try.func14 (cast (lawTexts_eq _ _ _ _ _ _ w R) h)

set_option maxRecDepth 100000 in
def lawBack_T (ahead_p : Option Addr) (ahead_n : Nat) (ahead_c : Nat) (n : Int) (m : Int) (s : ByteArray) (behind_p : Option Addr) (behind_n : Nat) (behind_c : Nat) (w : World) (R : Ending → World → Prop) : Prop :=
  Calls Try.prog 32 #[] w fun (e1 : Ending) (w2 : World) ↦
 ∃ (b3 : Bool),
 e1 = Ending.returned (Value.bool b3) ∧
 0 ≤ mmI false (↑s.size : Int) 100000 ∧
 mmI false (↑s.size : Int) 100000 ≤ (↑s.size : Int) ∧
 Calls Try.prog 35 #[Value.slice ahead_p ahead_n ahead_c, Value.int IntKind.u64 n] w2 fun (e4 : Ending) (w5 : World) ↦
 ∃ (p6 : Option Addr),
 ∃ (n7 : Nat),
 ∃ (c8 : Nat),
 e4 = Ending.returned (Value.slice p6 n7 c8) ∧
 Calls Try.prog 36 #[Value.slice p6 n7 c8, Value.int IntKind.i64 m] w5 fun (e9 : Ending) (w10 : World) ↦
 ∃ (p11 : Option Addr),
 ∃ (n12 : Nat),
 ∃ (c13 : Nat),
 e9 = Ending.returned (Value.slice p11 n12 c13) ∧
 Calls Try.prog 37 #[Value.slice p11 n12 c13, Value.string (s.extract 0 (mmI false (↑s.size : Int) 100000).toNat)] w10 fun (e14 : Ending) (w15 : World) ↦
 ∃ (p16 : Option Addr),
 ∃ (n17 : Nat),
 ∃ (c18 : Nat),
 ∃ (n19 : Int),
 e14 = Ending.returned (Value.tuple #[Value.slice p16 n17 c18, Value.int IntKind.i64 n19]) ∧
 (0 : Int) ≤ 0 ∧
 0 ≤ IntKind.i64.wrap ((↑n17 : Int) + (↑behind_n : Int)) ∧
 1 * IntKind.i64.wrap ((↑n17 : Int) + (↑behind_n : Int)) ≤ 281474976710656 ∧
 IntKind.i64.wrap ((↑n17 : Int) + (↑behind_n : Int)) ≤ 9223372036854775807 ∧
 ∀ (b20 : Nat) (w'21 : World),
 New w15 (Obj.cells (madeCells #[Value.int IntKind.u8 0] (IntKind.i64.wrap ((↑n17 : Int) + (↑behind_n : Int))).toNat) 5) b20 w'21 →
 ∃ (p23 : Option Addr),
 ∃ (n24 : Nat),
 ∃ (c25 : Nat),
 ∃ (w'26 : World),
 Sem.run Try.prog
 (Builtin.append_ #[30, 30] 30 #[Value.slice (some (Addr.mk b20 0 none)) 0 (IntKind.i64.wrap ((↑n17 : Int) + (↑behind_n : Int))).toNat, Value.slice p16 n17 c18]) w'21 =
 Result.ok (Value.slice p23 n24 c25) w'26 ∧
 ∃ (p27 : Option Addr),
 ∃ (n28 : Nat),
 ∃ (c29 : Nat),
 ∃ (w'30 : World),
 Sem.run Try.prog (Builtin.append_ #[30, 30] 30 #[Value.slice p23 n24 c25, Value.slice behind_p behind_n behind_c]) w'26 = Result.ok (Value.slice p27 n28 c29) w'30 ∧
 Calls Try.prog 38 #[Value.slice p27 n28 c29, Value.int IntKind.i64 (↑ahead_n : Int)] w'30 fun (e31 : Ending) (w32 : World) ↦
 ∃ (n33 : Int),
 ∃ (n34 : Int),
 ∃ (n35 : Int),
 e31 = Ending.returned (Value.tuple #[Value.int IntKind.u64 n33, Value.int IntKind.i64 n34, Value.int IntKind.i64 n35]) ∧
 Calls Try.prog 40 #[Value.slice p27 n28 c29, Value.int IntKind.i64 n34] w32 fun (e36 : Ending) (w37 : World) ↦
 ∃ (n38 : Int),
 ∃ (n39 : Int),
 ∃ (n40 : Int),
 e36 = Ending.returned (Value.tuple #[Value.int IntKind.i64 n38, Value.int IntKind.i64 n39, Value.int IntKind.i64 n40]) ∧
 Calls Try.prog 45 #[Value.slice p27 n28 c29, Value.int IntKind.i64 n39, Value.int IntKind.i64 (↑(s.extract 0 (mmI false (↑s.size : Int) 100000).toNat).size : Int)] w37
 fun (e41 : Ending) (w42 : World) ↦
 ∃ (s43 : ByteArray),
 ∃ (n44 : Int),
 ∃ (n45 : Int),
 e41 = Ending.returned (Value.tuple #[Value.string s43, Value.int IntKind.i64 n44, Value.int IntKind.i64 n45]) ∧
 R
 (Ending.returned
 (Value.bool
 (b3 && decide (n19 = 0) && decide (n35 = 0) && decide (n40 = 0) && decide (n45 = 0) && decide (n33 = n) && decide (n38 = m) &&
 sEq s43 (s.extract 0 (mmI false (↑s.size : Int) 100000).toNat) &&
 decide (n44 = (↑n17 : Int)))))
 w42

set_option maxRecDepth 100000 in
theorem lawBack_eq (ahead_p : Option Addr) (ahead_n : Nat) (ahead_c : Nat) (n : Int) (m : Int) (s : ByteArray) (behind_p : Option Addr) (behind_n : Nat) (behind_c : Nat) (w : World) (R : Ending → World → Prop) : lawBack_T ahead_p ahead_n ahead_c n m s behind_p behind_n behind_c w R = vcFn Try.prog [] [] Try.f15 [Value.slice ahead_p ahead_n ahead_c, Value.int IntKind.u64 n, Value.int IntKind.i64 m, Value.string s, Value.slice behind_p behind_n behind_c] w R := by kernel_rfl

set_option maxRecDepth 100000 in
theorem lawBack_vc (ahead_p : Option Addr) (ahead_n : Nat) (ahead_c : Nat) (n : Int) (m : Int) (s : ByteArray) (behind_p : Option Addr) (behind_n : Nat) (behind_c : Nat) (w : World) (R : Ending → World → Prop) (h : lawBack_T ahead_p ahead_n ahead_c n m s behind_p behind_n behind_c w R) : Calls Try.prog 15 #[Value.slice ahead_p ahead_n ahead_c, Value.int IntKind.u64 n, Value.int IntKind.i64 m, Value.string s, Value.slice behind_p behind_n behind_c] w R :=
  calls_of_vc (args := [Value.slice ahead_p ahead_n ahead_c, Value.int IntKind.u64 n, Value.int IntKind.i64 m, Value.string s, Value.slice behind_p behind_n behind_c]) [] [] Try.mixed Try.func15 (cast (lawBack_eq _ _ _ _ _ _ _ _ _ w R) h)

set_option maxRecDepth 100000 in
def wireSigned_T (b_p : Option Addr) (b_n : Nat) (b_c : Nat) (n : Int) (w : World) (R : Ending → World → Prop) : Prop :=
  Calls Try.prog 35
 #[Value.slice b_p b_n b_c, Value.int IntKind.u64 (bits BinOp.xor IntKind.u64 (IntKind.u64.wrap (shlI IntKind.i64 n 1)) (IntKind.u64.wrap (shrI IntKind.i64 n 63)))] w
 fun (e1 : Ending) (w2 : World) ↦
 ∃ (p3 : Option Addr), ∃ (n4 : Nat), ∃ (c5 : Nat), e1 = Ending.returned (Value.slice p3 n4 c5) ∧ R (Ending.returned (Value.slice p3 n4 c5)) w2

set_option maxRecDepth 100000 in
theorem wireSigned_eq (b_p : Option Addr) (b_n : Nat) (b_c : Nat) (n : Int) (w : World) (R : Ending → World → Prop) : wireSigned_T b_p b_n b_c n w R = vcFn Try.prog [] [] Try.f36 [Value.slice b_p b_n b_c, Value.int IntKind.i64 n] w R := by kernel_rfl

set_option maxRecDepth 100000 in
theorem wireSigned_vc (b_p : Option Addr) (b_n : Nat) (b_c : Nat) (n : Int) (w : World) (R : Ending → World → Prop) (h : wireSigned_T b_p b_n b_c n w R) : Calls Try.prog 36 #[Value.slice b_p b_n b_c, Value.int IntKind.i64 n] w R :=
  calls_of_vc (args := [Value.slice b_p b_n b_c, Value.int IntKind.i64 n]) [] [] Try.mixed Try.func36 (cast (wireSigned_eq _ _ _ _ w R) h)

set_option maxRecDepth 100000 in
def wireText_T (b_p : Option Addr) (b_n : Nat) (b_c : Nat) (s : ByteArray) (w : World) (R : Ending → World → Prop) : Prop :=
  (1048576 < (↑s.size : Int) → R (Ending.returned (Value.tuple #[Value.slice none 0 0, Value.int IntKind.i64 2])) w) ∧
 ((↑s.size : Int) ≤ 1048576 →
 Calls Try.prog 60 #[Value.int IntKind.u64 (IntKind.u64.wrap (↑s.size : Int))] w fun (e3 : Ending) (w4 : World) ↦
 ∃ (p5 : Option Addr),
 ∃ (n6 : Nat),
 ∃ (c7 : Nat),
 e3 = Ending.returned (Value.slice p5 n6 c7) ∧
 ∀ (c8 b9 : Nat) (w'10 : World),
 s.size ≤ c8 →
 New w4.drew (Obj.cells (bytesRow s c8) 5 ((bytesRow s c8).size, (bytesRow s c8).size + 1)) b9 w'10 →
 ∀ (b13 : Nat) (w'14 : World),
 New w'10 (Obj.cells #[Value.slice b_p b_n b_c, Value.slice p5 n6 c7, Value.slice (some (Addr.mk b9 0 none)) s.size c8] 30) b13 w'14 →
 Calls Try.prog 59 #[Value.slice (some (Addr.mk b13 0 none)) 3 3] w'14 fun (e16 : Ending) (w17 : World) ↦
 ∃ (p18 : Option Addr),
 ∃ (n19 : Nat), ∃ (c20 : Nat), e16 = Ending.returned (Value.slice p18 n19 c20) ∧ R (Ending.returned (Value.tuple #[Value.slice p18 n19 c20, Value.int IntKind.i64 0])) w17)

set_option maxRecDepth 100000 in
theorem wireText_eq (b_p : Option Addr) (b_n : Nat) (b_c : Nat) (s : ByteArray) (w : World) (R : Ending → World → Prop) : wireText_T b_p b_n b_c s w R = vcFn Try.prog [] [] Try.f37 [Value.slice b_p b_n b_c, Value.string s] w R := by kernel_rfl

set_option maxRecDepth 100000 in
theorem wireText_vc (b_p : Option Addr) (b_n : Nat) (b_c : Nat) (s : ByteArray) (w : World) (R : Ending → World → Prop) (h : wireText_T b_p b_n b_c s w R) : Calls Try.prog 37 #[Value.slice b_p b_n b_c, Value.string s] w R :=
  calls_of_vc (args := [Value.slice b_p b_n b_c, Value.string s]) [] [] Try.mixed Try.func37 (cast (wireText_eq _ _ _ _ w R) h)

set_option maxRecDepth 100000 in
def takeNumber_T (b_p : Option Addr) (b_n : Nat) (b_c : Nat) (at_ : Int) (w : World) (R : Ending → World → Prop) : Prop :=
  (at_ < 0 ∨ (↑b_n : Int) < at_ → R (Ending.returned (Value.tuple #[Value.int IntKind.u64 0, Value.int IntKind.i64 0, Value.int IntKind.i64 20])) w) ∧
 (0 ≤ at_ ∧ at_ ≤ (↑b_n : Int) →
 0 ≤ at_ ∧
 at_ ≤ (↑b_n : Int) ∧
 ∃ (I3 : Int → Int → World → Prop),
 ∃ (M4 : Int → Int → World → Nat),
 I3 0 0 w ∧
 ∀ (n5 n6 : Int) (w'7 : World),
 I3 n5 n6 w'7 →
 (n6 < (↑(b_n - at_.toNat) : Int) →
 ∃ (b10 : Nat),
 ∃ (o11 : Nat),
 slBase b_p at_.toNat b_c 1 = some (Addr.mk b10 o11 none) ∧
 0 ≤ n6 ∧
 n6 < (↑(b_n - at_.toNat) : Int) ∧
 ∃ (n12 : Int),
 w'7.cell? (Addr.mk b10 (o11 + n6.toNat) none) = some (Value.int IntKind.u8 n12) ∧
 (9 < n6 → R (Ending.returned (Value.tuple #[Value.int IntKind.u64 0, Value.int IntKind.i64 0, Value.int IntKind.i64 20])) w'7) ∧
 (n6 ≤ 9 →
 (n6 = 9 ∧ n12 ≠ 1 → R (Ending.returned (Value.tuple #[Value.int IntKind.u64 0, Value.int IntKind.i64 0, Value.int IntKind.i64 20])) w'7) ∧
 (n6 ≠ 9 ∨ n12 = 1 →
 0 ≤ IntKind.i64.wrap (7 * n6) ∧
 (n12 < 128 →
 (n12 = 0 ∧ 0 < n6 → R (Ending.returned (Value.tuple #[Value.int IntKind.u64 0, Value.int IntKind.i64 0, Value.int IntKind.i64 20])) w'7) ∧
 (n12 ≠ 0 ∨ n6 ≤ 0 →
 R
 (Ending.returned
 (Value.tuple
 #[Value.int IntKind.u64 (bits BinOp.or IntKind.u64 n5 (shlI IntKind.u64 (IntKind.u64.wrap (bits BinOp.and IntKind.u8 n12 127)) (IntKind.i64.wrap (7 * n6)).toNat)),
 Value.int IntKind.i64 (IntKind.i64.wrap (IntKind.i64.wrap (at_ + n6) + 1)), Value.int IntKind.i64 0]))
 w'7)) ∧
 (128 ≤ n12 →
 I3 (bits BinOp.or IntKind.u64 n5 (shlI IntKind.u64 (IntKind.u64.wrap (bits BinOp.and IntKind.u8 n12 127)) (IntKind.i64.wrap (7 * n6)).toNat)) (IntKind.i64.wrap (n6 + 1))
 w'7 ∧
 M4 (bits BinOp.or IntKind.u64 n5 (shlI IntKind.u64 (IntKind.u64.wrap (bits BinOp.and IntKind.u8 n12 127)) (IntKind.i64.wrap (7 * n6)).toNat)) (IntKind.i64.wrap (n6 + 1))
 w'7 <
 M4 n5 n6 w'7)))) ∧
 ((↑(b_n - at_.toNat) : Int) ≤ n6 → R (Ending.returned (Value.tuple #[Value.int IntKind.u64 0, Value.int IntKind.i64 0, Value.int IntKind.i64 20])) w'7))

set_option maxRecDepth 100000 in
theorem takeNumber_eq (b_p : Option Addr) (b_n : Nat) (b_c : Nat) (at_ : Int) (w : World) (R : Ending → World → Prop) : takeNumber_T b_p b_n b_c at_ w R = vcFn Try.prog [] [] Try.f38 [Value.slice b_p b_n b_c, Value.int IntKind.i64 at_] w R := by kernel_rfl

set_option maxRecDepth 100000 in
theorem takeNumber_vc (b_p : Option Addr) (b_n : Nat) (b_c : Nat) (at_ : Int) (w : World) (R : Ending → World → Prop) (h : takeNumber_T b_p b_n b_c at_ w R) : Calls Try.prog 38 #[Value.slice b_p b_n b_c, Value.int IntKind.i64 at_] w R :=
  calls_of_vc (args := [Value.slice b_p b_n b_c, Value.int IntKind.i64 at_]) [] [] Try.mixed Try.func38 (cast (takeNumber_eq _ _ _ _ w R) h)

set_option maxRecDepth 100000 in
def refTakeNumber_T (b_p : Option Addr) (b_n : Nat) (b_c : Nat) (at_ : Int) (w : World) (R : Ending → World → Prop) : Prop :=
  (at_ < 0 → R (Ending.returned (Value.tuple #[Value.int IntKind.u64 0, Value.int IntKind.i64 0, Value.int IntKind.i64 20])) w) ∧
 (0 ≤ at_ →
 ∃ (I3 : Int → Int → World → Prop),
 ∃ (M4 : Int → Int → World → Nat),
 I3 0 0 w ∧
 ∀ (n5 n6 : Int) (w'7 : World),
 I3 n5 n6 w'7 →
 ((n6 < 10 ∧ at_ < (↑b_n : Int)) ∧ n6 < IntKind.i64.wrap ((↑b_n : Int) - at_) →
 ∃ (b10 : Nat),
 ∃ (o11 : Nat),
 b_p = some (Addr.mk b10 o11 none) ∧
 0 ≤ IntKind.i64.wrap (at_ + n6) ∧
 IntKind.i64.wrap (at_ + n6) < (↑b_n : Int) ∧
 ∃ (n12 : Int),
 w'7.cell? (Addr.mk b10 (o11 + (IntKind.i64.wrap (at_ + n6)).toNat) none) = some (Value.int IntKind.u8 n12) ∧
 (n6 = 9 ∧ 1 < n12 → R (Ending.returned (Value.tuple #[Value.int IntKind.u64 0, Value.int IntKind.i64 0, Value.int IntKind.i64 20])) w'7) ∧
 (n6 ≠ 9 ∨ n12 ≤ 1 →
 0 ≤ IntKind.i64.wrap (7 * n6) ∧
 (n12 < 128 →
 (n12 = 0 ∧ 0 < n6 → R (Ending.returned (Value.tuple #[Value.int IntKind.u64 0, Value.int IntKind.i64 0, Value.int IntKind.i64 20])) w'7) ∧
 (n12 ≠ 0 ∨ n6 ≤ 0 →
 R
 (Ending.returned
 (Value.tuple
 #[Value.int IntKind.u64 (IntKind.u64.wrap (n5 + shlI IntKind.u64 (IntKind.u64.wrap (remI n12 128)) (IntKind.i64.wrap (7 * n6)).toNat)),
 Value.int IntKind.i64 (IntKind.i64.wrap (IntKind.i64.wrap (at_ + n6) + 1)), Value.int IntKind.i64 0]))
 w'7)) ∧
 (128 ≤ n12 →
 I3 (IntKind.u64.wrap (n5 + shlI IntKind.u64 (IntKind.u64.wrap (remI n12 128)) (IntKind.i64.wrap (7 * n6)).toNat)) (IntKind.i64.wrap (n6 + 1)) w'7 ∧
 M4 (IntKind.u64.wrap (n5 + shlI IntKind.u64 (IntKind.u64.wrap (remI n12 128)) (IntKind.i64.wrap (7 * n6)).toNat)) (IntKind.i64.wrap (n6 + 1)) w'7 < M4 n5 n6 w'7))) ∧
 ((10 ≤ n6 ∨ (↑b_n : Int) ≤ at_) ∨ IntKind.i64.wrap ((↑b_n : Int) - at_) ≤ n6 →
 R (Ending.returned (Value.tuple #[Value.int IntKind.u64 0, Value.int IntKind.i64 0, Value.int IntKind.i64 20])) w'7))

set_option maxRecDepth 100000 in
theorem refTakeNumber_eq (b_p : Option Addr) (b_n : Nat) (b_c : Nat) (at_ : Int) (w : World) (R : Ending → World → Prop) : refTakeNumber_T b_p b_n b_c at_ w R = vcFn Try.prog [] [] Try.f39 [Value.slice b_p b_n b_c, Value.int IntKind.i64 at_] w R := by kernel_rfl

set_option maxRecDepth 100000 in
theorem refTakeNumber_vc (b_p : Option Addr) (b_n : Nat) (b_c : Nat) (at_ : Int) (w : World) (R : Ending → World → Prop) (h : refTakeNumber_T b_p b_n b_c at_ w R) : Calls Try.prog 39 #[Value.slice b_p b_n b_c, Value.int IntKind.i64 at_] w R :=
  calls_of_vc (args := [Value.slice b_p b_n b_c, Value.int IntKind.i64 at_]) [] [] Try.mixed Try.func39 (cast (refTakeNumber_eq _ _ _ _ w R) h)

set_option maxRecDepth 100000 in
def takeSigned_T (b_p : Option Addr) (b_n : Nat) (b_c : Nat) (at_ : Int) (w : World) (R : Ending → World → Prop) : Prop :=
  Calls Try.prog 38 #[Value.slice b_p b_n b_c, Value.int IntKind.i64 at_] w fun (e1 : Ending) (w2 : World) ↦
 ∃ (n3 : Int),
 ∃ (n4 : Int),
 ∃ (n5 : Int),
 e1 = Ending.returned (Value.tuple #[Value.int IntKind.u64 n3, Value.int IntKind.i64 n4, Value.int IntKind.i64 n5]) ∧
 R
 (Ending.returned
 (Value.tuple
 #[Value.int IntKind.i64
 (bits BinOp.xor IntKind.i64 (IntKind.i64.wrap (shrI IntKind.u64 n3 1)) (IntKind.i64.wrap (0 - IntKind.i64.wrap (bits BinOp.and IntKind.u64 n3 1)))),
 Value.int IntKind.i64 n4, Value.int IntKind.i64 n5]))
 w2

set_option maxRecDepth 100000 in
theorem takeSigned_eq (b_p : Option Addr) (b_n : Nat) (b_c : Nat) (at_ : Int) (w : World) (R : Ending → World → Prop) : takeSigned_T b_p b_n b_c at_ w R = vcFn Try.prog [] [] Try.f40 [Value.slice b_p b_n b_c, Value.int IntKind.i64 at_] w R := by kernel_rfl

set_option maxRecDepth 100000 in
theorem takeSigned_vc (b_p : Option Addr) (b_n : Nat) (b_c : Nat) (at_ : Int) (w : World) (R : Ending → World → Prop) (h : takeSigned_T b_p b_n b_c at_ w R) : Calls Try.prog 40 #[Value.slice b_p b_n b_c, Value.int IntKind.i64 at_] w R :=
  calls_of_vc (args := [Value.slice b_p b_n b_c, Value.int IntKind.i64 at_]) [] [] Try.mixed Try.func40 (cast (takeSigned_eq _ _ _ _ w R) h)

set_option maxRecDepth 100000 in
def refTakeSigned_T (b_p : Option Addr) (b_n : Nat) (b_c : Nat) (at_ : Int) (w : World) (R : Ending → World → Prop) : Prop :=
  Calls Try.prog 39 #[Value.slice b_p b_n b_c, Value.int IntKind.i64 at_] w fun (e1 : Ending) (w2 : World) ↦
 ∃ (n3 : Int),
 ∃ (n4 : Int),
 ∃ (n5 : Int),
 e1 = Ending.returned (Value.tuple #[Value.int IntKind.u64 n3, Value.int IntKind.i64 n4, Value.int IntKind.i64 n5]) ∧
 (n5 ≠ 0 → R (Ending.returned (Value.tuple #[Value.int IntKind.i64 0, Value.int IntKind.i64 0, Value.int IntKind.i64 n5])) w2) ∧
 (n5 = 0 →
 (remI n3 2 = 1 →
 R
 (Ending.returned
 (Value.tuple
 #[Value.int IntKind.i64 (IntKind.i64.wrap (IntKind.i64.wrap (0 - IntKind.i64.wrap (quoI IntKind.u64 n3 2)) - 1)), Value.int IntKind.i64 n4, Value.int IntKind.i64 0]))
 w2) ∧
 (remI n3 2 ≠ 1 →
 R (Ending.returned (Value.tuple #[Value.int IntKind.i64 (IntKind.i64.wrap (quoI IntKind.u64 n3 2)), Value.int IntKind.i64 n4, Value.int IntKind.i64 0])) w2))

set_option maxRecDepth 100000 in
theorem refTakeSigned_eq (b_p : Option Addr) (b_n : Nat) (b_c : Nat) (at_ : Int) (w : World) (R : Ending → World → Prop) : refTakeSigned_T b_p b_n b_c at_ w R = vcFn Try.prog [] [] Try.f41 [Value.slice b_p b_n b_c, Value.int IntKind.i64 at_] w R := by kernel_rfl

set_option maxRecDepth 100000 in
theorem refTakeSigned_vc (b_p : Option Addr) (b_n : Nat) (b_c : Nat) (at_ : Int) (w : World) (R : Ending → World → Prop) (h : refTakeSigned_T b_p b_n b_c at_ w R) : Calls Try.prog 41 #[Value.slice b_p b_n b_c, Value.int IntKind.i64 at_] w R :=
  calls_of_vc (args := [Value.slice b_p b_n b_c, Value.int IntKind.i64 at_]) [] [] Try.mixed Try.func41 (cast (refTakeSigned_eq _ _ _ _ w R) h)

set_option maxRecDepth 100000 in
def refNumber_T (b_p : Option Addr) (b_n : Nat) (b_c : Nat) (n : Int) (w : World) (R : Ending → World → Prop) : Prop :=
  (0 : Int) ≤ 0 ∧
 0 ≤ IntKind.i64.wrap ((↑b_n : Int) + 10) ∧
 1 * IntKind.i64.wrap ((↑b_n : Int) + 10) ≤ 281474976710656 ∧
 IntKind.i64.wrap ((↑b_n : Int) + 10) ≤ 9223372036854775807 ∧
 ∀ (b1 : Nat) (w'2 : World),
 New w (Obj.cells (madeCells #[Value.int IntKind.u8 0] (IntKind.i64.wrap ((↑b_n : Int) + 10)).toNat) 5) b1 w'2 →
 ∃ (p4 : Option Addr),
 ∃ (n5 : Nat),
 ∃ (c6 : Nat),
 ∃ (w'7 : World),
 Sem.run Try.prog (Builtin.append_ #[30, 30] 30 #[Value.slice (some (Addr.mk b1 0 none)) 0 (IntKind.i64.wrap ((↑b_n : Int) + 10)).toNat, Value.slice b_p b_n b_c]) w'2 =
 Result.ok (Value.slice p4 n5 c6) w'7 ∧
 ∃ (I8 : Option Addr → Nat → Nat → Int → World → Prop),
 ∃ (M9 : Option Addr → Nat → Nat → Int → World → Nat),
 I8 p4 n5 c6 n w'7 ∧
 ∀ (p10 : Option Addr) (n11 c12 : Nat) (n13 : Int) (w'14 : World),
 I8 p10 n11 c12 n13 w'14 →
 (127 < n13 →
 ∀ (b17 : Nat) (w'18 : World),
 New w'14 (Obj.cells #[Value.int IntKind.u8 (IntKind.u8.wrap (IntKind.u8.wrap (remI n13 128) + 128))] 5) b17 w'18 →
 ∃ (p20 : Option Addr),
 ∃ (n21 : Nat),
 ∃ (c22 : Nat),
 ∃ (w'23 : World),
 Sem.run Try.prog (Builtin.append_ #[30, 30] 30 #[Value.slice p10 n11 c12, Value.slice (some (Addr.mk b17 0 none)) 1 1]) w'18 = Result.ok (Value.slice p20 n21 c22) w'23 ∧
 I8 p20 n21 c22 (quoI IntKind.u64 n13 128) w'23 ∧ M9 p20 n21 c22 (quoI IntKind.u64 n13 128) w'23 < M9 p10 n11 c12 n13 w'14) ∧
 (n13 ≤ 127 →
 ∀ (b25 : Nat) (w'26 : World),
 New w'14 (Obj.cells #[Value.int IntKind.u8 (IntKind.u8.wrap n13)] 5) b25 w'26 →
 ∃ (p28 : Option Addr),
 ∃ (n29 : Nat),
 ∃ (c30 : Nat),
 ∃ (w'31 : World),
 Sem.run Try.prog (Builtin.append_ #[30, 30] 30 #[Value.slice p10 n11 c12, Value.slice (some (Addr.mk b25 0 none)) 1 1]) w'26 = Result.ok (Value.slice p28 n29 c30) w'31 ∧
 R (Ending.returned (Value.slice p28 n29 c30)) w'31)

set_option maxRecDepth 100000 in
theorem refNumber_eq (b_p : Option Addr) (b_n : Nat) (b_c : Nat) (n : Int) (w : World) (R : Ending → World → Prop) : refNumber_T b_p b_n b_c n w R = vcFn Try.prog [] [] Try.f42 [Value.slice b_p b_n b_c, Value.int IntKind.u64 n] w R := by kernel_rfl

set_option maxRecDepth 100000 in
theorem refNumber_vc (b_p : Option Addr) (b_n : Nat) (b_c : Nat) (n : Int) (w : World) (R : Ending → World → Prop) (h : refNumber_T b_p b_n b_c n w R) : Calls Try.prog 42 #[Value.slice b_p b_n b_c, Value.int IntKind.u64 n] w R :=
  calls_of_vc (args := [Value.slice b_p b_n b_c, Value.int IntKind.u64 n]) [] [] Try.mixed Try.func42 (cast (refNumber_eq _ _ _ _ w R) h)

set_option maxRecDepth 100000 in
def refSigned_T (b_p : Option Addr) (b_n : Nat) (b_c : Nat) (n : Int) (w : World) (R : Ending → World → Prop) : Prop :=
  Calls Try.prog 61 #[Value.int IntKind.i64 n] w fun (e1 : Ending) (w2 : World) ↦
 ∃ (n3 : Int),
 e1 = Ending.returned (Value.int IntKind.u64 n3) ∧
 Calls Try.prog 42 #[Value.slice b_p b_n b_c, Value.int IntKind.u64 n3] w2 fun (e4 : Ending) (w5 : World) ↦
 ∃ (p6 : Option Addr), ∃ (n7 : Nat), ∃ (c8 : Nat), e4 = Ending.returned (Value.slice p6 n7 c8) ∧ R (Ending.returned (Value.slice p6 n7 c8)) w5

set_option maxRecDepth 100000 in
theorem refSigned_eq (b_p : Option Addr) (b_n : Nat) (b_c : Nat) (n : Int) (w : World) (R : Ending → World → Prop) : refSigned_T b_p b_n b_c n w R = vcFn Try.prog [] [] Try.f43 [Value.slice b_p b_n b_c, Value.int IntKind.i64 n] w R := by kernel_rfl

set_option maxRecDepth 100000 in
theorem refSigned_vc (b_p : Option Addr) (b_n : Nat) (b_c : Nat) (n : Int) (w : World) (R : Ending → World → Prop) (h : refSigned_T b_p b_n b_c n w R) : Calls Try.prog 43 #[Value.slice b_p b_n b_c, Value.int IntKind.i64 n] w R :=
  calls_of_vc (args := [Value.slice b_p b_n b_c, Value.int IntKind.i64 n]) [] [] Try.mixed Try.func43 (cast (refSigned_eq _ _ _ _ w R) h)

set_option maxRecDepth 100000 in
def refText_T (b_p : Option Addr) (b_n : Nat) (b_c : Nat) (s : ByteArray) (w : World) (R : Ending → World → Prop) : Prop :=
  (1048576 < (↑s.size : Int) → R (Ending.returned (Value.tuple #[Value.slice none 0 0, Value.int IntKind.i64 2])) w) ∧
 ((↑s.size : Int) ≤ 1048576 →
 Calls Try.prog 42 #[Value.slice b_p b_n b_c, Value.int IntKind.u64 (IntKind.u64.wrap (↑s.size : Int))] w fun (e3 : Ending) (w4 : World) ↦
 ∃ (p5 : Option Addr),
 ∃ (n6 : Nat),
 ∃ (c7 : Nat),
 e3 = Ending.returned (Value.slice p5 n6 c7) ∧
 ∃ (p8 : Option Addr),
 ∃ (n9 : Nat),
 ∃ (c10 : Nat),
 ∃ (w'11 : World),
 Sem.run Try.prog (Builtin.append_ #[30, 9] 30 #[Value.slice p5 n6 c7, Value.string s]) w4 = Result.ok (Value.slice p8 n9 c10) w'11 ∧
 R (Ending.returned (Value.tuple #[Value.slice p8 n9 c10, Value.int IntKind.i64 0])) w'11)

set_option maxRecDepth 100000 in
theorem refText_eq (b_p : Option Addr) (b_n : Nat) (b_c : Nat) (s : ByteArray) (w : World) (R : Ending → World → Prop) : refText_T b_p b_n b_c s w R = vcFn Try.prog [] [] Try.f44 [Value.slice b_p b_n b_c, Value.string s] w R := by kernel_rfl

set_option maxRecDepth 100000 in
theorem refText_vc (b_p : Option Addr) (b_n : Nat) (b_c : Nat) (s : ByteArray) (w : World) (R : Ending → World → Prop) (h : refText_T b_p b_n b_c s w R) : Calls Try.prog 44 #[Value.slice b_p b_n b_c, Value.string s] w R :=
  calls_of_vc (args := [Value.slice b_p b_n b_c, Value.string s]) [] [] Try.mixed Try.func44 (cast (refText_eq _ _ _ _ w R) h)

set_option maxRecDepth 100000 in
def takeText_T (b_p : Option Addr) (b_n : Nat) (b_c : Nat) (at_ : Int) (most : Int) (w : World) (R : Ending → World → Prop) : Prop :=
  Calls Try.prog 38 #[Value.slice b_p b_n b_c, Value.int IntKind.i64 at_] w fun (e1 : Ending) (w2 : World) ↦
 ∃ (n3 : Int),
 ∃ (n4 : Int),
 ∃ (n5 : Int),
 e1 = Ending.returned (Value.tuple #[Value.int IntKind.u64 n3, Value.int IntKind.i64 n4, Value.int IntKind.i64 n5]) ∧
 (((n5 ≠ 0 ∨ 1048576 < n3) ∨ most < IntKind.i64.wrap n3) ∨ IntKind.i64.wrap ((↑b_n : Int) - n4) < IntKind.i64.wrap n3 →
 R (Ending.returned (Value.tuple #[Value.string (ByteArray.mk #[]), Value.int IntKind.i64 0, Value.int IntKind.i64 20])) w2) ∧
 (((n5 = 0 ∧ n3 ≤ 1048576) ∧ IntKind.i64.wrap n3 ≤ most) ∧ IntKind.i64.wrap n3 ≤ IntKind.i64.wrap ((↑b_n : Int) - n4) →
 0 ≤ n4 ∧
 n4 ≤ IntKind.i64.wrap (n4 + IntKind.i64.wrap n3) ∧
 IntKind.i64.wrap (n4 + IntKind.i64.wrap n3) ≤ (↑b_c : Int) ∧
 ∃ (l8 : List UInt8),
 BytesAt w2 (slBase b_p n4.toNat b_c 1) ((IntKind.i64.wrap (n4 + IntKind.i64.wrap n3)).toNat - n4.toNat) l8 ∧
 R
 (Ending.returned (Value.tuple #[Value.string (ByteArray.mk (Array.mk l8)), Value.int IntKind.i64 (IntKind.i64.wrap (n4 + IntKind.i64.wrap n3)), Value.int IntKind.i64 0]))
 w2)

set_option maxRecDepth 100000 in
theorem takeText_eq (b_p : Option Addr) (b_n : Nat) (b_c : Nat) (at_ : Int) (most : Int) (w : World) (R : Ending → World → Prop) : takeText_T b_p b_n b_c at_ most w R = vcFn Try.prog [] [] Try.f45 [Value.slice b_p b_n b_c, Value.int IntKind.i64 at_, Value.int IntKind.i64 most] w R := by kernel_rfl

set_option maxRecDepth 100000 in
theorem takeText_vc (b_p : Option Addr) (b_n : Nat) (b_c : Nat) (at_ : Int) (most : Int) (w : World) (R : Ending → World → Prop) (h : takeText_T b_p b_n b_c at_ most w R) : Calls Try.prog 45 #[Value.slice b_p b_n b_c, Value.int IntKind.i64 at_, Value.int IntKind.i64 most] w R :=
  calls_of_vc (args := [Value.slice b_p b_n b_c, Value.int IntKind.i64 at_, Value.int IntKind.i64 most]) [] [] Try.mixed Try.func45 (cast (takeText_eq _ _ _ _ _ w R) h)

set_option maxRecDepth 100000 in
def refTakeText_T (b_p : Option Addr) (b_n : Nat) (b_c : Nat) (at_ : Int) (most : Int) (w : World) (R : Ending → World → Prop) : Prop :=
  Calls Try.prog 39 #[Value.slice b_p b_n b_c, Value.int IntKind.i64 at_] w fun (e1 : Ending) (w2 : World) ↦
 ∃ (n3 : Int),
 ∃ (n4 : Int),
 ∃ (n5 : Int),
 e1 = Ending.returned (Value.tuple #[Value.int IntKind.u64 n3, Value.int IntKind.i64 n4, Value.int IntKind.i64 n5]) ∧
 (((n5 ≠ 0 ∨ 1048576 < n3) ∨ most < IntKind.i64.wrap n3) ∨ IntKind.i64.wrap ((↑b_n : Int) - n4) < IntKind.i64.wrap n3 →
 R (Ending.returned (Value.tuple #[Value.string (ByteArray.mk #[]), Value.int IntKind.i64 0, Value.int IntKind.i64 20])) w2) ∧
 (((n5 = 0 ∧ n3 ≤ 1048576) ∧ IntKind.i64.wrap n3 ≤ most) ∧ IntKind.i64.wrap n3 ≤ IntKind.i64.wrap ((↑b_n : Int) - n4) →
 0 ≤ n4 ∧
 n4 ≤ IntKind.i64.wrap (n4 + IntKind.i64.wrap n3) ∧
 IntKind.i64.wrap (n4 + IntKind.i64.wrap n3) ≤ (↑b_c : Int) ∧
 ∃ (l8 : List UInt8),
 BytesAt w2 (slBase b_p n4.toNat b_c 1) ((IntKind.i64.wrap (n4 + IntKind.i64.wrap n3)).toNat - n4.toNat) l8 ∧
 R
 (Ending.returned (Value.tuple #[Value.string (ByteArray.mk (Array.mk l8)), Value.int IntKind.i64 (IntKind.i64.wrap (n4 + IntKind.i64.wrap n3)), Value.int IntKind.i64 0]))
 w2)

set_option maxRecDepth 100000 in
theorem refTakeText_eq (b_p : Option Addr) (b_n : Nat) (b_c : Nat) (at_ : Int) (most : Int) (w : World) (R : Ending → World → Prop) : refTakeText_T b_p b_n b_c at_ most w R = vcFn Try.prog [] [] Try.f46 [Value.slice b_p b_n b_c, Value.int IntKind.i64 at_, Value.int IntKind.i64 most] w R := by kernel_rfl

set_option maxRecDepth 100000 in
theorem refTakeText_vc (b_p : Option Addr) (b_n : Nat) (b_c : Nat) (at_ : Int) (most : Int) (w : World) (R : Ending → World → Prop) (h : refTakeText_T b_p b_n b_c at_ most w R) : Calls Try.prog 46 #[Value.slice b_p b_n b_c, Value.int IntKind.i64 at_, Value.int IntKind.i64 most] w R :=
  calls_of_vc (args := [Value.slice b_p b_n b_c, Value.int IntKind.i64 at_, Value.int IntKind.i64 most]) [] [] Try.mixed Try.func46 (cast (refTakeText_eq _ _ _ _ _ w R) h)

set_option maxRecDepth 100000 in
def zigT_T (n : Int) (w : World) (R : Ending → World → Prop) : Prop :=
  (n < 0 →
 R (Ending.returned (Value.int IntKind.u64 (IntKind.u64.wrap (IntKind.u64.wrap (2 * IntKind.u64.wrap (IntKind.i64.wrap (0 - IntKind.i64.wrap (n + 1)))) + 1)))) w) ∧
 (0 ≤ n → R (Ending.returned (Value.int IntKind.u64 (IntKind.u64.wrap (2 * IntKind.u64.wrap n)))) w)

set_option maxRecDepth 100000 in
theorem zigT_eq (n : Int) (w : World) (R : Ending → World → Prop) : zigT_T n w R = vcFn Try.prog [] [] Try.f61 [Value.int IntKind.i64 n] w R := by kernel_rfl

set_option maxRecDepth 100000 in
theorem zigT_vc (n : Int) (w : World) (R : Ending → World → Prop) (h : zigT_T n w R) : Calls Try.prog 61 #[Value.int IntKind.i64 n] w R :=
  calls_of_vc (args := [Value.int IntKind.i64 n]) [] [] Try.mixed Try.func61 (cast (zigT_eq _ w R) h)


end Go.Proofs.Ytdclhgcgpcddlaa
