/- The verification conditions of the functions, evaluated: printed by program. -/
import Derived.Test.YtgcjhhlokncbfaaBase
import Derived.Test.YtgcjhhlokncbfaaVcF
namespace Go.Proofs.Ytgcjhhlokncbfaa
open Go Go.Vc

set_option maxRecDepth 100000 in
def vright_T (v0 : Int) (v1 : Int) (v2 : ByteArray) (w : World) (R : Ending → World → Prop) : Prop :=
  ∀ (b1 : Nat) (w'2 : World),
 New w (Obj.cells #[Value.int IntKind.i64 v0, Value.int IntKind.i64 v1, Value.string v2] 48) b1 w'2 →
 ∃ (n4 : Int),
 w'2.cell? (Addr.mk b1 0 none) = some (Value.int IntKind.i64 n4) ∧
 ∀ (b5 : Nat) (w'6 : World),
 New w'2 (Obj.cells #[Value.int IntKind.i64 0, Value.int IntKind.i64 0, Value.string (ByteArray.mk #[])] 48) b5 w'6 →
 (∃ (u8 : Value), w'6.cell? (Addr.mk b5 0 none) = some u8) ∧
 w'6.frozen? (Addr.mk b5 0 none) = false ∧
 (∃ (u9 : Value), w'6.cell? (Addr.mk b5 1 none) = some u9) ∧
 w'6.frozen? (Addr.mk b5 1 none) = false ∧
 (∃ (u10 : Value), w'6.cell? (Addr.mk b5 2 none) = some u10) ∧
 w'6.frozen? (Addr.mk b5 2 none) = false ∧
 ∀ (w'11 : World),
 Put w'6 b5 0 [Value.int IntKind.i64 n4, Value.int IntKind.i64 0, Value.string (ByteArray.mk #[])] w'11 →
 ∃ (n13 : Int),
 w'11.cell? (Addr.mk b1 0 none) = some (Value.int IntKind.i64 n13) ∧
 (n13 = 0 →
 ∃ (n15 : Int),
 w'11.cell? (Addr.mk b1 0 none) = some (Value.int IntKind.i64 n15) ∧
 (0 ≤ n15 →
 ∃ (n17 : Int),
 w'11.cell? (Addr.mk b1 0 none) = some (Value.int IntKind.i64 n17) ∧
 (n17 < 4 →
 ∃ (n19 : Int),
 w'11.cell? (Addr.mk b1 0 none) = some (Value.int IntKind.i64 n19) ∧
 ∃ (n20 : Int),
 w'11.cell? (Addr.mk b1 1 none) = some (Value.int IntKind.i64 n20) ∧
 ∃ (s21 : ByteArray),
 w'11.cell? (Addr.mk b1 2 none) = some (Value.string s21) ∧
 ∃ (n22 : Int),
 w'11.cell? (Addr.mk b5 0 none) = some (Value.int IntKind.i64 n22) ∧
 ∃ (n23 : Int),
 w'11.cell? (Addr.mk b5 1 none) = some (Value.int IntKind.i64 n23) ∧
 ∃ (s24 : ByteArray),
 w'11.cell? (Addr.mk b5 2 none) = some (Value.string s24) ∧
 (n19 = n22 ∧ n20 = n23 ∧ s21 = s24 →
 ∃ (s26 : ByteArray), w'11.cell? (Addr.mk b1 2 none) = some (Value.string s26) ∧ R (Ending.returned (Value.bool (decide ((↑s26.size : Int) ≤ 1024)))) w'11) ∧
 (n19 ≠ n22 ∨ n20 ≠ n23 ∨ s21 ≠ s24 → R (Ending.returned (Value.bool false)) w'11)) ∧
 (4 ≤ n17 → R (Ending.returned (Value.bool false)) w'11)) ∧
 (n15 < 0 → R (Ending.returned (Value.bool false)) w'11)) ∧
 (n13 ≠ 0 →
 (n13 = 1 →
 ∃ (n32 : Int),
 w'11.cell? (Addr.mk b1 1 none) = some (Value.int IntKind.i64 n32) ∧
 (∃ (u33 : Value), w'11.cell? (Addr.mk b5 1 none) = some u33) ∧
 w'11.frozen? (Addr.mk b5 1 none) = false ∧
 ∀ (w'34 : World),
 Put w'11 b5 1 [Value.int IntKind.i64 n32] w'34 →
 ∃ (n36 : Int),
 w'34.cell? (Addr.mk b1 0 none) = some (Value.int IntKind.i64 n36) ∧
 (0 ≤ n36 →
 ∃ (n38 : Int),
 w'34.cell? (Addr.mk b1 0 none) = some (Value.int IntKind.i64 n38) ∧
 (n38 < 4 →
 ∃ (n40 : Int),
 w'34.cell? (Addr.mk b1 0 none) = some (Value.int IntKind.i64 n40) ∧
 ∃ (n41 : Int),
 w'34.cell? (Addr.mk b1 1 none) = some (Value.int IntKind.i64 n41) ∧
 ∃ (s42 : ByteArray),
 w'34.cell? (Addr.mk b1 2 none) = some (Value.string s42) ∧
 ∃ (n43 : Int),
 w'34.cell? (Addr.mk b5 0 none) = some (Value.int IntKind.i64 n43) ∧
 ∃ (n44 : Int),
 w'34.cell? (Addr.mk b5 1 none) = some (Value.int IntKind.i64 n44) ∧
 ∃ (s45 : ByteArray),
 w'34.cell? (Addr.mk b5 2 none) = some (Value.string s45) ∧
 (n40 = n43 ∧ n41 = n44 ∧ s42 = s45 →
 ∃ (s47 : ByteArray), w'34.cell? (Addr.mk b1 2 none) = some (Value.string s47) ∧ R (Ending.returned (Value.bool (decide ((↑s47.size : Int) ≤ 1024)))) w'34) ∧
 (n40 ≠ n43 ∨ n41 ≠ n44 ∨ s42 ≠ s45 → R (Ending.returned (Value.bool false)) w'34)) ∧
 (4 ≤ n38 → R (Ending.returned (Value.bool false)) w'34)) ∧
 (n36 < 0 → R (Ending.returned (Value.bool false)) w'34)) ∧
 (n13 ≠ 1 →
 (n13 = 2 →
 ∃ (n53 : Int),
 w'11.cell? (Addr.mk b1 1 none) = some (Value.int IntKind.i64 n53) ∧
 (∃ (u54 : Value), w'11.cell? (Addr.mk b5 1 none) = some u54) ∧
 w'11.frozen? (Addr.mk b5 1 none) = false ∧
 ∀ (w'55 : World),
 Put w'11 b5 1 [Value.int IntKind.i64 (bits BinOp.and IntKind.i64 n53 1)] w'55 →
 ∃ (n57 : Int),
 w'55.cell? (Addr.mk b1 0 none) = some (Value.int IntKind.i64 n57) ∧
 (0 ≤ n57 →
 ∃ (n59 : Int),
 w'55.cell? (Addr.mk b1 0 none) = some (Value.int IntKind.i64 n59) ∧
 (n59 < 4 →
 ∃ (n61 : Int),
 w'55.cell? (Addr.mk b1 0 none) = some (Value.int IntKind.i64 n61) ∧
 ∃ (n62 : Int),
 w'55.cell? (Addr.mk b1 1 none) = some (Value.int IntKind.i64 n62) ∧
 ∃ (s63 : ByteArray),
 w'55.cell? (Addr.mk b1 2 none) = some (Value.string s63) ∧
 ∃ (n64 : Int),
 w'55.cell? (Addr.mk b5 0 none) = some (Value.int IntKind.i64 n64) ∧
 ∃ (n65 : Int),
 w'55.cell? (Addr.mk b5 1 none) = some (Value.int IntKind.i64 n65) ∧
 ∃ (s66 : ByteArray),
 w'55.cell? (Addr.mk b5 2 none) = some (Value.string s66) ∧
 (n61 = n64 ∧ n62 = n65 ∧ s63 = s66 →
 ∃ (s68 : ByteArray), w'55.cell? (Addr.mk b1 2 none) = some (Value.string s68) ∧ R (Ending.returned (Value.bool (decide ((↑s68.size : Int) ≤ 1024)))) w'55) ∧
 (n61 ≠ n64 ∨ n62 ≠ n65 ∨ s63 ≠ s66 → R (Ending.returned (Value.bool false)) w'55)) ∧
 (4 ≤ n59 → R (Ending.returned (Value.bool false)) w'55)) ∧
 (n57 < 0 → R (Ending.returned (Value.bool false)) w'55)) ∧
 (n13 ≠ 2 →
 (n13 = 3 →
 ∃ (s74 : ByteArray),
 w'11.cell? (Addr.mk b1 2 none) = some (Value.string s74) ∧
 (∃ (u75 : Value), w'11.cell? (Addr.mk b5 2 none) = some u75) ∧
 w'11.frozen? (Addr.mk b5 2 none) = false ∧
 ∀ (w'76 : World),
 Put w'11 b5 2 [Value.string s74] w'76 →
 ∃ (n78 : Int),
 w'76.cell? (Addr.mk b1 0 none) = some (Value.int IntKind.i64 n78) ∧
 (0 ≤ n78 →
 ∃ (n80 : Int),
 w'76.cell? (Addr.mk b1 0 none) = some (Value.int IntKind.i64 n80) ∧
 (n80 < 4 →
 ∃ (n82 : Int),
 w'76.cell? (Addr.mk b1 0 none) = some (Value.int IntKind.i64 n82) ∧
 ∃ (n83 : Int),
 w'76.cell? (Addr.mk b1 1 none) = some (Value.int IntKind.i64 n83) ∧
 ∃ (s84 : ByteArray),
 w'76.cell? (Addr.mk b1 2 none) = some (Value.string s84) ∧
 ∃ (n85 : Int),
 w'76.cell? (Addr.mk b5 0 none) = some (Value.int IntKind.i64 n85) ∧
 ∃ (n86 : Int),
 w'76.cell? (Addr.mk b5 1 none) = some (Value.int IntKind.i64 n86) ∧
 ∃ (s87 : ByteArray),
 w'76.cell? (Addr.mk b5 2 none) = some (Value.string s87) ∧
 (n82 = n85 ∧ n83 = n86 ∧ s84 = s87 →
 ∃ (s89 : ByteArray), w'76.cell? (Addr.mk b1 2 none) = some (Value.string s89) ∧ R (Ending.returned (Value.bool (decide ((↑s89.size : Int) ≤ 1024)))) w'76) ∧
 (n82 ≠ n85 ∨ n83 ≠ n86 ∨ s84 ≠ s87 → R (Ending.returned (Value.bool false)) w'76)) ∧
 (4 ≤ n80 → R (Ending.returned (Value.bool false)) w'76)) ∧
 (n78 < 0 → R (Ending.returned (Value.bool false)) w'76)) ∧
 (n13 ≠ 3 →
 ∃ (n94 : Int),
 w'11.cell? (Addr.mk b1 0 none) = some (Value.int IntKind.i64 n94) ∧
 (0 ≤ n94 →
 ∃ (n96 : Int),
 w'11.cell? (Addr.mk b1 0 none) = some (Value.int IntKind.i64 n96) ∧
 (n96 < 4 →
 ∃ (n98 : Int),
 w'11.cell? (Addr.mk b1 0 none) = some (Value.int IntKind.i64 n98) ∧
 ∃ (n99 : Int),
 w'11.cell? (Addr.mk b1 1 none) = some (Value.int IntKind.i64 n99) ∧
 ∃ (s100 : ByteArray),
 w'11.cell? (Addr.mk b1 2 none) = some (Value.string s100) ∧
 ∃ (n101 : Int),
 w'11.cell? (Addr.mk b5 0 none) = some (Value.int IntKind.i64 n101) ∧
 ∃ (n102 : Int),
 w'11.cell? (Addr.mk b5 1 none) = some (Value.int IntKind.i64 n102) ∧
 ∃ (s103 : ByteArray),
 w'11.cell? (Addr.mk b5 2 none) = some (Value.string s103) ∧
 (n98 = n101 ∧ n99 = n102 ∧ s100 = s103 →
 ∃ (s105 : ByteArray), w'11.cell? (Addr.mk b1 2 none) = some (Value.string s105) ∧ R (Ending.returned (Value.bool (decide ((↑s105.size : Int) ≤ 1024)))) w'11) ∧
 (n98 ≠ n101 ∨ n99 ≠ n102 ∨ s100 ≠ s103 → R (Ending.returned (Value.bool false)) w'11)) ∧
 (4 ≤ n96 → R (Ending.returned (Value.bool false)) w'11)) ∧
 (n94 < 0 → R (Ending.returned (Value.bool false)) w'11)))))

set_option maxRecDepth 100000 in
theorem vright_eq (v0 : Int) (v1 : Int) (v2 : ByteArray) (w : World) (R : Ending → World → Prop) : vright_T v0 v1 v2 w R = vcFn Try.prog [] [] Try.f32 [Value.agg #[Value.int IntKind.i64 v0, Value.int IntKind.i64 v1, Value.string v2]] w R := by kernel_rfl

set_option maxRecDepth 100000 in
theorem vright_vc (v0 : Int) (v1 : Int) (v2 : ByteArray) (w : World) (R : Ending → World → Prop) (h : vright_T v0 v1 v2 w R) : Calls Try.prog 32 #[Value.agg #[Value.int IntKind.i64 v0, Value.int IntKind.i64 v1, Value.string v2]] w R :=
  calls_of_vc (args := [Value.agg #[Value.int IntKind.i64 v0, Value.int IntKind.i64 v1, Value.string v2]]) [] [] Try.mixed Try.func32 (cast (vright_eq _ _ _ w R) h)

set_option maxRecDepth 100000 in
def vcompare_T (a0 : Int) (a1 : Int) (a2 : ByteArray) (b0 : Int) (b1 : Int) (b2 : ByteArray) (w : World) (R : Ending → World → Prop) : Prop :=
  ∀ (b1_1 : Nat) (w'2 : World),
 New w (Obj.cells #[Value.int IntKind.i64 a0, Value.int IntKind.i64 a1, Value.string a2] 48) b1_1 w'2 →
 ∀ (b4 : Nat) (w'5 : World),
 New w'2 (Obj.cells #[Value.int IntKind.i64 b0, Value.int IntKind.i64 b1, Value.string b2] 48) b4 w'5 →
 ∀ (w'7 : World),
 Drew w'5 w'7 →
 ∃ (n9 : Int),
 w'7.cell? (Addr.mk b1_1 0 none) = some (Value.int IntKind.i64 n9) ∧
 ∃ (n10 : Int),
 w'7.cell? (Addr.mk b4 0 none) = some (Value.int IntKind.i64 n10) ∧
 ∃ (n11 : Int),
 w'7.cell? (Addr.mk b1_1 1 none) = some (Value.int IntKind.i64 n11) ∧
 ∃ (n12 : Int),
 w'7.cell? (Addr.mk b4 1 none) = some (Value.int IntKind.i64 n12) ∧
 ∃ (s13 : ByteArray),
 w'7.cell? (Addr.mk b1_1 2 none) = some (Value.string s13) ∧
 ∃ (s14 : ByteArray),
 w'7.cell? (Addr.mk b4 2 none) = some (Value.string s14) ∧
 Calls Try.prog 45 #[Value.int IntKind.i64 n9, Value.int IntKind.i64 n10] w'7 fun (e15 : Ending) (w16 : World) ↦
 ∃ (n17 : Int),
 e15 = Ending.returned (Value.int IntKind.i64 n17) ∧
 Same w'7 w16 ∧
 Calls Try.prog 46 #[Value.int IntKind.i64 n11, Value.int IntKind.i64 n12] w16 fun (e18 : Ending) (w19 : World) ↦
 ∃ (n20 : Int),
 e18 = Ending.returned (Value.int IntKind.i64 n20) ∧
 Same w16 w19 ∧
 Calls Try.prog 47 #[Value.string s13, Value.string s14] w19 fun (e21 : Ending) (w22 : World) ↦
 ∃ (n23 : Int),
 e21 = Ending.returned (Value.int IntKind.i64 n23) ∧
 ∀ (b24 : Nat) (w'25 : World),
 New w22 (Obj.cells #[Value.int IntKind.i64 n17, Value.int IntKind.i64 n20, Value.int IntKind.i64 n23] 3) b24 w'25 →
 Calls Try.prog 44 #[Value.slice (some (Addr.mk b24 0 none)) 3 3] w'25 fun (e27 : Ending) (w28 : World) ↦
 ∃ (n29 : Int), e27 = Ending.returned (Value.int IntKind.i64 n29) ∧ R (Ending.returned (Value.int IntKind.i64 n29)) w28

set_option maxRecDepth 100000 in
theorem vcompare_eq (a0 : Int) (a1 : Int) (a2 : ByteArray) (b0 : Int) (b1 : Int) (b2 : ByteArray) (w : World) (R : Ending → World → Prop) : vcompare_T a0 a1 a2 b0 b1 b2 w R = vcFn Try.prog [] [(1, [0, 2, 4, 6, 10, 12, 14, 16, 20, 22, 24, 26, 9, 19, 28, 30, 32, 34])] Try.f35 [Value.agg #[Value.int IntKind.i64 a0, Value.int IntKind.i64 a1, Value.string a2], Value.agg #[Value.int IntKind.i64 b0, Value.int IntKind.i64 b1, Value.string b2]] w R := by kernel_rfl

set_option maxRecDepth 100000 in
theorem vcompare_vc (a0 : Int) (a1 : Int) (a2 : ByteArray) (b0 : Int) (b1 : Int) (b2 : ByteArray) (w : World) (R : Ending → World → Prop) (h : vcompare_T a0 a1 a2 b0 b1 b2 w R) : Calls Try.prog 35 #[Value.agg #[Value.int IntKind.i64 a0, Value.int IntKind.i64 a1, Value.string a2], Value.agg #[Value.int IntKind.i64 b0, Value.int IntKind.i64 b1, Value.string b2]] w R :=
  calls_of_vc (args := [Value.agg #[Value.int IntKind.i64 a0, Value.int IntKind.i64 a1, Value.string a2], Value.agg #[Value.int IntKind.i64 b0, Value.int IntKind.i64 b1, Value.string b2]]) [] [(1, [0, 2, 4, 6, 10, 12, 14, 16, 20, 22, 24, 26, 9, 19, 28, 30, 32, 34])] Try.mixed Try.func35 (cast (vcompare_eq _ _ _ _ _ _ w R) h)

set_option maxRecDepth 100000 in
def rvright_T (v0 : Int) (v1 : Int) (v2 : ByteArray) (w : World) (R : Ending → World → Prop) : Prop :=
  ∀ (b1 : Nat) (w'2 : World),
 New w (Obj.cells #[Value.int IntKind.i64 v0, Value.int IntKind.i64 v1, Value.string v2] 48) b1 w'2 →
 ∃ (n4 : Int),
 w'2.cell? (Addr.mk b1 0 none) = some (Value.int IntKind.i64 n4) ∧
 (n4 = 0 →
 ∃ (n6 : Int),
 w'2.cell? (Addr.mk b1 1 none) = some (Value.int IntKind.i64 n6) ∧
 (n6 = 0 → ∃ (s8 : ByteArray), w'2.cell? (Addr.mk b1 2 none) = some (Value.string s8) ∧ R (Ending.returned (Value.bool (sEq s8 (ByteArray.mk #[])))) w'2) ∧
 (n6 ≠ 0 → R (Ending.returned (Value.bool false)) w'2)) ∧
 (n4 ≠ 0 →
 (n4 = 1 → ∃ (s12 : ByteArray), w'2.cell? (Addr.mk b1 2 none) = some (Value.string s12) ∧ R (Ending.returned (Value.bool (sEq s12 (ByteArray.mk #[])))) w'2) ∧
 (n4 ≠ 1 →
 (n4 = 2 →
 ∃ (n15 : Int),
 w'2.cell? (Addr.mk b1 1 none) = some (Value.int IntKind.i64 n15) ∧
 (n15 = 0 → ∃ (s17 : ByteArray), w'2.cell? (Addr.mk b1 2 none) = some (Value.string s17) ∧ R (Ending.returned (Value.bool (sEq s17 (ByteArray.mk #[])))) w'2) ∧
 (n15 ≠ 0 →
 ∃ (n19 : Int),
 w'2.cell? (Addr.mk b1 1 none) = some (Value.int IntKind.i64 n19) ∧
 (n19 = 1 → ∃ (s21 : ByteArray), w'2.cell? (Addr.mk b1 2 none) = some (Value.string s21) ∧ R (Ending.returned (Value.bool (sEq s21 (ByteArray.mk #[])))) w'2) ∧
 (n19 ≠ 1 → R (Ending.returned (Value.bool false)) w'2))) ∧
 (n4 ≠ 2 →
 (n4 = 3 →
 ∃ (n25 : Int),
 w'2.cell? (Addr.mk b1 1 none) = some (Value.int IntKind.i64 n25) ∧
 (n25 = 0 → ∃ (s27 : ByteArray), w'2.cell? (Addr.mk b1 2 none) = some (Value.string s27) ∧ R (Ending.returned (Value.bool (decide ((↑s27.size : Int) ≤ 1024)))) w'2) ∧
 (n25 ≠ 0 → R (Ending.returned (Value.bool false)) w'2)) ∧
 (n4 ≠ 3 → R (Ending.returned (Value.bool false)) w'2))))

set_option maxRecDepth 100000 in
theorem rvright_eq (v0 : Int) (v1 : Int) (v2 : ByteArray) (w : World) (R : Ending → World → Prop) : rvright_T v0 v1 v2 w R = vcFn Try.prog [] [] Try.f36 [Value.agg #[Value.int IntKind.i64 v0, Value.int IntKind.i64 v1, Value.string v2]] w R := by kernel_rfl

set_option maxRecDepth 100000 in
theorem rvright_vc (v0 : Int) (v1 : Int) (v2 : ByteArray) (w : World) (R : Ending → World → Prop) (h : rvright_T v0 v1 v2 w R) : Calls Try.prog 36 #[Value.agg #[Value.int IntKind.i64 v0, Value.int IntKind.i64 v1, Value.string v2]] w R :=
  calls_of_vc (args := [Value.agg #[Value.int IntKind.i64 v0, Value.int IntKind.i64 v1, Value.string v2]]) [] [] Try.mixed Try.func36 (cast (rvright_eq _ _ _ w R) h)

set_option maxRecDepth 100000 in
def rvcompare_T (a0 : Int) (a1 : Int) (a2 : ByteArray) (b0 : Int) (b1 : Int) (b2 : ByteArray) (w : World) (R : Ending → World → Prop) : Prop :=
  ∀ (b1_1 : Nat) (w'2 : World),
 New w (Obj.cells #[Value.int IntKind.i64 a0, Value.int IntKind.i64 a1, Value.string a2] 48) b1_1 w'2 →
 ∀ (b4 : Nat) (w'5 : World),
 New w'2 (Obj.cells #[Value.int IntKind.i64 b0, Value.int IntKind.i64 b1, Value.string b2] 48) b4 w'5 →
 ∃ (n7 : Int),
 w'5.cell? (Addr.mk b1_1 0 none) = some (Value.int IntKind.i64 n7) ∧
 ∃ (n8 : Int),
 w'5.cell? (Addr.mk b1_1 1 none) = some (Value.int IntKind.i64 n8) ∧
 ∃ (s9 : ByteArray),
 w'5.cell? (Addr.mk b1_1 2 none) = some (Value.string s9) ∧
 ∃ (n10 : Int),
 w'5.cell? (Addr.mk b4 0 none) = some (Value.int IntKind.i64 n10) ∧
 ∃ (n11 : Int),
 w'5.cell? (Addr.mk b4 1 none) = some (Value.int IntKind.i64 n11) ∧
 ∃ (s12 : ByteArray),
 w'5.cell? (Addr.mk b4 2 none) = some (Value.string s12) ∧
 Calls Try.prog 48
 #[Value.agg #[Value.int IntKind.i64 n7, Value.int IntKind.i64 n8, Value.string s9], Value.agg #[Value.int IntKind.i64 n10, Value.int IntKind.i64 n11, Value.string s12]]
 w'5 fun (e13 : Ending) (w14 : World) ↦
 ∃ (b15 : Bool),
 e13 = Ending.returned (Value.bool b15) ∧
 ∃ (n16 : Int),
 w14.cell? (Addr.mk b4 0 none) = some (Value.int IntKind.i64 n16) ∧
 ∃ (n17 : Int),
 w14.cell? (Addr.mk b4 1 none) = some (Value.int IntKind.i64 n17) ∧
 ∃ (s18 : ByteArray),
 w14.cell? (Addr.mk b4 2 none) = some (Value.string s18) ∧
 ∃ (n19 : Int),
 w14.cell? (Addr.mk b1_1 0 none) = some (Value.int IntKind.i64 n19) ∧
 ∃ (n20 : Int),
 w14.cell? (Addr.mk b1_1 1 none) = some (Value.int IntKind.i64 n20) ∧
 ∃ (s21 : ByteArray),
 w14.cell? (Addr.mk b1_1 2 none) = some (Value.string s21) ∧
 Calls Try.prog 48
 #[Value.agg #[Value.int IntKind.i64 n16, Value.int IntKind.i64 n17, Value.string s18],
 Value.agg #[Value.int IntKind.i64 n19, Value.int IntKind.i64 n20, Value.string s21]]
 w14 fun (e22 : Ending) (w23 : World) ↦
 ∃ (b24 : Bool),
 e22 = Ending.returned (Value.bool b24) ∧
 (b15 = true → R (Ending.returned (Value.int IntKind.i64 (-1))) w23) ∧
 (b15 = false → (b24 = true → R (Ending.returned (Value.int IntKind.i64 1)) w23) ∧ (b24 = false → R (Ending.returned (Value.int IntKind.i64 0)) w23))

set_option maxRecDepth 100000 in
theorem rvcompare_eq (a0 : Int) (a1 : Int) (a2 : ByteArray) (b0 : Int) (b1 : Int) (b2 : ByteArray) (w : World) (R : Ending → World → Prop) : rvcompare_T a0 a1 a2 b0 b1 b2 w R = vcFn Try.prog [] [] Try.f37 [Value.agg #[Value.int IntKind.i64 a0, Value.int IntKind.i64 a1, Value.string a2], Value.agg #[Value.int IntKind.i64 b0, Value.int IntKind.i64 b1, Value.string b2]] w R := by kernel_rfl

set_option maxRecDepth 100000 in
theorem rvcompare_vc (a0 : Int) (a1 : Int) (a2 : ByteArray) (b0 : Int) (b1 : Int) (b2 : ByteArray) (w : World) (R : Ending → World → Prop) (h : rvcompare_T a0 a1 a2 b0 b1 b2 w R) : Calls Try.prog 37 #[Value.agg #[Value.int IntKind.i64 a0, Value.int IntKind.i64 a1, Value.string a2], Value.agg #[Value.int IntKind.i64 b0, Value.int IntKind.i64 b1, Value.string b2]] w R :=
  calls_of_vc (args := [Value.agg #[Value.int IntKind.i64 a0, Value.int IntKind.i64 a1, Value.string a2], Value.agg #[Value.int IntKind.i64 b0, Value.int IntKind.i64 b1, Value.string b2]]) [] [] Try.mixed Try.func37 (cast (rvcompare_eq _ _ _ _ _ _ w R) h)

set_option maxRecDepth 100000 in
def rvless_T (a0 : Int) (a1 : Int) (a2 : ByteArray) (b0 : Int) (b1 : Int) (b2 : ByteArray) (w : World) (R : Ending → World → Prop) : Prop :=
  ∀ (b1_1 : Nat) (w'2 : World),
 New w (Obj.cells #[Value.int IntKind.i64 a0, Value.int IntKind.i64 a1, Value.string a2] 48) b1_1 w'2 →
 ∀ (b4 : Nat) (w'5 : World),
 New w'2 (Obj.cells #[Value.int IntKind.i64 b0, Value.int IntKind.i64 b1, Value.string b2] 48) b4 w'5 →
 ∃ (n7 : Int),
 w'5.cell? (Addr.mk b1_1 0 none) = some (Value.int IntKind.i64 n7) ∧
 ∃ (n8 : Int),
 w'5.cell? (Addr.mk b4 0 none) = some (Value.int IntKind.i64 n8) ∧
 (n7 ≠ n8 →
 ∃ (n10 : Int),
 w'5.cell? (Addr.mk b1_1 0 none) = some (Value.int IntKind.i64 n10) ∧
 ∃ (n11 : Int), w'5.cell? (Addr.mk b4 0 none) = some (Value.int IntKind.i64 n11) ∧ R (Ending.returned (Value.bool (decide (n10 < n11)))) w'5) ∧
 (n7 = n8 →
 ∃ (n13 : Int),
 w'5.cell? (Addr.mk b1_1 0 none) = some (Value.int IntKind.i64 n13) ∧
 (n13 = 3 →
 ∃ (s15 : ByteArray),
 w'5.cell? (Addr.mk b1_1 2 none) = some (Value.string s15) ∧
 ∃ (s16 : ByteArray), w'5.cell? (Addr.mk b4 2 none) = some (Value.string s16) ∧ R (Ending.returned (Value.bool (sLt s15 s16))) w'5) ∧
 (n13 ≠ 3 →
 ∃ (n18 : Int),
 w'5.cell? (Addr.mk b1_1 1 none) = some (Value.int IntKind.i64 n18) ∧
 ∃ (n19 : Int), w'5.cell? (Addr.mk b4 1 none) = some (Value.int IntKind.i64 n19) ∧ R (Ending.returned (Value.bool (decide (n18 < n19)))) w'5))

set_option maxRecDepth 100000 in
theorem rvless_eq (a0 : Int) (a1 : Int) (a2 : ByteArray) (b0 : Int) (b1 : Int) (b2 : ByteArray) (w : World) (R : Ending → World → Prop) : rvless_T a0 a1 a2 b0 b1 b2 w R = vcFn Try.prog [] [] Try.f48 [Value.agg #[Value.int IntKind.i64 a0, Value.int IntKind.i64 a1, Value.string a2], Value.agg #[Value.int IntKind.i64 b0, Value.int IntKind.i64 b1, Value.string b2]] w R := by kernel_rfl

set_option maxRecDepth 100000 in
theorem rvless_vc (a0 : Int) (a1 : Int) (a2 : ByteArray) (b0 : Int) (b1 : Int) (b2 : ByteArray) (w : World) (R : Ending → World → Prop) (h : rvless_T a0 a1 a2 b0 b1 b2 w R) : Calls Try.prog 48 #[Value.agg #[Value.int IntKind.i64 a0, Value.int IntKind.i64 a1, Value.string a2], Value.agg #[Value.int IntKind.i64 b0, Value.int IntKind.i64 b1, Value.string b2]] w R :=
  calls_of_vc (args := [Value.agg #[Value.int IntKind.i64 a0, Value.int IntKind.i64 a1, Value.string a2], Value.agg #[Value.int IntKind.i64 b0, Value.int IntKind.i64 b1, Value.string b2]]) [] [] Try.mixed Try.func48 (cast (rvless_eq _ _ _ _ _ _ w R) h)

set_option maxRecDepth 100000 in
def cmpor_T (vals_p : Option Addr) (vals_n : Nat) (vals_c : Nat) (w : World) (R : Ending → World → Prop) : Prop :=
  ∃ (I1 : Int → World → Prop),
 ∃ (M2 : Int → World → Nat),
 I1 0 w ∧
 ∀ (n3 : Int) (w'4 : World),
 I1 n3 w'4 →
 (n3 < (↑vals_n : Int) →
 ∃ (b7 : Nat),
 ∃ (o8 : Nat),
 vals_p = some (Addr.mk b7 o8 none) ∧
 0 ≤ n3 ∧
 n3 < (↑vals_n : Int) ∧
 ∃ (n9 : Int),
 w'4.cell? (Addr.mk b7 (o8 + n3.toNat) none) = some (Value.int IntKind.i64 n9) ∧
 (n9 ≠ 0 → R (Ending.returned (Value.int IntKind.i64 n9)) w'4) ∧ (n9 = 0 → I1 (IntKind.i64.wrap (n3 + 1)) w'4 ∧ M2 (IntKind.i64.wrap (n3 + 1)) w'4 < M2 n3 w'4)) ∧
 ((↑vals_n : Int) ≤ n3 → R (Ending.returned (Value.int IntKind.i64 0)) w'4)

set_option maxRecDepth 100000 in
theorem cmpor_eq (vals_p : Option Addr) (vals_n : Nat) (vals_c : Nat) (w : World) (R : Ending → World → Prop) : cmpor_T vals_p vals_n vals_c w R = vcFn Try.prog [] [] Try.f44 [Value.slice vals_p vals_n vals_c] w R := by kernel_rfl

set_option maxRecDepth 100000 in
theorem cmpor_vc (vals_p : Option Addr) (vals_n : Nat) (vals_c : Nat) (w : World) (R : Ending → World → Prop) (h : cmpor_T vals_p vals_n vals_c w R) : Calls Try.prog 44 #[Value.slice vals_p vals_n vals_c] w R :=
  calls_of_vc (args := [Value.slice vals_p vals_n vals_c]) [] [] Try.mixed Try.func44 (cast (cmpor_eq _ _ _ w R) h)

set_option maxRecDepth 100000 in
def cmpint_T (x : Int) (y : Int) (w : World) (R : Ending → World → Prop) : Prop :=
  Calls Try.prog 52 #[Value.int IntKind.i64 x] w fun (e1 : Ending) (w2 : World) ↦
 ∃ (b3 : Bool),
 e1 = Ending.returned (Value.bool b3) ∧
 Calls Try.prog 52 #[Value.int IntKind.i64 y] w2 fun (e4 : Ending) (w5 : World) ↦
 ∃ (b6 : Bool),
 e4 = Ending.returned (Value.bool b6) ∧
 (b3 = true → (b6 = true → R (Ending.returned (Value.int IntKind.i64 0)) w5) ∧ (b6 = false → R (Ending.returned (Value.int IntKind.i64 (-1))) w5)) ∧
 (b3 = false →
 (b6 = true → R (Ending.returned (Value.int IntKind.i64 1)) w5) ∧
 (b6 = false →
 (x < y → R (Ending.returned (Value.int IntKind.i64 (-1))) w5) ∧
 (y ≤ x → (y < x → R (Ending.returned (Value.int IntKind.i64 1)) w5) ∧ (x ≤ y → R (Ending.returned (Value.int IntKind.i64 0)) w5))))

set_option maxRecDepth 100000 in
theorem cmpint_eq (x : Int) (y : Int) (w : World) (R : Ending → World → Prop) : cmpint_T x y w R = vcFn Try.prog [] [] Try.f45 [Value.int IntKind.i64 x, Value.int IntKind.i64 y] w R := by kernel_rfl

set_option maxRecDepth 100000 in
theorem cmpint_vc (x : Int) (y : Int) (w : World) (R : Ending → World → Prop) (h : cmpint_T x y w R) : Calls Try.prog 45 #[Value.int IntKind.i64 x, Value.int IntKind.i64 y] w R :=
  calls_of_vc (args := [Value.int IntKind.i64 x, Value.int IntKind.i64 y]) [] [] Try.mixed Try.func45 (cast (cmpint_eq _ _ w R) h)

set_option maxRecDepth 100000 in
def cmpint64_T (x : Int) (y : Int) (w : World) (R : Ending → World → Prop) : Prop :=
  Calls Try.prog 53 #[Value.int IntKind.i64 x] w fun (e1 : Ending) (w2 : World) ↦
 ∃ (b3 : Bool),
 e1 = Ending.returned (Value.bool b3) ∧
 Calls Try.prog 53 #[Value.int IntKind.i64 y] w2 fun (e4 : Ending) (w5 : World) ↦
 ∃ (b6 : Bool),
 e4 = Ending.returned (Value.bool b6) ∧
 (b3 = true → (b6 = true → R (Ending.returned (Value.int IntKind.i64 0)) w5) ∧ (b6 = false → R (Ending.returned (Value.int IntKind.i64 (-1))) w5)) ∧
 (b3 = false →
 (b6 = true → R (Ending.returned (Value.int IntKind.i64 1)) w5) ∧
 (b6 = false →
 (x < y → R (Ending.returned (Value.int IntKind.i64 (-1))) w5) ∧
 (y ≤ x → (y < x → R (Ending.returned (Value.int IntKind.i64 1)) w5) ∧ (x ≤ y → R (Ending.returned (Value.int IntKind.i64 0)) w5))))

set_option maxRecDepth 100000 in
theorem cmpint64_eq (x : Int) (y : Int) (w : World) (R : Ending → World → Prop) : cmpint64_T x y w R = vcFn Try.prog [] [] Try.f46 [Value.int IntKind.i64 x, Value.int IntKind.i64 y] w R := by kernel_rfl

set_option maxRecDepth 100000 in
theorem cmpint64_vc (x : Int) (y : Int) (w : World) (R : Ending → World → Prop) (h : cmpint64_T x y w R) : Calls Try.prog 46 #[Value.int IntKind.i64 x, Value.int IntKind.i64 y] w R :=
  calls_of_vc (args := [Value.int IntKind.i64 x, Value.int IntKind.i64 y]) [] [] Try.mixed Try.func46 (cast (cmpint64_eq _ _ w R) h)

set_option maxRecDepth 100000 in
def isnani_T (x : Int) (w : World) (R : Ending → World → Prop) : Prop :=
  R (Ending.returned (Value.bool !decide (x = x))) w

set_option maxRecDepth 100000 in
theorem isnani_eq (x : Int) (w : World) (R : Ending → World → Prop) : isnani_T x w R = vcFn Try.prog [] [] Try.f52 [Value.int IntKind.i64 x] w R := by kernel_rfl

set_option maxRecDepth 100000 in
theorem isnani_vc (x : Int) (w : World) (R : Ending → World → Prop) (h : isnani_T x w R) : Calls Try.prog 52 #[Value.int IntKind.i64 x] w R :=
  calls_of_vc (args := [Value.int IntKind.i64 x]) [] [] Try.mixed Try.func52 (cast (isnani_eq _ w R) h)

set_option maxRecDepth 100000 in
def isnani64_T (x : Int) (w : World) (R : Ending → World → Prop) : Prop :=
  R (Ending.returned (Value.bool !decide (x = x))) w

set_option maxRecDepth 100000 in
theorem isnani64_eq (x : Int) (w : World) (R : Ending → World → Prop) : isnani64_T x w R = vcFn Try.prog [] [] Try.f53 [Value.int IntKind.i64 x] w R := by kernel_rfl

set_option maxRecDepth 100000 in
theorem isnani64_vc (x : Int) (w : World) (R : Ending → World → Prop) (h : isnani64_T x w R) : Calls Try.prog 53 #[Value.int IntKind.i64 x] w R :=
  calls_of_vc (args := [Value.int IntKind.i64 x]) [] [] Try.mixed Try.func53 (cast (isnani64_eq _ w R) h)

set_option maxRecDepth 100000 in
def strcmp_T (a : ByteArray) (b : ByteArray) (w : World) (R : Ending → World → Prop) : Prop :=
  Calls Try.prog 54 #[Value.string a, Value.string b] w fun (e1 : Ending) (w2 : World) ↦
 ∃ (n3 : Int), e1 = Ending.returned (Value.int IntKind.i64 n3) ∧ R (Ending.returned (Value.int IntKind.i64 n3)) w2

set_option maxRecDepth 100000 in
theorem strcmp_eq (a : ByteArray) (b : ByteArray) (w : World) (R : Ending → World → Prop) : strcmp_T a b w R = vcFn Try.prog [] [] Try.f47 [Value.string a, Value.string b] w R := by kernel_rfl

set_option maxRecDepth 100000 in
theorem strcmp_vc (a : ByteArray) (b : ByteArray) (w : World) (R : Ending → World → Prop) (h : strcmp_T a b w R) : Calls Try.prog 47 #[Value.string a, Value.string b] w R :=
  calls_of_vc (args := [Value.string a, Value.string b]) [] [] Try.mixed Try.func47 (cast (strcmp_eq _ _ w R) h)

set_option maxRecDepth 100000 in
def samerow_T (a_p : Option Addr) (a_n : Nat) (a_c : Nat) (b_p : Option Addr) (b_n : Nat) (b_c : Nat) (w : World) (R : Ending → World → Prop) : Prop :=
  ((↑a_n : Int) ≠ (↑b_n : Int) → R (Ending.returned (Value.bool false)) w) ∧
 ((↑a_n : Int) = (↑b_n : Int) →
 ∃ (I3 : Int → World → Prop),
 ∃ (M4 : Int → World → Nat),
 I3 0 w ∧
 ∀ (n5 : Int) (w'6 : World),
 I3 n5 w'6 →
 (n5 < (↑a_n : Int) →
 ∀ (w'9 : World),
 Drew w'6 w'9 →
 ∃ (b11 : Nat),
 ∃ (o12 : Nat),
 a_p = some (Addr.mk b11 o12 none) ∧
 0 ≤ n5 ∧
 n5 < (↑a_n : Int) ∧
 ∃ (n13 : Int),
 w'9.cell? (Addr.mk b11 (o12 + n5.toNat * 3) none) = some (Value.int IntKind.i64 n13) ∧
 ∃ (n14 : Int),
 w'9.cell? (Addr.mk b11 (o12 + n5.toNat * 3 + 1) none) = some (Value.int IntKind.i64 n14) ∧
 ∃ (s15 : ByteArray),
 w'9.cell? (Addr.mk b11 (o12 + n5.toNat * 3 + 2) none) = some (Value.string s15) ∧
 ∃ (b16 : Nat),
 ∃ (o17 : Nat),
 b_p = some (Addr.mk b16 o17 none) ∧
 0 ≤ n5 ∧
 n5 < (↑b_n : Int) ∧
 ∃ (n18 : Int),
 w'9.cell? (Addr.mk b16 (o17 + n5.toNat * 3) none) = some (Value.int IntKind.i64 n18) ∧
 ∃ (n19 : Int),
 w'9.cell? (Addr.mk b16 (o17 + n5.toNat * 3 + 1) none) = some (Value.int IntKind.i64 n19) ∧
 ∃ (s20 : ByteArray),
 w'9.cell? (Addr.mk b16 (o17 + n5.toNat * 3 + 2) none) = some (Value.string s20) ∧
 (n13 ≠ n18 ∨ n14 ≠ n19 ∨ s15 ≠ s20 → R (Ending.returned (Value.bool false)) w'9) ∧
 (n13 = n18 ∧ n14 = n19 ∧ s15 = s20 → I3 (IntKind.i64.wrap (n5 + 1)) w'9 ∧ M4 (IntKind.i64.wrap (n5 + 1)) w'9 < M4 n5 w'6)) ∧
 ((↑a_n : Int) ≤ n5 → R (Ending.returned (Value.bool true)) w'6))

set_option maxRecDepth 100000 in
theorem samerow_eq (a_p : Option Addr) (a_n : Nat) (a_c : Nat) (b_p : Option Addr) (b_n : Nat) (b_c : Nat) (w : World) (R : Ending → World → Prop) : samerow_T a_p a_n a_c b_p b_n b_c w R = vcFn Try.prog [] [(6, [0, 2, 4, 6, 8, 10, 12, 14, 16])] Try.f13 [Value.slice a_p a_n a_c, Value.slice b_p b_n b_c] w R := by kernel_rfl

set_option maxRecDepth 100000 in
theorem samerow_vc (a_p : Option Addr) (a_n : Nat) (a_c : Nat) (b_p : Option Addr) (b_n : Nat) (b_c : Nat) (w : World) (R : Ending → World → Prop) (h : samerow_T a_p a_n a_c b_p b_n b_c w R) : Calls Try.prog 13 #[Value.slice a_p a_n a_c, Value.slice b_p b_n b_c] w R :=
  calls_of_vc (args := [Value.slice a_p a_n a_c, Value.slice b_p b_n b_c]) [] [(6, [0, 2, 4, 6, 8, 10, 12, 14, 16])] Try.mixed Try.func13 (cast (samerow_eq _ _ _ _ _ _ w R) h)

set_option maxRecDepth 100000 in
def samerows_T (a_p : Option Addr) (a_n : Nat) (a_c : Nat) (b_p : Option Addr) (b_n : Nat) (b_c : Nat) (w : World) (R : Ending → World → Prop) : Prop :=
  ((↑a_n : Int) ≠ (↑b_n : Int) → R (Ending.returned (Value.bool false)) w) ∧
 ((↑a_n : Int) = (↑b_n : Int) →
 ∃ (I3 : Int → World → Prop),
 ∃ (M4 : Int → World → Nat),
 I3 0 w ∧
 ∀ (n5 : Int) (w'6 : World),
 I3 n5 w'6 →
 (n5 < (↑a_n : Int) →
 ∀ (w'9 : World),
 Drew w'6 w'9 →
 ∃ (b11 : Nat),
 ∃ (o12 : Nat),
 a_p = some (Addr.mk b11 o12 none) ∧
 0 ≤ n5 ∧
 n5 < (↑a_n : Int) ∧
 ∃ (p13 : Option Addr),
 ∃ (n14 : Nat),
 ∃ (c15 : Nat),
 w'9.cell? (Addr.mk b11 (o12 + n5.toNat) none) = some (Value.slice p13 n14 c15) ∧
 ∃ (b16 : Nat),
 ∃ (o17 : Nat),
 b_p = some (Addr.mk b16 o17 none) ∧
 0 ≤ n5 ∧
 n5 < (↑b_n : Int) ∧
 ∃ (p18 : Option Addr),
 ∃ (n19 : Nat),
 ∃ (c20 : Nat),
 w'9.cell? (Addr.mk b16 (o17 + n5.toNat) none) = some (Value.slice p18 n19 c20) ∧
 Calls Try.prog 13 #[Value.slice p13 n14 c15, Value.slice p18 n19 c20] w'9 fun (e21 : Ending) (w22 : World) ↦
 ∃ (b23 : Bool),
 e21 = Ending.returned (Value.bool b23) ∧
 (b23 = false → R (Ending.returned (Value.bool false)) w22) ∧ (b23 = true → I3 (IntKind.i64.wrap (n5 + 1)) w22 ∧ M4 (IntKind.i64.wrap (n5 + 1)) w22 < M4 n5 w'6)) ∧
 ((↑a_n : Int) ≤ n5 → R (Ending.returned (Value.bool true)) w'6))

set_option maxRecDepth 100000 in
theorem samerows_eq (a_p : Option Addr) (a_n : Nat) (a_c : Nat) (b_p : Option Addr) (b_n : Nat) (b_c : Nat) (w : World) (R : Ending → World → Prop) : samerows_T a_p a_n a_c b_p b_n b_c w R = vcFn Try.prog [] [(6, [0, 2, 4, 6, 8, 10, 12, 14, 16, 18])] Try.f17 [Value.slice a_p a_n a_c, Value.slice b_p b_n b_c] w R := by kernel_rfl

set_option maxRecDepth 100000 in
theorem samerows_vc (a_p : Option Addr) (a_n : Nat) (a_c : Nat) (b_p : Option Addr) (b_n : Nat) (b_c : Nat) (w : World) (R : Ending → World → Prop) (h : samerows_T a_p a_n a_c b_p b_n b_c w R) : Calls Try.prog 17 #[Value.slice a_p a_n a_c, Value.slice b_p b_n b_c] w R :=
  calls_of_vc (args := [Value.slice a_p a_n a_c, Value.slice b_p b_n b_c]) [] [(6, [0, 2, 4, 6, 8, 10, 12, 14, 16, 18])] Try.mixed Try.func17 (cast (samerows_eq _ _ _ _ _ _ w R) h)


end Go.Proofs.Ytgcjhhlokncbfaa
