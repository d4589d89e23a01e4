/- The verification conditions of the functions, evaluated: printed by program. -/
import Derived.Test.YtdephmdfdgclpaaDoorBase
import Derived.Test.YtdephmdfdgclpaaDoorVcF
namespace Go.Proofs.YtdephmdfdgclpaaDoor
open Go Go.Vc

set_option maxRecDepth 100000 in
def vright_T (v0 : Int) (v1 : Int) (v2 : ByteArray) (w : World) (R : Ending → World → Prop) : Prop :=
  ∀ (b1 : Nat) (w'2 : World),
 New w (Obj.cells #[Value.int IntKind.i64 v0, Value.int IntKind.i64 v1, Value.string v2] 26) b1 w'2 →
 ∃ (n4 : Int),
 w'2.cell? (Addr.mk b1 0 none) = some (Value.int IntKind.i64 n4) ∧
 ∀ (b5 : Nat) (w'6 : World),
 New w'2 (Obj.cells #[Value.int IntKind.i64 0, Value.int IntKind.i64 0, Value.string (ByteArray.mk #[])] 26) b5 w'6 →
 (∃ (u8 : Value), w'6.cell? (Addr.mk b5 0 none) = some u8) ∧
 w'6.frozen? (Addr.mk b5 0 none) = false ∧
 (∃ (u9 : Value), w'6.cell? (Addr.mk b5 1 none) = some u9) ∧
 w'6.frozen? (Addr.mk b5 1 none) = false ∧
 (∃ (u10 : Value), w'6.cell? (Addr.mk b5 2 none) = some u10) ∧
 w'6.frozen? (Addr.mk b5 2 none) = false ∧
 ∀ (w'11 : World),
 Put w'6 b5 0 [Value.int IntKind.i64 n4, Value.int IntKind.i64 0, Value.string (ByteArray.mk #[])] w'11 →
 ∃ (n13 : Int),
 w'11.cell? (Addr.mk b1 0 none) = some (Value.int IntKind.i64 n13) ∧
 (n13 = 0 →
 ∃ (n15 : Int),
 w'11.cell? (Addr.mk b1 0 none) = some (Value.int IntKind.i64 n15) ∧
 (0 ≤ n15 →
 ∃ (n17 : Int),
 w'11.cell? (Addr.mk b1 0 none) = some (Value.int IntKind.i64 n17) ∧
 (n17 < 4 →
 ∃ (n19 : Int),
 w'11.cell? (Addr.mk b1 0 none) = some (Value.int IntKind.i64 n19) ∧
 ∃ (n20 : Int),
 w'11.cell? (Addr.mk b1 1 none) = some (Value.int IntKind.i64 n20) ∧
 ∃ (s21 : ByteArray),
 w'11.cell? (Addr.mk b1 2 none) = some (Value.string s21) ∧
 ∃ (n22 : Int),
 w'11.cell? (Addr.mk b5 0 none) = some (Value.int IntKind.i64 n22) ∧
 ∃ (n23 : Int),
 w'11.cell? (Addr.mk b5 1 none) = some (Value.int IntKind.i64 n23) ∧
 ∃ (s24 : ByteArray),
 w'11.cell? (Addr.mk b5 2 none) = some (Value.string s24) ∧
 (n19 = n22 ∧ n20 = n23 ∧ s21 = s24 →
 ∃ (s26 : ByteArray), w'11.cell? (Addr.mk b1 2 none) = some (Value.string s26) ∧ R (Ending.returned (Value.bool (decide ((↑s26.size : Int) ≤ 1024)))) w'11) ∧
 (n19 ≠ n22 ∨ n20 ≠ n23 ∨ s21 ≠ s24 → R (Ending.returned (Value.bool false)) w'11)) ∧
 (4 ≤ n17 → R (Ending.returned (Value.bool false)) w'11)) ∧
 (n15 < 0 → R (Ending.returned (Value.bool false)) w'11)) ∧
 (n13 ≠ 0 →
 (n13 = 1 →
 ∃ (n32 : Int),
 w'11.cell? (Addr.mk b1 1 none) = some (Value.int IntKind.i64 n32) ∧
 (∃ (u33 : Value), w'11.cell? (Addr.mk b5 1 none) = some u33) ∧
 w'11.frozen? (Addr.mk b5 1 none) = false ∧
 ∀ (w'34 : World),
 Put w'11 b5 1 [Value.int IntKind.i64 n32] w'34 →
 ∃ (n36 : Int),
 w'34.cell? (Addr.mk b1 0 none) = some (Value.int IntKind.i64 n36) ∧
 (0 ≤ n36 →
 ∃ (n38 : Int),
 w'34.cell? (Addr.mk b1 0 none) = some (Value.int IntKind.i64 n38) ∧
 (n38 < 4 →
 ∃ (n40 : Int),
 w'34.cell? (Addr.mk b1 0 none) = some (Value.int IntKind.i64 n40) ∧
 ∃ (n41 : Int),
 w'34.cell? (Addr.mk b1 1 none) = some (Value.int IntKind.i64 n41) ∧
 ∃ (s42 : ByteArray),
 w'34.cell? (Addr.mk b1 2 none) = some (Value.string s42) ∧
 ∃ (n43 : Int),
 w'34.cell? (Addr.mk b5 0 none) = some (Value.int IntKind.i64 n43) ∧
 ∃ (n44 : Int),
 w'34.cell? (Addr.mk b5 1 none) = some (Value.int IntKind.i64 n44) ∧
 ∃ (s45 : ByteArray),
 w'34.cell? (Addr.mk b5 2 none) = some (Value.string s45) ∧
 (n40 = n43 ∧ n41 = n44 ∧ s42 = s45 →
 ∃ (s47 : ByteArray), w'34.cell? (Addr.mk b1 2 none) = some (Value.string s47) ∧ R (Ending.returned (Value.bool (decide ((↑s47.size : Int) ≤ 1024)))) w'34) ∧
 (n40 ≠ n43 ∨ n41 ≠ n44 ∨ s42 ≠ s45 → R (Ending.returned (Value.bool false)) w'34)) ∧
 (4 ≤ n38 → R (Ending.returned (Value.bool false)) w'34)) ∧
 (n36 < 0 → R (Ending.returned (Value.bool false)) w'34)) ∧
 (n13 ≠ 1 →
 (n13 = 2 →
 ∃ (n53 : Int),
 w'11.cell? (Addr.mk b1 1 none) = some (Value.int IntKind.i64 n53) ∧
 (∃ (u54 : Value), w'11.cell? (Addr.mk b5 1 none) = some u54) ∧
 w'11.frozen? (Addr.mk b5 1 none) = false ∧
 ∀ (w'55 : World),
 Put w'11 b5 1 [Value.int IntKind.i64 (bits BinOp.and IntKind.i64 n53 1)] w'55 →
 ∃ (n57 : Int),
 w'55.cell? (Addr.mk b1 0 none) = some (Value.int IntKind.i64 n57) ∧
 (0 ≤ n57 →
 ∃ (n59 : Int),
 w'55.cell? (Addr.mk b1 0 none) = some (Value.int IntKind.i64 n59) ∧
 (n59 < 4 →
 ∃ (n61 : Int),
 w'55.cell? (Addr.mk b1 0 none) = some (Value.int IntKind.i64 n61) ∧
 ∃ (n62 : Int),
 w'55.cell? (Addr.mk b1 1 none) = some (Value.int IntKind.i64 n62) ∧
 ∃ (s63 : ByteArray),
 w'55.cell? (Addr.mk b1 2 none) = some (Value.string s63) ∧
 ∃ (n64 : Int),
 w'55.cell? (Addr.mk b5 0 none) = some (Value.int IntKind.i64 n64) ∧
 ∃ (n65 : Int),
 w'55.cell? (Addr.mk b5 1 none) = some (Value.int IntKind.i64 n65) ∧
 ∃ (s66 : ByteArray),
 w'55.cell? (Addr.mk b5 2 none) = some (Value.string s66) ∧
 (n61 = n64 ∧ n62 = n65 ∧ s63 = s66 →
 ∃ (s68 : ByteArray), w'55.cell? (Addr.mk b1 2 none) = some (Value.string s68) ∧ R (Ending.returned (Value.bool (decide ((↑s68.size : Int) ≤ 1024)))) w'55) ∧
 (n61 ≠ n64 ∨ n62 ≠ n65 ∨ s63 ≠ s66 → R (Ending.returned (Value.bool false)) w'55)) ∧
 (4 ≤ n59 → R (Ending.returned (Value.bool false)) w'55)) ∧
 (n57 < 0 → R (Ending.returned (Value.bool false)) w'55)) ∧
 (n13 ≠ 2 →
 (n13 = 3 →
 ∃ (s74 : ByteArray),
 w'11.cell? (Addr.mk b1 2 none) = some (Value.string s74) ∧
 (∃ (u75 : Value), w'11.cell? (Addr.mk b5 2 none) = some u75) ∧
 w'11.frozen? (Addr.mk b5 2 none) = false ∧
 ∀ (w'76 : World),
 Put w'11 b5 2 [Value.string s74] w'76 →
 ∃ (n78 : Int),
 w'76.cell? (Addr.mk b1 0 none) = some (Value.int IntKind.i64 n78) ∧
 (0 ≤ n78 →
 ∃ (n80 : Int),
 w'76.cell? (Addr.mk b1 0 none) = some (Value.int IntKind.i64 n80) ∧
 (n80 < 4 →
 ∃ (n82 : Int),
 w'76.cell? (Addr.mk b1 0 none) = some (Value.int IntKind.i64 n82) ∧
 ∃ (n83 : Int),
 w'76.cell? (Addr.mk b1 1 none) = some (Value.int IntKind.i64 n83) ∧
 ∃ (s84 : ByteArray),
 w'76.cell? (Addr.mk b1 2 none) = some (Value.string s84) ∧
 ∃ (n85 : Int),
 w'76.cell? (Addr.mk b5 0 none) = some (Value.int IntKind.i64 n85) ∧
 ∃ (n86 : Int),
 w'76.cell? (Addr.mk b5 1 none) = some (Value.int IntKind.i64 n86) ∧
 ∃ (s87 : ByteArray),
 w'76.cell? (Addr.mk b5 2 none) = some (Value.string s87) ∧
 (n82 = n85 ∧ n83 = n86 ∧ s84 = s87 →
 ∃ (s89 : ByteArray), w'76.cell? (Addr.mk b1 2 none) = some (Value.string s89) ∧ R (Ending.returned (Value.bool (decide ((↑s89.size : Int) ≤ 1024)))) w'76) ∧
 (n82 ≠ n85 ∨ n83 ≠ n86 ∨ s84 ≠ s87 → R (Ending.returned (Value.bool false)) w'76)) ∧
 (4 ≤ n80 → R (Ending.returned (Value.bool false)) w'76)) ∧
 (n78 < 0 → R (Ending.returned (Value.bool false)) w'76)) ∧
 (n13 ≠ 3 →
 ∃ (n94 : Int),
 w'11.cell? (Addr.mk b1 0 none) = some (Value.int IntKind.i64 n94) ∧
 (0 ≤ n94 →
 ∃ (n96 : Int),
 w'11.cell? (Addr.mk b1 0 none) = some (Value.int IntKind.i64 n96) ∧
 (n96 < 4 →
 ∃ (n98 : Int),
 w'11.cell? (Addr.mk b1 0 none) = some (Value.int IntKind.i64 n98) ∧
 ∃ (n99 : Int),
 w'11.cell? (Addr.mk b1 1 none) = some (Value.int IntKind.i64 n99) ∧
 ∃ (s100 : ByteArray),
 w'11.cell? (Addr.mk b1 2 none) = some (Value.string s100) ∧
 ∃ (n101 : Int),
 w'11.cell? (Addr.mk b5 0 none) = some (Value.int IntKind.i64 n101) ∧
 ∃ (n102 : Int),
 w'11.cell? (Addr.mk b5 1 none) = some (Value.int IntKind.i64 n102) ∧
 ∃ (s103 : ByteArray),
 w'11.cell? (Addr.mk b5 2 none) = some (Value.string s103) ∧
 (n98 = n101 ∧ n99 = n102 ∧ s100 = s103 →
 ∃ (s105 : ByteArray), w'11.cell? (Addr.mk b1 2 none) = some (Value.string s105) ∧ R (Ending.returned (Value.bool (decide ((↑s105.size : Int) ≤ 1024)))) w'11) ∧
 (n98 ≠ n101 ∨ n99 ≠ n102 ∨ s100 ≠ s103 → R (Ending.returned (Value.bool false)) w'11)) ∧
 (4 ≤ n96 → R (Ending.returned (Value.bool false)) w'11)) ∧
 (n94 < 0 → R (Ending.returned (Value.bool false)) w'11)))))

set_option maxRecDepth 100000 in
theorem vright_eq (v0 : Int) (v1 : Int) (v2 : ByteArray) (w : World) (R : Ending → World → Prop) : vright_T v0 v1 v2 w R = vcFn Tryd.prog [] [] Tryd.f43 [Value.agg #[Value.int IntKind.i64 v0, Value.int IntKind.i64 v1, Value.string v2]] w R := by kernel_rfl

set_option maxRecDepth 100000 in
theorem vright_vc (v0 : Int) (v1 : Int) (v2 : ByteArray) (w : World) (R : Ending → World → Prop) (h : vright_T v0 v1 v2 w R) : Calls Tryd.prog 43 #[Value.agg #[Value.int IntKind.i64 v0, Value.int IntKind.i64 v1, Value.string v2]] w R :=
  calls_of_vc (args := [Value.agg #[Value.int IntKind.i64 v0, Value.int IntKind.i64 v1, Value.string v2]]) [] [] Tryd.mixed Tryd.func43 (cast (vright_eq _ _ _ w R) h)

set_option maxRecDepth 100000 in
def vcompare_T (a0 : Int) (a1 : Int) (a2 : ByteArray) (b0 : Int) (b1 : Int) (b2 : ByteArray) (w : World) (R : Ending → World → Prop) : Prop :=
  ∀ (b1_1 : Nat) (w'2 : World),
 New w (Obj.cells #[Value.int IntKind.i64 a0, Value.int IntKind.i64 a1, Value.string a2] 26) b1_1 w'2 →
 ∀ (b4 : Nat) (w'5 : World),
 New w'2 (Obj.cells #[Value.int IntKind.i64 b0, Value.int IntKind.i64 b1, Value.string b2] 26) b4 w'5 →
 ∀ (w'7 : World),
 Drew w'5 w'7 →
 ∃ (n9 : Int),
 w'7.cell? (Addr.mk b1_1 0 none) = some (Value.int IntKind.i64 n9) ∧
 ∃ (n10 : Int),
 w'7.cell? (Addr.mk b4 0 none) = some (Value.int IntKind.i64 n10) ∧
 ∃ (n11 : Int),
 w'7.cell? (Addr.mk b1_1 1 none) = some (Value.int IntKind.i64 n11) ∧
 ∃ (n12 : Int),
 w'7.cell? (Addr.mk b4 1 none) = some (Value.int IntKind.i64 n12) ∧
 ∃ (s13 : ByteArray),
 w'7.cell? (Addr.mk b1_1 2 none) = some (Value.string s13) ∧
 ∃ (s14 : ByteArray),
 w'7.cell? (Addr.mk b4 2 none) = some (Value.string s14) ∧
 Calls Tryd.prog 101 #[Value.int IntKind.i64 n9, Value.int IntKind.i64 n10] w'7 fun (e15 : Ending) (w16 : World) ↦
 ∃ (n17 : Int),
 e15 = Ending.returned (Value.int IntKind.i64 n17) ∧
 Same w'7 w16 ∧
 Calls Tryd.prog 102 #[Value.int IntKind.i64 n11, Value.int IntKind.i64 n12] w16 fun (e18 : Ending) (w19 : World) ↦
 ∃ (n20 : Int),
 e18 = Ending.returned (Value.int IntKind.i64 n20) ∧
 Same w16 w19 ∧
 Calls Tryd.prog 103 #[Value.string s13, Value.string s14] w19 fun (e21 : Ending) (w22 : World) ↦
 ∃ (n23 : Int),
 e21 = Ending.returned (Value.int IntKind.i64 n23) ∧
 ∀ (b24 : Nat) (w'25 : World),
 New w22 (Obj.cells #[Value.int IntKind.i64 n17, Value.int IntKind.i64 n20, Value.int IntKind.i64 n23] 3) b24 w'25 →
 Calls Tryd.prog 100 #[Value.slice (some (Addr.mk b24 0 none)) 3 3] w'25 fun (e27 : Ending) (w28 : World) ↦
 ∃ (n29 : Int), e27 = Ending.returned (Value.int IntKind.i64 n29) ∧ R (Ending.returned (Value.int IntKind.i64 n29)) w28

set_option maxRecDepth 100000 in
theorem vcompare_eq (a0 : Int) (a1 : Int) (a2 : ByteArray) (b0 : Int) (b1 : Int) (b2 : ByteArray) (w : World) (R : Ending → World → Prop) : vcompare_T a0 a1 a2 b0 b1 b2 w R = vcFn Tryd.prog [] [(1, [2, 4, 6, 8, 12, 14, 16, 18, 22, 24, 26, 28, 11, 21, 30, 32, 34, 36, 0])] Tryd.f79 [Value.agg #[Value.int IntKind.i64 a0, Value.int IntKind.i64 a1, Value.string a2], Value.agg #[Value.int IntKind.i64 b0, Value.int IntKind.i64 b1, Value.string b2]] w R := by kernel_rfl

set_option maxRecDepth 100000 in
theorem vcompare_vc (a0 : Int) (a1 : Int) (a2 : ByteArray) (b0 : Int) (b1 : Int) (b2 : ByteArray) (w : World) (R : Ending → World → Prop) (h : vcompare_T a0 a1 a2 b0 b1 b2 w R) : Calls Tryd.prog 79 #[Value.agg #[Value.int IntKind.i64 a0, Value.int IntKind.i64 a1, Value.string a2], Value.agg #[Value.int IntKind.i64 b0, Value.int IntKind.i64 b1, Value.string b2]] w R :=
  calls_of_vc (args := [Value.agg #[Value.int IntKind.i64 a0, Value.int IntKind.i64 a1, Value.string a2], Value.agg #[Value.int IntKind.i64 b0, Value.int IntKind.i64 b1, Value.string b2]]) [] [(1, [2, 4, 6, 8, 12, 14, 16, 18, 22, 24, 26, 28, 11, 21, 30, 32, 34, 36, 0])] Tryd.mixed Tryd.func79 (cast (vcompare_eq _ _ _ _ _ _ w R) h)

set_option maxRecDepth 100000 in
def rvright_T (v0 : Int) (v1 : Int) (v2 : ByteArray) (w : World) (R : Ending → World → Prop) : Prop :=
  ∀ (b1 : Nat) (w'2 : World),
 New w (Obj.cells #[Value.int IntKind.i64 v0, Value.int IntKind.i64 v1, Value.string v2] 26) b1 w'2 →
 ∃ (n4 : Int),
 w'2.cell? (Addr.mk b1 0 none) = some (Value.int IntKind.i64 n4) ∧
 (n4 = 0 →
 ∃ (n6 : Int),
 w'2.cell? (Addr.mk b1 1 none) = some (Value.int IntKind.i64 n6) ∧
 (n6 = 0 → ∃ (s8 : ByteArray), w'2.cell? (Addr.mk b1 2 none) = some (Value.string s8) ∧ R (Ending.returned (Value.bool (sEq s8 (ByteArray.mk #[])))) w'2) ∧
 (n6 ≠ 0 → R (Ending.returned (Value.bool false)) w'2)) ∧
 (n4 ≠ 0 →
 (n4 = 1 → ∃ (s12 : ByteArray), w'2.cell? (Addr.mk b1 2 none) = some (Value.string s12) ∧ R (Ending.returned (Value.bool (sEq s12 (ByteArray.mk #[])))) w'2) ∧
 (n4 ≠ 1 →
 (n4 = 2 →
 ∃ (n15 : Int),
 w'2.cell? (Addr.mk b1 1 none) = some (Value.int IntKind.i64 n15) ∧
 (n15 = 0 → ∃ (s17 : ByteArray), w'2.cell? (Addr.mk b1 2 none) = some (Value.string s17) ∧ R (Ending.returned (Value.bool (sEq s17 (ByteArray.mk #[])))) w'2) ∧
 (n15 ≠ 0 →
 ∃ (n19 : Int),
 w'2.cell? (Addr.mk b1 1 none) = some (Value.int IntKind.i64 n19) ∧
 (n19 = 1 → ∃ (s21 : ByteArray), w'2.cell? (Addr.mk b1 2 none) = some (Value.string s21) ∧ R (Ending.returned (Value.bool (sEq s21 (ByteArray.mk #[])))) w'2) ∧
 (n19 ≠ 1 → R (Ending.returned (Value.bool false)) w'2))) ∧
 (n4 ≠ 2 →
 (n4 = 3 →
 ∃ (n25 : Int),
 w'2.cell? (Addr.mk b1 1 none) = some (Value.int IntKind.i64 n25) ∧
 (n25 = 0 → ∃ (s27 : ByteArray), w'2.cell? (Addr.mk b1 2 none) = some (Value.string s27) ∧ R (Ending.returned (Value.bool (decide ((↑s27.size : Int) ≤ 1024)))) w'2) ∧
 (n25 ≠ 0 → R (Ending.returned (Value.bool false)) w'2)) ∧
 (n4 ≠ 3 → R (Ending.returned (Value.bool false)) w'2))))

set_option maxRecDepth 100000 in
theorem rvright_eq (v0 : Int) (v1 : Int) (v2 : ByteArray) (w : World) (R : Ending → World → Prop) : rvright_T v0 v1 v2 w R = vcFn Tryd.prog [] [] Tryd.f30 [Value.agg #[Value.int IntKind.i64 v0, Value.int IntKind.i64 v1, Value.string v2]] w R := by kernel_rfl

set_option maxRecDepth 100000 in
theorem rvright_vc (v0 : Int) (v1 : Int) (v2 : ByteArray) (w : World) (R : Ending → World → Prop) (h : rvright_T v0 v1 v2 w R) : Calls Tryd.prog 30 #[Value.agg #[Value.int IntKind.i64 v0, Value.int IntKind.i64 v1, Value.string v2]] w R :=
  calls_of_vc (args := [Value.agg #[Value.int IntKind.i64 v0, Value.int IntKind.i64 v1, Value.string v2]]) [] [] Tryd.mixed Tryd.func30 (cast (rvright_eq _ _ _ w R) h)

set_option maxRecDepth 100000 in
def rvcompare_T (a0 : Int) (a1 : Int) (a2 : ByteArray) (b0 : Int) (b1 : Int) (b2 : ByteArray) (w : World) (R : Ending → World → Prop) : Prop :=
  ∀ (b1_1 : Nat) (w'2 : World),
 New w (Obj.cells #[Value.int IntKind.i64 a0, Value.int IntKind.i64 a1, Value.string a2] 26) b1_1 w'2 →
 ∀ (b4 : Nat) (w'5 : World),
 New w'2 (Obj.cells #[Value.int IntKind.i64 b0, Value.int IntKind.i64 b1, Value.string b2] 26) b4 w'5 →
 ∃ (n7 : Int),
 w'5.cell? (Addr.mk b1_1 0 none) = some (Value.int IntKind.i64 n7) ∧
 ∃ (n8 : Int),
 w'5.cell? (Addr.mk b1_1 1 none) = some (Value.int IntKind.i64 n8) ∧
 ∃ (s9 : ByteArray),
 w'5.cell? (Addr.mk b1_1 2 none) = some (Value.string s9) ∧
 ∃ (n10 : Int),
 w'5.cell? (Addr.mk b4 0 none) = some (Value.int IntKind.i64 n10) ∧
 ∃ (n11 : Int),
 w'5.cell? (Addr.mk b4 1 none) = some (Value.int IntKind.i64 n11) ∧
 ∃ (s12 : ByteArray),
 w'5.cell? (Addr.mk b4 2 none) = some (Value.string s12) ∧
 Calls Tryd.prog 105
 #[Value.agg #[Value.int IntKind.i64 n7, Value.int IntKind.i64 n8, Value.string s9], Value.agg #[Value.int IntKind.i64 n10, Value.int IntKind.i64 n11, Value.string s12]]
 w'5 fun (e13 : Ending) (w14 : World) ↦
 ∃ (b15 : Bool),
 e13 = Ending.returned (Value.bool b15) ∧
 ∃ (n16 : Int),
 w14.cell? (Addr.mk b4 0 none) = some (Value.int IntKind.i64 n16) ∧
 ∃ (n17 : Int),
 w14.cell? (Addr.mk b4 1 none) = some (Value.int IntKind.i64 n17) ∧
 ∃ (s18 : ByteArray),
 w14.cell? (Addr.mk b4 2 none) = some (Value.string s18) ∧
 ∃ (n19 : Int),
 w14.cell? (Addr.mk b1_1 0 none) = some (Value.int IntKind.i64 n19) ∧
 ∃ (n20 : Int),
 w14.cell? (Addr.mk b1_1 1 none) = some (Value.int IntKind.i64 n20) ∧
 ∃ (s21 : ByteArray),
 w14.cell? (Addr.mk b1_1 2 none) = some (Value.string s21) ∧
 Calls Tryd.prog 105
 #[Value.agg #[Value.int IntKind.i64 n16, Value.int IntKind.i64 n17, Value.string s18],
 Value.agg #[Value.int IntKind.i64 n19, Value.int IntKind.i64 n20, Value.string s21]]
 w14 fun (e22 : Ending) (w23 : World) ↦
 ∃ (b24 : Bool),
 e22 = Ending.returned (Value.bool b24) ∧
 (b15 = true → R (Ending.returned (Value.int IntKind.i64 (-1))) w23) ∧
 (b15 = false → (b24 = true → R (Ending.returned (Value.int IntKind.i64 1)) w23) ∧ (b24 = false → R (Ending.returned (Value.int IntKind.i64 0)) w23))

set_option maxRecDepth 100000 in
theorem rvcompare_eq (a0 : Int) (a1 : Int) (a2 : ByteArray) (b0 : Int) (b1 : Int) (b2 : ByteArray) (w : World) (R : Ending → World → Prop) : rvcompare_T a0 a1 a2 b0 b1 b2 w R = vcFn Tryd.prog [] [] Tryd.f83 [Value.agg #[Value.int IntKind.i64 a0, Value.int IntKind.i64 a1, Value.string a2], Value.agg #[Value.int IntKind.i64 b0, Value.int IntKind.i64 b1, Value.string b2]] w R := by kernel_rfl

set_option maxRecDepth 100000 in
theorem rvcompare_vc (a0 : Int) (a1 : Int) (a2 : ByteArray) (b0 : Int) (b1 : Int) (b2 : ByteArray) (w : World) (R : Ending → World → Prop) (h : rvcompare_T a0 a1 a2 b0 b1 b2 w R) : Calls Tryd.prog 83 #[Value.agg #[Value.int IntKind.i64 a0, Value.int IntKind.i64 a1, Value.string a2], Value.agg #[Value.int IntKind.i64 b0, Value.int IntKind.i64 b1, Value.string b2]] w R :=
  calls_of_vc (args := [Value.agg #[Value.int IntKind.i64 a0, Value.int IntKind.i64 a1, Value.string a2], Value.agg #[Value.int IntKind.i64 b0, Value.int IntKind.i64 b1, Value.string b2]]) [] [] Tryd.mixed Tryd.func83 (cast (rvcompare_eq _ _ _ _ _ _ w R) h)

set_option maxRecDepth 100000 in
def rvless_T (a0 : Int) (a1 : Int) (a2 : ByteArray) (b0 : Int) (b1 : Int) (b2 : ByteArray) (w : World) (R : Ending → World → Prop) : Prop :=
  ∀ (b1_1 : Nat) (w'2 : World),
 New w (Obj.cells #[Value.int IntKind.i64 a0, Value.int IntKind.i64 a1, Value.string a2] 26) b1_1 w'2 →
 ∀ (b4 : Nat) (w'5 : World),
 New w'2 (Obj.cells #[Value.int IntKind.i64 b0, Value.int IntKind.i64 b1, Value.string b2] 26) b4 w'5 →
 ∃ (n7 : Int),
 w'5.cell? (Addr.mk b1_1 0 none) = some (Value.int IntKind.i64 n7) ∧
 ∃ (n8 : Int),
 w'5.cell? (Addr.mk b4 0 none) = some (Value.int IntKind.i64 n8) ∧
 (n7 ≠ n8 →
 ∃ (n10 : Int),
 w'5.cell? (Addr.mk b1_1 0 none) = some (Value.int IntKind.i64 n10) ∧
 ∃ (n11 : Int), w'5.cell? (Addr.mk b4 0 none) = some (Value.int IntKind.i64 n11) ∧ R (Ending.returned (Value.bool (decide (n10 < n11)))) w'5) ∧
 (n7 = n8 →
 ∃ (n13 : Int),
 w'5.cell? (Addr.mk b1_1 0 none) = some (Value.int IntKind.i64 n13) ∧
 (n13 = 3 →
 ∃ (s15 : ByteArray),
 w'5.cell? (Addr.mk b1_1 2 none) = some (Value.string s15) ∧
 ∃ (s16 : ByteArray), w'5.cell? (Addr.mk b4 2 none) = some (Value.string s16) ∧ R (Ending.returned (Value.bool (sLt s15 s16))) w'5) ∧
 (n13 ≠ 3 →
 ∃ (n18 : Int),
 w'5.cell? (Addr.mk b1_1 1 none) = some (Value.int IntKind.i64 n18) ∧
 ∃ (n19 : Int), w'5.cell? (Addr.mk b4 1 none) = some (Value.int IntKind.i64 n19) ∧ R (Ending.returned (Value.bool (decide (n18 < n19)))) w'5))

set_option maxRecDepth 100000 in
theorem rvless_eq (a0 : Int) (a1 : Int) (a2 : ByteArray) (b0 : Int) (b1 : Int) (b2 : ByteArray) (w : World) (R : Ending → World → Prop) : rvless_T a0 a1 a2 b0 b1 b2 w R = vcFn Tryd.prog [] [] Tryd.f105 [Value.agg #[Value.int IntKind.i64 a0, Value.int IntKind.i64 a1, Value.string a2], Value.agg #[Value.int IntKind.i64 b0, Value.int IntKind.i64 b1, Value.string b2]] w R := by kernel_rfl

set_option maxRecDepth 100000 in
theorem rvless_vc (a0 : Int) (a1 : Int) (a2 : ByteArray) (b0 : Int) (b1 : Int) (b2 : ByteArray) (w : World) (R : Ending → World → Prop) (h : rvless_T a0 a1 a2 b0 b1 b2 w R) : Calls Tryd.prog 105 #[Value.agg #[Value.int IntKind.i64 a0, Value.int IntKind.i64 a1, Value.string a2], Value.agg #[Value.int IntKind.i64 b0, Value.int IntKind.i64 b1, Value.string b2]] w R :=
  calls_of_vc (args := [Value.agg #[Value.int IntKind.i64 a0, Value.int IntKind.i64 a1, Value.string a2], Value.agg #[Value.int IntKind.i64 b0, Value.int IntKind.i64 b1, Value.string b2]]) [] [] Tryd.mixed Tryd.func105 (cast (rvless_eq _ _ _ _ _ _ w R) h)

set_option maxRecDepth 100000 in
def cmpor_T (vals_p : Option Addr) (vals_n : Nat) (vals_c : Nat) (w : World) (R : Ending → World → Prop) : Prop :=
  ∃ (I1 : Int → World → Prop),
 ∃ (M2 : Int → World → Nat),
 I1 0 w ∧
 ∀ (n3 : Int) (w'4 : World),
 I1 n3 w'4 →
 (n3 < (↑vals_n : Int) →
 ∃ (b7 : Nat),
 ∃ (o8 : Nat),
 vals_p = some (Addr.mk b7 o8 none) ∧
 0 ≤ n3 ∧
 n3 < (↑vals_n : Int) ∧
 ∃ (n9 : Int),
 w'4.cell? (Addr.mk b7 (o8 + n3.toNat) none) = some (Value.int IntKind.i64 n9) ∧
 (n9 ≠ 0 → R (Ending.returned (Value.int IntKind.i64 n9)) w'4) ∧ (n9 = 0 → I1 (IntKind.i64.wrap (n3 + 1)) w'4 ∧ M2 (IntKind.i64.wrap (n3 + 1)) w'4 < M2 n3 w'4)) ∧
 ((↑vals_n : Int) ≤ n3 → R (Ending.returned (Value.int IntKind.i64 0)) w'4)

set_option maxRecDepth 100000 in
theorem cmpor_eq (vals_p : Option Addr) (vals_n : Nat) (vals_c : Nat) (w : World) (R : Ending → World → Prop) : cmpor_T vals_p vals_n vals_c w R = vcFn Tryd.prog [] [] Tryd.f100 [Value.slice vals_p vals_n vals_c] w R := by kernel_rfl

set_option maxRecDepth 100000 in
theorem cmpor_vc (vals_p : Option Addr) (vals_n : Nat) (vals_c : Nat) (w : World) (R : Ending → World → Prop) (h : cmpor_T vals_p vals_n vals_c w R) : Calls Tryd.prog 100 #[Value.slice vals_p vals_n vals_c] w R :=
  calls_of_vc (args := [Value.slice vals_p vals_n vals_c]) [] [] Tryd.mixed Tryd.func100 (cast (cmpor_eq _ _ _ w R) h)

set_option maxRecDepth 100000 in
def cmpint_T (x : Int) (y : Int) (w : World) (R : Ending → World → Prop) : Prop :=
  Calls Tryd.prog 112 #[Value.int IntKind.i64 x] w fun (e1 : Ending) (w2 : World) ↦
 ∃ (b3 : Bool),
 e1 = Ending.returned (Value.bool b3) ∧
 Calls Tryd.prog 112 #[Value.int IntKind.i64 y] w2 fun (e4 : Ending) (w5 : World) ↦
 ∃ (b6 : Bool),
 e4 = Ending.returned (Value.bool b6) ∧
 (b3 = true → (b6 = true → R (Ending.returned (Value.int IntKind.i64 0)) w5) ∧ (b6 = false → R (Ending.returned (Value.int IntKind.i64 (-1))) w5)) ∧
 (b3 = false →
 (b6 = true → R (Ending.returned (Value.int IntKind.i64 1)) w5) ∧
 (b6 = false →
 (x < y → R (Ending.returned (Value.int IntKind.i64 (-1))) w5) ∧
 (y ≤ x → (y < x → R (Ending.returned (Value.int IntKind.i64 1)) w5) ∧ (x ≤ y → R (Ending.returned (Value.int IntKind.i64 0)) w5))))

set_option maxRecDepth 100000 in
theorem cmpint_eq (x : Int) (y : Int) (w : World) (R : Ending → World → Prop) : cmpint_T x y w R = vcFn Tryd.prog [] [] Tryd.f101 [Value.int IntKind.i64 x, Value.int IntKind.i64 y] w R := by kernel_rfl

set_option maxRecDepth 100000 in
theorem cmpint_vc (x : Int) (y : Int) (w : World) (R : Ending → World → Prop) (h : cmpint_T x y w R) : Calls Tryd.prog 101 #[Value.int IntKind.i64 x, Value.int IntKind.i64 y] w R :=
  calls_of_vc (args := [Value.int IntKind.i64 x, Value.int IntKind.i64 y]) [] [] Tryd.mixed Tryd.func101 (cast (cmpint_eq _ _ w R) h)

set_option maxRecDepth 100000 in
def cmpint64_T (x : Int) (y : Int) (w : World) (R : Ending → World → Prop) : Prop :=
  Calls Tryd.prog 113 #[Value.int IntKind.i64 x] w fun (e1 : Ending) (w2 : World) ↦
 ∃ (b3 : Bool),
 e1 = Ending.returned (Value.bool b3) ∧
 Calls Tryd.prog 113 #[Value.int IntKind.i64 y] w2 fun (e4 : Ending) (w5 : World) ↦
 ∃ (b6 : Bool),
 e4 = Ending.returned (Value.bool b6) ∧
 (b3 = true → (b6 = true → R (Ending.returned (Value.int IntKind.i64 0)) w5) ∧ (b6 = false → R (Ending.returned (Value.int IntKind.i64 (-1))) w5)) ∧
 (b3 = false →
 (b6 = true → R (Ending.returned (Value.int IntKind.i64 1)) w5) ∧
 (b6 = false →
 (x < y → R (Ending.returned (Value.int IntKind.i64 (-1))) w5) ∧
 (y ≤ x → (y < x → R (Ending.returned (Value.int IntKind.i64 1)) w5) ∧ (x ≤ y → R (Ending.returned (Value.int IntKind.i64 0)) w5))))

set_option maxRecDepth 100000 in
theorem cmpint64_eq (x : Int) (y : Int) (w : World) (R : Ending → World → Prop) : cmpint64_T x y w R = vcFn Tryd.prog [] [] Tryd.f102 [Value.int IntKind.i64 x, Value.int IntKind.i64 y] w R := by kernel_rfl

set_option maxRecDepth 100000 in
theorem cmpint64_vc (x : Int) (y : Int) (w : World) (R : Ending → World → Prop) (h : cmpint64_T x y w R) : Calls Tryd.prog 102 #[Value.int IntKind.i64 x, Value.int IntKind.i64 y] w R :=
  calls_of_vc (args := [Value.int IntKind.i64 x, Value.int IntKind.i64 y]) [] [] Tryd.mixed Tryd.func102 (cast (cmpint64_eq _ _ w R) h)

set_option maxRecDepth 100000 in
def isnani_T (x : Int) (w : World) (R : Ending → World → Prop) : Prop :=
  R (Ending.returned (Value.bool !decide (x = x))) w

set_option maxRecDepth 100000 in
theorem isnani_eq (x : Int) (w : World) (R : Ending → World → Prop) : isnani_T x w R = vcFn Tryd.prog [] [] Tryd.f112 [Value.int IntKind.i64 x] w R := by kernel_rfl

set_option maxRecDepth 100000 in
theorem isnani_vc (x : Int) (w : World) (R : Ending → World → Prop) (h : isnani_T x w R) : Calls Tryd.prog 112 #[Value.int IntKind.i64 x] w R :=
  calls_of_vc (args := [Value.int IntKind.i64 x]) [] [] Tryd.mixed Tryd.func112 (cast (isnani_eq _ w R) h)

set_option maxRecDepth 100000 in
def isnani64_T (x : Int) (w : World) (R : Ending → World → Prop) : Prop :=
  R (Ending.returned (Value.bool !decide (x = x))) w

set_option maxRecDepth 100000 in
theorem isnani64_eq (x : Int) (w : World) (R : Ending → World → Prop) : isnani64_T x w R = vcFn Tryd.prog [] [] Tryd.f113 [Value.int IntKind.i64 x] w R := by kernel_rfl

set_option maxRecDepth 100000 in
theorem isnani64_vc (x : Int) (w : World) (R : Ending → World → Prop) (h : isnani64_T x w R) : Calls Tryd.prog 113 #[Value.int IntKind.i64 x] w R :=
  calls_of_vc (args := [Value.int IntKind.i64 x]) [] [] Tryd.mixed Tryd.func113 (cast (isnani64_eq _ w R) h)

set_option maxRecDepth 100000 in
def strcmp_T (a : ByteArray) (b : ByteArray) (w : World) (R : Ending → World → Prop) : Prop :=
  Calls Tryd.prog 114 #[Value.string a, Value.string b] w fun (e1 : Ending) (w2 : World) ↦
 ∃ (n3 : Int), e1 = Ending.returned (Value.int IntKind.i64 n3) ∧ R (Ending.returned (Value.int IntKind.i64 n3)) w2

set_option maxRecDepth 100000 in
theorem strcmp_eq (a : ByteArray) (b : ByteArray) (w : World) (R : Ending → World → Prop) : strcmp_T a b w R = vcFn Tryd.prog [] [] Tryd.f103 [Value.string a, Value.string b] w R := by kernel_rfl

set_option maxRecDepth 100000 in
theorem strcmp_vc (a : ByteArray) (b : ByteArray) (w : World) (R : Ending → World → Prop) (h : strcmp_T a b w R) : Calls Tryd.prog 103 #[Value.string a, Value.string b] w R :=
  calls_of_vc (args := [Value.string a, Value.string b]) [] [] Tryd.mixed Tryd.func103 (cast (strcmp_eq _ _ w R) h)

set_option maxRecDepth 100000 in
def strcmp0_T (a : ByteArray) (b : ByteArray) (w : World) (R : Ending → World → Prop) : Prop :=
  ∃ (n1 : Int),
 ∃ (w'2 : World),
 Sem.run Tryd.prog (callFunc 120 #[Value.string a, Value.string b]) w = Result.ok (Next.value (Value.int IntKind.i64 n1)) w'2 ∧
 R (Ending.returned (Value.int IntKind.i64 n1)) w'2

set_option maxRecDepth 100000 in
theorem strcmp0_eq (a : ByteArray) (b : ByteArray) (w : World) (R : Ending → World → Prop) : strcmp0_T a b w R = vcFn Tryd.prog [] [] Tryd.f114 [Value.string a, Value.string b] w R := by kernel_rfl

set_option maxRecDepth 100000 in
theorem strcmp0_vc (a : ByteArray) (b : ByteArray) (w : World) (R : Ending → World → Prop) (h : strcmp0_T a b w R) : Calls Tryd.prog 114 #[Value.string a, Value.string b] w R :=
  calls_of_vc (args := [Value.string a, Value.string b]) [] [] Tryd.mixed Tryd.func114 (cast (strcmp0_eq _ _ w R) h)


end Go.Proofs.YtdephmdfdgclpaaDoor
