/- Texts of the proof, one behind the other. -/
import Derived.Test.YtpjafkcmbinjiaaDoorMe
set_option linter.unusedVariables false
set_option linter.unusedSimpArgs false
/- The verification conditions of the functions, evaluated: printed by program. -/
namespace Go.Proofs.YtpjafkcmbinjiaaDoor
open Go Go.Vc

set_option maxRecDepth 100000 in
def qiszone_T (c0 : ByteArray) (c1 : Int) (c2 : Bool) (z0 : Int) (z1 : Int) (z2 : Int) (z3 : ByteArray) (z4 : Int) (z5 : Int) (z6 : ByteArray) (n : Int) (w : World) (R : Ending → World → Prop) : Prop :=
  ∀ b1 w'2, New w (Obj.cells #[.string c0, .int .i64 c1, .bool c2] 48) b1 w'2 → ∀ b4 w'5, New w'2
 (Obj.cells
 #[.int .i64 z0, .int .i64 z1, .int .i64 z2, .string z3, .int .i64 z4, .int .i64 z5, .string z6] 50)
 b4 w'5 → RI w'5 b4 1 fun n7 ↦ RI w'5 b4 2 fun n8 ↦ RS w'5 b4 3 fun s9 ↦ Calls Tryd.prog 18 #[.agg #[.int .i64 n7, .int .i64 n8, .string s9]] w'5 fun e10 w11 ↦
 ∃ b12, e10 = .returned (.bool b12) ∧ RI w11 b4 4 fun n13 ↦ RI w11 b4 5 fun n14 ↦ RS w11 b4 6 fun s15 ↦ Calls Tryd.prog 18 #[.agg #[.int .i64 n13, .int .i64 n14, .string s15]] w11 fun e16 w17 ↦
 ∃ b18, e16 = .returned (.bool b18) ∧ (b12 = false ∨ b18 = false → R (.returned (.bool false)) w17) ∧ (b12 = true ∧ b18 = true → RI w17 b4 0 fun n21 ↦ (n21 < 0 → R (.returned (.bool false)) w17) ∧ (0 ≤ n21 → RI w17 b4 0 fun n24 ↦ (n < n24 → R (.returned (.bool false)) w17) ∧ (n24 ≤ n → RI w17 b4 0 fun n27 ↦ (0 < n27 → ∃ b29, w17.cell? ⟨b1, 2, none⟩ = some (.bool b29) ∧ (b29 = false → R (.returned (.bool false)) w17) ∧ (b29 = true → RI w17 b4 0 fun n32 ↦ (n32 = n → RI w17 b4 1 fun n34 ↦ RI w17 b4 2 fun n35 ↦ RS w17 b4 3 fun s36 ↦ (n34 = 0 ∧ n35 = 0 ∧ s36 = ByteArray.mk #[] → RI w17 b4 4 fun n38 ↦ RI w17 b4 5 fun n39 ↦ RS w17 b4 6 fun s40 ↦ R (.returned (.bool (decide (n38 = Int.ofNat 0) && (decide (n39 = Int.ofNat 0) && sEq s40 ⟨#[]⟩)))) w17) ∧ (n34 ≠ 0 ∨ n35 ≠ 0 ∨ s36 ≠ ByteArray.mk #[] → R (.returned (.bool false)) w17)) ∧ (n32 ≠ n → RI w17 b4 1 fun n43 ↦ RI w17 b1 1 fun n44 ↦ (n43 = n44 → RI w17 b4 4 fun n46 ↦ RI w17 b1 1 fun n47 ↦ (n46 = n47 → RI w17 b4 1 fun n49 ↦ RI w17 b4 2 fun n50 ↦ RS w17 b4 3 fun s51 ↦ RI w17 b4 4 fun n52 ↦ RI w17 b4 5 fun n53 ↦ RS w17 b4 6 fun s54 ↦ Calls Tryd.prog 34
 #[.agg #[.int .i64 n49, .int .i64 n50, .string s51], .agg #[.int .i64 n52, .int .i64 n53, .string s54]]
 w17 fun e55 w56 ↦ ∃ n57, e55 = .returned (.int .i64 n57) ∧ R (.returned (.bool (decide (n57 ≤ 0)))) w56) ∧ (n46 ≠ n47 → R (.returned (.bool false)) w17)) ∧ (n43 ≠ n44 → R (.returned (.bool false)) w17)))) ∧ (n27 ≤ 0 → RI w17 b4 0 fun n61 ↦ (n61 = n → RI w17 b4 1 fun n63 ↦ RI w17 b4 2 fun n64 ↦ RS w17 b4 3 fun s65 ↦ (n63 = 0 ∧ n64 = 0 ∧ s65 = ByteArray.mk #[] → RI w17 b4 4 fun n67 ↦ RI w17 b4 5 fun n68 ↦ RS w17 b4 6 fun s69 ↦ R (.returned (.bool (decide (n67 = Int.ofNat 0) && (decide (n68 = Int.ofNat 0) && sEq s69 ⟨#[]⟩)))) w17) ∧ (n63 ≠ 0 ∨ n64 ≠ 0 ∨ s65 ≠ ByteArray.mk #[] → R (.returned (.bool false)) w17)) ∧ (n61 ≠ n → RI w17 b4 1 fun n72 ↦ RI w17 b1 1 fun n73 ↦ (n72 = n73 → RI w17 b4 4 fun n75 ↦ RI w17 b1 1 fun n76 ↦ (n75 = n76 → RI w17 b4 1 fun n78 ↦ RI w17 b4 2 fun n79 ↦ RS w17 b4 3 fun s80 ↦ RI w17 b4 4 fun n81 ↦ RI w17 b4 5 fun n82 ↦ RS w17 b4 6 fun s83 ↦ Calls Tryd.prog 34
 #[.agg #[.int .i64 n78, .int .i64 n79, .string s80], .agg #[.int .i64 n81, .int .i64 n82, .string s83]]
 w17 fun e84 w85 ↦ ∃ n86, e84 = .returned (.int .i64 n86) ∧ R (.returned (.bool (decide (n86 ≤ 0)))) w85) ∧ (n75 ≠ n76 → R (.returned (.bool false)) w17)) ∧ (n72 ≠ n73 → R (.returned (.bool false)) w17))))))

set_option maxRecDepth 100000 in
theorem qiszone_eq (c0 : ByteArray) (c1 : Int) (c2 : Bool) (z0 : Int) (z1 : Int) (z2 : Int) (z3 : ByteArray) (z4 : Int) (z5 : Int) (z6 : ByteArray) (n : Int) (w : World) (R : Ending → World → Prop) : qiszone_T c0 c1 c2 z0 z1 z2 z3 z4 z5 z6 n w R = vcFn Tryd.prog [] [] Tryd.f47 [.agg #[.string c0, .int .i64 c1, .bool c2], Value.agg
 #[.int .i64 z0, .int .i64 z1, .int .i64 z2, .string z3, .int .i64 z4, .int .i64 z5, .string z6], .int .i64 n] w R := by kernel_rfl

set_option maxRecDepth 100000 in
theorem qiszone_vc (c0 : ByteArray) (c1 : Int) (c2 : Bool) (z0 : Int) (z1 : Int) (z2 : Int) (z3 : ByteArray) (z4 : Int) (z5 : Int) (z6 : ByteArray) (n : Int) (w : World) (R : Ending → World → Prop) (h : qiszone_T c0 c1 c2 z0 z1 z2 z3 z4 z5 z6 n w R) : Calls Tryd.prog 47 #[.agg #[.string c0, .int .i64 c1, .bool c2], Value.agg
 #[.int .i64 z0, .int .i64 z1, .int .i64 z2, .string z3, .int .i64 z4, .int .i64 z5, .string z6], .int .i64 n] w R :=
  calls_of_vc (args := [.agg #[.string c0, .int .i64 c1, .bool c2], Value.agg
 #[.int .i64 z0, .int .i64 z1, .int .i64 z2, .string z3, .int .i64 z4, .int .i64 z5, .string z6], .int .i64 n]) [] [] Tryd.mixed Tryd.func47 (cast (qiszone_eq _ _ _ _ _ _ _ _ _ _ _ w R) h)

set_option maxRecDepth 100000 in
def qzright_T (cols_p : Option Addr) (cols_n : Nat) (cols_c : Nat) (zones_p : Option Addr) (zones_n : Nat) (zones_c : Nat) (n : Int) (w : World) (R : Ending → World → Prop) : Prop :=
  (((↑zones_n : Int) ≠ (↑cols_n : Int) ∨ n < 0) ∨ 1024 < n → R (.returned (.bool false)) w) ∧ (((↑zones_n : Int) = (↑cols_n : Int) ∧ 0 ≤ n) ∧ n ≤ 1024 → ∃ (I3 : Int → World → Prop), ∃ (M4 : Int → World → Nat), I3 0 w ∧ ∀ (n5 : Int) (w'6 : World), I3 n5 w'6 → (n5 < (↑cols_n : Int) → ∀ w'9, Drew w'6 w'9 → ∃ b11, ∃ o12, cols_p = some ⟨b11, o12, none⟩ ∧ 0 ≤ n5 ∧ n5 < (↑cols_n : Int) ∧ RS w'9 b11 (o12 + n5.toNat * 3) fun s13 ↦ RI w'9 b11 (o12 + n5.toNat * 3 + 1) fun n14 ↦ ∃ b15, w'9.cell? ⟨b11, (o12 + n5.toNat * 3 + 2), none⟩ = some (.bool b15) ∧ ∃ b16, ∃ o17, zones_p = some ⟨b16, o17, none⟩ ∧ 0 ≤ n5 ∧ n5 < (↑zones_n : Int) ∧ RI w'9 b16 (o17 + n5.toNat * 7) fun n18 ↦ RI w'9 b16 (o17 + n5.toNat * 7 + 1) fun n19 ↦ RI w'9 b16 (o17 + n5.toNat * 7 + 2) fun n20 ↦ RS w'9 b16 (o17 + n5.toNat * 7 + 3) fun s21 ↦ RI w'9 b16 (o17 + n5.toNat * 7 + 4) fun n22 ↦ RI w'9 b16 (o17 + n5.toNat * 7 + 5) fun n23 ↦ RS w'9 b16 (o17 + n5.toNat * 7 + 6) fun s24 ↦ Calls Tryd.prog 47
 #[.agg #[.string s13, .int .i64 n14, .bool b15], Value.agg
 #[.int .i64 n18, .int .i64 n19, .int .i64 n20, .string s21, .int .i64 n22, .int .i64 n23, .string s24], .int .i64 n]
 w'9 fun e25 w26 ↦
 ∃ b27, e25 = .returned (.bool b27) ∧ (b27 = false → R (.returned (.bool false)) w26) ∧ (b27 = true → I3 (IntKind.i64.wrap (n5 + 1)) w26 ∧ M4 (IntKind.i64.wrap (n5 + 1)) w26 < M4 n5 w'6)) ∧ ((↑cols_n : Int) ≤ n5 → R (.returned (.bool true)) w'6))

set_option maxRecDepth 100000 in
theorem qzright_eq (cols_p : Option Addr) (cols_n : Nat) (cols_c : Nat) (zones_p : Option Addr) (zones_n : Nat) (zones_c : Nat) (n : Int) (w : World) (R : Ending → World → Prop) : qzright_T cols_p cols_n cols_c zones_p zones_n zones_c n w R = vcFn Tryd.prog [] [(6, [2, 4, 6, 8, 10, 12, 14, 16, 18, 20, 22, 0])] Tryd.f25 [.slice cols_p cols_n cols_c, .slice zones_p zones_n zones_c, .int .i64 n] w R := by kernel_rfl

set_option maxRecDepth 100000 in
theorem qzright_vc (cols_p : Option Addr) (cols_n : Nat) (cols_c : Nat) (zones_p : Option Addr) (zones_n : Nat) (zones_c : Nat) (n : Int) (w : World) (R : Ending → World → Prop) (h : qzright_T cols_p cols_n cols_c zones_p zones_n zones_c n w R) : Calls Tryd.prog 25 #[.slice cols_p cols_n cols_c, .slice zones_p zones_n zones_c, .int .i64 n] w R :=
  calls_of_vc (args := [.slice cols_p cols_n cols_c, .slice zones_p zones_n zones_c, .int .i64 n]) [] [(6, [2, 4, 6, 8, 10, 12, 14, 16, 18, 20, 22, 0])] Tryd.mixed Tryd.func25 (cast (qzright_eq _ _ _ _ _ _ _ w R) h)

set_option maxRecDepth 100000 in
def qside_T (cols_p : Option Addr) (cols_n : Nat) (cols_c : Nat) (zones_p : Option Addr) (zones_n : Nat) (zones_c : Nat) (n : Int) (x0 : Int) (x1 : ByteArray) (x2 : Int) (x3 : Int) (x4 : ByteArray) (x5_p : Option Addr) (x5_n : Nat) (x5_c : Nat) (w : World) (R : Ending → World → Prop) : Prop :=
  ∀ b1 w'2, New w (Obj.cells #[.int .i64 x0, .string x1, .int .i64 x2, .int .i64 x3, .string x4, .slice x5_p x5_n x5_c] 28) b1
 w'2 → ∀ b4 w'5, New w'2
 (Obj.cells
 #[.bool false, .bool false, .int .i64 0, .int .i64 0, .string ⟨#[]⟩, .int .i64 0, .int .i64 0, .string ⟨#[]⟩]
 83)
 b4 w'5 → RI w'5 b1 0 fun n7 ↦ (n7 = 2 → RI w'5 b1 2 fun n9 ↦ RI w'5 b1 2 fun n10 ↦ RI w'5 b1 3 fun n11 ↦ RS w'5 b1 4 fun s12 ↦ RI w'5 b1 2 fun n13 ↦ RI w'5 b1 3 fun n14 ↦ RS w'5 b1 4 fun s15 ↦ CW w'5 b4 0 fun _ ↦ CW w'5 b4 1 fun _ ↦ CW w'5 b4 2 fun _ ↦ CW w'5 b4 3 fun _ ↦ CW w'5 b4 4 fun _ ↦ CW w'5 b4 5 fun _ ↦ CW w'5 b4 6 fun _ ↦ CW w'5 b4 7 fun _ ↦ ∀ w'24, Put w'5 b4 0
 [.bool (decide (n9 = 0)), .bool !decide (n9 = 0), .int .i64 n10, .int .i64 n11, .string s12, .int .i64 n13, .int .i64 n14, .string s15]
 w'24 → ∃ b26, w'24.cell? ⟨b4, 0, none⟩ = some (.bool b26) ∧ ∃ b27, w'24.cell? ⟨b4, 1, none⟩ = some (.bool b27) ∧ RI w'24 b4 2 fun n28 ↦ RI w'24 b4 3 fun n29 ↦ RS w'24 b4 4 fun s30 ↦ RI w'24 b4 5 fun n31 ↦ RI w'24 b4 6 fun n32 ↦ RS w'24 b4 7 fun s33 ↦ R
 (.returned
 (Value.tuple
 #[Value.agg
 #[.bool b26, .bool b27, .int .i64 n28, .int .i64 n29, .string s30, .int .i64 n31, .int .i64 n32, .string s33], .bool true]))
 w'24) ∧ (n7 ≠ 2 → RI w'5 b1 0 fun n35 ↦ (n35 = 1 → RS w'5 b1 1 fun s37 ↦ Calls Tryd.prog 33 #[.slice cols_p cols_n cols_c, .string s37] w'5 fun e38 w39 ↦
 ∃ n40, e38 = .returned (.int .i64 n40) ∧ ∃ b41, ∃ o42, zones_p = some ⟨b41, o42, none⟩ ∧ 0 ≤ n40 ∧ n40 < (↑zones_n : Int) ∧ RI w39 b41 (o42 + n40.toNat * 7) fun n43 ↦ RI w39 b41 (o42 + n40.toNat * 7 + 1) fun n44 ↦ RI w39 b41 (o42 + n40.toNat * 7 + 2) fun n45 ↦ RS w39 b41 (o42 + n40.toNat * 7 + 3) fun s46 ↦ RI w39 b41 (o42 + n40.toNat * 7 + 4) fun n47 ↦ RI w39 b41 (o42 + n40.toNat * 7 + 5) fun n48 ↦ RS w39 b41 (o42 + n40.toNat * 7 + 6) fun s49 ↦ ∀ b50 w'51, New w39
 (Obj.cells
 #[.int .i64 0, .int .i64 0, .int .i64 0, .string ⟨#[]⟩, .int .i64 0, .int .i64 0, .string ⟨#[]⟩]
 50)
 b50 w'51 → CW w'51 b50 0 fun _ ↦ CW w'51 b50 1 fun _ ↦ CW w'51 b50 2 fun _ ↦ CW w'51 b50 3 fun _ ↦ CW w'51 b50 4 fun _ ↦ CW w'51 b50 5 fun _ ↦ CW w'51 b50 6 fun _ ↦ ∀ w'60, Put w'51 b50 0
 [.int .i64 n43, .int .i64 n44, .int .i64 n45, .string s46, .int .i64 n47, .int .i64 n48, .string s49]
 w'60 → RI w'60 b50 0 fun n62 ↦ RI w'60 b50 0 fun n63 ↦ RI w'60 b50 1 fun n64 ↦ RI w'60 b50 2 fun n65 ↦ RS w'60 b50 3 fun s66 ↦ RI w'60 b50 4 fun n67 ↦ RI w'60 b50 5 fun n68 ↦ RS w'60 b50 6 fun s69 ↦ CW w'60 b4 0 fun _ ↦ CW w'60 b4 1 fun _ ↦ CW w'60 b4 2 fun _ ↦ CW w'60 b4 3 fun _ ↦ CW w'60 b4 4 fun _ ↦ CW w'60 b4 5 fun _ ↦ CW w'60 b4 6 fun _ ↦ CW w'60 b4 7 fun _ ↦ ∀ w'78, Put w'60 b4 0
 [.bool (decide (0 < n62)), .bool (decide (n63 < n)), .int .i64 n64, .int .i64 n65, .string s66, .int .i64 n67, .int .i64 n68, .string s69]
 w'78 → ∃ b80, w'78.cell? ⟨b4, 0, none⟩ = some (.bool b80) ∧ ∃ b81, w'78.cell? ⟨b4, 1, none⟩ = some (.bool b81) ∧ RI w'78 b4 2 fun n82 ↦ RI w'78 b4 3 fun n83 ↦ RS w'78 b4 4 fun s84 ↦ RI w'78 b4 5 fun n85 ↦ RI w'78 b4 6 fun n86 ↦ RS w'78 b4 7 fun s87 ↦ R
 (.returned
 (Value.tuple
 #[Value.agg
 #[.bool b80, .bool b81, .int .i64 n82, .int .i64 n83, .string s84, .int .i64 n85, .int .i64 n86, .string s87], .bool true]))
 w'78) ∧ (n35 ≠ 1 → CW w'5 b4 0 fun _ ↦ CW w'5 b4 1 fun _ ↦ CW w'5 b4 2 fun _ ↦ CW w'5 b4 3 fun _ ↦ CW w'5 b4 4 fun _ ↦ CW w'5 b4 5 fun _ ↦ CW w'5 b4 6 fun _ ↦ CW w'5 b4 7 fun _ ↦ ∀ w'97, Put w'5 b4 0
 [.bool false, .bool false, .int .i64 0, .int .i64 0, .string ⟨#[]⟩, .int .i64 0, .int .i64 0, .string ⟨#[]⟩]
 w'97 → ∃ b99, w'97.cell? ⟨b4, 0, none⟩ = some (.bool b99) ∧ ∃ b100, w'97.cell? ⟨b4, 1, none⟩ = some (.bool b100) ∧ RI w'97 b4 2 fun n101 ↦ RI w'97 b4 3 fun n102 ↦ RS w'97 b4 4 fun s103 ↦ RI w'97 b4 5 fun n104 ↦ RI w'97 b4 6 fun n105 ↦ RS w'97 b4 7 fun s106 ↦ R
 (.returned
 (Value.tuple
 #[Value.agg
 #[.bool b99, .bool b100, .int .i64 n101, .int .i64 n102, .string s103, .int .i64 n104, .int .i64 n105, .string s106], .bool false]))
 w'97))

set_option maxRecDepth 100000 in
theorem qside_eq (cols_p : Option Addr) (cols_n : Nat) (cols_c : Nat) (zones_p : Option Addr) (zones_n : Nat) (zones_c : Nat) (n : Int) (x0 : Int) (x1 : ByteArray) (x2 : Int) (x3 : Int) (x4 : ByteArray) (x5_p : Option Addr) (x5_n : Nat) (x5_c : Nat) (w : World) (R : Ending → World → Prop) : qside_T cols_p cols_n cols_c zones_p zones_n zones_c n x0 x1 x2 x3 x4 x5_p x5_n x5_c w R = vcFn Tryd.prog [] [] Tryd.f51 [.slice cols_p cols_n cols_c, .slice zones_p zones_n zones_c, .int .i64 n, Value.agg
 #[.int .i64 x0, .string x1, .int .i64 x2, .int .i64 x3, .string x4, .slice x5_p x5_n x5_c]] w R := by kernel_rfl

set_option maxRecDepth 100000 in
theorem qside_vc (cols_p : Option Addr) (cols_n : Nat) (cols_c : Nat) (zones_p : Option Addr) (zones_n : Nat) (zones_c : Nat) (n : Int) (x0 : Int) (x1 : ByteArray) (x2 : Int) (x3 : Int) (x4 : ByteArray) (x5_p : Option Addr) (x5_n : Nat) (x5_c : Nat) (w : World) (R : Ending → World → Prop) (h : qside_T cols_p cols_n cols_c zones_p zones_n zones_c n x0 x1 x2 x3 x4 x5_p x5_n x5_c w R) : Calls Tryd.prog 51 #[.slice cols_p cols_n cols_c, .slice zones_p zones_n zones_c, .int .i64 n, Value.agg
 #[.int .i64 x0, .string x1, .int .i64 x2, .int .i64 x3, .string x4, .slice x5_p x5_n x5_c]] w R :=
  calls_of_vc (args := [.slice cols_p cols_n cols_c, .slice zones_p zones_n zones_c, .int .i64 n, Value.agg
 #[.int .i64 x0, .string x1, .int .i64 x2, .int .i64 x3, .string x4, .slice x5_p x5_n x5_c]]) [] [] Tryd.mixed Tryd.func51 (cast (qside_eq _ _ _ _ _ _ _ _ _ _ _ _ _ _ _ w R) h)

set_option maxRecDepth 100000 in
def qset_T (no : Bool) (yes : Bool) (null : Bool) (w : World) (R : Ending → World → Prop) : Prop :=
  (no = true → (yes = true → (null = true → R (.returned (.int .i64 7)) w) ∧ (null = false → R (.returned (.int .i64 3)) w)) ∧ (yes = false → (null = true → R (.returned (.int .i64 5)) w) ∧ (null = false → R (.returned (.int .i64 1)) w))) ∧ (no = false → (yes = true → (null = true → R (.returned (.int .i64 6)) w) ∧ (null = false → R (.returned (.int .i64 2)) w)) ∧ (yes = false → (null = true → R (.returned (.int .i64 4)) w) ∧ (null = false → R (.returned (.int .i64 0)) w)))

set_option maxRecDepth 100000 in
theorem qset_eq (no : Bool) (yes : Bool) (null : Bool) (w : World) (R : Ending → World → Prop) : qset_T no yes null w R = vcFn Tryd.prog [] [] Tryd.f49 [.bool no, .bool yes, .bool null] w R := by kernel_rfl

set_option maxRecDepth 100000 in
theorem qset_vc (no : Bool) (yes : Bool) (null : Bool) (w : World) (R : Ending → World → Prop) (h : qset_T no yes null w R) : Calls Tryd.prog 49 #[.bool no, .bool yes, .bool null] w R :=
  calls_of_vc (args := [.bool no, .bool yes, .bool null]) [] [] Tryd.mixed Tryd.func49 (cast (qset_eq _ _ _ w R) h)

set_option maxRecDepth 100000 in
def qcompared_T (op : Int) (a0 : Bool) (a1 : Bool) (a2 : Int) (a3 : Int) (a4 : ByteArray) (a5 : Int) (a6 : Int) (a7 : ByteArray) (b0 : Bool) (b1 : Bool) (b2 : Int) (b3 : Int) (b4 : ByteArray) (b5 : Int) (b6 : Int) (b7 : ByteArray) (w : World) (R : Ending → World → Prop) : Prop :=
  ∀ b1_1 w'2, New w
 (Obj.cells
 #[.bool a0, .bool a1, .int .i64 a2, .int .i64 a3, .string a4, .int .i64 a5, .int .i64 a6, .string a7]
 83)
 b1_1 w'2 → ∀ b4_1 w'5, New w'2
 (Obj.cells
 #[.bool b0, .bool b1, .int .i64 b2, .int .i64 b3, .string b4, .int .i64 b5, .int .i64 b6, .string b7]
 83)
 b4_1 w'5 → ∃ b7, w'5.cell? ⟨b1_1, 0, none⟩ = some (.bool b7) ∧ (b7 = true → ∃ b9, w'5.cell? ⟨b1_1, 1, none⟩ = some (.bool b9) ∧ (b9 = false → Calls Tryd.prog 49 #[.bool false, .bool false, .bool true] w'5 fun e11 w12 ↦
 ∃ n13, e11 = .returned (.int .i64 n13) ∧ R (.returned (.int .i64 n13)) w12) ∧ (b9 = true → ∃ b15, w'5.cell? ⟨b4_1, 1, none⟩ = some (.bool b15) ∧ (b15 = false → Calls Tryd.prog 49 #[.bool false, .bool false, .bool true] w'5 fun e17 w18 ↦
 ∃ n19, e17 = .returned (.int .i64 n19) ∧ R (.returned (.int .i64 n19)) w18) ∧ (b15 = true → RI w'5 b1_1 2 fun n21 ↦ RI w'5 b1_1 3 fun n22 ↦ RS w'5 b1_1 4 fun s23 ↦ RI w'5 b4_1 5 fun n24 ↦ RI w'5 b4_1 6 fun n25 ↦ RS w'5 b4_1 7 fun s26 ↦ Calls Tryd.prog 34
 #[.agg #[.int .i64 n21, .int .i64 n22, .string s23], .agg #[.int .i64 n24, .int .i64 n25, .string s26]]
 w'5 fun e27 w28 ↦
 ∃ n29, e27 = .returned (.int .i64 n29) ∧ RI w28 b1_1 5 fun n30 ↦ RI w28 b1_1 6 fun n31 ↦ RS w28 b1_1 7 fun s32 ↦ RI w28 b4_1 2 fun n33 ↦ RI w28 b4_1 3 fun n34 ↦ RS w28 b4_1 4 fun s35 ↦ Calls Tryd.prog 34
 #[.agg #[.int .i64 n30, .int .i64 n31, .string s32], .agg #[.int .i64 n33, .int .i64 n34, .string s35]]
 w28 fun e36 w37 ↦
 ∃ n38, e36 = .returned (.int .i64 n38) ∧ (op = 9 → RI w37 b1_1 2 fun n40 ↦ RI w37 b1_1 3 fun n41 ↦ RS w37 b1_1 4 fun s42 ↦ RI w37 b1_1 5 fun n43 ↦ RI w37 b1_1 6 fun n44 ↦ RS w37 b1_1 7 fun s45 ↦ (n40 = n43 ∧ n41 = n44 ∧ s42 = s45 → RI w37 b4_1 2 fun n47 ↦ RI w37 b4_1 3 fun n48 ↦ RS w37 b4_1 4 fun s49 ↦ RI w37 b4_1 5 fun n50 ↦ RI w37 b4_1 6 fun n51 ↦ RS w37 b4_1 7 fun s52 ↦ (n47 = n50 ∧ n48 = n51 ∧ s49 = s52 → RI w37 b1_1 2 fun n54 ↦ RI w37 b1_1 3 fun n55 ↦ RS w37 b1_1 4 fun s56 ↦ RI w37 b4_1 2 fun n57 ↦ RI w37 b4_1 3 fun n58 ↦ RS w37 b4_1 4 fun s59 ↦ Calls Tryd.prog 49 #[.bool !(decide (n54 = n57) && (decide (n55 = n58) && sEq s56 s59)), .bool (decide (n29 ≤ 0) && decide (0 ≤ n38)), .bool true] w37
 fun e60 w61 ↦ ∃ n62, e60 = .returned (.int .i64 n62) ∧ R (.returned (.int .i64 n62)) w61) ∧ (n47 ≠ n50 ∨ n48 ≠ n51 ∨ s49 ≠ s52 → Calls Tryd.prog 49 #[.bool true, .bool (decide (n29 ≤ 0) && decide (0 ≤ n38)), .bool true] w37 fun e64 w65 ↦
 ∃ n66, e64 = .returned (.int .i64 n66) ∧ R (.returned (.int .i64 n66)) w65)) ∧ (n40 ≠ n43 ∨ n41 ≠ n44 ∨ s42 ≠ s45 → Calls Tryd.prog 49 #[.bool true, .bool (decide (n29 ≤ 0) && decide (0 ≤ n38)), .bool true] w37 fun e68 w69 ↦
 ∃ n70, e68 = .returned (.int .i64 n70) ∧ R (.returned (.int .i64 n70)) w69)) ∧ (op ≠ 9 → (op = 10 → Calls Tryd.prog 49 #[.bool (decide (0 ≤ n38)), .bool (decide (n29 < 0)), .bool true] w37 fun e73 w74 ↦
 ∃ n75, e73 = .returned (.int .i64 n75) ∧ R (.returned (.int .i64 n75)) w74) ∧ (op ≠ 10 → Calls Tryd.prog 49 #[.bool (decide (0 < n38)), .bool (decide (n29 ≤ 0)), .bool true] w37 fun e77 w78 ↦
 ∃ n79, e77 = .returned (.int .i64 n79) ∧ R (.returned (.int .i64 n79)) w78))))) ∧ (b7 = false → ∃ b81, w'5.cell? ⟨b4_1, 0, none⟩ = some (.bool b81) ∧ ∃ b82, w'5.cell? ⟨b1_1, 1, none⟩ = some (.bool b82) ∧ (b82 = false → Calls Tryd.prog 49 #[.bool false, .bool false, .bool b81] w'5 fun e84 w85 ↦
 ∃ n86, e84 = .returned (.int .i64 n86) ∧ R (.returned (.int .i64 n86)) w85) ∧ (b82 = true → ∃ b88, w'5.cell? ⟨b4_1, 1, none⟩ = some (.bool b88) ∧ (b88 = false → Calls Tryd.prog 49 #[.bool false, .bool false, .bool b81] w'5 fun e90 w91 ↦
 ∃ n92, e90 = .returned (.int .i64 n92) ∧ R (.returned (.int .i64 n92)) w91) ∧ (b88 = true → RI w'5 b1_1 2 fun n94 ↦ RI w'5 b1_1 3 fun n95 ↦ RS w'5 b1_1 4 fun s96 ↦ RI w'5 b4_1 5 fun n97 ↦ RI w'5 b4_1 6 fun n98 ↦ RS w'5 b4_1 7 fun s99 ↦ Calls Tryd.prog 34
 #[.agg #[.int .i64 n94, .int .i64 n95, .string s96], .agg #[.int .i64 n97, .int .i64 n98, .string s99]]
 w'5 fun e100 w101 ↦
 ∃ n102, e100 = .returned (.int .i64 n102) ∧ RI w101 b1_1 5 fun n103 ↦ RI w101 b1_1 6 fun n104 ↦ RS w101 b1_1 7 fun s105 ↦ RI w101 b4_1 2 fun n106 ↦ RI w101 b4_1 3 fun n107 ↦ RS w101 b4_1 4 fun s108 ↦ Calls Tryd.prog 34
 #[.agg #[.int .i64 n103, .int .i64 n104, .string s105], .agg #[.int .i64 n106, .int .i64 n107, .string s108]]
 w101 fun e109 w110 ↦
 ∃ n111, e109 = .returned (.int .i64 n111) ∧ (op = 9 → RI w110 b1_1 2 fun n113 ↦ RI w110 b1_1 3 fun n114 ↦ RS w110 b1_1 4 fun s115 ↦ RI w110 b1_1 5 fun n116 ↦ RI w110 b1_1 6 fun n117 ↦ RS w110 b1_1 7 fun s118 ↦ (n113 = n116 ∧ n114 = n117 ∧ s115 = s118 → RI w110 b4_1 2 fun n120 ↦ RI w110 b4_1 3 fun n121 ↦ RS w110 b4_1 4 fun s122 ↦ RI w110 b4_1 5 fun n123 ↦ RI w110 b4_1 6 fun n124 ↦ RS w110 b4_1 7 fun s125 ↦ (n120 = n123 ∧ n121 = n124 ∧ s122 = s125 → RI w110 b1_1 2 fun n127 ↦ RI w110 b1_1 3 fun n128 ↦ RS w110 b1_1 4 fun s129 ↦ RI w110 b4_1 2 fun n130 ↦ RI w110 b4_1 3 fun n131 ↦ RS w110 b4_1 4 fun s132 ↦ Calls Tryd.prog 49 #[.bool !(decide (n127 = n130) && (decide (n128 = n131) && sEq s129 s132)), .bool (decide (n102 ≤ 0) && decide (0 ≤ n111)), .bool b81]
 w110 fun e133 w134 ↦ ∃ n135, e133 = .returned (.int .i64 n135) ∧ R (.returned (.int .i64 n135)) w134) ∧ (n120 ≠ n123 ∨ n121 ≠ n124 ∨ s122 ≠ s125 → Calls Tryd.prog 49 #[.bool true, .bool (decide (n102 ≤ 0) && decide (0 ≤ n111)), .bool b81] w110 fun e137 w138 ↦
 ∃ n139, e137 = .returned (.int .i64 n139) ∧ R (.returned (.int .i64 n139)) w138)) ∧ (n113 ≠ n116 ∨ n114 ≠ n117 ∨ s115 ≠ s118 → Calls Tryd.prog 49 #[.bool true, .bool (decide (n102 ≤ 0) && decide (0 ≤ n111)), .bool b81] w110 fun e141 w142 ↦
 ∃ n143, e141 = .returned (.int .i64 n143) ∧ R (.returned (.int .i64 n143)) w142)) ∧ (op ≠ 9 → (op = 10 → Calls Tryd.prog 49 #[.bool (decide (0 ≤ n111)), .bool (decide (n102 < 0)), .bool b81] w110 fun e146 w147 ↦
 ∃ n148, e146 = .returned (.int .i64 n148) ∧ R (.returned (.int .i64 n148)) w147) ∧ (op ≠ 10 → Calls Tryd.prog 49 #[.bool (decide (0 < n111)), .bool (decide (n102 ≤ 0)), .bool b81] w110 fun e150 w151 ↦
 ∃ n152, e150 = .returned (.int .i64 n152) ∧ R (.returned (.int .i64 n152)) w151)))))

set_option maxRecDepth 100000 in
theorem qcompared_eq (op : Int) (a0 : Bool) (a1 : Bool) (a2 : Int) (a3 : Int) (a4 : ByteArray) (a5 : Int) (a6 : Int) (a7 : ByteArray) (b0 : Bool) (b1 : Bool) (b2 : Int) (b3 : Int) (b4 : ByteArray) (b5 : Int) (b6 : Int) (b7 : ByteArray) (w : World) (R : Ending → World → Prop) : qcompared_T op a0 a1 a2 a3 a4 a5 a6 a7 b0 b1 b2 b3 b4 b5 b6 b7 w R = vcFn Tryd.prog [] [] Tryd.f52 [.int .i64 op, Value.agg
 #[.bool a0, .bool a1, .int .i64 a2, .int .i64 a3, .string a4, .int .i64 a5, .int .i64 a6, .string a7], Value.agg
 #[.bool b0, .bool b1, .int .i64 b2, .int .i64 b3, .string b4, .int .i64 b5, .int .i64 b6, .string b7]] w R := by kernel_rfl

set_option maxRecDepth 100000 in
theorem qcompared_vc (op : Int) (a0 : Bool) (a1 : Bool) (a2 : Int) (a3 : Int) (a4 : ByteArray) (a5 : Int) (a6 : Int) (a7 : ByteArray) (b0 : Bool) (b1 : Bool) (b2 : Int) (b3 : Int) (b4 : ByteArray) (b5 : Int) (b6 : Int) (b7 : ByteArray) (w : World) (R : Ending → World → Prop) (h : qcompared_T op a0 a1 a2 a3 a4 a5 a6 a7 b0 b1 b2 b3 b4 b5 b6 b7 w R) : Calls Tryd.prog 52 #[.int .i64 op, Value.agg
 #[.bool a0, .bool a1, .int .i64 a2, .int .i64 a3, .string a4, .int .i64 a5, .int .i64 a6, .string a7], Value.agg
 #[.bool b0, .bool b1, .int .i64 b2, .int .i64 b3, .string b4, .int .i64 b5, .int .i64 b6, .string b7]] w R :=
  calls_of_vc (args := [.int .i64 op, Value.agg
 #[.bool a0, .bool a1, .int .i64 a2, .int .i64 a3, .string a4, .int .i64 a5, .int .i64 a6, .string a7], Value.agg
 #[.bool b0, .bool b1, .int .i64 b2, .int .i64 b3, .string b4, .int .i64 b5, .int .i64 b6, .string b7]]) [] [] Tryd.mixed Tryd.func52 (cast (qcompared_eq _ _ _ _ _ _ _ _ _ _ _ _ _ _ _ _ _ w R) h)

set_option maxRecDepth 100000 in
def qhas_T (s : Int) (a : Int) (w : World) (R : Ending → World → Prop) : Prop :=
  0 ≤ a ∧ R (.returned (.bool (decide (bits BinOp.and IntKind.i64 (shrI IntKind.i64 s a.toNat) 1 = 1)))) w

set_option maxRecDepth 100000 in
theorem qhas_eq (s : Int) (a : Int) (w : World) (R : Ending → World → Prop) : qhas_T s a w R = vcFn Tryd.prog [] [] Tryd.f29 [.int .i64 s, .int .i64 a] w R := by kernel_rfl

set_option maxRecDepth 100000 in
theorem qhas_vc (s : Int) (a : Int) (w : World) (R : Ending → World → Prop) (h : qhas_T s a w R) : Calls Tryd.prog 29 #[.int .i64 s, .int .i64 a] w R :=
  calls_of_vc (args := [.int .i64 s, .int .i64 a]) [] [] Tryd.mixed Tryd.func29 (cast (qhas_eq _ _ w R) h)

set_option maxRecDepth 100000 in
def qvalue_T (a : Int) (w : World) (R : Ending → World → Prop) : Prop :=
  ∀ b1 w'2, New w (Obj.cells #[.int .i64 0, .int .i64 0, .string ⟨#[]⟩] 25) b1 w'2 → (a = 2 → CW w'2 b1 0 fun _ ↦ CW w'2 b1 1 fun _ ↦ CW w'2 b1 2 fun _ ↦ ∀ w'8, Put w'2 b1 0 [.int .i64 0, .int .i64 0, .string ⟨#[]⟩] w'8 → RI w'8 b1 0 fun n10 ↦ RI w'8 b1 1 fun n11 ↦ RS w'8 b1 2 fun s12 ↦ R (.returned (.agg #[.int .i64 n10, .int .i64 n11, .string s12])) w'8) ∧ (a ≠ 2 → CW w'2 b1 0 fun _ ↦ CW w'2 b1 1 fun _ ↦ CW w'2 b1 2 fun _ ↦ ∀ w'17, Put w'2 b1 0 [.int .i64 2, .int .i64 a, .string ⟨#[]⟩] w'17 → RI w'17 b1 0 fun n19 ↦ RI w'17 b1 1 fun n20 ↦ RS w'17 b1 2 fun s21 ↦ R (.returned (.agg #[.int .i64 n19, .int .i64 n20, .string s21])) w'17)

set_option maxRecDepth 100000 in
theorem qvalue_eq (a : Int) (w : World) (R : Ending → World → Prop) : qvalue_T a w R = vcFn Tryd.prog [] [] Tryd.f70 [.int .i64 a] w R := by kernel_rfl

set_option maxRecDepth 100000 in
theorem qvalue_vc (a : Int) (w : World) (R : Ending → World → Prop) (h : qvalue_T a w R) : Calls Tryd.prog 70 #[.int .i64 a] w R :=
  calls_of_vc (args := [.int .i64 a]) [] [] Tryd.mixed Tryd.func70 (cast (qvalue_eq _ w R) h)

set_option maxRecDepth 100000 in
def qown_T (v0 : Int) (v1 : Int) (v2 : ByteArray) (w : World) (R : Ending → World → Prop) : Prop :=
  ∀ b1 w'2, New w (Obj.cells #[.int .i64 v0, .int .i64 v1, .string v2] 25) b1 w'2 → RI w'2 b1 0 fun n4 ↦ (n4 = 0 → R (.returned (.int .i64 4)) w'2) ∧ (n4 ≠ 0 → RI w'2 b1 1 fun n7 ↦ 0 ≤ n7 ∧ R (.returned (.int .i64 (shlI IntKind.i64 1 n7.toNat))) w'2)

set_option maxRecDepth 100000 in
theorem qown_eq (v0 : Int) (v1 : Int) (v2 : ByteArray) (w : World) (R : Ending → World → Prop) : qown_T v0 v1 v2 w R = vcFn Tryd.prog [] [] Tryd.f48 [.agg #[.int .i64 v0, .int .i64 v1, .string v2]] w R := by kernel_rfl

set_option maxRecDepth 100000 in
theorem qown_vc (v0 : Int) (v1 : Int) (v2 : ByteArray) (w : World) (R : Ending → World → Prop) (h : qown_T v0 v1 v2 w R) : Calls Tryd.prog 48 #[.agg #[.int .i64 v0, .int .i64 v1, .string v2]] w R :=
  calls_of_vc (args := [.agg #[.int .i64 v0, .int .i64 v1, .string v2]]) [] [] Tryd.mixed Tryd.func48 (cast (qown_eq _ _ _ w R) h)

set_option maxRecDepth 100000 in
def qboth_T (op : Int) (a : Int) (b : Int) (w : World) (R : Ending → World → Prop) : Prop :=
  ∃ (I1 : Int → Int → World → Prop), ∃ (M2 : Int → Int → World → Nat), I1 0 0 w ∧ ∀ (n3 n4 : Int) (w'5 : World), I1 n3 n4 w'5 → (n4 < 3 → ∃ (I8 : Int → Int → World → Prop), ∃ (M9 : Int → Int → World → Nat), I8 n3 0 w'5 ∧ ∀ (n10 n11 : Int) (w'12 : World), I8 n10 n11 w'12 → (n11 < 3 → Calls Tryd.prog 29 #[.int .i64 a, .int .i64 n4] w'12 fun e15 w16 ↦
 ∃ b17, e15 = .returned (.bool b17) ∧ Calls Tryd.prog 29 #[.int .i64 b, .int .i64 n11] w16 fun e18 w19 ↦
 ∃ b20, e18 = .returned (.bool b20) ∧ (b17 = true ∧ b20 = true → Calls Tryd.prog 70 #[.int .i64 n4] w19 fun e22 w23 ↦
 ∃ n24, ∃ n25, ∃ s26, e22 = .returned (.agg #[.int .i64 n24, .int .i64 n25, .string s26]) ∧ Calls Tryd.prog 70 #[.int .i64 n11] w23 fun e27 w28 ↦
 ∃ n29, ∃ n30, ∃ s31, e27 = .returned (.agg #[.int .i64 n29, .int .i64 n30, .string s31]) ∧ Calls Tryd.prog 69
 #[.int .i64 op, .agg #[.int .i64 n24, .int .i64 n25, .string s26], .agg #[.int .i64 n29, .int .i64 n30, .string s31]]
 w28 fun e32 w33 ↦
 ∃ n34, ∃ n35, ∃ s36, ∃ n37, e32 = .returned (.tuple #[.agg #[.int .i64 n34, .int .i64 n35, .string s36], .int .i64 n37]) ∧ ∀ b38 w'39, New w33 (Obj.cells #[.int .i64 0, .int .i64 0, .string ⟨#[]⟩] 25) b38 w'39 → CW w'39 b38 0 fun _ ↦ CW w'39 b38 1 fun _ ↦ CW w'39 b38 2 fun _ ↦ ∀ w'44, Put w'39 b38 0 [.int .i64 n34, .int .i64 n35, .string s36] w'44 → RI w'44 b38 0 fun n46 ↦ RI w'44 b38 1 fun n47 ↦ RS w'44 b38 2 fun s48 ↦ Calls Tryd.prog 48 #[.agg #[.int .i64 n46, .int .i64 n47, .string s48]] w'44 fun e49 w50 ↦
 ∃ n51, e49 = .returned (.int .i64 n51) ∧ I8 (bits BinOp.or IntKind.i64 n10 n51) (IntKind.i64.wrap (n11 + 1)) w50 ∧ M9 (bits BinOp.or IntKind.i64 n10 n51) (IntKind.i64.wrap (n11 + 1)) w50 < M9 n10 n11 w'12) ∧ (b17 = false ∨ b20 = false → I8 n10 (IntKind.i64.wrap (n11 + 1)) w19 ∧ M9 n10 (IntKind.i64.wrap (n11 + 1)) w19 < M9 n10 n11 w'12)) ∧ (3 ≤ n11 → I1 n10 (IntKind.i64.wrap (n4 + 1)) w'12 ∧ M2 n10 (IntKind.i64.wrap (n4 + 1)) w'12 < M2 n3 n4 w'5)) ∧ (3 ≤ n4 → R (.returned (.int .i64 n3)) w'5)

set_option maxRecDepth 100000 in
theorem qboth_eq (op : Int) (a : Int) (b : Int) (w : World) (R : Ending → World → Prop) : qboth_T op a b w R = vcFn Tryd.prog [] [] Tryd.f50 [.int .i64 op, .int .i64 a, .int .i64 b] w R := by kernel_rfl

set_option maxRecDepth 100000 in
theorem qboth_vc (op : Int) (a : Int) (b : Int) (w : World) (R : Ending → World → Prop) (h : qboth_T op a b w R) : Calls Tryd.prog 50 #[.int .i64 op, .int .i64 a, .int .i64 b] w R :=
  calls_of_vc (args := [.int .i64 op, .int .i64 a, .int .i64 b]) [] [] Tryd.mixed Tryd.func50 (cast (qboth_eq _ _ _ w R) h)

set_option maxRecDepth 100000 in
def qanswers_T (cols_p : Option Addr) (cols_n : Nat) (cols_c : Nat) (zones_p : Option Addr) (zones_n : Nat) (zones_c : Nat) (n : Int) (x0 : Int) (x1 : ByteArray) (x2 : Int) (x3 : Int) (x4 : ByteArray) (x5_p : Option Addr) (x5_n : Nat) (x5_c : Nat) (w : World) (R : Ending → World → Prop) : Prop :=
  ∀ b1 w'2, New w (Obj.cells #[.int .i64 x0, .string x1, .int .i64 x2, .int .i64 x3, .string x4, .slice x5_p x5_n x5_c] 28) b1
 w'2 → RI w'2 b1 0 fun n4 ↦ (n4 = 2 → RI w'2 b1 2 fun n6 ↦ RI w'2 b1 3 fun n7 ↦ RS w'2 b1 4 fun s8 ↦ Calls Tryd.prog 48 #[.agg #[.int .i64 n6, .int .i64 n7, .string s8]] w'2 fun e9 w10 ↦
 ∃ n11, e9 = .returned (.int .i64 n11) ∧ R (.returned (.int .i64 n11)) w10) ∧ (n4 ≠ 2 → (n4 = 1 → RS w'2 b1 1 fun s14 ↦ Calls Tryd.prog 33 #[.slice cols_p cols_n cols_c, .string s14] w'2 fun e15 w16 ↦
 ∃ n17, e15 = .returned (.int .i64 n17) ∧ ∃ b18, ∃ o19, zones_p = some ⟨b18, o19, none⟩ ∧ 0 ≤ n17 ∧ n17 < (↑zones_n : Int) ∧ RI w16 b18 (o19 + n17.toNat * 7) fun n20 ↦ RI w16 b18 (o19 + n17.toNat * 7 + 1) fun n21 ↦ RI w16 b18 (o19 + n17.toNat * 7 + 2) fun n22 ↦ RS w16 b18 (o19 + n17.toNat * 7 + 3) fun s23 ↦ RI w16 b18 (o19 + n17.toNat * 7 + 4) fun n24 ↦ RI w16 b18 (o19 + n17.toNat * 7 + 5) fun n25 ↦ RS w16 b18 (o19 + n17.toNat * 7 + 6) fun s26 ↦ ∀ b27 w'28, New w16
 (Obj.cells
 #[.int .i64 0, .int .i64 0, .int .i64 0, .string ⟨#[]⟩, .int .i64 0, .int .i64 0, .string ⟨#[]⟩]
 50)
 b27 w'28 → CW w'28 b27 0 fun _ ↦ CW w'28 b27 1 fun _ ↦ CW w'28 b27 2 fun _ ↦ CW w'28 b27 3 fun _ ↦ CW w'28 b27 4 fun _ ↦ CW w'28 b27 5 fun _ ↦ CW w'28 b27 6 fun _ ↦ ∀ w'37, Put w'28 b27 0
 [.int .i64 n20, .int .i64 n21, .int .i64 n22, .string s23, .int .i64 n24, .int .i64 n25, .string s26]
 w'37 → RI w'37 b27 0 fun n39 ↦ (n39 < n → RI w'37 b27 2 fun n41 ↦ RI w'37 b27 0 fun n42 ↦ (n42 < n → RI w'37 b27 5 fun n44 ↦ RI w'37 b27 0 fun n45 ↦ Calls Tryd.prog 49 #[.bool (decide (n41 = 0)), .bool (decide (n44 = 1)), .bool (decide (0 < n45))] w'37 fun e46 w47 ↦
 ∃ n48, e46 = .returned (.int .i64 n48) ∧ R (.returned (.int .i64 n48)) w47) ∧ (n ≤ n42 → RI w'37 b27 0 fun n50 ↦ Calls Tryd.prog 49 #[.bool (decide (n41 = 0)), .bool false, .bool (decide (0 < n50))] w'37 fun e51 w52 ↦
 ∃ n53, e51 = .returned (.int .i64 n53) ∧ R (.returned (.int .i64 n53)) w52)) ∧ (n ≤ n39 → RI w'37 b27 0 fun n55 ↦ (n55 < n → RI w'37 b27 5 fun n57 ↦ RI w'37 b27 0 fun n58 ↦ Calls Tryd.prog 49 #[.bool false, .bool (decide (n57 = 1)), .bool (decide (0 < n58))] w'37 fun e59 w60 ↦
 ∃ n61, e59 = .returned (.int .i64 n61) ∧ R (.returned (.int .i64 n61)) w60) ∧ (n ≤ n55 → RI w'37 b27 0 fun n63 ↦ Calls Tryd.prog 49 #[.bool false, .bool false, .bool (decide (0 < n63))] w'37 fun e64 w65 ↦
 ∃ n66, e64 = .returned (.int .i64 n66) ∧ R (.returned (.int .i64 n66)) w65))) ∧ (n4 ≠ 1 → (n4 = 14 → RL w'2 b1 5 fun p69 n70 c71 ↦ ∃ b72, ∃ o73, p69 = some ⟨b72, o73, none⟩ ∧ (0 : Int) ≤ 0 ∧ 0 < (↑n70 : Int) ∧ RI w'2 b72 (o73 + 0) fun n74 ↦ RS w'2 b72 (o73 + 0 + 1) fun s75 ↦ RI w'2 b72 (o73 + 0 + 2) fun n76 ↦ RI w'2 b72 (o73 + 0 + 3) fun n77 ↦ RS w'2 b72 (o73 + 0 + 4) fun s78 ↦ RL w'2 b72 (o73 + 0 + 5) fun p79 n80 c81 ↦ Calls Tryd.prog 26
 #[.slice cols_p cols_n cols_c, .slice zones_p zones_n zones_c, .int .i64 n, .agg #[.int .i64 n74, .string s75, .int .i64 n76, .int .i64 n77, .string s78, .slice p79 n80 c81]]
 w'2 fun e82 w83 ↦
 ∃ n84, e82 = .returned (.int .i64 n84) ∧ Calls Tryd.prog 29 #[.int .i64 n84, .int .i64 1] w83 fun e85 w86 ↦
 ∃ b87, e85 = .returned (.bool b87) ∧ Calls Tryd.prog 29 #[.int .i64 n84, .int .i64 0] w86 fun e88 w89 ↦
 ∃ b90, e88 = .returned (.bool b90) ∧ Calls Tryd.prog 29 #[.int .i64 n84, .int .i64 2] w89 fun e91 w92 ↦
 ∃ b93, e91 = .returned (.bool b93) ∧ Calls Tryd.prog 49 #[.bool b87, .bool b90, .bool b93] w92 fun e94 w95 ↦
 ∃ n96, e94 = .returned (.int .i64 n96) ∧ R (.returned (.int .i64 n96)) w95) ∧ (n4 ≠ 14 → (n4 = 12 → (n4 = 12 → ∀ w'100, Drew w'2 w'100 → RI w'100 b1 0 fun n102 ↦ RL w'100 b1 5 fun p103 n104 c105 ↦ ∃ b106, ∃ o107, p103 = some ⟨b106, o107, none⟩ ∧ (0 : Int) ≤ 0 ∧ 0 < (↑n104 : Int) ∧ RI w'100 b106 (o107 + 0) fun n108 ↦ RS w'100 b106 (o107 + 0 + 1) fun s109 ↦ RI w'100 b106 (o107 + 0 + 2) fun n110 ↦ RI w'100 b106 (o107 + 0 + 3) fun n111 ↦ RS w'100 b106 (o107 + 0 + 4) fun s112 ↦ RL w'100 b106 (o107 + 0 + 5) fun p113 n114 c115 ↦ RL w'100 b1 5 fun p116 n117 c118 ↦ ∃ b119, ∃ o120, p116 = some ⟨b119, o120, none⟩ ∧ (0 : Int) ≤ 1 ∧ 1 < (↑n117 : Int) ∧ RI w'100 b119 (o120 + 6) fun n121 ↦ RS w'100 b119 (o120 + 6 + 1) fun s122 ↦ RI w'100 b119 (o120 + 6 + 2) fun n123 ↦ RI w'100 b119 (o120 + 6 + 3) fun n124 ↦ RS w'100 b119 (o120 + 6 + 4) fun s125 ↦ RL w'100 b119 (o120 + 6 + 5) fun p126 n127 c128 ↦ Calls Tryd.prog 26
 #[.slice cols_p cols_n cols_c, .slice zones_p zones_n zones_c, .int .i64 n, .agg #[.int .i64 n108, .string s109, .int .i64 n110, .int .i64 n111, .string s112, .slice p113 n114 c115]]
 w'100 fun e129 w130 ↦
 ∃ n131, e129 = .returned (.int .i64 n131) ∧ SameTo w'100 w'100 w130 ∧ Calls Tryd.prog 26
 #[.slice cols_p cols_n cols_c, .slice zones_p zones_n zones_c, .int .i64 n, .agg #[.int .i64 n121, .string s122, .int .i64 n123, .int .i64 n124, .string s125, .slice p126 n127 c128]]
 w130 fun e132 w133 ↦
 ∃ n134, e132 = .returned (.int .i64 n134) ∧ SameTo w'100 w130 w133 ∧ Calls Tryd.prog 50 #[.int .i64 n102, .int .i64 n131, .int .i64 n134] w133 fun e135 w136 ↦
 ∃ n137, e135 = .returned (.int .i64 n137) ∧ R (.returned (.int .i64 n137)) w136) ∧ (n4 ≠ 12 → (n4 = 15 → RL w'2 b1 5 fun p140 n141 c142 ↦ ∃ b143, ∃ o144, p140 = some ⟨b143, o144, none⟩ ∧ (0 : Int) ≤ 0 ∧ 0 < (↑n141 : Int) ∧ RI w'2 b143 (o144 + 0) fun n145 ↦ RS w'2 b143 (o144 + 0 + 1) fun s146 ↦ RI w'2 b143 (o144 + 0 + 2) fun n147 ↦ RI w'2 b143 (o144 + 0 + 3) fun n148 ↦ RS w'2 b143 (o144 + 0 + 4) fun s149 ↦ RL w'2 b143 (o144 + 0 + 5) fun p150 n151 c152 ↦ Calls Tryd.prog 51
 #[.slice cols_p cols_n cols_c, .slice zones_p zones_n zones_c, .int .i64 n, .agg #[.int .i64 n145, .string s146, .int .i64 n147, .int .i64 n148, .string s149, .slice p150 n151 c152]]
 w'2 fun e153 w154 ↦
 ∃ b155, ∃ b156, ∃ n157, ∃ n158, ∃ s159, ∃ n160, ∃ n161, ∃ s162, ∃ b163, e153 =
 .returned
 (Value.tuple
 #[Value.agg
 #[.bool b155, .bool b156, .int .i64 n157, .int .i64 n158, .string s159, .int .i64 n160, .int .i64 n161, .string s162], .bool b163]) ∧ ∀ b164 w'165, New w154
 (Obj.cells
 #[.bool false, .bool false, .int .i64 0, .int .i64 0, .string ⟨#[]⟩, .int .i64 0, .int .i64 0, .string ⟨#[]⟩]
 83)
 b164 w'165 → CW w'165 b164 0 fun _ ↦ CW w'165 b164 1 fun _ ↦ CW w'165 b164 2 fun _ ↦ CW w'165 b164 3 fun _ ↦ CW w'165 b164 4 fun _ ↦ CW w'165 b164 5 fun _ ↦ CW w'165 b164 6 fun _ ↦ CW w'165 b164 7 fun _ ↦ ∀ w'175, Put w'165 b164 0
 [.bool b155, .bool b156, .int .i64 n157, .int .i64 n158, .string s159, .int .i64 n160, .int .i64 n161, .string s162]
 w'175 → (b163 = true → ∃ b178, w'175.cell? ⟨b164, 1, none⟩ = some (.bool b178) ∧ ∃ b179, w'175.cell? ⟨b164, 0, none⟩ = some (.bool b179) ∧ Calls Tryd.prog 49 #[.bool b178, .bool b179, .bool false] w'175 fun e180 w181 ↦
 ∃ n182, e180 = .returned (.int .i64 n182) ∧ R (.returned (.int .i64 n182)) w181) ∧ (b163 = false → R (.returned (.int .i64 7)) w'175)) ∧ (n4 ≠ 15 → (n4 = 9 → (n4 = 9 → RL w'2 b1 5 fun p187 n188 c189 ↦ ∃ b190, ∃ o191, p187 = some ⟨b190, o191, none⟩ ∧ (0 : Int) ≤ 0 ∧ 0 < (↑n188 : Int) ∧ RI w'2 b190 (o191 + 0) fun n192 ↦ RS w'2 b190 (o191 + 0 + 1) fun s193 ↦ RI w'2 b190 (o191 + 0 + 2) fun n194 ↦ RI w'2 b190 (o191 + 0 + 3) fun n195 ↦ RS w'2 b190 (o191 + 0 + 4) fun s196 ↦ RL w'2 b190 (o191 + 0 + 5) fun p197 n198 c199 ↦ Calls Tryd.prog 51
 #[.slice cols_p cols_n cols_c, .slice zones_p zones_n zones_c, .int .i64 n, .agg #[.int .i64 n192, .string s193, .int .i64 n194, .int .i64 n195, .string s196, .slice p197 n198 c199]]
 w'2 fun e200 w201 ↦
 ∃ b202, ∃ b203, ∃ n204, ∃ n205, ∃ s206, ∃ n207, ∃ n208, ∃ s209, ∃ b210, e200 =
 .returned
 (Value.tuple
 #[Value.agg
 #[.bool b202, .bool b203, .int .i64 n204, .int .i64 n205, .string s206, .int .i64 n207, .int .i64 n208, .string s209], .bool b210]) ∧ ∀ b211 w'212, New w201
 (Obj.cells
 #[.bool false, .bool false, .int .i64 0, .int .i64 0, .string ⟨#[]⟩, .int .i64 0, .int .i64 0, .string ⟨#[]⟩]
 83)
 b211 w'212 → CW w'212 b211 0 fun _ ↦ CW w'212 b211 1 fun _ ↦ CW w'212 b211 2 fun _ ↦ CW w'212 b211 3 fun _ ↦ CW w'212 b211 4 fun _ ↦ CW w'212 b211 5 fun _ ↦ CW w'212 b211 6 fun _ ↦ CW w'212 b211 7 fun _ ↦ ∀ w'222, Put w'212 b211 0
 [.bool b202, .bool b203, .int .i64 n204, .int .i64 n205, .string s206, .int .i64 n207, .int .i64 n208, .string s209]
 w'222 → RL w'222 b1 5 fun p224 n225 c226 ↦ ∃ b227, ∃ o228, p224 = some ⟨b227, o228, none⟩ ∧ (0 : Int) ≤ 1 ∧ 1 < (↑n225 : Int) ∧ RI w'222 b227 (o228 + 6) fun n229 ↦ RS w'222 b227 (o228 + 6 + 1) fun s230 ↦ RI w'222 b227 (o228 + 6 + 2) fun n231 ↦ RI w'222 b227 (o228 + 6 + 3) fun n232 ↦ RS w'222 b227 (o228 + 6 + 4) fun s233 ↦ RL w'222 b227 (o228 + 6 + 5) fun p234 n235 c236 ↦ Calls Tryd.prog 51
 #[.slice cols_p cols_n cols_c, .slice zones_p zones_n zones_c, .int .i64 n, .agg #[.int .i64 n229, .string s230, .int .i64 n231, .int .i64 n232, .string s233, .slice p234 n235 c236]]
 w'222 fun e237 w238 ↦
 ∃ b239, ∃ b240, ∃ n241, ∃ n242, ∃ s243, ∃ n244, ∃ n245, ∃ s246, ∃ b247, e237 =
 .returned
 (Value.tuple
 #[Value.agg
 #[.bool b239, .bool b240, .int .i64 n241, .int .i64 n242, .string s243, .int .i64 n244, .int .i64 n245, .string s246], .bool b247]) ∧ ∀ b248 w'249, New w238
 (Obj.cells
 #[.bool false, .bool false, .int .i64 0, .int .i64 0, .string ⟨#[]⟩, .int .i64 0, .int .i64 0, .string ⟨#[]⟩]
 83)
 b248 w'249 → CW w'249 b248 0 fun _ ↦ CW w'249 b248 1 fun _ ↦ CW w'249 b248 2 fun _ ↦ CW w'249 b248 3 fun _ ↦ CW w'249 b248 4 fun _ ↦ CW w'249 b248 5 fun _ ↦ CW w'249 b248 6 fun _ ↦ CW w'249 b248 7 fun _ ↦ ∀ w'259, Put w'249 b248 0
 [.bool b239, .bool b240, .int .i64 n241, .int .i64 n242, .string s243, .int .i64 n244, .int .i64 n245, .string s246]
 w'259 → (b210 = true ∧ b247 = true → RI w'259 b1 0 fun n262 ↦ ∃ b263, w'259.cell? ⟨b211, 0, none⟩ = some (.bool b263) ∧ ∃ b264, w'259.cell? ⟨b211, 1, none⟩ = some (.bool b264) ∧ RI w'259 b211 2 fun n265 ↦ RI w'259 b211 3 fun n266 ↦ RS w'259 b211 4 fun s267 ↦ RI w'259 b211 5 fun n268 ↦ RI w'259 b211 6 fun n269 ↦ RS w'259 b211 7 fun s270 ↦ ∃ b271, w'259.cell? ⟨b248, 0, none⟩ = some (.bool b271) ∧ ∃ b272, w'259.cell? ⟨b248, 1, none⟩ = some (.bool b272) ∧ RI w'259 b248 2 fun n273 ↦ RI w'259 b248 3 fun n274 ↦ RS w'259 b248 4 fun s275 ↦ RI w'259 b248 5 fun n276 ↦ RI w'259 b248 6 fun n277 ↦ RS w'259 b248 7 fun s278 ↦ Calls Tryd.prog 52
 #[.int .i64 n262, Value.agg
 #[.bool b263, .bool b264, .int .i64 n265, .int .i64 n266, .string s267, .int .i64 n268, .int .i64 n269, .string s270], Value.agg
 #[.bool b271, .bool b272, .int .i64 n273, .int .i64 n274, .string s275, .int .i64 n276, .int .i64 n277, .string s278]]
 w'259 fun e279 w280 ↦ ∃ n281, e279 = .returned (.int .i64 n281) ∧ R (.returned (.int .i64 n281)) w280) ∧ (b210 = false ∨ b247 = false → R (.returned (.int .i64 7)) w'259)) ∧ (n4 ≠ 9 → R (.returned (.int .i64 7)) w'2)) ∧ (n4 ≠ 9 → (n4 = 10 → (n4 = 10 → RL w'2 b1 5 fun p287 n288 c289 ↦ ∃ b290, ∃ o291, p287 = some ⟨b290, o291, none⟩ ∧ (0 : Int) ≤ 0 ∧ 0 < (↑n288 : Int) ∧ RI w'2 b290 (o291 + 0) fun n292 ↦ RS w'2 b290 (o291 + 0 + 1) fun s293 ↦ RI w'2 b290 (o291 + 0 + 2) fun n294 ↦ RI w'2 b290 (o291 + 0 + 3) fun n295 ↦ RS w'2 b290 (o291 + 0 + 4) fun s296 ↦ RL w'2 b290 (o291 + 0 + 5) fun p297 n298 c299 ↦ Calls Tryd.prog 51
 #[.slice cols_p cols_n cols_c, .slice zones_p zones_n zones_c, .int .i64 n, .agg #[.int .i64 n292, .string s293, .int .i64 n294, .int .i64 n295, .string s296, .slice p297 n298 c299]]
 w'2 fun e300 w301 ↦
 ∃ b302, ∃ b303, ∃ n304, ∃ n305, ∃ s306, ∃ n307, ∃ n308, ∃ s309, ∃ b310, e300 =
 .returned
 (Value.tuple
 #[Value.agg
 #[.bool b302, .bool b303, .int .i64 n304, .int .i64 n305, .string s306, .int .i64 n307, .int .i64 n308, .string s309], .bool b310]) ∧ ∀ b311 w'312, New w301
 (Obj.cells
 #[.bool false, .bool false, .int .i64 0, .int .i64 0, .string ⟨#[]⟩, .int .i64 0, .int .i64 0, .string ⟨#[]⟩]
 83)
 b311 w'312 → CW w'312 b311 0 fun _ ↦ CW w'312 b311 1 fun _ ↦ CW w'312 b311 2 fun _ ↦ CW w'312 b311 3 fun _ ↦ CW w'312 b311 4 fun _ ↦ CW w'312 b311 5 fun _ ↦ CW w'312 b311 6 fun _ ↦ CW w'312 b311 7 fun _ ↦ ∀ w'322, Put w'312 b311 0
 [.bool b302, .bool b303, .int .i64 n304, .int .i64 n305, .string s306, .int .i64 n307, .int .i64 n308, .string s309]
 w'322 → RL w'322 b1 5 fun p324 n325 c326 ↦ ∃ b327, ∃ o328, p324 = some ⟨b327, o328, none⟩ ∧ (0 : Int) ≤ 1 ∧ 1 < (↑n325 : Int) ∧ RI w'322 b327 (o328 + 6) fun n329 ↦ RS w'322 b327 (o328 + 6 + 1) fun s330 ↦ RI w'322 b327 (o328 + 6 + 2) fun n331 ↦ RI w'322 b327 (o328 + 6 + 3) fun n332 ↦ RS w'322 b327 (o328 + 6 + 4) fun s333 ↦ RL w'322 b327 (o328 + 6 + 5) fun p334 n335 c336 ↦ Calls Tryd.prog 51
 #[.slice cols_p cols_n cols_c, .slice zones_p zones_n zones_c, .int .i64 n, .agg #[.int .i64 n329, .string s330, .int .i64 n331, .int .i64 n332, .string s333, .slice p334 n335 c336]]
 w'322 fun e337 w338 ↦
 ∃ b339, ∃ b340, ∃ n341, ∃ n342, ∃ s343, ∃ n344, ∃ n345, ∃ s346, ∃ b347, e337 =
 .returned
 (Value.tuple
 #[Value.agg
 #[.bool b339, .bool b340, .int .i64 n341, .int .i64 n342, .string s343, .int .i64 n344, .int .i64 n345, .string s346], .bool b347]) ∧ ∀ b348 w'349, New w338
 (Obj.cells
 #[.bool false, .bool false, .int .i64 0, .int .i64 0, .string ⟨#[]⟩, .int .i64 0, .int .i64 0, .string ⟨#[]⟩]
 83)
 b348 w'349 → CW w'349 b348 0 fun _ ↦ CW w'349 b348 1 fun _ ↦ CW w'349 b348 2 fun _ ↦ CW w'349 b348 3 fun _ ↦ CW w'349 b348 4 fun _ ↦ CW w'349 b348 5 fun _ ↦ CW w'349 b348 6 fun _ ↦ CW w'349 b348 7 fun _ ↦ ∀ w'359, Put w'349 b348 0
 [.bool b339, .bool b340, .int .i64 n341, .int .i64 n342, .string s343, .int .i64 n344, .int .i64 n345, .string s346]
 w'359 → (b310 = true ∧ b347 = true → RI w'359 b1 0 fun n362 ↦ ∃ b363, w'359.cell? ⟨b311, 0, none⟩ = some (.bool b363) ∧ ∃ b364, w'359.cell? ⟨b311, 1, none⟩ = some (.bool b364) ∧ RI w'359 b311 2 fun n365 ↦ RI w'359 b311 3 fun n366 ↦ RS w'359 b311 4 fun s367 ↦ RI w'359 b311 5 fun n368 ↦ RI w'359 b311 6 fun n369 ↦ RS w'359 b311 7 fun s370 ↦ ∃ b371, w'359.cell? ⟨b348, 0, none⟩ = some (.bool b371) ∧ ∃ b372, w'359.cell? ⟨b348, 1, none⟩ = some (.bool b372) ∧ RI w'359 b348 2 fun n373 ↦ RI w'359 b348 3 fun n374 ↦ RS w'359 b348 4 fun s375 ↦ RI w'359 b348 5 fun n376 ↦ RI w'359 b348 6 fun n377 ↦ RS w'359 b348 7 fun s378 ↦ Calls Tryd.prog 52
 #[.int .i64 n362, Value.agg
 #[.bool b363, .bool b364, .int .i64 n365, .int .i64 n366, .string s367, .int .i64 n368, .int .i64 n369, .string s370], Value.agg
 #[.bool b371, .bool b372, .int .i64 n373, .int .i64 n374, .string s375, .int .i64 n376, .int .i64 n377, .string s378]]
 w'359 fun e379 w380 ↦ ∃ n381, e379 = .returned (.int .i64 n381) ∧ R (.returned (.int .i64 n381)) w380) ∧ (b310 = false ∨ b347 = false → R (.returned (.int .i64 7)) w'359)) ∧ (n4 ≠ 10 → R (.returned (.int .i64 7)) w'2)) ∧ (n4 ≠ 10 → (n4 = 11 → RL w'2 b1 5 fun p386 n387 c388 ↦ ∃ b389, ∃ o390, p386 = some ⟨b389, o390, none⟩ ∧ (0 : Int) ≤ 0 ∧ 0 < (↑n387 : Int) ∧ RI w'2 b389 (o390 + 0) fun n391 ↦ RS w'2 b389 (o390 + 0 + 1) fun s392 ↦ RI w'2 b389 (o390 + 0 + 2) fun n393 ↦ RI w'2 b389 (o390 + 0 + 3) fun n394 ↦ RS w'2 b389 (o390 + 0 + 4) fun s395 ↦ RL w'2 b389 (o390 + 0 + 5) fun p396 n397 c398 ↦ Calls Tryd.prog 51
 #[.slice cols_p cols_n cols_c, .slice zones_p zones_n zones_c, .int .i64 n, .agg #[.int .i64 n391, .string s392, .int .i64 n393, .int .i64 n394, .string s395, .slice p396 n397 c398]]
 w'2 fun e399 w400 ↦
 ∃ b401, ∃ b402, ∃ n403, ∃ n404, ∃ s405, ∃ n406, ∃ n407, ∃ s408, ∃ b409, e399 =
 .returned
 (Value.tuple
 #[Value.agg
 #[.bool b401, .bool b402, .int .i64 n403, .int .i64 n404, .string s405, .int .i64 n406, .int .i64 n407, .string s408], .bool b409]) ∧ ∀ b410 w'411, New w400
 (Obj.cells
 #[.bool false, .bool false, .int .i64 0, .int .i64 0, .string ⟨#[]⟩, .int .i64 0, .int .i64 0, .string ⟨#[]⟩]
 83)
 b410 w'411 → CW w'411 b410 0 fun _ ↦ CW w'411 b410 1 fun _ ↦ CW w'411 b410 2 fun _ ↦ CW w'411 b410 3 fun _ ↦ CW w'411 b410 4 fun _ ↦ CW w'411 b410 5 fun _ ↦ CW w'411 b410 6 fun _ ↦ CW w'411 b410 7 fun _ ↦ ∀ w'421, Put w'411 b410 0
 [.bool b401, .bool b402, .int .i64 n403, .int .i64 n404, .string s405, .int .i64 n406, .int .i64 n407, .string s408]
 w'421 → RL w'421 b1 5 fun p423 n424 c425 ↦ ∃ b426, ∃ o427, p423 = some ⟨b426, o427, none⟩ ∧ (0 : Int) ≤ 1 ∧ 1 < (↑n424 : Int) ∧ RI w'421 b426 (o427 + 6) fun n428 ↦ RS w'421 b426 (o427 + 6 + 1) fun s429 ↦ RI w'421 b426 (o427 + 6 + 2) fun n430 ↦ RI w'421 b426 (o427 + 6 + 3) fun n431 ↦ RS w'421 b426 (o427 + 6 + 4) fun s432 ↦ RL w'421 b426 (o427 + 6 + 5) fun p433 n434 c435 ↦ Calls Tryd.prog 51
 #[.slice cols_p cols_n cols_c, .slice zones_p zones_n zones_c, .int .i64 n, .agg #[.int .i64 n428, .string s429, .int .i64 n430, .int .i64 n431, .string s432, .slice p433 n434 c435]]
 w'421 fun e436 w437 ↦
 ∃ b438, ∃ b439, ∃ n440, ∃ n441, ∃ s442, ∃ n443, ∃ n444, ∃ s445, ∃ b446, e436 =
 .returned
 (Value.tuple
 #[Value.agg
 #[.bool b438, .bool b439, .int .i64 n440, .int .i64 n441, .string s442, .int .i64 n443, .int .i64 n444, .string s445], .bool b446]) ∧ ∀ b447 w'448, New w437
 (Obj.cells
 #[.bool false, .bool false, .int .i64 0, .int .i64 0, .string ⟨#[]⟩, .int .i64 0, .int .i64 0, .string ⟨#[]⟩]
 83)
 b447 w'448 → CW w'448 b447 0 fun _ ↦ CW w'448 b447 1 fun _ ↦ CW w'448 b447 2 fun _ ↦ CW w'448 b447 3 fun _ ↦ CW w'448 b447 4 fun _ ↦ CW w'448 b447 5 fun _ ↦ CW w'448 b447 6 fun _ ↦ CW w'448 b447 7 fun _ ↦ ∀ w'458, Put w'448 b447 0
 [.bool b438, .bool b439, .int .i64 n440, .int .i64 n441, .string s442, .int .i64 n443, .int .i64 n444, .string s445]
 w'458 → (b409 = true ∧ b446 = true → RI w'458 b1 0 fun n461 ↦ ∃ b462, w'458.cell? ⟨b410, 0, none⟩ = some (.bool b462) ∧ ∃ b463, w'458.cell? ⟨b410, 1, none⟩ = some (.bool b463) ∧ RI w'458 b410 2 fun n464 ↦ RI w'458 b410 3 fun n465 ↦ RS w'458 b410 4 fun s466 ↦ RI w'458 b410 5 fun n467 ↦ RI w'458 b410 6 fun n468 ↦ RS w'458 b410 7 fun s469 ↦ ∃ b470, w'458.cell? ⟨b447, 0, none⟩ = some (.bool b470) ∧ ∃ b471, w'458.cell? ⟨b447, 1, none⟩ = some (.bool b471) ∧ RI w'458 b447 2 fun n472 ↦ RI w'458 b447 3 fun n473 ↦ RS w'458 b447 4 fun s474 ↦ RI w'458 b447 5 fun n475 ↦ RI w'458 b447 6 fun n476 ↦ RS w'458 b447 7 fun s477 ↦ Calls Tryd.prog 52
 #[.int .i64 n461, Value.agg
 #[.bool b462, .bool b463, .int .i64 n464, .int .i64 n465, .string s466, .int .i64 n467, .int .i64 n468, .string s469], Value.agg
 #[.bool b470, .bool b471, .int .i64 n472, .int .i64 n473, .string s474, .int .i64 n475, .int .i64 n476, .string s477]]
 w'458 fun e478 w479 ↦ ∃ n480, e478 = .returned (.int .i64 n480) ∧ R (.returned (.int .i64 n480)) w479) ∧ (b409 = false ∨ b446 = false → R (.returned (.int .i64 7)) w'458)) ∧ (n4 ≠ 11 → R (.returned (.int .i64 7)) w'2)))))) ∧ (n4 ≠ 12 → (n4 = 13 → ∀ w'485, Drew w'2 w'485 → RI w'485 b1 0 fun n487 ↦ RL w'485 b1 5 fun p488 n489 c490 ↦ ∃ b491, ∃ o492, p488 = some ⟨b491, o492, none⟩ ∧ (0 : Int) ≤ 0 ∧ 0 < (↑n489 : Int) ∧ RI w'485 b491 (o492 + 0) fun n493 ↦ RS w'485 b491 (o492 + 0 + 1) fun s494 ↦ RI w'485 b491 (o492 + 0 + 2) fun n495 ↦ RI w'485 b491 (o492 + 0 + 3) fun n496 ↦ RS w'485 b491 (o492 + 0 + 4) fun s497 ↦ RL w'485 b491 (o492 + 0 + 5) fun p498 n499 c500 ↦ RL w'485 b1 5 fun p501 n502 c503 ↦ ∃ b504, ∃ o505, p501 = some ⟨b504, o505, none⟩ ∧ (0 : Int) ≤ 1 ∧ 1 < (↑n502 : Int) ∧ RI w'485 b504 (o505 + 6) fun n506 ↦ RS w'485 b504 (o505 + 6 + 1) fun s507 ↦ RI w'485 b504 (o505 + 6 + 2) fun n508 ↦ RI w'485 b504 (o505 + 6 + 3) fun n509 ↦ RS w'485 b504 (o505 + 6 + 4) fun s510 ↦ RL w'485 b504 (o505 + 6 + 5) fun p511 n512 c513 ↦ Calls Tryd.prog 26
 #[.slice cols_p cols_n cols_c, .slice zones_p zones_n zones_c, .int .i64 n, .agg #[.int .i64 n493, .string s494, .int .i64 n495, .int .i64 n496, .string s497, .slice p498 n499 c500]]
 w'485 fun e514 w515 ↦
 ∃ n516, e514 = .returned (.int .i64 n516) ∧ SameTo w'485 w'485 w515 ∧ Calls Tryd.prog 26
 #[.slice cols_p cols_n cols_c, .slice zones_p zones_n zones_c, .int .i64 n, .agg #[.int .i64 n506, .string s507, .int .i64 n508, .int .i64 n509, .string s510, .slice p511 n512 c513]]
 w515 fun e517 w518 ↦
 ∃ n519, e517 = .returned (.int .i64 n519) ∧ SameTo w'485 w515 w518 ∧ Calls Tryd.prog 50 #[.int .i64 n487, .int .i64 n516, .int .i64 n519] w518 fun e520 w521 ↦
 ∃ n522, e520 = .returned (.int .i64 n522) ∧ R (.returned (.int .i64 n522)) w521) ∧ (n4 ≠ 13 → (n4 = 15 → RL w'2 b1 5 fun p525 n526 c527 ↦ ∃ b528, ∃ o529, p525 = some ⟨b528, o529, none⟩ ∧ (0 : Int) ≤ 0 ∧ 0 < (↑n526 : Int) ∧ RI w'2 b528 (o529 + 0) fun n530 ↦ RS w'2 b528 (o529 + 0 + 1) fun s531 ↦ RI w'2 b528 (o529 + 0 + 2) fun n532 ↦ RI w'2 b528 (o529 + 0 + 3) fun n533 ↦ RS w'2 b528 (o529 + 0 + 4) fun s534 ↦ RL w'2 b528 (o529 + 0 + 5) fun p535 n536 c537 ↦ Calls Tryd.prog 51
 #[.slice cols_p cols_n cols_c, .slice zones_p zones_n zones_c, .int .i64 n, .agg #[.int .i64 n530, .string s531, .int .i64 n532, .int .i64 n533, .string s534, .slice p535 n536 c537]]
 w'2 fun e538 w539 ↦
 ∃ b540, ∃ b541, ∃ n542, ∃ n543, ∃ s544, ∃ n545, ∃ n546, ∃ s547, ∃ b548, e538 =
 .returned
 (Value.tuple
 #[Value.agg
 #[.bool b540, .bool b541, .int .i64 n542, .int .i64 n543, .string s544, .int .i64 n545, .int .i64 n546, .string s547], .bool b548]) ∧ ∀ b549 w'550, New w539
 (Obj.cells
 #[.bool false, .bool false, .int .i64 0, .int .i64 0, .string ⟨#[]⟩, .int .i64 0, .int .i64 0, .string ⟨#[]⟩]
 83)
 b549 w'550 → CW w'550 b549 0 fun _ ↦ CW w'550 b549 1 fun _ ↦ CW w'550 b549 2 fun _ ↦ CW w'550 b549 3 fun _ ↦ CW w'550 b549 4 fun _ ↦ CW w'550 b549 5 fun _ ↦ CW w'550 b549 6 fun _ ↦ CW w'550 b549 7 fun _ ↦ ∀ w'560, Put w'550 b549 0
 [.bool b540, .bool b541, .int .i64 n542, .int .i64 n543, .string s544, .int .i64 n545, .int .i64 n546, .string s547]
 w'560 → (b548 = true → ∃ b563, w'560.cell? ⟨b549, 1, none⟩ = some (.bool b563) ∧ ∃ b564, w'560.cell? ⟨b549, 0, none⟩ = some (.bool b564) ∧ Calls Tryd.prog 49 #[.bool b563, .bool b564, .bool false] w'560 fun e565 w566 ↦
 ∃ n567, e565 = .returned (.int .i64 n567) ∧ R (.returned (.int .i64 n567)) w566) ∧ (b548 = false → R (.returned (.int .i64 7)) w'560)) ∧ (n4 ≠ 15 → (n4 = 9 → (n4 = 9 → RL w'2 b1 5 fun p572 n573 c574 ↦ ∃ b575, ∃ o576, p572 = some ⟨b575, o576, none⟩ ∧ (0 : Int) ≤ 0 ∧ 0 < (↑n573 : Int) ∧ RI w'2 b575 (o576 + 0) fun n577 ↦ RS w'2 b575 (o576 + 0 + 1) fun s578 ↦ RI w'2 b575 (o576 + 0 + 2) fun n579 ↦ RI w'2 b575 (o576 + 0 + 3) fun n580 ↦ RS w'2 b575 (o576 + 0 + 4) fun s581 ↦ RL w'2 b575 (o576 + 0 + 5) fun p582 n583 c584 ↦ Calls Tryd.prog 51
 #[.slice cols_p cols_n cols_c, .slice zones_p zones_n zones_c, .int .i64 n, .agg #[.int .i64 n577, .string s578, .int .i64 n579, .int .i64 n580, .string s581, .slice p582 n583 c584]]
 w'2 fun e585 w586 ↦
 ∃ b587, ∃ b588, ∃ n589, ∃ n590, ∃ s591, ∃ n592, ∃ n593, ∃ s594, ∃ b595, e585 =
 .returned
 (Value.tuple
 #[Value.agg
 #[.bool b587, .bool b588, .int .i64 n589, .int .i64 n590, .string s591, .int .i64 n592, .int .i64 n593, .string s594], .bool b595]) ∧ ∀ b596 w'597, New w586
 (Obj.cells
 #[.bool false, .bool false, .int .i64 0, .int .i64 0, .string ⟨#[]⟩, .int .i64 0, .int .i64 0, .string ⟨#[]⟩]
 83)
 b596 w'597 → CW w'597 b596 0 fun _ ↦ CW w'597 b596 1 fun _ ↦ CW w'597 b596 2 fun _ ↦ CW w'597 b596 3 fun _ ↦ CW w'597 b596 4 fun _ ↦ CW w'597 b596 5 fun _ ↦ CW w'597 b596 6 fun _ ↦ CW w'597 b596 7 fun _ ↦ ∀ w'607, Put w'597 b596 0
 [.bool b587, .bool b588, .int .i64 n589, .int .i64 n590, .string s591, .int .i64 n592, .int .i64 n593, .string s594]
 w'607 → RL w'607 b1 5 fun p609 n610 c611 ↦ ∃ b612, ∃ o613, p609 = some ⟨b612, o613, none⟩ ∧ (0 : Int) ≤ 1 ∧ 1 < (↑n610 : Int) ∧ RI w'607 b612 (o613 + 6) fun n614 ↦ RS w'607 b612 (o613 + 6 + 1) fun s615 ↦ RI w'607 b612 (o613 + 6 + 2) fun n616 ↦ RI w'607 b612 (o613 + 6 + 3) fun n617 ↦ RS w'607 b612 (o613 + 6 + 4) fun s618 ↦ RL w'607 b612 (o613 + 6 + 5) fun p619 n620 c621 ↦ Calls Tryd.prog 51
 #[.slice cols_p cols_n cols_c, .slice zones_p zones_n zones_c, .int .i64 n, .agg #[.int .i64 n614, .string s615, .int .i64 n616, .int .i64 n617, .string s618, .slice p619 n620 c621]]
 w'607 fun e622 w623 ↦
 ∃ b624, ∃ b625, ∃ n626, ∃ n627, ∃ s628, ∃ n629, ∃ n630, ∃ s631, ∃ b632, e622 =
 .returned
 (Value.tuple
 #[Value.agg
 #[.bool b624, .bool b625, .int .i64 n626, .int .i64 n627, .string s628, .int .i64 n629, .int .i64 n630, .string s631], .bool b632]) ∧ ∀ b633 w'634, New w623
 (Obj.cells
 #[.bool false, .bool false, .int .i64 0, .int .i64 0, .string ⟨#[]⟩, .int .i64 0, .int .i64 0, .string ⟨#[]⟩]
 83)
 b633 w'634 → CW w'634 b633 0 fun _ ↦ CW w'634 b633 1 fun _ ↦ CW w'634 b633 2 fun _ ↦ CW w'634 b633 3 fun _ ↦ CW w'634 b633 4 fun _ ↦ CW w'634 b633 5 fun _ ↦ CW w'634 b633 6 fun _ ↦ CW w'634 b633 7 fun _ ↦ ∀ w'644, Put w'634 b633 0
 [.bool b624, .bool b625, .int .i64 n626, .int .i64 n627, .string s628, .int .i64 n629, .int .i64 n630, .string s631]
 w'644 → (b595 = true ∧ b632 = true → RI w'644 b1 0 fun n647 ↦ ∃ b648, w'644.cell? ⟨b596, 0, none⟩ = some (.bool b648) ∧ ∃ b649, w'644.cell? ⟨b596, 1, none⟩ = some (.bool b649) ∧ RI w'644 b596 2 fun n650 ↦ RI w'644 b596 3 fun n651 ↦ RS w'644 b596 4 fun s652 ↦ RI w'644 b596 5 fun n653 ↦ RI w'644 b596 6 fun n654 ↦ RS w'644 b596 7 fun s655 ↦ ∃ b656, w'644.cell? ⟨b633, 0, none⟩ = some (.bool b656) ∧ ∃ b657, w'644.cell? ⟨b633, 1, none⟩ = some (.bool b657) ∧ RI w'644 b633 2 fun n658 ↦ RI w'644 b633 3 fun n659 ↦ RS w'644 b633 4 fun s660 ↦ RI w'644 b633 5 fun n661 ↦ RI w'644 b633 6 fun n662 ↦ RS w'644 b633 7 fun s663 ↦ Calls Tryd.prog 52
 #[.int .i64 n647, Value.agg
 #[.bool b648, .bool b649, .int .i64 n650, .int .i64 n651, .string s652, .int .i64 n653, .int .i64 n654, .string s655], Value.agg
 #[.bool b656, .bool b657, .int .i64 n658, .int .i64 n659, .string s660, .int .i64 n661, .int .i64 n662, .string s663]]
 w'644 fun e664 w665 ↦ ∃ n666, e664 = .returned (.int .i64 n666) ∧ R (.returned (.int .i64 n666)) w665) ∧ (b595 = false ∨ b632 = false → R (.returned (.int .i64 7)) w'644)) ∧ (n4 ≠ 9 → R (.returned (.int .i64 7)) w'2)) ∧ (n4 ≠ 9 → (n4 = 10 → (n4 = 10 → RL w'2 b1 5 fun p672 n673 c674 ↦ ∃ b675, ∃ o676, p672 = some ⟨b675, o676, none⟩ ∧ (0 : Int) ≤ 0 ∧ 0 < (↑n673 : Int) ∧ RI w'2 b675 (o676 + 0) fun n677 ↦ RS w'2 b675 (o676 + 0 + 1) fun s678 ↦ RI w'2 b675 (o676 + 0 + 2) fun n679 ↦ RI w'2 b675 (o676 + 0 + 3) fun n680 ↦ RS w'2 b675 (o676 + 0 + 4) fun s681 ↦ RL w'2 b675 (o676 + 0 + 5) fun p682 n683 c684 ↦ Calls Tryd.prog 51
 #[.slice cols_p cols_n cols_c, .slice zones_p zones_n zones_c, .int .i64 n, .agg #[.int .i64 n677, .string s678, .int .i64 n679, .int .i64 n680, .string s681, .slice p682 n683 c684]]
 w'2 fun e685 w686 ↦
 ∃ b687, ∃ b688, ∃ n689, ∃ n690, ∃ s691, ∃ n692, ∃ n693, ∃ s694, ∃ b695, e685 =
 .returned
 (Value.tuple
 #[Value.agg
 #[.bool b687, .bool b688, .int .i64 n689, .int .i64 n690, .string s691, .int .i64 n692, .int .i64 n693, .string s694], .bool b695]) ∧ ∀ b696 w'697, New w686
 (Obj.cells
 #[.bool false, .bool false, .int .i64 0, .int .i64 0, .string ⟨#[]⟩, .int .i64 0, .int .i64 0, .string ⟨#[]⟩]
 83)
 b696 w'697 → CW w'697 b696 0 fun _ ↦ CW w'697 b696 1 fun _ ↦ CW w'697 b696 2 fun _ ↦ CW w'697 b696 3 fun _ ↦ CW w'697 b696 4 fun _ ↦ CW w'697 b696 5 fun _ ↦ CW w'697 b696 6 fun _ ↦ CW w'697 b696 7 fun _ ↦ ∀ w'707, Put w'697 b696 0
 [.bool b687, .bool b688, .int .i64 n689, .int .i64 n690, .string s691, .int .i64 n692, .int .i64 n693, .string s694]
 w'707 → RL w'707 b1 5 fun p709 n710 c711 ↦ ∃ b712, ∃ o713, p709 = some ⟨b712, o713, none⟩ ∧ (0 : Int) ≤ 1 ∧ 1 < (↑n710 : Int) ∧ RI w'707 b712 (o713 + 6) fun n714 ↦ RS w'707 b712 (o713 + 6 + 1) fun s715 ↦ RI w'707 b712 (o713 + 6 + 2) fun n716 ↦ RI w'707 b712 (o713 + 6 + 3) fun n717 ↦ RS w'707 b712 (o713 + 6 + 4) fun s718 ↦ RL w'707 b712 (o713 + 6 + 5) fun p719 n720 c721 ↦ Calls Tryd.prog 51
 #[.slice cols_p cols_n cols_c, .slice zones_p zones_n zones_c, .int .i64 n, .agg #[.int .i64 n714, .string s715, .int .i64 n716, .int .i64 n717, .string s718, .slice p719 n720 c721]]
 w'707 fun e722 w723 ↦
 ∃ b724, ∃ b725, ∃ n726, ∃ n727, ∃ s728, ∃ n729, ∃ n730, ∃ s731, ∃ b732, e722 =
 .returned
 (Value.tuple
 #[Value.agg
 #[.bool b724, .bool b725, .int .i64 n726, .int .i64 n727, .string s728, .int .i64 n729, .int .i64 n730, .string s731], .bool b732]) ∧ ∀ b733 w'734, New w723
 (Obj.cells
 #[.bool false, .bool false, .int .i64 0, .int .i64 0, .string ⟨#[]⟩, .int .i64 0, .int .i64 0, .string ⟨#[]⟩]
 83)
 b733 w'734 → CW w'734 b733 0 fun _ ↦ CW w'734 b733 1 fun _ ↦ CW w'734 b733 2 fun _ ↦ CW w'734 b733 3 fun _ ↦ CW w'734 b733 4 fun _ ↦ CW w'734 b733 5 fun _ ↦ CW w'734 b733 6 fun _ ↦ CW w'734 b733 7 fun _ ↦ ∀ w'744, Put w'734 b733 0
 [.bool b724, .bool b725, .int .i64 n726, .int .i64 n727, .string s728, .int .i64 n729, .int .i64 n730, .string s731]
 w'744 → (b695 = true ∧ b732 = true → RI w'744 b1 0 fun n747 ↦ ∃ b748, w'744.cell? ⟨b696, 0, none⟩ = some (.bool b748) ∧ ∃ b749, w'744.cell? ⟨b696, 1, none⟩ = some (.bool b749) ∧ RI w'744 b696 2 fun n750 ↦ RI w'744 b696 3 fun n751 ↦ RS w'744 b696 4 fun s752 ↦ RI w'744 b696 5 fun n753 ↦ RI w'744 b696 6 fun n754 ↦ RS w'744 b696 7 fun s755 ↦ ∃ b756, w'744.cell? ⟨b733, 0, none⟩ = some (.bool b756) ∧ ∃ b757, w'744.cell? ⟨b733, 1, none⟩ = some (.bool b757) ∧ RI w'744 b733 2 fun n758 ↦ RI w'744 b733 3 fun n759 ↦ RS w'744 b733 4 fun s760 ↦ RI w'744 b733 5 fun n761 ↦ RI w'744 b733 6 fun n762 ↦ RS w'744 b733 7 fun s763 ↦ Calls Tryd.prog 52
 #[.int .i64 n747, Value.agg
 #[.bool b748, .bool b749, .int .i64 n750, .int .i64 n751, .string s752, .int .i64 n753, .int .i64 n754, .string s755], Value.agg
 #[.bool b756, .bool b757, .int .i64 n758, .int .i64 n759, .string s760, .int .i64 n761, .int .i64 n762, .string s763]]
 w'744 fun e764 w765 ↦ ∃ n766, e764 = .returned (.int .i64 n766) ∧ R (.returned (.int .i64 n766)) w765) ∧ (b695 = false ∨ b732 = false → R (.returned (.int .i64 7)) w'744)) ∧ (n4 ≠ 10 → R (.returned (.int .i64 7)) w'2)) ∧ (n4 ≠ 10 → (n4 = 11 → RL w'2 b1 5 fun p771 n772 c773 ↦ ∃ b774, ∃ o775, p771 = some ⟨b774, o775, none⟩ ∧ (0 : Int) ≤ 0 ∧ 0 < (↑n772 : Int) ∧ RI w'2 b774 (o775 + 0) fun n776 ↦ RS w'2 b774 (o775 + 0 + 1) fun s777 ↦ RI w'2 b774 (o775 + 0 + 2) fun n778 ↦ RI w'2 b774 (o775 + 0 + 3) fun n779 ↦ RS w'2 b774 (o775 + 0 + 4) fun s780 ↦ RL w'2 b774 (o775 + 0 + 5) fun p781 n782 c783 ↦ Calls Tryd.prog 51
 #[.slice cols_p cols_n cols_c, .slice zones_p zones_n zones_c, .int .i64 n, .agg #[.int .i64 n776, .string s777, .int .i64 n778, .int .i64 n779, .string s780, .slice p781 n782 c783]]
 w'2 fun e784 w785 ↦
 ∃ b786, ∃ b787, ∃ n788, ∃ n789, ∃ s790, ∃ n791, ∃ n792, ∃ s793, ∃ b794, e784 =
 .returned
 (Value.tuple
 #[Value.agg
 #[.bool b786, .bool b787, .int .i64 n788, .int .i64 n789, .string s790, .int .i64 n791, .int .i64 n792, .string s793], .bool b794]) ∧ ∀ b795 w'796, New w785
 (Obj.cells
 #[.bool false, .bool false, .int .i64 0, .int .i64 0, .string ⟨#[]⟩, .int .i64 0, .int .i64 0, .string ⟨#[]⟩]
 83)
 b795 w'796 → CW w'796 b795 0 fun _ ↦ CW w'796 b795 1 fun _ ↦ CW w'796 b795 2 fun _ ↦ CW w'796 b795 3 fun _ ↦ CW w'796 b795 4 fun _ ↦ CW w'796 b795 5 fun _ ↦ CW w'796 b795 6 fun _ ↦ CW w'796 b795 7 fun _ ↦ ∀ w'806, Put w'796 b795 0
 [.bool b786, .bool b787, .int .i64 n788, .int .i64 n789, .string s790, .int .i64 n791, .int .i64 n792, .string s793]
 w'806 → RL w'806 b1 5 fun p808 n809 c810 ↦ ∃ b811, ∃ o812, p808 = some ⟨b811, o812, none⟩ ∧ (0 : Int) ≤ 1 ∧ 1 < (↑n809 : Int) ∧ RI w'806 b811 (o812 + 6) fun n813 ↦ RS w'806 b811 (o812 + 6 + 1) fun s814 ↦ RI w'806 b811 (o812 + 6 + 2) fun n815 ↦ RI w'806 b811 (o812 + 6 + 3) fun n816 ↦ RS w'806 b811 (o812 + 6 + 4) fun s817 ↦ RL w'806 b811 (o812 + 6 + 5) fun p818 n819 c820 ↦ Calls Tryd.prog 51
 #[.slice cols_p cols_n cols_c, .slice zones_p zones_n zones_c, .int .i64 n, .agg #[.int .i64 n813, .string s814, .int .i64 n815, .int .i64 n816, .string s817, .slice p818 n819 c820]]
 w'806 fun e821 w822 ↦
 ∃ b823, ∃ b824, ∃ n825, ∃ n826, ∃ s827, ∃ n828, ∃ n829, ∃ s830, ∃ b831, e821 =
 .returned
 (Value.tuple
 #[Value.agg
 #[.bool b823, .bool b824, .int .i64 n825, .int .i64 n826, .string s827, .int .i64 n828, .int .i64 n829, .string s830], .bool b831]) ∧ ∀ b832 w'833, New w822
 (Obj.cells
 #[.bool false, .bool false, .int .i64 0, .int .i64 0, .string ⟨#[]⟩, .int .i64 0, .int .i64 0, .string ⟨#[]⟩]
 83)
 b832 w'833 → CW w'833 b832 0 fun _ ↦ CW w'833 b832 1 fun _ ↦ CW w'833 b832 2 fun _ ↦ CW w'833 b832 3 fun _ ↦ CW w'833 b832 4 fun _ ↦ CW w'833 b832 5 fun _ ↦ CW w'833 b832 6 fun _ ↦ CW w'833 b832 7 fun _ ↦ ∀ w'843, Put w'833 b832 0
 [.bool b823, .bool b824, .int .i64 n825, .int .i64 n826, .string s827, .int .i64 n828, .int .i64 n829, .string s830]
 w'843 → (b794 = true ∧ b831 = true → RI w'843 b1 0 fun n846 ↦ ∃ b847, w'843.cell? ⟨b795, 0, none⟩ = some (.bool b847) ∧ ∃ b848, w'843.cell? ⟨b795, 1, none⟩ = some (.bool b848) ∧ RI w'843 b795 2 fun n849 ↦ RI w'843 b795 3 fun n850 ↦ RS w'843 b795 4 fun s851 ↦ RI w'843 b795 5 fun n852 ↦ RI w'843 b795 6 fun n853 ↦ RS w'843 b795 7 fun s854 ↦ ∃ b855, w'843.cell? ⟨b832, 0, none⟩ = some (.bool b855) ∧ ∃ b856, w'843.cell? ⟨b832, 1, none⟩ = some (.bool b856) ∧ RI w'843 b832 2 fun n857 ↦ RI w'843 b832 3 fun n858 ↦ RS w'843 b832 4 fun s859 ↦ RI w'843 b832 5 fun n860 ↦ RI w'843 b832 6 fun n861 ↦ RS w'843 b832 7 fun s862 ↦ Calls Tryd.prog 52
 #[.int .i64 n846, Value.agg
 #[.bool b847, .bool b848, .int .i64 n849, .int .i64 n850, .string s851, .int .i64 n852, .int .i64 n853, .string s854], Value.agg
 #[.bool b855, .bool b856, .int .i64 n857, .int .i64 n858, .string s859, .int .i64 n860, .int .i64 n861, .string s862]]
 w'843 fun e863 w864 ↦ ∃ n865, e863 = .returned (.int .i64 n865) ∧ R (.returned (.int .i64 n865)) w864) ∧ (b794 = false ∨ b831 = false → R (.returned (.int .i64 7)) w'843)) ∧ (n4 ≠ 11 → R (.returned (.int .i64 7)) w'2)))))))))

set_option maxRecDepth 100000 in
theorem qanswers_eq (cols_p : Option Addr) (cols_n : Nat) (cols_c : Nat) (zones_p : Option Addr) (zones_n : Nat) (zones_c : Nat) (n : Int) (x0 : Int) (x1 : ByteArray) (x2 : Int) (x3 : Int) (x4 : ByteArray) (x5_p : Option Addr) (x5_n : Nat) (x5_c : Nat) (w : World) (R : Ending → World → Prop) : qanswers_T cols_p cols_n cols_c zones_p zones_n zones_c n x0 x1 x2 x3 x4 x5_p x5_n x5_c w R = vcFn Tryd.prog [] [(12, [2, 4, 6, 8, 10, 12, 14, 16, 18, 22, 24, 26, 28, 30, 32, 34, 21, 37, 38, 40, 0])] Tryd.f26 [.slice cols_p cols_n cols_c, .slice zones_p zones_n zones_c, .int .i64 n, Value.agg
 #[.int .i64 x0, .string x1, .int .i64 x2, .int .i64 x3, .string x4, .slice x5_p x5_n x5_c]] w R := by kernel_rfl

set_option maxRecDepth 100000 in
theorem qanswers_vc (cols_p : Option Addr) (cols_n : Nat) (cols_c : Nat) (zones_p : Option Addr) (zones_n : Nat) (zones_c : Nat) (n : Int) (x0 : Int) (x1 : ByteArray) (x2 : Int) (x3 : Int) (x4 : ByteArray) (x5_p : Option Addr) (x5_n : Nat) (x5_c : Nat) (w : World) (R : Ending → World → Prop) (h : qanswers_T cols_p cols_n cols_c zones_p zones_n zones_c n x0 x1 x2 x3 x4 x5_p x5_n x5_c w R) : Calls Tryd.prog 26 #[.slice cols_p cols_n cols_c, .slice zones_p zones_n zones_c, .int .i64 n, Value.agg
 #[.int .i64 x0, .string x1, .int .i64 x2, .int .i64 x3, .string x4, .slice x5_p x5_n x5_c]] w R :=
  calls_of_vc (args := [.slice cols_p cols_n cols_c, .slice zones_p zones_n zones_c, .int .i64 n, Value.agg
 #[.int .i64 x0, .string x1, .int .i64 x2, .int .i64 x3, .string x4, .slice x5_p x5_n x5_c]]) [] [(12, [2, 4, 6, 8, 10, 12, 14, 16, 18, 22, 24, 26, 28, 30, 32, 34, 21, 37, 38, 40, 0])] Tryd.mixed Tryd.func26 (cast (qanswers_eq _ _ _ _ _ _ _ _ _ _ _ _ _ _ _ w R) h)

set_option maxRecDepth 100000 in
def qAnswers_T (cols_p : Option Addr) (cols_n : Nat) (cols_c : Nat) (zones_p : Option Addr) (zones_n : Nat) (zones_c : Nat) (n : Int) (x0 : Int) (x1 : ByteArray) (x2 : Int) (x3 : Int) (x4 : ByteArray) (x5_p : Option Addr) (x5_n : Nat) (x5_c : Nat) (w : World) (R : Ending → World → Prop) : Prop :=
  ∀ b1 w'2, New w (Obj.cells #[.int .i64 x0, .string x1, .int .i64 x2, .int .i64 x3, .string x4, .slice x5_p x5_n x5_c] 28) b1
 w'2 → RI w'2 b1 0 fun n4 ↦ RS w'2 b1 1 fun s5 ↦ RI w'2 b1 2 fun n6 ↦ RI w'2 b1 3 fun n7 ↦ RS w'2 b1 4 fun s8 ↦ RL w'2 b1 5 fun p9 n10 c11 ↦ Calls Tryd.prog 24
 #[.slice cols_p cols_n cols_c, .agg #[.int .i64 n4, .string s5, .int .i64 n6, .int .i64 n7, .string s8, .slice p9 n10 c11]]
 w'2 fun e12 w13 ↦
 ∃ n14, ∃ n15, e12 = .returned (.tuple #[.int .i64 n14, .int .i64 n15]) ∧ (n15 ≠ 0 → R (.returned (.tuple #[.int .i64 0, .int .i64 n15])) w13) ∧ (n15 = 0 → (n14 ≠ 2 ∧ n14 ≠ 0 → R (.returned (.tuple #[.int .i64 0, .int .i64 121])) w13) ∧ (n14 = 2 ∨ n14 = 0 → Calls Tryd.prog 25 #[.slice cols_p cols_n cols_c, .slice zones_p zones_n zones_c, .int .i64 n] w13 fun e20 w21 ↦
 ∃ b22, e20 = .returned (.bool b22) ∧ (b22 = false → R (.returned (.tuple #[.int .i64 0, .int .i64 2])) w21) ∧ (b22 = true → (n = 0 → R (.returned (.tuple #[.int .i64 0, .int .i64 0])) w21) ∧ (n ≠ 0 → RI w21 b1 0 fun n27 ↦ RS w21 b1 1 fun s28 ↦ RI w21 b1 2 fun n29 ↦ RI w21 b1 3 fun n30 ↦ RS w21 b1 4 fun s31 ↦ RL w21 b1 5 fun p32 n33 c34 ↦ Calls Tryd.prog 26
 #[.slice cols_p cols_n cols_c, .slice zones_p zones_n zones_c, .int .i64 n, .agg #[.int .i64 n27, .string s28, .int .i64 n29, .int .i64 n30, .string s31, .slice p32 n33 c34]]
 w21 fun e35 w36 ↦
 ∃ n37, e35 = .returned (.int .i64 n37) ∧ R (.returned (.tuple #[.int .i64 n37, .int .i64 0])) w36))))

set_option maxRecDepth 100000 in
theorem qAnswers_eq (cols_p : Option Addr) (cols_n : Nat) (cols_c : Nat) (zones_p : Option Addr) (zones_n : Nat) (zones_c : Nat) (n : Int) (x0 : Int) (x1 : ByteArray) (x2 : Int) (x3 : Int) (x4 : ByteArray) (x5_p : Option Addr) (x5_n : Nat) (x5_c : Nat) (w : World) (R : Ending → World → Prop) : qAnswers_T cols_p cols_n cols_c zones_p zones_n zones_c n x0 x1 x2 x3 x4 x5_p x5_n x5_c w R = vcFn Tryd.prog [] [] Tryd.f12 [.slice cols_p cols_n cols_c, .slice zones_p zones_n zones_c, .int .i64 n, Value.agg
 #[.int .i64 x0, .string x1, .int .i64 x2, .int .i64 x3, .string x4, .slice x5_p x5_n x5_c]] w R := by kernel_rfl

set_option maxRecDepth 100000 in
theorem qAnswers_vc (cols_p : Option Addr) (cols_n : Nat) (cols_c : Nat) (zones_p : Option Addr) (zones_n : Nat) (zones_c : Nat) (n : Int) (x0 : Int) (x1 : ByteArray) (x2 : Int) (x3 : Int) (x4 : ByteArray) (x5_p : Option Addr) (x5_n : Nat) (x5_c : Nat) (w : World) (R : Ending → World → Prop) (h : qAnswers_T cols_p cols_n cols_c zones_p zones_n zones_c n x0 x1 x2 x3 x4 x5_p x5_n x5_c w R) : Calls Tryd.prog 12 #[.slice cols_p cols_n cols_c, .slice zones_p zones_n zones_c, .int .i64 n, Value.agg
 #[.int .i64 x0, .string x1, .int .i64 x2, .int .i64 x3, .string x4, .slice x5_p x5_n x5_c]] w R :=
  calls_of_vc (args := [.slice cols_p cols_n cols_c, .slice zones_p zones_n zones_c, .int .i64 n, Value.agg
 #[.int .i64 x0, .string x1, .int .i64 x2, .int .i64 x3, .string x4, .slice x5_p x5_n x5_c]]) [] [] Tryd.mixed Tryd.func12 (cast (qAnswers_eq _ _ _ _ _ _ _ _ _ _ _ _ _ _ _ w R) h)

set_option maxRecDepth 100000 in
def qbare_T (x0 : Int) (x1 : ByteArray) (x2 : Int) (x3 : Int) (x4 : ByteArray) (x5_p : Option Addr) (x5_n : Nat) (x5_c : Nat) (w : World) (R : Ending → World → Prop) : Prop :=
  ∀ b1 w'2, New w (Obj.cells #[.int .i64 x0, .string x1, .int .i64 x2, .int .i64 x3, .string x4, .slice x5_p x5_n x5_c] 28) b1
 w'2 → RI w'2 b1 0 fun n4 ↦ (3 ≤ n4 → RI w'2 b1 0 fun n6 ↦ (n6 ≤ 8 → R (.returned (.bool false)) w'2) ∧ (8 < n6 → ∃ (I9 : Int → World → Prop), ∃ (M10 : Int → World → Nat), I9 0 w'2 ∧ ∀ (n11 : Int) (w'12 : World), I9 n11 w'12 → RL w'12 b1 5 fun p14 n15 c16 ↦ (n11 < (↑n15 : Int) → RL w'12 b1 5 fun p18 n19 c20 ↦ ∃ b21, ∃ o22, p18 = some ⟨b21, o22, none⟩ ∧ 0 ≤ n11 ∧ n11 < (↑n19 : Int) ∧ RI w'12 b21 (o22 + n11.toNat * 6) fun n23 ↦ RS w'12 b21 (o22 + n11.toNat * 6 + 1) fun s24 ↦ RI w'12 b21 (o22 + n11.toNat * 6 + 2) fun n25 ↦ RI w'12 b21 (o22 + n11.toNat * 6 + 3) fun n26 ↦ RS w'12 b21 (o22 + n11.toNat * 6 + 4) fun s27 ↦ RL w'12 b21 (o22 + n11.toNat * 6 + 5) fun p28 n29 c30 ↦ Calls Tryd.prog 28
 #[.agg #[.int .i64 n23, .string s24, .int .i64 n25, .int .i64 n26, .string s27, .slice p28 n29 c30]] w'12
 fun e31 w32 ↦
 ∃ b33, e31 = .returned (.bool b33) ∧ (b33 = false → R (.returned (.bool false)) w32) ∧ (b33 = true → I9 (IntKind.i64.wrap (n11 + 1)) w32 ∧ M10 (IntKind.i64.wrap (n11 + 1)) w32 < M10 n11 w'12)) ∧ ((↑n15 : Int) ≤ n11 → R (.returned (.bool true)) w'12))) ∧ (n4 < 3 → ∃ (I38 : Int → World → Prop), ∃ (M39 : Int → World → Nat), I38 0 w'2 ∧ ∀ (n40 : Int) (w'41 : World), I38 n40 w'41 → RL w'41 b1 5 fun p43 n44 c45 ↦ (n40 < (↑n44 : Int) → RL w'41 b1 5 fun p47 n48 c49 ↦ ∃ b50, ∃ o51, p47 = some ⟨b50, o51, none⟩ ∧ 0 ≤ n40 ∧ n40 < (↑n48 : Int) ∧ RI w'41 b50 (o51 + n40.toNat * 6) fun n52 ↦ RS w'41 b50 (o51 + n40.toNat * 6 + 1) fun s53 ↦ RI w'41 b50 (o51 + n40.toNat * 6 + 2) fun n54 ↦ RI w'41 b50 (o51 + n40.toNat * 6 + 3) fun n55 ↦ RS w'41 b50 (o51 + n40.toNat * 6 + 4) fun s56 ↦ RL w'41 b50 (o51 + n40.toNat * 6 + 5) fun p57 n58 c59 ↦ Calls Tryd.prog 28
 #[.agg #[.int .i64 n52, .string s53, .int .i64 n54, .int .i64 n55, .string s56, .slice p57 n58 c59]] w'41
 fun e60 w61 ↦
 ∃ b62, e60 = .returned (.bool b62) ∧ (b62 = false → R (.returned (.bool false)) w61) ∧ (b62 = true → I38 (IntKind.i64.wrap (n40 + 1)) w61 ∧ M39 (IntKind.i64.wrap (n40 + 1)) w61 < M39 n40 w'41)) ∧ ((↑n44 : Int) ≤ n40 → R (.returned (.bool true)) w'41))

set_option maxRecDepth 100000 in
theorem qbare_eq (x0 : Int) (x1 : ByteArray) (x2 : Int) (x3 : Int) (x4 : ByteArray) (x5_p : Option Addr) (x5_n : Nat) (x5_c : Nat) (w : World) (R : Ending → World → Prop) : qbare_T x0 x1 x2 x3 x4 x5_p x5_n x5_c w R = vcFn Tryd.prog [] [] Tryd.f28 [Value.agg
 #[.int .i64 x0, .string x1, .int .i64 x2, .int .i64 x3, .string x4, .slice x5_p x5_n x5_c]] w R := by kernel_rfl

set_option maxRecDepth 100000 in
theorem qbare_vc (x0 : Int) (x1 : ByteArray) (x2 : Int) (x3 : Int) (x4 : ByteArray) (x5_p : Option Addr) (x5_n : Nat) (x5_c : Nat) (w : World) (R : Ending → World → Prop) (h : qbare_T x0 x1 x2 x3 x4 x5_p x5_n x5_c w R) : Calls Tryd.prog 28 #[Value.agg
 #[.int .i64 x0, .string x1, .int .i64 x2, .int .i64 x3, .string x4, .slice x5_p x5_n x5_c]] w R :=
  calls_of_vc (args := [Value.agg
 #[.int .i64 x0, .string x1, .int .i64 x2, .int .i64 x3, .string x4, .slice x5_p x5_n x5_c]]) [] [] Tryd.mixed Tryd.func28 (cast (qbare_eq _ _ _ _ _ _ _ _ w R) h)

set_option maxRecDepth 100000 in
def qMay_T (cols_p : Option Addr) (cols_n : Nat) (cols_c : Nat) (zones_p : Option Addr) (zones_n : Nat) (zones_c : Nat) (n : Int) (x0 : Int) (x1 : ByteArray) (x2 : Int) (x3 : Int) (x4 : ByteArray) (x5_p : Option Addr) (x5_n : Nat) (x5_c : Nat) (w : World) (R : Ending → World → Prop) : Prop :=
  ∀ b1 w'2, New w (Obj.cells #[.int .i64 x0, .string x1, .int .i64 x2, .int .i64 x3, .string x4, .slice x5_p x5_n x5_c] 28) b1
 w'2 → RI w'2 b1 0 fun n4 ↦ RS w'2 b1 1 fun s5 ↦ RI w'2 b1 2 fun n6 ↦ RI w'2 b1 3 fun n7 ↦ RS w'2 b1 4 fun s8 ↦ RL w'2 b1 5 fun p9 n10 c11 ↦ Calls Tryd.prog 12
 #[.slice cols_p cols_n cols_c, .slice zones_p zones_n zones_c, .int .i64 n, .agg #[.int .i64 n4, .string s5, .int .i64 n6, .int .i64 n7, .string s8, .slice p9 n10 c11]]
 w'2 fun e12 w13 ↦
 ∃ n14, ∃ n15, e12 = .returned (.tuple #[.int .i64 n14, .int .i64 n15]) ∧ (n15 ≠ 0 → R (.returned (.tuple #[.bool false, .int .i64 n15])) w13) ∧ (n15 = 0 → RI w13 b1 0 fun n18 ↦ RS w13 b1 1 fun s19 ↦ RI w13 b1 2 fun n20 ↦ RI w13 b1 3 fun n21 ↦ RS w13 b1 4 fun s22 ↦ RL w13 b1 5 fun p23 n24 c25 ↦ Calls Tryd.prog 28
 #[.agg #[.int .i64 n18, .string s19, .int .i64 n20, .int .i64 n21, .string s22, .slice p23 n24 c25]] w13
 fun e26 w27 ↦
 ∃ b28, e26 = .returned (.bool b28) ∧ (0 < n → (b28 = false → R (.returned (.tuple #[.bool true, .int .i64 0])) w27) ∧ (b28 = true → Calls Tryd.prog 29 #[.int .i64 n14, .int .i64 1] w27 fun e32 w33 ↦
 ∃ b34, e32 = .returned (.bool b34) ∧ R (.returned (.tuple #[.bool b34, .int .i64 0])) w33)) ∧ (n ≤ 0 → R (.returned (.tuple #[.bool false, .int .i64 0])) w27))

set_option maxRecDepth 100000 in
theorem qMay_eq (cols_p : Option Addr) (cols_n : Nat) (cols_c : Nat) (zones_p : Option Addr) (zones_n : Nat) (zones_c : Nat) (n : Int) (x0 : Int) (x1 : ByteArray) (x2 : Int) (x3 : Int) (x4 : ByteArray) (x5_p : Option Addr) (x5_n : Nat) (x5_c : Nat) (w : World) (R : Ending → World → Prop) : qMay_T cols_p cols_n cols_c zones_p zones_n zones_c n x0 x1 x2 x3 x4 x5_p x5_n x5_c w R = vcFn Tryd.prog [] [] Tryd.f14 [.slice cols_p cols_n cols_c, .slice zones_p zones_n zones_c, .int .i64 n, Value.agg
 #[.int .i64 x0, .string x1, .int .i64 x2, .int .i64 x3, .string x4, .slice x5_p x5_n x5_c]] w R := by kernel_rfl

set_option maxRecDepth 100000 in
theorem qMay_vc (cols_p : Option Addr) (cols_n : Nat) (cols_c : Nat) (zones_p : Option Addr) (zones_n : Nat) (zones_c : Nat) (n : Int) (x0 : Int) (x1 : ByteArray) (x2 : Int) (x3 : Int) (x4 : ByteArray) (x5_p : Option Addr) (x5_n : Nat) (x5_c : Nat) (w : World) (R : Ending → World → Prop) (h : qMay_T cols_p cols_n cols_c zones_p zones_n zones_c n x0 x1 x2 x3 x4 x5_p x5_n x5_c w R) : Calls Tryd.prog 14 #[.slice cols_p cols_n cols_c, .slice zones_p zones_n zones_c, .int .i64 n, Value.agg
 #[.int .i64 x0, .string x1, .int .i64 x2, .int .i64 x3, .string x4, .slice x5_p x5_n x5_c]] w R :=
  calls_of_vc (args := [.slice cols_p cols_n cols_c, .slice zones_p zones_n zones_c, .int .i64 n, Value.agg
 #[.int .i64 x0, .string x1, .int .i64 x2, .int .i64 x3, .string x4, .slice x5_p x5_n x5_c]]) [] [] Tryd.mixed Tryd.func14 (cast (qMay_eq _ _ _ _ _ _ _ _ _ _ _ _ _ _ _ w R) h)

set_option maxRecDepth 100000 in
def qzone_T (l_p : Option Addr) (l_n : Nat) (l_c : Nat) (w : World) (R : Ending → World → Prop) : Prop :=
  ∀ b1 w'2, New w
 (Obj.cells
 #[.int .i64 0, .int .i64 0, .int .i64 0, .string ⟨#[]⟩, .int .i64 0, .int .i64 0, .string ⟨#[]⟩]
 50)
 b1 w'2 → (1024 < (↑l_n : Int) → CW w'2 b1 0 fun _ ↦ CW w'2 b1 1 fun _ ↦ CW w'2 b1 2 fun _ ↦ CW w'2 b1 3 fun _ ↦ CW w'2 b1 4 fun _ ↦ CW w'2 b1 5 fun _ ↦ CW w'2 b1 6 fun _ ↦ ∀ w'12, Put w'2 b1 0
 [.int .i64 0, .int .i64 0, .int .i64 0, .string ⟨#[]⟩, .int .i64 0, .int .i64 0, .string ⟨#[]⟩]
 w'12 → RI w'12 b1 0 fun n14 ↦ RI w'12 b1 1 fun n15 ↦ RI w'12 b1 2 fun n16 ↦ RS w'12 b1 3 fun s17 ↦ RI w'12 b1 4 fun n18 ↦ RI w'12 b1 5 fun n19 ↦ RS w'12 b1 6 fun s20 ↦ R
 (.returned
 (Value.tuple
 #[Value.agg
 #[.int .i64 n14, .int .i64 n15, .int .i64 n16, .string s17, .int .i64 n18, .int .i64 n19, .string s20], .int .i64 2]))
 w'12) ∧ ((↑l_n : Int) ≤ 1024 → ∀ b22 w'23, New w'2
 (Obj.cells
 #[.int .i64 0, .int .i64 0, .int .i64 0, .string ⟨#[]⟩, .int .i64 0, .int .i64 0, .string ⟨#[]⟩]
 50)
 b22 w'23 → ∃ (I25 : Bool → Int → World → Prop), ∃ (M26 : Bool → Int → World → Nat), I25 true 0 w'23 ∧ ∀ (b27 : Bool) (n28 : Int) (w'29 : World), I25 b27 n28 w'29 → (n28 < (↑l_n : Int) → ∃ b32, ∃ o33, l_p = some ⟨b32, o33, none⟩ ∧ 0 ≤ n28 ∧ n28 < (↑l_n : Int) ∧ RI w'29 b32 (o33 + n28.toNat * 3) fun n34 ↦ RI w'29 b32 (o33 + n28.toNat * 3 + 1) fun n35 ↦ RS w'29 b32 (o33 + n28.toNat * 3 + 2) fun s36 ↦ Calls Tryd.prog 18 #[.agg #[.int .i64 n34, .int .i64 n35, .string s36]] w'29 fun e37 w38 ↦
 ∃ b39, e37 = .returned (.bool b39) ∧ (b39 = false → CW w38 b1 0 fun _ ↦ CW w38 b1 1 fun _ ↦ CW w38 b1 2 fun _ ↦ CW w38 b1 3 fun _ ↦ CW w38 b1 4 fun _ ↦ CW w38 b1 5 fun _ ↦ CW w38 b1 6 fun _ ↦ ∀ w'48, Put w38 b1 0
 [.int .i64 0, .int .i64 0, .int .i64 0, .string ⟨#[]⟩, .int .i64 0, .int .i64 0, .string ⟨#[]⟩]
 w'48 → RI w'48 b1 0 fun n50 ↦ RI w'48 b1 1 fun n51 ↦ RI w'48 b1 2 fun n52 ↦ RS w'48 b1 3 fun s53 ↦ RI w'48 b1 4 fun n54 ↦ RI w'48 b1 5 fun n55 ↦ RS w'48 b1 6 fun s56 ↦ R
 (.returned
 (Value.tuple
 #[Value.agg
 #[.int .i64 n50, .int .i64 n51, .int .i64 n52, .string s53, .int .i64 n54, .int .i64 n55, .string s56], .int .i64 2]))
 w'48) ∧ (b39 = true → ∃ b58, ∃ o59, l_p = some ⟨b58, o59, none⟩ ∧ 0 ≤ n28 ∧ n28 < (↑l_n : Int) ∧ RI w38 b58 (o59 + n28.toNat * 3) fun n60 ↦ (n60 = 0 → RI w38 b22 0 fun n62 ↦ CW w38 b22 0 fun _ ↦ ∀ w'64, Put w38 b22 0 [.int .i64 (IntKind.i64.wrap (n62 + 1))] w'64 → I25 b27 (IntKind.i64.wrap (n28 + 1)) w'64 ∧ M26 b27 (IntKind.i64.wrap (n28 + 1)) w'64 < M26 b27 n28 w'29) ∧ (n60 ≠ 0 → ∀ w'67, Drew w38 w'67 → ∃ b69, ∃ o70, l_p = some ⟨b69, o70, none⟩ ∧ 0 ≤ n28 ∧ n28 < (↑l_n : Int) ∧ RI w'67 b69 (o70 + n28.toNat * 3) fun n71 ↦ RI w'67 b69 (o70 + n28.toNat * 3 + 1) fun n72 ↦ RS w'67 b69 (o70 + n28.toNat * 3 + 2) fun s73 ↦ RI w'67 b22 1 fun n74 ↦ RI w'67 b22 2 fun n75 ↦ RS w'67 b22 3 fun s76 ↦ Calls Tryd.prog 34
 #[.agg #[.int .i64 n71, .int .i64 n72, .string s73], .agg #[.int .i64 n74, .int .i64 n75, .string s76]]
 w'67 fun e77 w78 ↦
 ∃ n79, e77 = .returned (.int .i64 n79) ∧ ∀ w'80, Drew w78 w'80 → ∃ b82, ∃ o83, l_p = some ⟨b82, o83, none⟩ ∧ 0 ≤ n28 ∧ n28 < (↑l_n : Int) ∧ RI w'80 b82 (o83 + n28.toNat * 3) fun n84 ↦ RI w'80 b82 (o83 + n28.toNat * 3 + 1) fun n85 ↦ RS w'80 b82 (o83 + n28.toNat * 3 + 2) fun s86 ↦ RI w'80 b22 4 fun n87 ↦ RI w'80 b22 5 fun n88 ↦ RS w'80 b22 6 fun s89 ↦ Calls Tryd.prog 34
 #[.agg #[.int .i64 n84, .int .i64 n85, .string s86], .agg #[.int .i64 n87, .int .i64 n88, .string s89]]
 w'80 fun e90 w91 ↦
 ∃ n92, e90 = .returned (.int .i64 n92) ∧ (b27 = true ∨ n79 < 0 → ∃ b94, ∃ o95, l_p = some ⟨b94, o95, none⟩ ∧ 0 ≤ n28 ∧ n28 < (↑l_n : Int) ∧ RI w91 b94 (o95 + n28.toNat * 3) fun n96 ↦ RI w91 b94 (o95 + n28.toNat * 3 + 1) fun n97 ↦ RS w91 b94 (o95 + n28.toNat * 3 + 2) fun s98 ↦ CW w91 b22 1 fun _ ↦ CW w91 b22 2 fun _ ↦ CW w91 b22 3 fun _ ↦ ∀ w'102, Put w91 b22 1 [.int .i64 n96, .int .i64 n97, .string s98] w'102 → (b27 = true ∨ 0 < n92 → ∃ b105, ∃ o106, l_p = some ⟨b105, o106, none⟩ ∧ 0 ≤ n28 ∧ n28 < (↑l_n : Int) ∧ RI w'102 b105 (o106 + n28.toNat * 3) fun n107 ↦ RI w'102 b105 (o106 + n28.toNat * 3 + 1) fun n108 ↦ RS w'102 b105 (o106 + n28.toNat * 3 + 2) fun s109 ↦ CW w'102 b22 4 fun _ ↦ CW w'102 b22 5 fun _ ↦ CW w'102 b22 6 fun _ ↦ ∀ w'113, Put w'102 b22 4 [.int .i64 n107, .int .i64 n108, .string s109] w'113 → I25 false (IntKind.i64.wrap (n28 + 1)) w'113 ∧ M26 false (IntKind.i64.wrap (n28 + 1)) w'113 < M26 b27 n28 w'29) ∧ (b27 = false ∧ n92 ≤ 0 → I25 false (IntKind.i64.wrap (n28 + 1)) w'102 ∧ M26 false (IntKind.i64.wrap (n28 + 1)) w'102 < M26 b27 n28 w'29)) ∧ (b27 = false ∧ 0 ≤ n79 → (b27 = true ∨ 0 < n92 → ∃ b118, ∃ o119, l_p = some ⟨b118, o119, none⟩ ∧ 0 ≤ n28 ∧ n28 < (↑l_n : Int) ∧ RI w91 b118 (o119 + n28.toNat * 3) fun n120 ↦ RI w91 b118 (o119 + n28.toNat * 3 + 1) fun n121 ↦ RS w91 b118 (o119 + n28.toNat * 3 + 2) fun s122 ↦ CW w91 b22 4 fun _ ↦ CW w91 b22 5 fun _ ↦ CW w91 b22 6 fun _ ↦ ∀ w'126, Put w91 b22 4 [.int .i64 n120, .int .i64 n121, .string s122] w'126 → I25 false (IntKind.i64.wrap (n28 + 1)) w'126 ∧ M26 false (IntKind.i64.wrap (n28 + 1)) w'126 < M26 b27 n28 w'29) ∧ (b27 = false ∧ n92 ≤ 0 → I25 false (IntKind.i64.wrap (n28 + 1)) w91 ∧ M26 false (IntKind.i64.wrap (n28 + 1)) w91 < M26 b27 n28 w'29))))) ∧ ((↑l_n : Int) ≤ n28 → RI w'29 b22 0 fun n130 ↦ RI w'29 b22 1 fun n131 ↦ RI w'29 b22 2 fun n132 ↦ RS w'29 b22 3 fun s133 ↦ RI w'29 b22 4 fun n134 ↦ RI w'29 b22 5 fun n135 ↦ RS w'29 b22 6 fun s136 ↦ CW w'29 b1 0 fun _ ↦ CW w'29 b1 1 fun _ ↦ CW w'29 b1 2 fun _ ↦ CW w'29 b1 3 fun _ ↦ CW w'29 b1 4 fun _ ↦ CW w'29 b1 5 fun _ ↦ CW w'29 b1 6 fun _ ↦ ∀ w'144, Put w'29 b1 0
 [.int .i64 n130, .int .i64 n131, .int .i64 n132, .string s133, .int .i64 n134, .int .i64 n135, .string s136]
 w'144 → RI w'144 b1 0 fun n146 ↦ RI w'144 b1 1 fun n147 ↦ RI w'144 b1 2 fun n148 ↦ RS w'144 b1 3 fun s149 ↦ RI w'144 b1 4 fun n150 ↦ RI w'144 b1 5 fun n151 ↦ RS w'144 b1 6 fun s152 ↦ R
 (.returned
 (Value.tuple
 #[Value.agg
 #[.int .i64 n146, .int .i64 n147, .int .i64 n148, .string s149, .int .i64 n150, .int .i64 n151, .string s152], .int .i64 0]))
 w'144))

set_option maxRecDepth 100000 in
theorem qzone_eq (l_p : Option Addr) (l_n : Nat) (l_c : Nat) (w : World) (R : Ending → World → Prop) : qzone_T l_p l_n l_c w R = vcFn Tryd.prog [] [(13, [2, 4, 6, 8, 10, 12, 14, 16, 0]), (14, [2, 4, 6, 8, 10, 12, 14, 16, 0])] Tryd.f19 [.slice l_p l_n l_c] w R := by kernel_rfl

set_option maxRecDepth 100000 in
theorem qzone_vc (l_p : Option Addr) (l_n : Nat) (l_c : Nat) (w : World) (R : Ending → World → Prop) (h : qzone_T l_p l_n l_c w R) : Calls Tryd.prog 19 #[.slice l_p l_n l_c] w R :=
  calls_of_vc (args := [.slice l_p l_n l_c]) [] [(13, [2, 4, 6, 8, 10, 12, 14, 16, 0]), (14, [2, 4, 6, 8, 10, 12, 14, 16, 0])] Tryd.mixed Tryd.func19 (cast (qzone_eq _ _ _ w R) h)

set_option maxRecDepth 100000 in
def qcolumn_T (rows_p : Option Addr) (rows_n : Nat) (rows_c : Nat) (c : Int) (w : World) (R : Ending → World → Prop) : Prop :=
  ∃ (I1 : Option Addr → Nat → Nat → Int → World → Prop), ∃ (M2 : Option Addr → Nat → Nat → Int → World → Nat), I1 none 0 0 0 w ∧ ∀ (p3 : Option Addr) (n4 c5 : Nat) (n6 : Int) (w'7 : World), I1 p3 n4 c5 n6 w'7 → (n6 < (↑rows_n : Int) → ∃ b10, ∃ o11, rows_p = some ⟨b10, o11, none⟩ ∧ 0 ≤ n6 ∧ n6 < (↑rows_n : Int) ∧ RL w'7 b10 (o11 + n6.toNat) fun p12 n13 c14 ↦ ∃ b15, ∃ o16, p12 = some ⟨b15, o16, none⟩ ∧ 0 ≤ c ∧ c < (↑n13 : Int) ∧ RI w'7 b15 (o16 + c.toNat * 3) fun n17 ↦ RI w'7 b15 (o16 + c.toNat * 3 + 1) fun n18 ↦ RS w'7 b15 (o16 + c.toNat * 3 + 2) fun s19 ↦ ∀ b20 w'21, New w'7 (Obj.cells #[.int .i64 n17, .int .i64 n18, .string s19] 25) b20 w'21 → ∃ p23 n24 c25, ∃ (w'26 : World), Sem.run Tryd.prog (Builtin.append_ #[31, 31] 31 #[.slice p3 n4 c5, .slice (some ⟨b20, 0, none⟩) 1 1]) w'21 = Result.ok (.slice p23 n24 c25) w'26 ∧ I1 p23 n24 c25 (IntKind.i64.wrap (n6 + 1)) w'26 ∧ M2 p23 n24 c25 (IntKind.i64.wrap (n6 + 1)) w'26 < M2 p3 n4 c5 n6 w'7) ∧ ((↑rows_n : Int) ≤ n6 → R (.returned (.slice p3 n4 c5)) w'7)

set_option maxRecDepth 100000 in
theorem qcolumn_eq (rows_p : Option Addr) (rows_n : Nat) (rows_c : Nat) (c : Int) (w : World) (R : Ending → World → Prop) : qcolumn_T rows_p rows_n rows_c c w R = vcFn Tryd.prog [] [] Tryd.f20 [.slice rows_p rows_n rows_c, .int .i64 c] w R := by kernel_rfl

set_option maxRecDepth 100000 in
theorem qcolumn_vc (rows_p : Option Addr) (rows_n : Nat) (rows_c : Nat) (c : Int) (w : World) (R : Ending → World → Prop) (h : qcolumn_T rows_p rows_n rows_c c w R) : Calls Tryd.prog 20 #[.slice rows_p rows_n rows_c, .int .i64 c] w R :=
  calls_of_vc (args := [.slice rows_p rows_n rows_c, .int .i64 c]) [] [] Tryd.mixed Tryd.func20 (cast (qcolumn_eq _ _ _ _ w R) h)


end Go.Proofs.YtpjafkcmbinjiaaDoor

/- The contracts of the document's answer for expressions: kinds. -/
namespace Go.Proofs.YtpjafkcmbinjiaaDoor
open Go Go.Vc Go.RowKit
set_option maxRecDepth 20000

theorem undInts : Tryd.prog.underlying 108 = some (.slice 3) := by kernel_rfl
theorem tyInt : tyOf Tryd.prog 3 = some { agg := false, ls := [.int .i64], zero := .int .i64 0, bytes := 8, big := false, n := 1 } := by kernel_rfl

set_option maxHeartbeats 4000000 in
theorem rkind_ok : ∀ (N : Nat) (x : Ex) {w : World} {p : Option Addr} {n c : Nat} {cols : List Col} {cs : List Value}, depthT x ≤ N → (∀ y ∈ nodesT x, NodeOk y) → Cols w p n c cols → ExAt w x cs →
    Calls Tryd.prog 46 #[.slice p n c, .agg cs.toArray] w fun e w' => e = .returned (.tuple #[.int .i64 (kindF cols x).1, .int .i64 (kindF cols x).2]) ∧ Ext w w' := by
  intro N
  induction N with
  | zero => intro x w p n c cols cs hd; cases x; unfold depthT at hd; omega
  | succ N ih =>
  intro x w p n c cols cs hd hno hc hx
  obtain ⟨xp, xn, xc, rfl, hkl, hxn, hkid⟩ := hx.six
  obtain ⟨hmany, _⟩ := hno x (self_node x)
  have h2m := many_le x.op
  have hop := many_range (op := x.op) (by omega)
  have hl := hc.len
  apply rkind_vc
  unfold rkind_T
  intro b1 w2 h1
  have H2 := ((Hold.start (Ext.rfl (w := w))).new h1).nilRow 3 1
  let fs : List (Nat × Obj) := [(b1, .cells #[.int .i64 x.op, .string x.name, .int .i64 x.v.k, .int .i64 x.v.n, .string x.v.s, .slice xp xn xc] 28 (0, 0))]
  have c5 : ∀ {W : World} {ms : List Row}, Hold w W fs ms → W.cell? ⟨b1, 5, none⟩ = some (.slice xp xn xc) := fun H => by rw [(H.blk 0 rfl).cell]; rfl
  refine ⟨fun q m d i W => ∃ j : Nat, i = (j : Int) ∧ m = j ∧ j ≤ xn ∧ (runL (kindF cols) (x.kids.take j)).2 = 0 ∧ Hold w W fs [⟨3, 1, q, m, d, vI .i64 (runL (kindF cols) (x.kids.take j)).1⟩], fun _ _ _ i _ => xn - i.toNat, ⟨0, rfl, rfl, Nat.zero_le _, rfl, H2⟩, ?_⟩
  rintro q m d i W ⟨j, rfl, rfl, hj, hrun, H⟩
  refine ⟨_, _, _, c5 H, fun hlt => ?_, fun hge => ?_⟩
  · have g : x.kids[m]? = some (x.kids[m]'(by omega)) := List.getElem?_eq_getElem _
    generalize x.kids[m]'(by omega) = k at g
    obtain ⟨kc, b, o, hk, hp, hcell⟩ := hkid H.ext g
    obtain ⟨kp, kn, kcap, hkc, _⟩ := hk.six
    simp only [Int.toNat_natCast]
    have e0 := hcell 0 _ (by rw [hkc]; rfl)
    have e1 := hcell 1 _ (by rw [hkc]; rfl)
    have e2 := hcell 2 _ (by rw [hkc]; rfl)
    have e3 := hcell 3 _ (by rw [hkc]; rfl)
    have e4 := hcell 4 _ (by rw [hkc]; rfl)
    have e5 := hcell 5 _ (by rw [hkc]; rfl)
    subst hkc
    refine ⟨_, _, _, c5 H, b, o, hp, by omega, by omega, _, e0, _, e1, _, e2, _, e3, _, e4, _, _, _, e5, (ih k (by have := kid_depth g; omega) (fun y hy => hno y (kid_node g hy)) (hc.ext H.ext) (hk.ext H.ext)).mono ?_⟩
    rintro e w30 ⟨rfl, e30⟩
    have H30 := H.step e30
    refine ⟨_, _, rfl, fun hne => ⟨?_, H30.ext⟩, fun he b35 w36 h35 => ?_⟩
    · rw [kindF_eq cols x, runL_stop g hrun hne, if_pos hne]
    · have hnx := runL_take (f := kindF cols) g hrun
      rw [if_neg (by simpa using he)] at hnx
      have H36 := H30.step h35.ext
      obtain ⟨p', c', w41, hrn, H41⟩ := H36.append (ty := 108) (P := Tryd.prog) (q := some ⟨b35, 0, none⟩) (m := 1) (d' := 1) (news := [.int .i64 (kindF cols k).1]) 0 rfl undInts tyInt rfl (by decide) (Blk.new h35).at rfl (fun e => by cases e)
        (fun u hu => by simp at hu; subst hu; rfl) (by show ((m + 1) + (m + 1) / 4 + 192) * 8 ≤ _; omega) (by show m + 1 ≤ 9223372036854775807; omega)
      refine ⟨p', m + 1, c', w41, hrn, ?_⟩
      rw [i64_next (by omega)]
      refine ⟨⟨m + 1, rfl, rfl, by omega, by rw [hnx], ?_⟩, by simp only [Int.toNat_natCast]; omega⟩
      rw [hnx]
      have : vI .i64 ((runL (kindF cols) (x.kids.take m)).1 ++ [(kindF cols k).1]) = vI .i64 (runL (kindF cols) (x.kids.take m)).1 ++ [.int .i64 (kindF cols k).1] := by simp [vI]
      show Hold w w41 fs [⟨3, 1, p', m + 1, c', vI .i64 ((runL (kindF cols) (x.kids.take m)).1 ++ [(kindF cols k).1])⟩]
      rw [this]
      exact H41
  · have hjn : m = xn := by omega
    subst hjn
    rw [List.take_of_length_le (by omega)] at hrun H
    have hlen := runL_len hrun
    generalize hL : (runL (kindF cols) x.kids).1 = L at hlen H
    have hkf : kindF cols x = kindN cols x.op x.name x.v L := by rw [kindF_eq, if_neg (by simpa using hrun), hL]
    have B1 : Blk W b1 28 #[.int .i64 x.op, .string x.name, .int .i64 x.v.k, .int .i64 x.v.n, .string x.v.s, .slice xp m xc] := H.blk 0 rfl
    obtain ⟨a0, a1, a2, a3, a4, a5⟩ := B1.c6
    refine ⟨_, a0, (wants_ok x.op W).mono ?_⟩
    rintro e w45 ⟨rfl, e45⟩
    have H45 := H.step e45
    refine ⟨_, rfl, fun i W => ∃ k : Nat, i = (k : Int) ∧ k ≤ m ∧ (wantOf x.op ≠ 0 → ∀ g ∈ L.take k, alikeB g (wantOf x.op) = true) ∧ Hold w W fs [⟨3, 1, q, m, d, vI .i64 L⟩], fun i _ => m - i.toNat, ⟨0, rfl, Nat.zero_le _, by simp, H45⟩, ?_⟩
    clear H45 H B1 a0 a1 a2 a3 a4 a5
    rintro i W ⟨k, rfl, hk, hal, H⟩
    have hat := (H.row 0 rfl).at
    refine ⟨fun hlt => ?_, fun hge => ?_⟩
    · obtain ⟨b, o, hp, hcl⟩ := hat.getI (i := k) (by omega)
      have g : L[k]? = some (L[k]'(by omega)) := List.getElem?_eq_getElem _
      generalize L[k]'(by omega) = gk at g hcl
      have nxt : (wantOf x.op ≠ 0 → alikeB gk (wantOf x.op) = true) → (∃ k' : Nat, IntKind.i64.wrap ((k : Int) + 1) = (k' : Int) ∧ k' ≤ m ∧ (wantOf x.op ≠ 0 → ∀ g ∈ L.take k', alikeB g (wantOf x.op) = true) ∧ Hold w W fs [⟨3, 1, q, m, d, vI .i64 L⟩]) ∧
          m - (IntKind.i64.wrap ((k : Int) + 1)).toNat < m - k := by
        intro hb
        rw [i64_next (by omega)]
        refine ⟨⟨k + 1, rfl, by omega, fun hw y hy => ?_, H⟩, by simp only [Int.toNat_natCast]; omega⟩
        rw [List.take_add_one, g] at hy
        rcases List.mem_append.1 hy with hy | hy
        · exact hal hw y hy
        · simp at hy; subst hy; exact hb hw
      simp only [Int.toNat_natCast]
      refine ⟨fun hw => ⟨b, o, hp, by omega, by omega, _, hcl, fun hne => ⟨b, o, hp, by omega, by omega, _, hcl, fun hz => ⟨?_, H.ext⟩, fun hz => nxt fun _ => ?_⟩, fun he => nxt fun _ => ?_⟩, fun hw => nxt fun h => absurd hw h⟩
      · rw [hkf]
        unfold kindN
        rw [if_pos ⟨hw, fun hall => by
          have := alike_want (hall gk (List.mem_of_getElem? g)) hw
          omega⟩]
      · unfold alikeB; simp [hz]
      · unfold alikeB; simp [he]
    · have hkj : k = m := by omega
      rw [hkj, List.take_of_length_le (by omega)] at hal
      have hwant : ¬ (wantOf x.op ≠ 0 ∧ ¬ (∀ g ∈ L, alikeB g (wantOf x.op) = true)) := fun h => h.2 (hal h.1)
      have B1 : Blk W b1 28 #[.int .i64 x.op, .string x.name, .int .i64 x.v.k, .int .i64 x.v.n, .string x.v.s, .slice xp m xc] := H.blk 0 rfl
      obtain ⟨a0, a1, a2, a3, a4, a5⟩ := B1.c6
      have plain : x.op ≠ 1 → x.op ≠ 2 → ¬ ((x.op = 9 ∨ x.op = 10 ∨ x.op = 11) ∧ alikeB (L.getD 0 0) (L.getD 1 0) = false) → kindF cols x = (kindOf x.op, 0) := fun h1 h2 h9 => by
        rw [hkf]; unfold kindN; rw [if_neg hwant, if_neg h1, if_neg h2, if_neg h9]
      refine ⟨_, a0, fun h1 => ⟨_, a1, (r5find_ok (hc.ext H.ext) x.name).mono ?_⟩, fun h1 => ⟨fun h2 => ⟨_, a2, ?_, H.ext⟩, fun h2 => ?_⟩⟩
      · rintro e w93 ⟨rfl, e93⟩
        have hx93 := H.ext.trans e93
        refine ⟨_, rfl, fun hneg => ⟨?_, hx93⟩, fun hpos => ?_⟩
        · rw [hkf]; unfold kindN; rw [if_neg hwant, if_pos h1, if_pos hneg]
        · obtain ⟨y, hy, hyn⟩ := findC_get hpos
          obtain ⟨b, o, hp, d0, d1, d2⟩ := (hc.ext hx93).col hy
          have hrg := findC_range cols x.name
          refine ⟨b, o, hp, hpos, by omega, _, d1, ?_, hx93⟩
          rw [hkf]; unfold kindN; rw [if_neg hwant, if_pos h1, if_neg (by omega), hy]; rfl
      · rw [hkf]; unfold kindN; rw [if_neg hwant, if_neg h1, if_pos h2]
      · refine ⟨fun h9 => ⟨fun _ => ?_, fun h => absurd h9 h⟩, fun h9 => ⟨fun h10 => ⟨fun _ => ?_, fun h => absurd h10 h⟩, fun h10 => ⟨fun h11 => ?_, fun h11 => ?_⟩⟩⟩
        rotate_left 3
        · have hp := plain h1 h2 (by omega)
          have k2 : 12 ≤ x.op ∧ x.op ≤ 15 → kindOf x.op = 2 := fun h => by unfold kindOf; rw [if_neg (by omega), if_pos (by omega)]
          have k1 : 3 ≤ x.op ∧ x.op ≤ 8 ∨ x.op = 16 → kindOf x.op = 1 := fun h => by unfold kindOf; rw [if_pos h]
          have good : ∀ v : Int, v = kindOf x.op → Ending.returned (.tuple #[.int .i64 v, .int .i64 0]) = Ending.returned (.tuple #[.int .i64 (kindF cols x).1, .int .i64 (kindF cols x).2]) ∧ Ext w W := fun v h => ⟨by rw [hp, h], H.ext⟩
          generalize x.op = op at *
          generalize kindOf op = kk at *
          repeat' first
            | exact good _ (by omega)
            | omega
            | intro _
            | refine And.intro ?_ ?_
        all_goals
          intro w83 h83
          have hm2 : m = 2 := by
            have : manyOf x.op = 2 := by unfold manyOf; rw [if_neg (by omega), if_neg (by omega), if_pos (by omega)]
            omega
          have hat' := hat.ext h83.ext
          obtain ⟨b, o, hp, c0⟩ := hat'.getI (i := 0) (by omega)
          obtain ⟨b', o', hp', c1⟩ := hat'.getI (i := 1) (by omega)
          have g0 : L.getD 0 0 = L[0]'(by omega) := by rw [List.getD_eq_getElem?_getD, List.getElem?_eq_getElem (by omega : 0 < L.length)]; rfl
          have g1 : L.getD 1 0 = L[1]'(by omega) := by rw [List.getD_eq_getElem?_getD, List.getElem?_eq_getElem (by omega : 1 < L.length)]; rfl
          have hk2 : kindOf x.op = 2 := by unfold kindOf; rw [if_neg (by omega), if_pos (by omega)]
          have hx83 := H.ext.trans h83.ext
          generalize L[0]'(by omega) = ga at c0 g0
          generalize L[1]'(by omega) = gb at c1 g1
          have ok : alikeB ga gb = true → Ending.returned (.tuple #[.int .i64 2, .int .i64 0]) = Ending.returned (.tuple #[.int .i64 (kindF cols x).1, .int .i64 (kindF cols x).2]) ∧ Ext w w83 := fun h => ⟨by
            rw [plain h1 h2 (fun h' => by rw [g0, g1, h] at h'; cases h'.2), hk2], hx83⟩
          have no : alikeB ga gb = false → Ending.returned (.tuple #[.int .i64 0, .int .i64 121]) = Ending.returned (.tuple #[.int .i64 (kindF cols x).1, .int .i64 (kindF cols x).2]) ∧ Ext w w83 := fun h => ⟨by
            rw [hkf]; unfold kindN; rw [if_neg hwant, if_neg h1, if_neg h2, if_pos ⟨by omega, by rw [g0, g1]; exact h⟩], hx83⟩
          refine ⟨b, o, hp, by omega, by omega, _, c0, b', o', hp', by omega, by omega, _, c1, fun hne => ⟨b, o, hp, by omega, by omega, _, c0, fun hz => ⟨b', o', hp', by omega, by omega, _, c1, fun hz' => no ?_, fun hz' => ok ?_⟩, fun hz => ok ?_⟩, fun he => ok ?_⟩
          · unfold alikeB; simp [hne, hz, hz']
          · unfold alikeB; simp [hz']
          · unfold alikeB; simp [hz]
          · unfold alikeB; simp [he]

theorem rtype_ok (x : Ex) {w : World} {p : Option Addr} {n c : Nat} {cols : List Col} {cs : List Value} (hc : Cols w p n c cols) (hs : ∀ y ∈ cols, y.name.size ≤ 9223372036854775807) (hx : ExAt w x cs) :
    Calls Tryd.prog 24 #[.slice p n c, .agg cs.toArray] w fun e w' => e = .returned (.tuple #[.int .i64 (typeF cols x).1, .int .i64 (typeF cols x).2]) ∧ Ext w w' := by
  obtain ⟨xp, xn, xc, hcs, _⟩ := hx.six
  subst hcs
  apply rtype_vc
  unfold rtype_T
  intro b1 w2 h1
  have H2 := (Hold.start (Ext.rfl (w := w))).new h1
  refine (r5right_ok (hc.ext H2.ext) hs).mono ?_
  rintro e w5 ⟨rfl, e5⟩
  have H5 := H2.step e5
  refine ⟨_, rfl, fun hb => ⟨by unfold typeF; rw [if_pos hb], H5.ext⟩, fun hb => ?_⟩
  have B1 : Blk w5 b1 28 #[.int .i64 x.op, .string x.name, .int .i64 x.v.k, .int .i64 x.v.n, .string x.v.s, .slice xp xn xc] := H5.blk 0 rfl
  obtain ⟨a0, a1, a2, a3, a4, a5⟩ := B1.c6
  refine ⟨_, a0, _, a1, _, a2, _, a3, _, a4, _, _, _, a5, (rFormed_ok x (hx.ext H5.ext)).mono ?_⟩
  rintro e w18 ⟨rfl, e18⟩
  have H18 := H5.step e18
  refine ⟨_, rfl, fun hf => ⟨by unfold typeF; rw [if_neg (by simp [hb]), if_pos hf], H18.ext⟩, fun hf => ?_⟩
  have hfp : FormedP x := of_decide_eq_true hf
  refine ⟨_, cell_ext a0 e18, _, cell_ext a1 e18, _, cell_ext a2 e18, _, cell_ext a3 e18, _, cell_ext a4 e18, _, _, _, cell_ext a5 e18, (rkind_ok _ x (Nat.le_refl _) hfp.1 (hc.ext H18.ext) (hx.ext H18.ext)).mono ?_⟩
  rintro e w31 ⟨rfl, e31⟩
  exact ⟨_, _, rfl, by unfold typeF; rw [if_neg (by simp [hb]), if_neg (by simp [hf])], (H18.step e31).ext⟩
end Go.Proofs.YtpjafkcmbinjiaaDoor

/- The contracts of the document's answer for expressions: numbers, truths. -/
namespace Go.Proofs.YtpjafkcmbinjiaaDoor
open Go Go.Vc Go.RowKit
set_option maxRecDepth 20000

theorem rtruth_ok (b : Bool) (w : World) : Calls Tryd.prog 87 #[.bool b] w fun e w' => e = .returned (truthV b).agg ∧ Ext w w' := by
  apply rtruth_vc
  unfold rtruth_T
  intro b1 w2 h1 b4 w5 h4
  have H5 := ((Hold.start (Ext.rfl (w := w))).new h1).new h4
  obtain ⟨q0, q1, q2⟩ := (H5.blk 0 rfl).c3
  refine ⟨⟨_, q0⟩, (H5.blk 0 rfl).frozen _, ⟨_, q1⟩, (H5.blk 0 rfl).frozen _, ⟨_, q2⟩, (H5.blk 0 rfl).frozen _, fun w10 h10 => ?_⟩
  have H10 := H5.put 0 rfl h10
  have B : Blk w10 b4 25 #[.int .i64 2, .int .i64 0, .string ⟨#[]⟩] := H10.blk 0 rfl
  obtain ⟨q0, q1, q2⟩ := B.c3
  refine ⟨fun hb => ⟨⟨_, q1⟩, B.frozen _, fun w14 h14 => ?_⟩, fun hb => ⟨_, q0, _, q1, _, q2, H10.ret3 1 rfl _ _ _ fun W' hx => ⟨by rw [hb]; rfl, hx⟩⟩⟩
  have H14 := H10.put 0 rfl h14
  have B : Blk w14 b4 25 #[.int .i64 2, .int .i64 1, .string ⟨#[]⟩] := H14.blk 0 rfl
  obtain ⟨q0, q1, q2⟩ := B.c3
  exact ⟨_, q0, _, q1, _, q2, H14.ret3 1 rfl _ _ _ fun W' hx => ⟨by rw [hb]; rfl, hx⟩⟩
theorem rnumber_ok (n : Int) (w : World) : Calls Tryd.prog 89 #[.int .i64 n] w fun e w' => e = .returned (numV n).agg ∧ Ext w w' := by
  apply rnumber_vc
  unfold rnumber_T
  intro b1 w2 h1
  have H := (Hold.start (Ext.rfl (w := w))).new h1
  exact H.ret3 0 rfl _ _ _ fun W' hx => ⟨rfl, hx⟩

theorem prod_test {a b : Int} (ha : fitI a) (hb : fitI b) (b0 : b ≠ 0) (h1 : ¬ (b = -1 ∧ a = -9223372036854775808)) : quoI .i64 (IntKind.i64.wrap (a * b)) b = a ↔ fitI (a * b) := by
  have ew : ∀ x, fitI x → IntKind.i64.wrap x = x := fun x hx => by unfold fitI at hx; exact i64_fit hx.1 hx.2
  constructor
  · intro h
    have hw := IntKind.wrap_i64 (a * b)
    have hp : fitI (IntKind.i64.wrap (a * b)) := by unfold fitI; omega
    unfold quoI at h
    by_cases hs : IntKind.i64.wrap (a * b) = -9223372036854775808 ∧ b = -1
    · obtain ⟨h2, rfl⟩ := hs
      exfalso
      rw [h2] at h
      have : IntKind.i64.wrap ((-9223372036854775808 : Int).tdiv (-1)) = -9223372036854775808 := by decide +kernel
      rw [this] at h
      exact h1 ⟨rfl, h.symm⟩
    · have hq := (tdiv_fit hp b0).2 hs
      rw [ew _ hq] at h
      have hdm := Int.mul_tdiv_add_tmod (IntKind.i64.wrap (a * b)) b
      have hm : ((IntKind.i64.wrap (a * b)).tmod b).natAbs = (IntKind.i64.wrap (a * b)).natAbs % b.natAbs := Int.natAbs_tmod _ _
      have hlt := Nat.mod_lt (IntKind.i64.wrap (a * b)).natAbs (y := b.natAbs) (by omega)
      rw [h, Int.mul_comm b a] at hdm
      generalize (IntKind.i64.wrap (a * b)).tmod b = r at *
      generalize IntKind.i64.wrap (a * b) = p at *
      generalize a * b = X at *
      unfold fitI at *
      generalize p.natAbs % b.natAbs = t at *
      omega
  · intro h
    rw [ew _ h]
    unfold quoI
    rw [Int.mul_tdiv_cancel _ b0, ew _ ha]
theorem rproduct_ok {a b : Int} (ha : fitI a) (hb : fitI b) (w : World) : Calls Tryd.prog 101 #[.int .i64 a, .int .i64 b] w fun e w' => ∃ n : Int, e = .returned (.tuple #[.int .i64 n, .bool (decide (fitI (a * b)))]) ∧ (fitI (a * b) → n = a * b) ∧ Ext w w' := by
  apply rproduct_vc
  unfold rproduct_T
  have ew : ∀ x, fitI x → IntKind.i64.wrap x = x := fun x hx => by unfold fitI at hx; exact i64_fit hx.1 hx.2
  refine ⟨fun hz => ⟨0, ?_, ?_, .rfl⟩, fun hz => ⟨fun h1 => ⟨0, ?_, ?_, .rfl⟩, fun h1 => ⟨fun h2 => ⟨0, ?_, ?_, .rfl⟩, fun h2 w7 h7 => ⟨hz.2, IntKind.i64.wrap (a * b), ?_, fun h => ew _ h, h7.ext⟩⟩⟩⟩
  · have : a * b = 0 := by rcases hz with h | h <;> simp [h]
    rw [this]; rfl
  · intro _; rcases hz with h | h <;> simp [h]
  · obtain ⟨rfl, rfl⟩ := h1; rfl
  · obtain ⟨rfl, rfl⟩ := h1; intro h; exact absurd h (by decide)
  · obtain ⟨rfl, rfl⟩ := h2; rfl
  · obtain ⟨rfl, rfl⟩ := h2; intro h; exact absurd h (by decide)
  · have : decide (quoI .i64 (IntKind.i64.wrap (a * b)) b = a) = decide (fitI (a * b)) := by
      rw [decide_eq_decide]
      exact prod_test ha hb hz.2 (by omega)
    rw [this]

theorem reckoned_ok {op a b : Int} (hop : 3 ≤ op ∧ op ≤ 7) (ha : fitI a) (hb : fitI b) (w : World) : Calls Tryd.prog 88 #[.int .i64 op, .int .i64 a, .int .i64 b] w fun e w' => e = .returned (.tuple #[.int .i64 (arithF op a b).1, .int .i64 (arithF op a b).2]) ∧ Ext w w' := by
  apply reckoned_vc
  unfold reckoned_T
  have ew : ∀ x, fitI x → IntKind.i64.wrap x = x := fun x hx => by unfold fitI at hx; exact i64_fit hx.1 hx.2
  have wa := IntKind.wrap_i64 (a + b)
  have ws := IntKind.wrap_i64 (a - b)
  have A3 : op = 3 → arithF op a b = overF (a + b) := fun h => by unfold arithF; rw [if_neg (by omega), if_pos h]
  have A4 : op = 4 → arithF op a b = overF (a - b) := fun h => by unfold arithF; rw [if_neg (by omega), if_neg (by omega), if_pos h]
  have A5 : op = 5 → arithF op a b = overF (a * b) := fun h => by unfold arithF; rw [if_neg (by omega), if_neg (by omega), if_neg (by omega), if_pos h]
  have A6 : op = 6 → b ≠ 0 → arithF op a b = overF (a.tdiv b) := fun h h0 => by unfold arithF; rw [if_neg (by omega), if_neg (by omega), if_neg (by omega), if_neg (by omega), if_pos h]
  have A7 : op = 7 → b ≠ 0 → arithF op a b = (a.tmod b, 0) := fun h h0 => by unfold arithF; rw [if_neg (by omega), if_neg (by omega), if_neg (by omega), if_neg (by omega), if_neg (by omega), if_pos h]
  have Az : op = 6 ∨ op = 7 → b = 0 → arithF op a b = (0, 101) := fun h h0 => by unfold arithF; rw [if_pos ⟨h, h0⟩]
  have yes : ∀ x, fitI x → overF x = (x, 0) := fun x h => by unfold overF; rw [if_pos h]
  have no : ∀ x, ¬ fitI x → overF x = (0, 100) := fun x h => by unfold overF; rw [if_neg h]
  have fa := ha
  have fb := hb
  unfold fitI at fa fb
  refine ⟨fun h3 => ⟨fun h => ⟨?_, .rfl⟩, fun h => ⟨fun h' => ⟨?_, .rfl⟩, fun h' => ⟨?_, .rfl⟩⟩⟩, fun h3 => ⟨fun h4 => ⟨fun h => ⟨?_, .rfl⟩, fun h => ⟨fun h' => ⟨?_, .rfl⟩, fun h' => ⟨?_, .rfl⟩⟩⟩, fun h4 => ⟨fun h5 => (rproduct_ok ha hb w).mono ?_, fun h5 => ⟨fun h6 => ⟨fun hz => ⟨?_, .rfl⟩, fun hz => ⟨fun hm => ⟨fun hmin => ⟨?_, .rfl⟩, fun hmin => ⟨?_, .rfl⟩⟩, fun hm => ⟨hz, ?_, .rfl⟩⟩⟩,
    fun h6 => ⟨fun hz => ⟨?_, .rfl⟩, fun hz => ⟨fun hm => ⟨hz, ?_, .rfl⟩, fun hm => ⟨?_, .rfl⟩⟩⟩⟩⟩⟩⟩
  · have : fitI (a + b) := by unfold fitI; omega
    rw [A3 h3, yes _ this, ew _ this]
  · have : ¬ fitI (a + b) := by unfold fitI; omega
    rw [A3 h3, no _ this]
  · have : fitI (a + b) := by unfold fitI; omega
    rw [A3 h3, yes _ this, ew _ this]
  · have : fitI (a - b) := by unfold fitI; omega
    rw [A4 h4, yes _ this, ew _ this]
  · have : ¬ fitI (a - b) := by unfold fitI; omega
    rw [A4 h4, no _ this]
  · have : fitI (a - b) := by unfold fitI; omega
    rw [A4 h4, yes _ this, ew _ this]
  · rintro e w15 ⟨n, rfl, hn, e15⟩
    refine ⟨_, _, rfl, fun hf => ⟨?_, e15⟩, fun hf => ⟨?_, e15⟩⟩
    · rw [A5 h5, no _ (of_decide_eq_false hf)]
    · rw [A5 h5, yes _ (of_decide_eq_true hf), hn (of_decide_eq_true hf)]
  · rw [Az (.inl h6) hz]
  · rw [A6 h6 hz, no _ (fun hf => (tdiv_fit ha hz).1 hf ⟨hmin, hm⟩)]
  · have : fitI (a.tdiv b) := (tdiv_fit ha hz).2 fun h => hmin h.1
    rw [A6 h6 hz, yes _ this, hm, Int.tdiv_neg, Int.tdiv_one]
    rw [i64_fit (by omega) (by omega)]
    show Ending.returned (.tuple #[.int .i64 (0 - a), .int .i64 0]) = _
    rw [Int.zero_sub]
  · have : fitI (a.tdiv b) := (tdiv_fit ha hz).2 fun h => hm h.2
    rw [A6 h6 hz, yes _ this]
    unfold quoI
    rw [ew _ this]
  · rw [Az (by omega) hz]
  · rw [A7 (by omega) hz]; rfl
  · rw [A7 (by omega) hz, hm, Int.tmod_neg, Int.tmod_one]
end Go.Proofs.YtpjafkcmbinjiaaDoor

/- The contracts of the document's answer for expressions: a node of two kids. -/
namespace Go.Proofs.YtpjafkcmbinjiaaDoor
open Go Go.Vc Go.RowKit
set_option maxRecDepth 20000

def bothF (a b : Val) (strong : Int) : Val :=
  if (a.k = 2 ∧ a.n = strong) ∨ (b.k = 2 ∧ b.n = strong) then truthV (decide (strong = 1)) else if a.k = 0 ∨ b.k = 0 then nullV else truthV (decide (strong = 0))
theorem good2_cases {a : Val} (h : GoodV 2 a) : (a.k = 0 ∧ thirdI a = 2) ∨ (a.k = 2 ∧ a.n = 0 ∧ thirdI a = 0) ∨ (a.k = 2 ∧ a.n = 1 ∧ thirdI a = 1) := by
  obtain ⟨ho, _, hk⟩ := h
  unfold Val.Ok at ho
  unfold thirdI
  rcases hk with hk | hk
  · rw [if_pos hk]; exact .inl ⟨hk, rfl⟩
  · rw [if_neg (by omega)]; omega
theorem bothF_and {a b : Val} (ha : GoodV 2 a) (hb : GoodV 2 b) : bothF a b 0 = answerV (andI (thirdI a) (thirdI b)) := by
  rcases good2_cases ha with h | h | h <;> rcases good2_cases hb with h' | h' | h' <;> (unfold bothF; simp [h, h', andI, answerV])
theorem bothF_or {a b : Val} (ha : GoodV 2 a) (hb : GoodV 2 b) : bothF a b 1 = answerV (orJ (thirdI a) (thirdI b)) := by
  rcases good2_cases ha with h | h | h <;> rcases good2_cases hb with h' | h' | h' <;> (unfold bothF; simp [h, h', orJ, answerV])

theorem rboth_ok (a b : Val) (s : Int) (w : World) : Calls Tryd.prog 86 #[a.agg, b.agg, .int .i64 s] w fun e w' => e = .returned (bothF a b s).agg ∧ Ext w w' := by
  apply rboth_vc
  unfold rboth_T
  intro ba w2 h1 bb w5 h4 br w8 h7
  have H8 := (((Hold.start (Ext.rfl (w := w))).new h1).new h4).new h7
  have Ba : Blk w8 ba 25 #[.int .i64 a.k, .int .i64 a.n, .string a.s] := H8.blk 2 rfl
  have Bb : Blk w8 bb 25 #[.int .i64 b.k, .int .i64 b.n, .string b.s] := H8.blk 1 rfl
  obtain ⟨a0, a1, a2⟩ := Ba.c3
  obtain ⟨b0, b1, b2⟩ := Bb.c3
  have Y : (a.k = 2 ∧ a.n = s) ∨ (b.k = 2 ∧ b.n = s) → bothF a b s = truthV (decide (s = 1)) := fun h => by unfold bothF; rw [if_pos h]
  have Z : ¬ ((a.k = 2 ∧ a.n = s) ∨ (b.k = 2 ∧ b.n = s)) → a.k = 0 ∨ b.k = 0 → bothF a b s = nullV := fun h h' => by unfold bothF; rw [if_neg h, if_pos h']
  have O : ¬ ((a.k = 2 ∧ a.n = s) ∨ (b.k = 2 ∧ b.n = s)) → ¬ (a.k = 0 ∨ b.k = 0) → bothF a b s = truthV (decide (s = 0)) := fun h h' => by unfold bothF; rw [if_neg h, if_neg h']
  refine ⟨_, a0, fun k2 => ⟨_, a1, fun hs => ?_, fun hs => ⟨_, b0, fun k2b => ⟨_, b1, fun hsb => ?_, fun hsb => ⟨_, a0, fun hz => ?_, fun hz => ⟨_, b0, fun hz' => ?_, fun hz' => ?_⟩⟩⟩, fun k2b => ⟨_, a0, fun hz => ?_, fun hz => ⟨_, b0, fun hz' => ?_, fun hz' => ?_⟩⟩⟩⟩,
    fun k2 => ⟨_, b0, fun k2b => ⟨_, b1, fun hsb => ?_, fun hsb => ⟨_, a0, fun hz => ?_, fun hz => ⟨_, b0, fun hz' => ?_, fun hz' => ?_⟩⟩⟩, fun k2b => ⟨_, a0, fun hz => ?_, fun hz => ⟨_, b0, fun hz' => ?_, fun hz' => ?_⟩⟩⟩⟩
  all_goals first
    | (refine H8.ret3 0 rfl _ _ _ fun W' hx => ⟨?_, hx⟩
       rw [Z (by omega) (by omega)]; rfl)
    | (refine (rtruth_ok _ w8).mono ?_
       rintro e w15 ⟨rfl, e15⟩
       refine ⟨_, _, _, rfl, (H8.step e15).ret3 0 rfl _ _ _ fun W' hx => ⟨?_, hx⟩⟩
       first
         | (rw [Y (by omega)]; rfl)
         | (rw [O (by omega) (by omega)]; rfl))

theorem rtwo_ok (op : Int) (a b : Val) (w : World) (hop : (3 ≤ op ∧ op ≤ 7) ∨ (9 ≤ op ∧ op ≤ 13)) (hao : a.Ok) (hbo : b.Ok) (ha : fitI a.n) (hb : fitI b.n) (ht : op = 12 ∨ op = 13 → GoodV 2 a ∧ GoodV 2 b) :
    Calls Tryd.prog 69 #[.int .i64 op, a.agg, b.agg] w fun e w' => e = .returned (.tuple #[(pairF op a b).1.agg, .int .i64 (pairF op a b).2]) ∧ Ext w w' := by
  apply rtwo_vc
  unfold rtwo_T
  intro ba w2 h1 bb w5 h4 br w8 h7
  have H8 := (((Hold.start (Ext.rfl (w := w))).new h1).new h4).new h7
  have Ba : Blk w8 ba 25 #[.int .i64 a.k, .int .i64 a.n, .string a.s] := H8.blk 2 rfl
  have Bb : Blk w8 bb 25 #[.int .i64 b.k, .int .i64 b.n, .string b.s] := H8.blk 1 rfl
  obtain ⟨a0, a1, a2⟩ := Ba.c3
  obtain ⟨b0, b1, b2⟩ := Bb.c3
  refine ⟨fun h12 => ⟨_, a0, _, a1, _, a2, _, b0, _, b1, _, b2, (rboth_ok a b 0 w8).mono ?_⟩, fun h12 => ⟨fun h13 => ⟨_, a0, _, a1, _, a2, _, b0, _, b1, _, b2, (rboth_ok a b 1 w8).mono ?_⟩, fun h13 => ?_⟩⟩
  · rintro e w18 ⟨rfl, e18⟩
    obtain ⟨g1, g2⟩ := ht (.inl h12)
    refine ⟨_, _, _, rfl, (H8.step e18).ret3 0 rfl _ _ _ fun W' hx => ⟨?_, hx⟩⟩
    unfold pairF; rw [if_pos h12, ← bothF_and g1 g2]; rfl
  · rintro e w18 ⟨rfl, e18⟩
    obtain ⟨g1, g2⟩ := ht (.inr h13)
    refine ⟨_, _, _, rfl, (H8.step e18).ret3 0 rfl _ _ _ fun W' hx => ⟨?_, hx⟩⟩
    unfold pairF; rw [if_neg h12, if_pos h13, ← bothF_or g1 g2]; rfl
  · refine ⟨_, a0, fun hz => H8.ret3 0 rfl _ _ _ fun W' hx => ⟨?_, hx⟩, fun hz => ⟨_, b0, fun hz' => H8.ret3 0 rfl _ _ _ fun W' hx => ⟨?_, hx⟩, fun hz' => ⟨_, a0, _, a1, _, a2, _, b0, _, b1, _, b2, (rvcompare_ok a b w8).mono ?_⟩⟩⟩
    · unfold pairF; rw [if_neg h12, if_neg h13, if_pos (.inl hz)]; rfl
    · unfold pairF; rw [if_neg h12, if_neg h13, if_pos (.inr hz')]; rfl
    rintro e w99 ⟨rfl, e99⟩
    rw [rcmpV_eq hao hbo]
    have H99 := H8.step e99
    have hz2 : ¬ (a.k = 0 ∨ b.k = 0) := by omega
    refine ⟨_, rfl, fun h9 => (rtruth_ok _ w99).mono ?_, fun h9 => ⟨fun h10 => (rtruth_ok _ w99).mono ?_, fun h10 => ⟨fun h11 => (rtruth_ok _ w99).mono ?_, fun h11 => ?_⟩⟩⟩
    · rintro e w103 ⟨rfl, e103⟩
      refine ⟨_, _, _, rfl, (H99.step e103).ret3 0 rfl _ _ _ fun W' hx => ⟨?_, hx⟩⟩
      unfold pairF; rw [if_neg h12, if_neg h13, if_neg hz2, if_pos h9]; rfl
    · rintro e w103 ⟨rfl, e103⟩
      refine ⟨_, _, _, rfl, (H99.step e103).ret3 0 rfl _ _ _ fun W' hx => ⟨?_, hx⟩⟩
      unfold pairF; rw [if_neg h12, if_neg h13, if_neg hz2, if_neg h9, if_pos h10]; rfl
    · rintro e w103 ⟨rfl, e103⟩
      refine ⟨_, _, _, rfl, (H99.step e103).ret3 0 rfl _ _ _ fun W' hx => ⟨?_, hx⟩⟩
      unfold pairF; rw [if_neg h12, if_neg h13, if_neg hz2, if_neg h9, if_neg h10, if_pos h11]; rfl
    · refine ⟨_, cell_ext a1 e99, _, cell_ext b1 e99, (reckoned_ok (by omega) ha hb w99).mono ?_⟩
      rintro e w149 ⟨rfl, e149⟩
      refine ⟨_, _, rfl, fun hne => (H99.step e149).ret3 0 rfl _ _ _ fun W' hx => ⟨?_, hx⟩, fun he => (rnumber_ok _ w149).mono ?_⟩
      · unfold pairF; rw [if_neg h12, if_neg h13, if_neg hz2, if_neg h9, if_neg h10, if_neg h11, if_pos hne]; rfl
      · rintro e w160 ⟨rfl, e160⟩
        refine ⟨_, _, _, rfl, ((H99.step e149).step e160).ret3 0 rfl _ _ _ fun W' hx => ⟨?_, hx⟩⟩
        unfold pairF; rw [if_neg h12, if_neg h13, if_neg hz2, if_neg h9, if_neg h10, if_neg h11, if_neg (by simpa using he)]; rfl
end Go.Proofs.YtpjafkcmbinjiaaDoor

/- The contracts of the document's prune: sets, sides, comparisons, zones. -/
namespace Go.Proofs.YtpjafkcmbinjiaaDoor
open Go Go.Vc Go.RowKit
set_option maxRecDepth 20000
attribute [local irreducible] Calls Put Drew New

theorem rset_ok (a b c : Bool) (w : World) : Calls Tryd.prog 49 #[.bool a, .bool b, .bool c] w fun e w' => e = .returned (.int .i64 (S3.i ⟨a, b, c⟩)) ∧ Ext w w' := by
  apply qset_vc
  unfold qset_T
  cases a <;> cases b <;> cases c <;> simp [Ext.rfl, S3.i]
def S3.has (s : S3) (k : Nat) : Bool := if k = 0 then s.no else if k = 1 then s.yes else s.null
theorem rhas_ok (s : S3) {k : Nat} (hk : k < 3) (w : World) : Calls Tryd.prog 29 #[.int .i64 s.i, .int .i64 (k : Int)] w fun e w' => e = .returned (.bool (S3.has s k)) ∧ Ext w w' := by
  apply qhas_vc
  unfold qhas_T
  refine ⟨by omega, ?_, Ext.rfl⟩
  apply congrArg Ending.returned; apply congrArg Value.bool
  obtain ⟨a, b, c⟩ := s
  rcases (by omega : k = 0 ∨ k = 1 ∨ k = 2) with rfl | rfl | rfl <;> cases a <;> cases b <;> cases c <;> decide +kernel
def valK (k : Nat) : Val := if k = 2 then nullV else ⟨2, k, ⟨#[]⟩⟩
theorem rvalue_ok (k : Nat) (w : World) : Calls Tryd.prog 70 #[.int .i64 (k : Int)] w fun e w' => e = .returned (valK k).agg ∧ Ext w w' := by
  apply qvalue_vc
  unfold qvalue_T
  intro b1 w2 h1
  have H := (Hold.start (Ext.rfl (w := w))).new h1
  refine ⟨fun hk => ?_, fun hk => ?_⟩
  · repeat (first
      | (intro _ _ hS; replace H := H.new hS; clear hS)
      | (intro _ hS; (first | replace H := H.put 0 rfl hS | replace H := H.put 1 rfl hS | replace H := H.put 2 rfl hS | replace H := H.put 3 rfl hS | replace H := H.put 4 rfl hS | replace H := H.put 5 rfl hS | replace H := H.put 6 rfl hS | replace H := H.put 7 rfl hS); clear hS; try simp only [setA, List.setIfInBounds_toArray, List.set_cons_zero, List.set_cons_succ, Nat.zero_add, Nat.reduceAdd] at H)
      | (intro _ hS; replace H := H.step (Drew.ext hS); clear hS)
      | (first | refine ⟨⟨_, H.get 0 rfl rfl⟩, ?_⟩ | refine ⟨⟨_, H.get 1 rfl rfl⟩, ?_⟩ | refine ⟨⟨_, H.get 2 rfl rfl⟩, ?_⟩ | refine ⟨⟨_, H.get 3 rfl rfl⟩, ?_⟩ | refine ⟨⟨_, H.get 4 rfl rfl⟩, ?_⟩ | refine ⟨⟨_, H.get 5 rfl rfl⟩, ?_⟩ | refine ⟨⟨_, H.get 6 rfl rfl⟩, ?_⟩ | refine ⟨⟨_, H.get 7 rfl rfl⟩, ?_⟩)
      | (first | refine ⟨H.frz 0 rfl, ?_⟩ | refine ⟨H.frz 1 rfl, ?_⟩ | refine ⟨H.frz 2 rfl, ?_⟩ | refine ⟨H.frz 3 rfl, ?_⟩ | refine ⟨H.frz 4 rfl, ?_⟩ | refine ⟨H.frz 5 rfl, ?_⟩ | refine ⟨H.frz 6 rfl, ?_⟩ | refine ⟨H.frz 7 rfl, ?_⟩)
      | (first | refine ⟨_, H.get 0 rfl rfl, ?_⟩ | refine ⟨_, H.get 1 rfl rfl, ?_⟩ | refine ⟨_, H.get 2 rfl rfl, ?_⟩ | refine ⟨_, H.get 3 rfl rfl, ?_⟩ | refine ⟨_, H.get 4 rfl rfl, ?_⟩ | refine ⟨_, H.get 5 rfl rfl, ?_⟩ | refine ⟨_, H.get 6 rfl rfl, ?_⟩ | refine ⟨_, H.get 7 rfl rfl, ?_⟩)
      | (first | refine ⟨_, _, _, H.get 0 rfl rfl, ?_⟩ | refine ⟨_, _, _, H.get 1 rfl rfl, ?_⟩ | refine ⟨_, _, _, H.get 2 rfl rfl, ?_⟩ | refine ⟨_, _, _, H.get 3 rfl rfl, ?_⟩ | refine ⟨_, _, _, H.get 4 rfl rfl, ?_⟩ | refine ⟨_, _, _, H.get 5 rfl rfl, ?_⟩ | refine ⟨_, _, _, H.get 6 rfl rfl, ?_⟩ | refine ⟨_, _, _, H.get 7 rfl rfl, ?_⟩))
    exact ⟨by unfold valK; rw [if_pos (by omega)]; rfl, H.ext⟩
  · repeat (first
      | (intro _ _ hS; replace H := H.new hS; clear hS)
      | (intro _ hS; (first | replace H := H.put 0 rfl hS | replace H := H.put 1 rfl hS | replace H := H.put 2 rfl hS | replace H := H.put 3 rfl hS | replace H := H.put 4 rfl hS | replace H := H.put 5 rfl hS | replace H := H.put 6 rfl hS | replace H := H.put 7 rfl hS); clear hS; try simp only [setA, List.setIfInBounds_toArray, List.set_cons_zero, List.set_cons_succ, Nat.zero_add, Nat.reduceAdd] at H)
      | (intro _ hS; replace H := H.step (Drew.ext hS); clear hS)
      | (first | refine ⟨⟨_, H.get 0 rfl rfl⟩, ?_⟩ | refine ⟨⟨_, H.get 1 rfl rfl⟩, ?_⟩ | refine ⟨⟨_, H.get 2 rfl rfl⟩, ?_⟩ | refine ⟨⟨_, H.get 3 rfl rfl⟩, ?_⟩ | refine ⟨⟨_, H.get 4 rfl rfl⟩, ?_⟩ | refine ⟨⟨_, H.get 5 rfl rfl⟩, ?_⟩ | refine ⟨⟨_, H.get 6 rfl rfl⟩, ?_⟩ | refine ⟨⟨_, H.get 7 rfl rfl⟩, ?_⟩)
      | (first | refine ⟨H.frz 0 rfl, ?_⟩ | refine ⟨H.frz 1 rfl, ?_⟩ | refine ⟨H.frz 2 rfl, ?_⟩ | refine ⟨H.frz 3 rfl, ?_⟩ | refine ⟨H.frz 4 rfl, ?_⟩ | refine ⟨H.frz 5 rfl, ?_⟩ | refine ⟨H.frz 6 rfl, ?_⟩ | refine ⟨H.frz 7 rfl, ?_⟩)
      | (first | refine ⟨_, H.get 0 rfl rfl, ?_⟩ | refine ⟨_, H.get 1 rfl rfl, ?_⟩ | refine ⟨_, H.get 2 rfl rfl, ?_⟩ | refine ⟨_, H.get 3 rfl rfl, ?_⟩ | refine ⟨_, H.get 4 rfl rfl, ?_⟩ | refine ⟨_, H.get 5 rfl rfl, ?_⟩ | refine ⟨_, H.get 6 rfl rfl, ?_⟩ | refine ⟨_, H.get 7 rfl rfl, ?_⟩)
      | (first | refine ⟨_, _, _, H.get 0 rfl rfl, ?_⟩ | refine ⟨_, _, _, H.get 1 rfl rfl, ?_⟩ | refine ⟨_, _, _, H.get 2 rfl rfl, ?_⟩ | refine ⟨_, _, _, H.get 3 rfl rfl, ?_⟩ | refine ⟨_, _, _, H.get 4 rfl rfl, ?_⟩ | refine ⟨_, _, _, H.get 5 rfl rfl, ?_⟩ | refine ⟨_, _, _, H.get 6 rfl rfl, ?_⟩ | refine ⟨_, _, _, H.get 7 rfl rfl, ?_⟩))
    exact ⟨by unfold valK; rw [if_neg (by omega)]; rfl, H.ext⟩
theorem rown_ok {v : Val} (hv : GoodV 2 v) (w : World) : Calls Tryd.prog 48 #[v.agg] w fun e w' => e = .returned (.int .i64 (ownS v).i) ∧ Ext w w' := by
  apply qown_vc
  unfold qown_T
  intro b1 w2 h1
  have H := (Hold.start (Ext.rfl (w := w))).new h1
  repeat (first
    | (intro _ _ hS; replace H := H.new hS; clear hS)
    | (intro _ hS; (first | replace H := H.put 0 rfl hS | replace H := H.put 1 rfl hS | replace H := H.put 2 rfl hS | replace H := H.put 3 rfl hS | replace H := H.put 4 rfl hS | replace H := H.put 5 rfl hS | replace H := H.put 6 rfl hS | replace H := H.put 7 rfl hS); clear hS; try simp only [setA, List.setIfInBounds_toArray, List.set_cons_zero, List.set_cons_succ, Nat.zero_add, Nat.reduceAdd] at H)
    | (intro _ hS; replace H := H.step (Drew.ext hS); clear hS)
    | (first | refine ⟨⟨_, H.get 0 rfl rfl⟩, ?_⟩ | refine ⟨⟨_, H.get 1 rfl rfl⟩, ?_⟩ | refine ⟨⟨_, H.get 2 rfl rfl⟩, ?_⟩ | refine ⟨⟨_, H.get 3 rfl rfl⟩, ?_⟩ | refine ⟨⟨_, H.get 4 rfl rfl⟩, ?_⟩ | refine ⟨⟨_, H.get 5 rfl rfl⟩, ?_⟩ | refine ⟨⟨_, H.get 6 rfl rfl⟩, ?_⟩ | refine ⟨⟨_, H.get 7 rfl rfl⟩, ?_⟩)
    | (first | refine ⟨H.frz 0 rfl, ?_⟩ | refine ⟨H.frz 1 rfl, ?_⟩ | refine ⟨H.frz 2 rfl, ?_⟩ | refine ⟨H.frz 3 rfl, ?_⟩ | refine ⟨H.frz 4 rfl, ?_⟩ | refine ⟨H.frz 5 rfl, ?_⟩ | refine ⟨H.frz 6 rfl, ?_⟩ | refine ⟨H.frz 7 rfl, ?_⟩)
    | (first | refine ⟨_, H.get 0 rfl rfl, ?_⟩ | refine ⟨_, H.get 1 rfl rfl, ?_⟩ | refine ⟨_, H.get 2 rfl rfl, ?_⟩ | refine ⟨_, H.get 3 rfl rfl, ?_⟩ | refine ⟨_, H.get 4 rfl rfl, ?_⟩ | refine ⟨_, H.get 5 rfl rfl, ?_⟩ | refine ⟨_, H.get 6 rfl rfl, ?_⟩ | refine ⟨_, H.get 7 rfl rfl, ?_⟩)
    | (first | refine ⟨_, _, _, H.get 0 rfl rfl, ?_⟩ | refine ⟨_, _, _, H.get 1 rfl rfl, ?_⟩ | refine ⟨_, _, _, H.get 2 rfl rfl, ?_⟩ | refine ⟨_, _, _, H.get 3 rfl rfl, ?_⟩ | refine ⟨_, _, _, H.get 4 rfl rfl, ?_⟩ | refine ⟨_, _, _, H.get 5 rfl rfl, ?_⟩ | refine ⟨_, _, _, H.get 6 rfl rfl, ?_⟩ | refine ⟨_, _, _, H.get 7 rfl rfl, ?_⟩))
  have hn : 0 ≤ v.n := by have := hv.1; have := hv.2.2; unfold Val.Ok at *; omega
  refine ⟨fun hk => ?_, fun hk => ?_⟩
  · refine ⟨?_, H.ext⟩
    rcases three_truths hv with rfl | rfl | rfl
    · rfl
    · exact absurd hk (by decide)
    · exact absurd hk (by decide)
  · repeat (first
      | (intro _ _ hS; replace H := H.new hS; clear hS)
      | (intro _ hS; (first | replace H := H.put 0 rfl hS | replace H := H.put 1 rfl hS | replace H := H.put 2 rfl hS | replace H := H.put 3 rfl hS | replace H := H.put 4 rfl hS | replace H := H.put 5 rfl hS | replace H := H.put 6 rfl hS | replace H := H.put 7 rfl hS); clear hS; try simp only [setA, List.setIfInBounds_toArray, List.set_cons_zero, List.set_cons_succ, Nat.zero_add, Nat.reduceAdd] at H)
      | (intro _ hS; replace H := H.step (Drew.ext hS); clear hS)
      | (first | refine ⟨⟨_, H.get 0 rfl rfl⟩, ?_⟩ | refine ⟨⟨_, H.get 1 rfl rfl⟩, ?_⟩ | refine ⟨⟨_, H.get 2 rfl rfl⟩, ?_⟩ | refine ⟨⟨_, H.get 3 rfl rfl⟩, ?_⟩ | refine ⟨⟨_, H.get 4 rfl rfl⟩, ?_⟩ | refine ⟨⟨_, H.get 5 rfl rfl⟩, ?_⟩ | refine ⟨⟨_, H.get 6 rfl rfl⟩, ?_⟩ | refine ⟨⟨_, H.get 7 rfl rfl⟩, ?_⟩)
      | (first | refine ⟨H.frz 0 rfl, ?_⟩ | refine ⟨H.frz 1 rfl, ?_⟩ | refine ⟨H.frz 2 rfl, ?_⟩ | refine ⟨H.frz 3 rfl, ?_⟩ | refine ⟨H.frz 4 rfl, ?_⟩ | refine ⟨H.frz 5 rfl, ?_⟩ | refine ⟨H.frz 6 rfl, ?_⟩ | refine ⟨H.frz 7 rfl, ?_⟩)
      | (first | refine ⟨_, H.get 0 rfl rfl, ?_⟩ | refine ⟨_, H.get 1 rfl rfl, ?_⟩ | refine ⟨_, H.get 2 rfl rfl, ?_⟩ | refine ⟨_, H.get 3 rfl rfl, ?_⟩ | refine ⟨_, H.get 4 rfl rfl, ?_⟩ | refine ⟨_, H.get 5 rfl rfl, ?_⟩ | refine ⟨_, H.get 6 rfl rfl, ?_⟩ | refine ⟨_, H.get 7 rfl rfl, ?_⟩)
      | (first | refine ⟨_, _, _, H.get 0 rfl rfl, ?_⟩ | refine ⟨_, _, _, H.get 1 rfl rfl, ?_⟩ | refine ⟨_, _, _, H.get 2 rfl rfl, ?_⟩ | refine ⟨_, _, _, H.get 3 rfl rfl, ?_⟩ | refine ⟨_, _, _, H.get 4 rfl rfl, ?_⟩ | refine ⟨_, _, _, H.get 5 rfl rfl, ?_⟩ | refine ⟨_, _, _, H.get 6 rfl rfl, ?_⟩ | refine ⟨_, _, _, H.get 7 rfl rfl, ?_⟩))
    refine ⟨hn, ?_, H.ext⟩
    rcases three_truths hv with rfl | rfl | rfl
    · exact absurd rfl hk
    · rfl
    · rfl
theorem valK_good {k : Nat} (hk : k < 3) : GoodV 2 (valK k) := by
  rcases (by omega : k = 0 ∨ k = 1 ∨ k = 2) with rfl | rfl | rfl
  · exact .truth false
  · exact .truth true
  · exact .null 2
/-- What two sets give, one by one. -/
def bothIn (op : Int) (s t : S3) (i k : Nat) (o : Int) : Int := if (S3.has s i && S3.has t k) = true then bits .or .i64 o (ownS (pairF op (valK i) (valK k)).1).i else o
def bothI (op : Int) (s t : S3) (i k : Nat) (o : Int) : Int := (List.range k).foldl (fun o k => bothIn op s t i k o) o
def bothO (op : Int) (s t : S3) (i : Nat) (o : Int) : Int := (List.range i).foldl (fun o i => bothI op s t i 3 o) o
theorem bothI_succ (op : Int) (s t : S3) (i k : Nat) (o : Int) : bothI op s t i (k + 1) o = bothIn op s t i k (bothI op s t i k o) := by unfold bothI; rw [List.range_succ, List.foldl_append]; rfl
theorem bothO_succ (op : Int) (s t : S3) (i : Nat) (o : Int) : bothO op s t (i + 1) o = bothI op s t i 3 (bothO op s t i o) := by unfold bothO; rw [List.range_succ, List.foldl_append]; rfl
theorem bothO_and (s t : S3) : bothO 12 s t 3 0 = (s.and t).i := by
  obtain ⟨a, b, c⟩ := s
  obtain ⟨d, e, f⟩ := t
  cases a <;> cases b <;> cases c <;> cases d <;> cases e <;> cases f <;> decide +kernel
theorem bothO_or (s t : S3) : bothO 13 s t 3 0 = (s.or t).i := by
  obtain ⟨a, b, c⟩ := s
  obtain ⟨d, e, f⟩ := t
  cases a <;> cases b <;> cases c <;> cases d <;> cases e <;> cases f <;> decide +kernel
set_option maxHeartbeats 4000000 in
theorem rbothS_ok {op : Int} (hop : op = 12 ∨ op = 13) (s t : S3) (w : World) : Calls Tryd.prog 50 #[.int .i64 op, .int .i64 s.i, .int .i64 t.i] w fun e w' => e = .returned (.int .i64 (bothO op s t 3 0)) ∧ Ext w w' := by
  apply qboth_vc
  unfold qboth_T
  refine ⟨fun o i W => ∃ a : Nat, i = (a : Int) ∧ a ≤ 3 ∧ o = bothO op s t a 0 ∧ Ext w W, fun _ i _ => 3 - i.toNat, ⟨0, rfl, by decide, rfl, Ext.rfl⟩, ?_⟩
  rintro o i W ⟨a, rfl, ha, rfl, eW⟩
  refine ⟨fun hlt => ?_, fun hge => ?_⟩
  · refine ⟨fun o k W => ∃ b : Nat, k = (b : Int) ∧ b ≤ 3 ∧ o = bothI op s t a b (bothO op s t a 0) ∧ Ext w W, fun _ k _ => 3 - k.toNat, ⟨0, rfl, by decide, rfl, eW⟩, ?_⟩
    rintro o k W ⟨b, rfl, hb, rfl, eW⟩
    refine ⟨fun hlt2 => ?_, fun hge2 => ?_⟩
    · refine (rhas_ok s (k := a) (by omega) W).mono ?_
      rintro e W1 ⟨rfl, e1⟩
      refine ⟨_, rfl, (rhas_ok t (k := b) (by omega) W1).mono ?_⟩
      rintro e W2 ⟨rfl, e2⟩
      refine ⟨_, rfl, fun hq => ?_, fun hq => ?_⟩
      · refine (rvalue_ok a W2).mono ?_
        rintro e W3 ⟨rfl, e3⟩
        refine ⟨_, _, _, rfl, (rvalue_ok b W3).mono ?_⟩
        rintro e W4 ⟨rfl, e4⟩
        have g1 := valK_good (k := a) (by omega)
        have g2 := valK_good (k := b) (by omega)
        refine ⟨_, _, _, rfl, (rtwo_ok op (valK a) (valK b) W4 (by omega) g1.1 g2.1 g1.2.1 g2.2.1 (fun _ => ⟨g1, g2⟩)).mono ?_⟩
        rintro e W5 ⟨rfl, e5⟩
        refine ⟨_, _, _, _, rfl, ?_⟩
        have H := Hold.start (((((eW.trans e1).trans e2).trans e3).trans e4).trans e5)
        repeat (first
          | (intro _ _ hS; replace H := H.new hS; clear hS)
          | (intro _ hS; (first | replace H := H.put 0 rfl hS | replace H := H.put 1 rfl hS | replace H := H.put 2 rfl hS | replace H := H.put 3 rfl hS | replace H := H.put 4 rfl hS | replace H := H.put 5 rfl hS | replace H := H.put 6 rfl hS | replace H := H.put 7 rfl hS); clear hS; try simp only [setA, List.setIfInBounds_toArray, List.set_cons_zero, List.set_cons_succ, Nat.zero_add, Nat.reduceAdd] at H)
          | (intro _ hS; replace H := H.step (Drew.ext hS); clear hS)
          | (first | refine ⟨⟨_, H.get 0 rfl rfl⟩, ?_⟩ | refine ⟨⟨_, H.get 1 rfl rfl⟩, ?_⟩ | refine ⟨⟨_, H.get 2 rfl rfl⟩, ?_⟩ | refine ⟨⟨_, H.get 3 rfl rfl⟩, ?_⟩ | refine ⟨⟨_, H.get 4 rfl rfl⟩, ?_⟩ | refine ⟨⟨_, H.get 5 rfl rfl⟩, ?_⟩ | refine ⟨⟨_, H.get 6 rfl rfl⟩, ?_⟩ | refine ⟨⟨_, H.get 7 rfl rfl⟩, ?_⟩)
          | (first | refine ⟨H.frz 0 rfl, ?_⟩ | refine ⟨H.frz 1 rfl, ?_⟩ | refine ⟨H.frz 2 rfl, ?_⟩ | refine ⟨H.frz 3 rfl, ?_⟩ | refine ⟨H.frz 4 rfl, ?_⟩ | refine ⟨H.frz 5 rfl, ?_⟩ | refine ⟨H.frz 6 rfl, ?_⟩ | refine ⟨H.frz 7 rfl, ?_⟩)
          | (first | refine ⟨_, H.get 0 rfl rfl, ?_⟩ | refine ⟨_, H.get 1 rfl rfl, ?_⟩ | refine ⟨_, H.get 2 rfl rfl, ?_⟩ | refine ⟨_, H.get 3 rfl rfl, ?_⟩ | refine ⟨_, H.get 4 rfl rfl, ?_⟩ | refine ⟨_, H.get 5 rfl rfl, ?_⟩ | refine ⟨_, H.get 6 rfl rfl, ?_⟩ | refine ⟨_, H.get 7 rfl rfl, ?_⟩)
          | (first | refine ⟨_, _, _, H.get 0 rfl rfl, ?_⟩ | refine ⟨_, _, _, H.get 1 rfl rfl, ?_⟩ | refine ⟨_, _, _, H.get 2 rfl rfl, ?_⟩ | refine ⟨_, _, _, H.get 3 rfl rfl, ?_⟩ | refine ⟨_, _, _, H.get 4 rfl rfl, ?_⟩ | refine ⟨_, _, _, H.get 5 rfl rfl, ?_⟩ | refine ⟨_, _, _, H.get 6 rfl rfl, ?_⟩ | refine ⟨_, _, _, H.get 7 rfl rfl, ?_⟩))
        have gp : GoodV 2 (pairF op (valK a) (valK b)).1 := by
          rcases hop with rfl | rfl <;> (rcases (by omega : a = 0 ∨ a = 1 ∨ a = 2) with rfl | rfl | rfl <;> rcases (by omega : b = 0 ∨ b = 1 ∨ b = 2) with rfl | rfl | rfl <;> exact .answer _)
        refine (rown_ok gp _).mono ?_
        rintro e W6 ⟨rfl, e6⟩
        replace H := H.step e6
        rw [i64_next (by omega)]
        exact ⟨_, rfl, ⟨b + 1, rfl, by omega, by rw [bothI_succ]; unfold bothIn; rw [if_pos (by rw [hq.1, hq.2]; rfl)], H.ext⟩, by simp only [Int.toNat_natCast]; omega⟩
      · rw [i64_next (by omega)]
        exact ⟨⟨b + 1, rfl, by omega, by rw [bothI_succ]; unfold bothIn; rw [if_neg (by rcases hq with h | h <;> simp [h])], (eW.trans e1).trans e2⟩, by simp only [Int.toNat_natCast]; omega⟩
    · have hb3 : b = 3 := by omega
      subst hb3
      rw [i64_next (by omega)]
      exact ⟨⟨a + 1, rfl, by omega, (bothO_succ op s t a 0).symm, eW⟩, by simp only [Int.toNat_natCast]; omega⟩
  · have ha3 : a = 3 := by omega
    subst ha3
    exact ⟨rfl, eW⟩

/-- A side as the document has it. -/
def _root_.Go.Vc.Sd.agg (s : Sd) : Value := .agg #[.bool s.null, .bool s.full, .int .i64 s.lo.k, .int .i64 s.lo.n, .string s.lo.s, .int .i64 s.hi.k, .int .i64 s.hi.n, .string s.hi.s]
def zeroSd : Sd := ⟨false, false, nullV, nullV⟩
set_option maxHeartbeats 4000000 in
theorem rside_ok {cols : List Col} {zones : List Zn} {m : Int} {x : Ex} {w : World} {p zp : Option Addr} {n c zn zc : Nat} {cs : List Value} (hc : Cols w p n c cols) (hz : Zns w zp zn zc zones) (hzo : zonesL cols zones m = true) (hx : ExAt w x cs)
    (ho : NodeOk x) (hk : (kindF cols x).2 = 0) :
    Calls Tryd.prog 51 #[.slice p n c, .slice zp zn zc, .int .i64 m, .agg cs.toArray] w fun e w' => 
      e = .returned (.tuple #[((sideF cols zones m x).getD zeroSd).agg, .bool (sideF cols zones m x).isSome]) ∧ Ext w w' := by
  obtain ⟨xp, xn, xc, rfl, _⟩ := hx.six
  apply qside_vc
  unfold qside_T
  have H := Hold.start (Ext.rfl (w := w))
  repeat (first
    | (intro _ _ hS; replace H := H.new hS; clear hS)
    | (intro _ hS; (first | replace H := H.put 0 rfl hS | replace H := H.put 1 rfl hS | replace H := H.put 2 rfl hS | replace H := H.put 3 rfl hS | replace H := H.put 4 rfl hS | replace H := H.put 5 rfl hS | replace H := H.put 6 rfl hS | replace H := H.put 7 rfl hS); clear hS; try simp only [setA, List.setIfInBounds_toArray, List.set_cons_zero, List.set_cons_succ, Nat.zero_add, Nat.reduceAdd] at H)
    | (intro _ hS; replace H := H.step (Drew.ext hS); clear hS)
    | (first | refine ⟨⟨_, H.get 0 rfl rfl⟩, ?_⟩ | refine ⟨⟨_, H.get 1 rfl rfl⟩, ?_⟩ | refine ⟨⟨_, H.get 2 rfl rfl⟩, ?_⟩ | refine ⟨⟨_, H.get 3 rfl rfl⟩, ?_⟩ | refine ⟨⟨_, H.get 4 rfl rfl⟩, ?_⟩ | refine ⟨⟨_, H.get 5 rfl rfl⟩, ?_⟩ | refine ⟨⟨_, H.get 6 rfl rfl⟩, ?_⟩ | refine ⟨⟨_, H.get 7 rfl rfl⟩, ?_⟩)
    | (first | refine ⟨H.frz 0 rfl, ?_⟩ | refine ⟨H.frz 1 rfl, ?_⟩ | refine ⟨H.frz 2 rfl, ?_⟩ | refine ⟨H.frz 3 rfl, ?_⟩ | refine ⟨H.frz 4 rfl, ?_⟩ | refine ⟨H.frz 5 rfl, ?_⟩ | refine ⟨H.frz 6 rfl, ?_⟩ | refine ⟨H.frz 7 rfl, ?_⟩)
    | (first | refine ⟨_, H.get 0 rfl rfl, ?_⟩ | refine ⟨_, H.get 1 rfl rfl, ?_⟩ | refine ⟨_, H.get 2 rfl rfl, ?_⟩ | refine ⟨_, H.get 3 rfl rfl, ?_⟩ | refine ⟨_, H.get 4 rfl rfl, ?_⟩ | refine ⟨_, H.get 5 rfl rfl, ?_⟩ | refine ⟨_, H.get 6 rfl rfl, ?_⟩ | refine ⟨_, H.get 7 rfl rfl, ?_⟩)
    | (first | refine ⟨_, _, _, H.get 0 rfl rfl, ?_⟩ | refine ⟨_, _, _, H.get 1 rfl rfl, ?_⟩ | refine ⟨_, _, _, H.get 2 rfl rfl, ?_⟩ | refine ⟨_, _, _, H.get 3 rfl rfl, ?_⟩ | refine ⟨_, _, _, H.get 4 rfl rfl, ?_⟩ | refine ⟨_, _, _, H.get 5 rfl rfl, ?_⟩ | refine ⟨_, _, _, H.get 6 rfl rfl, ?_⟩ | refine ⟨_, _, _, H.get 7 rfl rfl, ?_⟩))
  refine ⟨fun h2 => ?_, fun h2 => ?_⟩
  · have hs : sideF cols zones m x = some ⟨decide (x.v.k = 0), decide (x.v.k ≠ 0), x.v, x.v⟩ := by unfold sideF; rw [if_pos h2]
    repeat (first
      | (intro _ _ hS; replace H := H.new hS; clear hS)
      | (intro _ hS; (first | replace H := H.put 0 rfl hS | replace H := H.put 1 rfl hS | replace H := H.put 2 rfl hS | replace H := H.put 3 rfl hS | replace H := H.put 4 rfl hS | replace H := H.put 5 rfl hS | replace H := H.put 6 rfl hS | replace H := H.put 7 rfl hS); clear hS; try simp only [setA, List.setIfInBounds_toArray, List.set_cons_zero, List.set_cons_succ, Nat.zero_add, Nat.reduceAdd] at H)
      | (intro _ hS; replace H := H.step (Drew.ext hS); clear hS)
      | (first | refine ⟨⟨_, H.get 0 rfl rfl⟩, ?_⟩ | refine ⟨⟨_, H.get 1 rfl rfl⟩, ?_⟩ | refine ⟨⟨_, H.get 2 rfl rfl⟩, ?_⟩ | refine ⟨⟨_, H.get 3 rfl rfl⟩, ?_⟩ | refine ⟨⟨_, H.get 4 rfl rfl⟩, ?_⟩ | refine ⟨⟨_, H.get 5 rfl rfl⟩, ?_⟩ | refine ⟨⟨_, H.get 6 rfl rfl⟩, ?_⟩ | refine ⟨⟨_, H.get 7 rfl rfl⟩, ?_⟩)
      | (first | refine ⟨H.frz 0 rfl, ?_⟩ | refine ⟨H.frz 1 rfl, ?_⟩ | refine ⟨H.frz 2 rfl, ?_⟩ | refine ⟨H.frz 3 rfl, ?_⟩ | refine ⟨H.frz 4 rfl, ?_⟩ | refine ⟨H.frz 5 rfl, ?_⟩ | refine ⟨H.frz 6 rfl, ?_⟩ | refine ⟨H.frz 7 rfl, ?_⟩)
      | (first | refine ⟨_, H.get 0 rfl rfl, ?_⟩ | refine ⟨_, H.get 1 rfl rfl, ?_⟩ | refine ⟨_, H.get 2 rfl rfl, ?_⟩ | refine ⟨_, H.get 3 rfl rfl, ?_⟩ | refine ⟨_, H.get 4 rfl rfl, ?_⟩ | refine ⟨_, H.get 5 rfl rfl, ?_⟩ | refine ⟨_, H.get 6 rfl rfl, ?_⟩ | refine ⟨_, H.get 7 rfl rfl, ?_⟩)
      | (first | refine ⟨_, _, _, H.get 0 rfl rfl, ?_⟩ | refine ⟨_, _, _, H.get 1 rfl rfl, ?_⟩ | refine ⟨_, _, _, H.get 2 rfl rfl, ?_⟩ | refine ⟨_, _, _, H.get 3 rfl rfl, ?_⟩ | refine ⟨_, _, _, H.get 4 rfl rfl, ?_⟩ | refine ⟨_, _, _, H.get 5 rfl rfl, ?_⟩ | refine ⟨_, _, _, H.get 6 rfl rfl, ?_⟩ | refine ⟨_, _, _, H.get 7 rfl rfl, ?_⟩))
    refine ⟨?_, H.ext⟩
    rw [hs]
    by_cases h0 : x.v.k = 0 <;> simp [Sd.agg, h0]
  · repeat (first
      | (intro _ _ hS; replace H := H.new hS; clear hS)
      | (intro _ hS; (first | replace H := H.put 0 rfl hS | replace H := H.put 1 rfl hS | replace H := H.put 2 rfl hS | replace H := H.put 3 rfl hS | replace H := H.put 4 rfl hS | replace H := H.put 5 rfl hS | replace H := H.put 6 rfl hS | replace H := H.put 7 rfl hS); clear hS; try simp only [setA, List.setIfInBounds_toArray, List.set_cons_zero, List.set_cons_succ, Nat.zero_add, Nat.reduceAdd] at H)
      | (intro _ hS; replace H := H.step (Drew.ext hS); clear hS)
      | (first | refine ⟨⟨_, H.get 0 rfl rfl⟩, ?_⟩ | refine ⟨⟨_, H.get 1 rfl rfl⟩, ?_⟩ | refine ⟨⟨_, H.get 2 rfl rfl⟩, ?_⟩ | refine ⟨⟨_, H.get 3 rfl rfl⟩, ?_⟩ | refine ⟨⟨_, H.get 4 rfl rfl⟩, ?_⟩ | refine ⟨⟨_, H.get 5 rfl rfl⟩, ?_⟩ | refine ⟨⟨_, H.get 6 rfl rfl⟩, ?_⟩ | refine ⟨⟨_, H.get 7 rfl rfl⟩, ?_⟩)
      | (first | refine ⟨H.frz 0 rfl, ?_⟩ | refine ⟨H.frz 1 rfl, ?_⟩ | refine ⟨H.frz 2 rfl, ?_⟩ | refine ⟨H.frz 3 rfl, ?_⟩ | refine ⟨H.frz 4 rfl, ?_⟩ | refine ⟨H.frz 5 rfl, ?_⟩ | refine ⟨H.frz 6 rfl, ?_⟩ | refine ⟨H.frz 7 rfl, ?_⟩)
      | (first | refine ⟨_, H.get 0 rfl rfl, ?_⟩ | refine ⟨_, H.get 1 rfl rfl, ?_⟩ | refine ⟨_, H.get 2 rfl rfl, ?_⟩ | refine ⟨_, H.get 3 rfl rfl, ?_⟩ | refine ⟨_, H.get 4 rfl rfl, ?_⟩ | refine ⟨_, H.get 5 rfl rfl, ?_⟩ | refine ⟨_, H.get 6 rfl rfl, ?_⟩ | refine ⟨_, H.get 7 rfl rfl, ?_⟩)
      | (first | refine ⟨_, _, _, H.get 0 rfl rfl, ?_⟩ | refine ⟨_, _, _, H.get 1 rfl rfl, ?_⟩ | refine ⟨_, _, _, H.get 2 rfl rfl, ?_⟩ | refine ⟨_, _, _, H.get 3 rfl rfl, ?_⟩ | refine ⟨_, _, _, H.get 4 rfl rfl, ?_⟩ | refine ⟨_, _, _, H.get 5 rfl rfl, ?_⟩ | refine ⟨_, _, _, H.get 6 rfl rfl, ?_⟩ | refine ⟨_, _, _, H.get 7 rfl rfl, ?_⟩))
    refine ⟨fun h1 => ?_, fun h1 => ?_⟩
    · obtain ⟨col, hcol, _⟩ := col_node h1 ho hk
      obtain ⟨z, hzi, hzok⟩ := zone_get hzo hcol
      have hlen := hz.len
      have hlt := (List.getElem?_eq_some_iff.1 hzi).1
      have h0 : 0 ≤ findC cols x.name := by
        obtain ⟨_, hk2⟩ := kids_kinds hk
        rw [hk2] at hk
        unfold kindN at hk
        rw [show wantOf x.op = 0 by rw [h1]; rfl, if_neg (by simp), if_pos h1] at hk
        split at hk
        · exact absurd hk (by decide)
        · omega
      have hs : sideF cols zones m x = some ⟨decide (0 < z.nulls), decide (z.nulls < m), z.lo, z.hi⟩ := by unfold sideF; rw [if_neg h2, if_pos h1, hzi]; rfl
      repeat (first
        | (intro _ _ hS; replace H := H.new hS; clear hS)
        | (intro _ hS; (first | replace H := H.put 0 rfl hS | replace H := H.put 1 rfl hS | replace H := H.put 2 rfl hS | replace H := H.put 3 rfl hS | replace H := H.put 4 rfl hS | replace H := H.put 5 rfl hS | replace H := H.put 6 rfl hS | replace H := H.put 7 rfl hS); clear hS; try simp only [setA, List.setIfInBounds_toArray, List.set_cons_zero, List.set_cons_succ, Nat.zero_add, Nat.reduceAdd] at H)
        | (intro _ hS; replace H := H.step (Drew.ext hS); clear hS)
        | (first | refine ⟨⟨_, H.get 0 rfl rfl⟩, ?_⟩ | refine ⟨⟨_, H.get 1 rfl rfl⟩, ?_⟩ | refine ⟨⟨_, H.get 2 rfl rfl⟩, ?_⟩ | refine ⟨⟨_, H.get 3 rfl rfl⟩, ?_⟩ | refine ⟨⟨_, H.get 4 rfl rfl⟩, ?_⟩ | refine ⟨⟨_, H.get 5 rfl rfl⟩, ?_⟩ | refine ⟨⟨_, H.get 6 rfl rfl⟩, ?_⟩ | refine ⟨⟨_, H.get 7 rfl rfl⟩, ?_⟩)
        | (first | refine ⟨H.frz 0 rfl, ?_⟩ | refine ⟨H.frz 1 rfl, ?_⟩ | refine ⟨H.frz 2 rfl, ?_⟩ | refine ⟨H.frz 3 rfl, ?_⟩ | refine ⟨H.frz 4 rfl, ?_⟩ | refine ⟨H.frz 5 rfl, ?_⟩ | refine ⟨H.frz 6 rfl, ?_⟩ | refine ⟨H.frz 7 rfl, ?_⟩)
        | (first | refine ⟨_, H.get 0 rfl rfl, ?_⟩ | refine ⟨_, H.get 1 rfl rfl, ?_⟩ | refine ⟨_, H.get 2 rfl rfl, ?_⟩ | refine ⟨_, H.get 3 rfl rfl, ?_⟩ | refine ⟨_, H.get 4 rfl rfl, ?_⟩ | refine ⟨_, H.get 5 rfl rfl, ?_⟩ | refine ⟨_, H.get 6 rfl rfl, ?_⟩ | refine ⟨_, H.get 7 rfl rfl, ?_⟩)
        | (first | refine ⟨_, _, _, H.get 0 rfl rfl, ?_⟩ | refine ⟨_, _, _, H.get 1 rfl rfl, ?_⟩ | refine ⟨_, _, _, H.get 2 rfl rfl, ?_⟩ | refine ⟨_, _, _, H.get 3 rfl rfl, ?_⟩ | refine ⟨_, _, _, H.get 4 rfl rfl, ?_⟩ | refine ⟨_, _, _, H.get 5 rfl rfl, ?_⟩ | refine ⟨_, _, _, H.get 6 rfl rfl, ?_⟩ | refine ⟨_, _, _, H.get 7 rfl rfl, ?_⟩))
      refine (r5find_ok (hc.ext H.ext) x.name).mono ?_
      rintro e W ⟨rfl, eX⟩
      replace H := H.step eX
      obtain ⟨zb, zo, hzp, z0, z1, z2, z3, z4, z5, z6⟩ := (hz.ext H.ext).zone hzi
      refine ⟨_, rfl, zb, zo, hzp, h0, by omega, _, z0, _, z1, _, z2, _, z3, _, z4, _, z5, _, z6, ?_⟩
      repeat (first
        | (intro _ _ hS; replace H := H.new hS; clear hS)
        | (intro _ hS; (first | replace H := H.put 0 rfl hS | replace H := H.put 1 rfl hS | replace H := H.put 2 rfl hS | replace H := H.put 3 rfl hS | replace H := H.put 4 rfl hS | replace H := H.put 5 rfl hS | replace H := H.put 6 rfl hS | replace H := H.put 7 rfl hS); clear hS; try simp only [setA, List.setIfInBounds_toArray, List.set_cons_zero, List.set_cons_succ, Nat.zero_add, Nat.reduceAdd] at H)
        | (intro _ hS; replace H := H.step (Drew.ext hS); clear hS)
        | (first | refine ⟨⟨_, H.get 0 rfl rfl⟩, ?_⟩ | refine ⟨⟨_, H.get 1 rfl rfl⟩, ?_⟩ | refine ⟨⟨_, H.get 2 rfl rfl⟩, ?_⟩ | refine ⟨⟨_, H.get 3 rfl rfl⟩, ?_⟩ | refine ⟨⟨_, H.get 4 rfl rfl⟩, ?_⟩ | refine ⟨⟨_, H.get 5 rfl rfl⟩, ?_⟩ | refine ⟨⟨_, H.get 6 rfl rfl⟩, ?_⟩ | refine ⟨⟨_, H.get 7 rfl rfl⟩, ?_⟩)
        | (first | refine ⟨H.frz 0 rfl, ?_⟩ | refine ⟨H.frz 1 rfl, ?_⟩ | refine ⟨H.frz 2 rfl, ?_⟩ | refine ⟨H.frz 3 rfl, ?_⟩ | refine ⟨H.frz 4 rfl, ?_⟩ | refine ⟨H.frz 5 rfl, ?_⟩ | refine ⟨H.frz 6 rfl, ?_⟩ | refine ⟨H.frz 7 rfl, ?_⟩)
        | (first | refine ⟨_, H.get 0 rfl rfl, ?_⟩ | refine ⟨_, H.get 1 rfl rfl, ?_⟩ | refine ⟨_, H.get 2 rfl rfl, ?_⟩ | refine ⟨_, H.get 3 rfl rfl, ?_⟩ | refine ⟨_, H.get 4 rfl rfl, ?_⟩ | refine ⟨_, H.get 5 rfl rfl, ?_⟩ | refine ⟨_, H.get 6 rfl rfl, ?_⟩ | refine ⟨_, H.get 7 rfl rfl, ?_⟩)
        | (first | refine ⟨_, _, _, H.get 0 rfl rfl, ?_⟩ | refine ⟨_, _, _, H.get 1 rfl rfl, ?_⟩ | refine ⟨_, _, _, H.get 2 rfl rfl, ?_⟩ | refine ⟨_, _, _, H.get 3 rfl rfl, ?_⟩ | refine ⟨_, _, _, H.get 4 rfl rfl, ?_⟩ | refine ⟨_, _, _, H.get 5 rfl rfl, ?_⟩ | refine ⟨_, _, _, H.get 6 rfl rfl, ?_⟩ | refine ⟨_, _, _, H.get 7 rfl rfl, ?_⟩))
      exact ⟨by rw [hs]; rfl, H.ext⟩
    · have hs : sideF cols zones m x = none := by unfold sideF; rw [if_neg h2, if_neg h1]
      repeat (first
        | (intro _ _ hS; replace H := H.new hS; clear hS)
        | (intro _ hS; (first | replace H := H.put 0 rfl hS | replace H := H.put 1 rfl hS | replace H := H.put 2 rfl hS | replace H := H.put 3 rfl hS | replace H := H.put 4 rfl hS | replace H := H.put 5 rfl hS | replace H := H.put 6 rfl hS | replace H := H.put 7 rfl hS); clear hS; try simp only [setA, List.setIfInBounds_toArray, List.set_cons_zero, List.set_cons_succ, Nat.zero_add, Nat.reduceAdd] at H)
        | (intro _ hS; replace H := H.step (Drew.ext hS); clear hS)
        | (first | refine ⟨⟨_, H.get 0 rfl rfl⟩, ?_⟩ | refine ⟨⟨_, H.get 1 rfl rfl⟩, ?_⟩ | refine ⟨⟨_, H.get 2 rfl rfl⟩, ?_⟩ | refine ⟨⟨_, H.get 3 rfl rfl⟩, ?_⟩ | refine ⟨⟨_, H.get 4 rfl rfl⟩, ?_⟩ | refine ⟨⟨_, H.get 5 rfl rfl⟩, ?_⟩ | refine ⟨⟨_, H.get 6 rfl rfl⟩, ?_⟩ | refine ⟨⟨_, H.get 7 rfl rfl⟩, ?_⟩)
        | (first | refine ⟨H.frz 0 rfl, ?_⟩ | refine ⟨H.frz 1 rfl, ?_⟩ | refine ⟨H.frz 2 rfl, ?_⟩ | refine ⟨H.frz 3 rfl, ?_⟩ | refine ⟨H.frz 4 rfl, ?_⟩ | refine ⟨H.frz 5 rfl, ?_⟩ | refine ⟨H.frz 6 rfl, ?_⟩ | refine ⟨H.frz 7 rfl, ?_⟩)
        | (first | refine ⟨_, H.get 0 rfl rfl, ?_⟩ | refine ⟨_, H.get 1 rfl rfl, ?_⟩ | refine ⟨_, H.get 2 rfl rfl, ?_⟩ | refine ⟨_, H.get 3 rfl rfl, ?_⟩ | refine ⟨_, H.get 4 rfl rfl, ?_⟩ | refine ⟨_, H.get 5 rfl rfl, ?_⟩ | refine ⟨_, H.get 6 rfl rfl, ?_⟩ | refine ⟨_, H.get 7 rfl rfl, ?_⟩)
        | (first | refine ⟨_, _, _, H.get 0 rfl rfl, ?_⟩ | refine ⟨_, _, _, H.get 1 rfl rfl, ?_⟩ | refine ⟨_, _, _, H.get 2 rfl rfl, ?_⟩ | refine ⟨_, _, _, H.get 3 rfl rfl, ?_⟩ | refine ⟨_, _, _, H.get 4 rfl rfl, ?_⟩ | refine ⟨_, _, _, H.get 5 rfl rfl, ?_⟩ | refine ⟨_, _, _, H.get 6 rfl rfl, ?_⟩ | refine ⟨_, _, _, H.get 7 rfl rfl, ?_⟩))
      exact ⟨by rw [hs]; rfl, H.ext⟩
end Go.Proofs.YtpjafkcmbinjiaaDoor

/- The contracts of the document's prune: comparisons, zones, answers. -/
namespace Go.Proofs.YtpjafkcmbinjiaaDoor
open Go Go.Vc Go.RowKit
set_option maxRecDepth 20000
attribute [local irreducible] Calls Put Drew New

theorem sEq_dec (x y : ByteArray) : sEq x y = decide (x = y) := by
  rw [Bool.eq_iff_iff, decide_eq_true_eq]; exact sEq_iff
theorem okR {v : Val} (h : v.right = true) : v.Ok := of_decide_eq_true h
set_option maxHeartbeats 4000000 in
theorem riszone_ok {col : Col} {z : Zn} {m : Int} (w : World) :
    Calls Tryd.prog 47 #[col.agg, .agg z.cs.toArray, .int .i64 m] w fun e w' => e = .returned (.bool (zoneOk col z m)) ∧ Ext w w' := by
  unfold Zn.cs Col.agg
  apply qiszone_vc
  unfold qiszone_T
  have H := Hold.start (Ext.rfl (w := w))
  repeat' (first
    | (refine And.intro ?_ (fun _ _ hS => ?_)
       rotate_left
       have eX := hS.ext; replace H := H.new hS
       (try refine And.intro eX.same ?_)
       rotate_left)
    | (refine And.intro (fun hq => ?_) (fun hq => ?_) <;> (try (exfalso; omega)))
    | (intro _ _ hS
       have eX := hS.ext; replace H := H.new hS
       (try refine And.intro eX.same ?_))
    | (intro _ hS
       (first | replace H := H.put 0 rfl hS | replace H := H.put 1 rfl hS | replace H := H.put 2 rfl hS)
       clear hS
       try simp only [setA, List.setIfInBounds_toArray, List.set_cons_zero, List.set_cons_succ, Nat.zero_add, Nat.reduceAdd] at H)
    | (intro _ hS; replace H := H.step (Drew.ext hS); clear hS)
    | (first | refine ⟨⟨_, H.get 0 rfl rfl⟩, ?_⟩ | refine ⟨⟨_, H.get 1 rfl rfl⟩, ?_⟩)
    | (first | refine ⟨H.frz 0 rfl, ?_⟩ | refine ⟨H.frz 1 rfl, ?_⟩)
    | (first | refine ⟨_, H.get 0 rfl rfl, ?_⟩ | refine ⟨_, H.get 1 rfl rfl, ?_⟩ | refine ⟨_, H.get 2 rfl rfl, ?_⟩ | refine ⟨_, H.get 3 rfl rfl, ?_⟩)
    | (first | refine ⟨_, _, _, H.get 0 rfl rfl, ?_⟩ | refine ⟨_, _, _, H.get 1 rfl rfl, ?_⟩ | refine ⟨_, _, _, H.get 2 rfl rfl, ?_⟩ | refine ⟨_, _, _, H.get 3 rfl rfl, ?_⟩)
    | (refine (rvright_ok z.lo _).mono ?_
       rintro e W ⟨rfl, eX⟩
       replace H := H.step eX
       refine ⟨_, rfl, ?_⟩
       (try refine And.intro eX.same ?_))
    | (refine (rvright_ok z.hi _).mono ?_
       rintro e W ⟨rfl, eX⟩
       replace H := H.step eX
       refine ⟨_, rfl, ?_⟩
       (try refine And.intro eX.same ?_))
    | (refine (rvcompare_ok z.lo z.hi _).mono ?_
       rintro e W ⟨rfl, eX⟩
       replace H := H.step eX
       refine ⟨_, rfl, ?_⟩
       (try refine And.intro eX.same ?_))
    | (refine And.intro ?_ H.ext))

  all_goals (
    apply congrArg Ending.returned; apply congrArg Value.bool; clear H
    rw [zoneOk_eq]
    by_cases hlr : z.lo.right = true
    · by_cases hhr : z.hi.right = true
      · have hcm : rcmpV z.lo z.hi = cmpV z.lo z.hi := rcmpV_eq (okR hlr) (okR hhr)
        have hln := isNull_eq z.lo
        have hhn := isNull_eq z.hi
        first
        | (rw [hhn]; simp_all [Val.ext', nullV]; done)
        | (simp_all [Val.ext', nullV]; done)
        | (simp_all [Val.ext', nullV]; omega)
        | (simp only [sEq_dec] at *; simp_all [Val.ext', nullV]; done)
        | (have hne : z.lo ≠ nullV := fun h => (by
             rw [Val.ext'] at h; simp only [nullV] at h
             rcases hq with q | q | q
             · exact q h.1
             · exact q h.2.1
             · exact q h.2.2)
           simp_all; done)
      · first
        | (simp_all; done)
        | (simp_all; omega)
    · first
      | (simp_all; done)
      | (simp_all; omega))

theorem rzright_ok {cols : List Col} {zones : List Zn} {m : Int} {w : World} {p zp : Option Addr} {n c zn zc : Nat} (hc : Cols w p n c cols) (hz : Zns w zp zn zc zones) :
    Calls Tryd.prog 25 #[.slice p n c, .slice zp zn zc, .int .i64 m] w fun e w' => e = .returned (.bool (zonesOk cols zones m)) ∧ Ext w w' := by
  have hl1 := hc.len
  have hl2 := hz.len
  have hle : n ≤ 9223372036854775807 := hc.le
  apply qzright_vc
  unfold qzright_T
  refine ⟨fun ha => ⟨?_, Ext.rfl⟩, fun ha => ?_⟩
  · unfold zonesOk
    rw [decide_eq_false (by omega)]; rfl
  have hlen : zones.length = cols.length := by omega
  have hzk : zonesOk cols zones m = zonesL cols zones m := by
    unfold zonesOk
    rw [decide_eq_true (by omega)]; rfl
  rw [hzk]
  refine ⟨fun i W => ∃ j : Nat, i = (j : Int) ∧ j ≤ n ∧ zonesL (cols.drop j) (zones.drop j) m = zonesL cols zones m ∧ Hold w W [] [], fun i _ => n - i.toNat, ⟨0, rfl, Nat.zero_le _, rfl, Hold.start Ext.rfl⟩, ?_⟩
  rintro i W ⟨j, rfl, hj, hall, H⟩
  refine ⟨fun hlt => ?_, fun hge => ?_⟩
  · have g1 : cols[j]? = some (cols[j]'(by omega)) := List.getElem?_eq_getElem _
    have g2 : zones[j]? = some (zones[j]'(by omega)) := List.getElem?_eq_getElem _
    generalize cols[j]'(by omega) = col at g1
    generalize zones[j]'(by omega) = z at g2
    rw [zonesL_drop g1 g2] at hall
    intro w9 hD
    replace H := H.step (Drew.ext hD)
    obtain ⟨cb, co, hcp, c0, c1, c2⟩ := (hc.ext H.ext).col g1
    obtain ⟨zb, zo, hzp, z0, z1, z2, z3, z4, z5, z6⟩ := (hz.ext H.ext).zone g2
    refine ⟨cb, co, hcp, by omega, hlt, _, c0, _, c1, _, c2, zb, zo, hzp, by omega, by omega, _, z0, _, z1, _, z2, _, z3, _, z4, _, z5, _, z6, ?_⟩
    refine (riszone_ok (col := col) (z := z) (m := m) w9).mono ?_
    rintro e W2 ⟨rfl, eX⟩
    replace H := H.step eX
    refine ⟨_, rfl, fun hf => ⟨?_, H.ext⟩, fun ht => ?_⟩
    · rw [hf] at hall
      rw [← hall]; rfl
    · rw [ht] at hall
      rw [i64_next (by omega)]
      exact ⟨⟨j + 1, rfl, by omega, by simpa using hall, H⟩, by simp only [Int.toNat_natCast]; omega⟩
  · have hjn : j = n := by omega
    subst hjn
    refine ⟨?_, H.ext⟩
    rw [← hall, List.drop_eq_nil_of_le (by omega), List.drop_eq_nil_of_le (by omega)]; rfl

set_option maxHeartbeats 4000000 in
theorem rcompared_ok {op : Int} (hop : op = 9 ∨ op = 10 ∨ op = 11) {a b : Sd} (ha : a.full = true → a.lo.Ok ∧ a.hi.Ok ∧ cmpV a.lo a.hi ≤ 0) (hb : b.full = true → b.lo.Ok ∧ b.hi.Ok ∧ cmpV b.lo b.hi ≤ 0) (w : World) :
    Calls Tryd.prog 52 #[.int .i64 op, a.agg, b.agg] w fun e w' => e = .returned (.int .i64 (cmpS3 op a b).i) ∧ Ext w w' := by
  unfold Sd.agg
  apply qcompared_vc
  unfold qcompared_T
  have H := Hold.start (Ext.rfl (w := w))
  repeat' (first
    | (refine And.intro ?_ (fun _ _ hS => ?_)
       rotate_left
       have eX := hS.ext; replace H := H.new hS
       (try refine And.intro eX.same ?_)
       rotate_left)
    | (refine And.intro (fun hq => ?_) (fun hq => ?_) <;> (try (exfalso; omega)))
    | (intro _ _ hS
       have eX := hS.ext; replace H := H.new hS
       (try refine And.intro eX.same ?_))
    | (intro _ hS
       (first | replace H := H.put 0 rfl hS | replace H := H.put 1 rfl hS | replace H := H.put 2 rfl hS)
       clear hS
       try simp only [setA, List.setIfInBounds_toArray, List.set_cons_zero, List.set_cons_succ, Nat.zero_add, Nat.reduceAdd] at H)
    | (intro _ hS; replace H := H.step (Drew.ext hS); clear hS)
    | (first | refine ⟨⟨_, H.get 0 rfl rfl⟩, ?_⟩ | refine ⟨⟨_, H.get 1 rfl rfl⟩, ?_⟩)
    | (first | refine ⟨H.frz 0 rfl, ?_⟩ | refine ⟨H.frz 1 rfl, ?_⟩)
    | (first | refine ⟨_, H.get 0 rfl rfl, ?_⟩ | refine ⟨_, H.get 1 rfl rfl, ?_⟩ | refine ⟨_, H.get 2 rfl rfl, ?_⟩ | refine ⟨_, H.get 3 rfl rfl, ?_⟩)
    | (first | refine ⟨_, _, _, H.get 0 rfl rfl, ?_⟩ | refine ⟨_, _, _, H.get 1 rfl rfl, ?_⟩ | refine ⟨_, _, _, H.get 2 rfl rfl, ?_⟩ | refine ⟨_, _, _, H.get 3 rfl rfl, ?_⟩)
    | (refine (rvcompare_ok a.lo b.hi _).mono ?_
       rintro e W ⟨rfl, eX⟩
       replace H := H.step eX
       refine ⟨_, rfl, ?_⟩
       (try refine And.intro eX.same ?_))
    | (refine (rvcompare_ok a.hi b.lo _).mono ?_
       rintro e W ⟨rfl, eX⟩
       replace H := H.step eX
       refine ⟨_, rfl, ?_⟩
       (try refine And.intro eX.same ?_))
    | (refine (rset_ok _ _ _ _).mono ?_
       rintro e W ⟨rfl, eX⟩
       replace H := H.step eX
       refine ⟨_, rfl, ?_⟩
       (try refine And.intro eX.same ?_))
    | (refine And.intro ?_ H.ext))

  all_goals (
    apply congrArg Ending.returned; apply congrArg (Value.int .i64); apply congrArg S3.i; clear H
    by_cases hfa : a.full = true
    · by_cases hfb : b.full = true
      · obtain ⟨a1, a2, a3⟩ := ha hfa
        obtain ⟨b1, b2, b3⟩ := hb hfb
        have e1 : rcmpV a.lo b.hi = cmpV a.lo b.hi := rcmpV_eq a1 b2
        have e2 : rcmpV a.hi b.lo = cmpV a.hi b.lo := rcmpV_eq a2 b1
        have key : (a.lo = a.hi ∧ b.lo = b.hi ∧ a.lo = b.lo) ↔ (cmpV a.lo b.hi = 0 ∧ cmpV a.hi b.lo = 0) := by
          constructor
          · rintro ⟨h1, h2, h3⟩
            rw [← h1, ← h2, h3]; exact ⟨cmpV_self _, cmpV_self _⟩
          · rintro ⟨h1, h2⟩
            have q1 := cmpV_zero.1 h1
            have q2 := cmpV_zero.1 h2
            have q3 : cmpV a.hi a.lo ≤ 0 := by rw [q2, q1]; exact b3
            have q4 := cmpV_le_anti a3 q3
            have q5 : b.lo = b.hi := by rw [← q2, ← q1]; exact q4.symm
            exact ⟨q4, q5, by rw [q4, q2]⟩
        unfold cmpS3
        rw [if_neg (by rw [hfa, hfb]; decide)]
        clear ha hb a1 a2 a3 b1 b2 b3
        rw [e1, e2] at *
        generalize cmpV a.lo b.hi = L at *
        generalize cmpV a.hi b.lo = G at *
        clear eX
        have e9 : decide (L ≠ 0 ∨ G ≠ 0) = !decide (a.lo = a.hi ∧ b.lo = b.hi ∧ a.lo = b.lo) := by
          by_cases h1 : L = 0 ∧ G = 0
          · rw [decide_eq_true (key.2 h1), decide_eq_false (by omega)]; rfl
          · rw [decide_eq_false (fun h => h1 (key.1 h)), decide_eq_true (by omega)]; rfl
        have e8 : decide (L ≤ 0 ∧ 0 ≤ G) = (decide (L ≤ 0) && decide (0 ≤ G)) := by rw [Bool.decide_and]
        rw [e9, e8]
        clear key e9 e8
        first
        | (exfalso; simp_all; done)
        | (rcases hop with rfl | rfl | rfl <;> first
           | (exfalso; omega)
           | (simp_all; done)
           | (simp only [reduceIte, Int.reduceEq, Val.ext']
              try simp only [sEq_dec]
              by_cases q1 : a.lo.k = a.hi.k ∧ a.lo.n = a.hi.n ∧ a.lo.s = a.hi.s <;> by_cases q2 : b.lo.k = b.hi.k ∧ b.lo.n = b.hi.n ∧ b.lo.s = b.hi.s <;> by_cases q3 : a.lo.k = b.lo.k ∧ a.lo.n = b.lo.n ∧ a.lo.s = b.lo.s <;> simp only [q1, q2, q3, and_self, and_true, and_false, decide_true, decide_false, Bool.not_true, Bool.not_false, S3.mk.injEq] <;> first | grind | trace_state))
      · unfold cmpS3
        rw [if_pos (by simp [hfa, hfb])]
        simp_all
    · unfold cmpS3
      rw [if_pos (by simp [hfa])]
      simp_all)
end Go.Proofs.YtpjafkcmbinjiaaDoor

/- The contracts of the document's prune: answers, May. -/
namespace Go.Proofs.YtpjafkcmbinjiaaDoor
open Go Go.Vc Go.RowKit
set_option maxRecDepth 20000
attribute [local irreducible] Calls Put Drew New

theorem side_fine {cols : List Col} {zones : List Zn} {m : Int} (hzo : zonesL cols zones m = true) {x : Ex} (ho : NodeOk x) (hk : (kindF cols x).2 = 0) {s : Sd} (hs : sideF cols zones m x = some s) : s.full = true → s.lo.Ok ∧ s.hi.Ok ∧ cmpV s.lo s.hi ≤ 0 := by
  unfold sideF at hs
  split at hs
  · cases hs
    exact fun _ => ⟨ho.2.2.2, ho.2.2.2, Int.le_of_eq (cmpV_self _)⟩
  · split at hs
    · rename_i h1
      obtain ⟨c, hc, _⟩ := col_node h1 ho hk
      obtain ⟨z, hzz, hzok⟩ := zone_get hzo hc
      rw [hzz] at hs
      cases hs
      intro h
      obtain ⟨a, b, _, _, e⟩ := zoneOk_full hzok (of_decide_eq_true h)
      exact ⟨a, b, e⟩
    · cases hs
set_option maxHeartbeats 8000000 in
theorem ranswers_ok {cols : List Col} {zones : List Zn} {m : Int} (hzo : zonesL cols zones m = true) : ∀ (N : Nat) (x : Ex) {w : World} {p zp : Option Addr} {n c zn zc : Nat} {cs : List Value}, depthT x ≤ N → (∀ y ∈ nodesT x, NodeOk y) → (kindF cols x).2 = 0 → ((kindF cols x).1 = 2 ∨ (kindF cols x).1 = 0) →
    Cols w p n c cols → Zns w zp zn zc zones → ExAt w x cs →
    Calls Tryd.prog 26 #[.slice p n c, .slice zp zn zc, .int .i64 m, .agg cs.toArray] w fun e w' => e = .returned (.int .i64 (ansF cols zones m x).i) ∧ Ext w w' := by
  intro N
  induction N with
  | zero => intro x w p zp n c zn zc cs hd; cases x; unfold depthT at hd; omega
  | succ N ih =>
  intro x w p zp n c zn zc cs hd hno hkind hkk hc hz hx
  have ho := hno x (self_node x)
  obtain ⟨hk1, hk2⟩ := kids_kinds hkind
  obtain ⟨xp, xn, xc, rfl, hkl, _⟩ := hx.six
  have hmany := ho.1
  have hsub : ∀ (i : Nat) k, x.kids[i]? = some k → (kindF cols k).2 = 0 ∧ depthT k ≤ N ∧ (∀ y ∈ nodesT k, NodeOk y) := fun i k hi => ⟨(runL_get hk1 hi).1, by have := kid_depth hi; omega, fun y hy => hno y (kid_node hi hy)⟩
  have htwo : x.op = 12 ∨ x.op = 13 ∨ x.op = 9 ∨ x.op = 10 ∨ x.op = 11 → x.kids.length = 2 := by
    intro h
    have : manyOf x.op = 2 := by unfold manyOf; rw [if_neg (by omega), if_neg (by omega), if_pos (by omega)]
    omega
  apply qanswers_vc
  unfold qanswers_T
  have H := Hold.start (Ext.rfl (w := w))
  repeat (first
    | (intro _ _ hS; replace H := H.new hS; clear hS)
    | (intro _ hS; (first | replace H := H.put 0 rfl hS | replace H := H.put 1 rfl hS | replace H := H.put 2 rfl hS | replace H := H.put 3 rfl hS | replace H := H.put 4 rfl hS | replace H := H.put 5 rfl hS | replace H := H.put 6 rfl hS | replace H := H.put 7 rfl hS); clear hS; try simp only [setA, List.setIfInBounds_toArray, List.set_cons_zero, List.set_cons_succ, Nat.zero_add, Nat.reduceAdd] at H)
    | (intro _ hS; replace H := H.step (Drew.ext hS); clear hS)
    | (first | refine ⟨⟨_, H.get 0 rfl rfl⟩, ?_⟩ | refine ⟨⟨_, H.get 1 rfl rfl⟩, ?_⟩ | refine ⟨⟨_, H.get 2 rfl rfl⟩, ?_⟩ | refine ⟨⟨_, H.get 3 rfl rfl⟩, ?_⟩ | refine ⟨⟨_, H.get 4 rfl rfl⟩, ?_⟩ | refine ⟨⟨_, H.get 5 rfl rfl⟩, ?_⟩ | refine ⟨⟨_, H.get 6 rfl rfl⟩, ?_⟩ | refine ⟨⟨_, H.get 7 rfl rfl⟩, ?_⟩)
    | (first | refine ⟨H.frz 0 rfl, ?_⟩ | refine ⟨H.frz 1 rfl, ?_⟩ | refine ⟨H.frz 2 rfl, ?_⟩ | refine ⟨H.frz 3 rfl, ?_⟩ | refine ⟨H.frz 4 rfl, ?_⟩ | refine ⟨H.frz 5 rfl, ?_⟩ | refine ⟨H.frz 6 rfl, ?_⟩ | refine ⟨H.frz 7 rfl, ?_⟩)
    | (first | refine ⟨_, H.get 0 rfl rfl, ?_⟩ | refine ⟨_, H.get 1 rfl rfl, ?_⟩ | refine ⟨_, H.get 2 rfl rfl, ?_⟩ | refine ⟨_, H.get 3 rfl rfl, ?_⟩ | refine ⟨_, H.get 4 rfl rfl, ?_⟩ | refine ⟨_, H.get 5 rfl rfl, ?_⟩ | refine ⟨_, H.get 6 rfl rfl, ?_⟩ | refine ⟨_, H.get 7 rfl rfl, ?_⟩)
    | (first | refine ⟨_, _, _, H.get 0 rfl rfl, ?_⟩ | refine ⟨_, _, _, H.get 1 rfl rfl, ?_⟩ | refine ⟨_, _, _, H.get 2 rfl rfl, ?_⟩ | refine ⟨_, _, _, H.get 3 rfl rfl, ?_⟩ | refine ⟨_, _, _, H.get 4 rfl rfl, ?_⟩ | refine ⟨_, _, _, H.get 5 rfl rfl, ?_⟩ | refine ⟨_, _, _, H.get 6 rfl rfl, ?_⟩ | refine ⟨_, _, _, H.get 7 rfl rfl, ?_⟩))
  rw [ansF_eq]
  unfold nodeS
  refine ⟨fun h2 => ?_, fun h2 => ?_⟩
  · have hvk : x.v.k = 2 ∨ x.v.k = 0 := by
      have : kindF cols x = (x.v.k, 0) := by
        rw [hk2]; unfold kindN
        rw [show wantOf x.op = 0 by rw [h2]; rfl, if_neg (by simp), if_neg (by omega), if_pos h2]
      rw [this] at hkk; exact hkk
    have hg : GoodV 2 x.v := ⟨ho.2.2.2, by have := ho.2.2.2; unfold Val.Ok at this; unfold fitI; omega, by omega⟩
    rw [if_pos h2]
    repeat (first
      | (intro _ _ hS; replace H := H.new hS; clear hS)
      | (intro _ hS; (first | replace H := H.put 0 rfl hS | replace H := H.put 1 rfl hS | replace H := H.put 2 rfl hS | replace H := H.put 3 rfl hS | replace H := H.put 4 rfl hS | replace H := H.put 5 rfl hS | replace H := H.put 6 rfl hS | replace H := H.put 7 rfl hS); clear hS; try simp only [setA, List.setIfInBounds_toArray, List.set_cons_zero, List.set_cons_succ, Nat.zero_add, Nat.reduceAdd] at H)
      | (intro _ hS; replace H := H.step (Drew.ext hS); clear hS)
      | (first | refine ⟨⟨_, H.get 0 rfl rfl⟩, ?_⟩ | refine ⟨⟨_, H.get 1 rfl rfl⟩, ?_⟩ | refine ⟨⟨_, H.get 2 rfl rfl⟩, ?_⟩ | refine ⟨⟨_, H.get 3 rfl rfl⟩, ?_⟩ | refine ⟨⟨_, H.get 4 rfl rfl⟩, ?_⟩ | refine ⟨⟨_, H.get 5 rfl rfl⟩, ?_⟩ | refine ⟨⟨_, H.get 6 rfl rfl⟩, ?_⟩ | refine ⟨⟨_, H.get 7 rfl rfl⟩, ?_⟩)
      | (first | refine ⟨H.frz 0 rfl, ?_⟩ | refine ⟨H.frz 1 rfl, ?_⟩ | refine ⟨H.frz 2 rfl, ?_⟩ | refine ⟨H.frz 3 rfl, ?_⟩ | refine ⟨H.frz 4 rfl, ?_⟩ | refine ⟨H.frz 5 rfl, ?_⟩ | refine ⟨H.frz 6 rfl, ?_⟩ | refine ⟨H.frz 7 rfl, ?_⟩)
      | (first | refine ⟨_, H.get 0 rfl rfl, ?_⟩ | refine ⟨_, H.get 1 rfl rfl, ?_⟩ | refine ⟨_, H.get 2 rfl rfl, ?_⟩ | refine ⟨_, H.get 3 rfl rfl, ?_⟩ | refine ⟨_, H.get 4 rfl rfl, ?_⟩ | refine ⟨_, H.get 5 rfl rfl, ?_⟩ | refine ⟨_, H.get 6 rfl rfl, ?_⟩ | refine ⟨_, H.get 7 rfl rfl, ?_⟩)
      | (first | refine ⟨_, _, _, H.get 0 rfl rfl, ?_⟩ | refine ⟨_, _, _, H.get 1 rfl rfl, ?_⟩ | refine ⟨_, _, _, H.get 2 rfl rfl, ?_⟩ | refine ⟨_, _, _, H.get 3 rfl rfl, ?_⟩ | refine ⟨_, _, _, H.get 4 rfl rfl, ?_⟩ | refine ⟨_, _, _, H.get 5 rfl rfl, ?_⟩ | refine ⟨_, _, _, H.get 6 rfl rfl, ?_⟩ | refine ⟨_, _, _, H.get 7 rfl rfl, ?_⟩))
    refine (rown_ok hg _).mono ?_
    rintro e W ⟨rfl, eX⟩
    exact ⟨_, rfl, rfl, (H.step eX).ext⟩
  rw [if_neg h2]
  refine ⟨fun h1 => ?_, fun h1 => ?_⟩
  · rw [if_pos h1]
    obtain ⟨col, hcol, _⟩ := col_node h1 ho hkind
    obtain ⟨z, hzi, hzok⟩ := zone_get hzo hcol
    rw [hzi]
    have hlen := hz.len
    have hlt := (List.getElem?_eq_some_iff.1 hzi).1
    have h0 : 0 ≤ findC cols x.name := by
      rw [hk2] at hkind
      unfold kindN at hkind
      rw [show wantOf x.op = 0 by rw [h1]; rfl, if_neg (by simp), if_pos h1] at hkind
      split at hkind
      · exact absurd hkind (by decide)
      · omega
    repeat (first
      | (intro _ _ hS; replace H := H.new hS; clear hS)
      | (intro _ hS; (first | replace H := H.put 0 rfl hS | replace H := H.put 1 rfl hS | replace H := H.put 2 rfl hS | replace H := H.put 3 rfl hS | replace H := H.put 4 rfl hS | replace H := H.put 5 rfl hS | replace H := H.put 6 rfl hS | replace H := H.put 7 rfl hS); clear hS; try simp only [setA, List.setIfInBounds_toArray, List.set_cons_zero, List.set_cons_succ, Nat.zero_add, Nat.reduceAdd] at H)
      | (intro _ hS; replace H := H.step (Drew.ext hS); clear hS)
      | (first | refine ⟨⟨_, H.get 0 rfl rfl⟩, ?_⟩ | refine ⟨⟨_, H.get 1 rfl rfl⟩, ?_⟩ | refine ⟨⟨_, H.get 2 rfl rfl⟩, ?_⟩ | refine ⟨⟨_, H.get 3 rfl rfl⟩, ?_⟩ | refine ⟨⟨_, H.get 4 rfl rfl⟩, ?_⟩ | refine ⟨⟨_, H.get 5 rfl rfl⟩, ?_⟩ | refine ⟨⟨_, H.get 6 rfl rfl⟩, ?_⟩ | refine ⟨⟨_, H.get 7 rfl rfl⟩, ?_⟩)
      | (first | refine ⟨H.frz 0 rfl, ?_⟩ | refine ⟨H.frz 1 rfl, ?_⟩ | refine ⟨H.frz 2 rfl, ?_⟩ | refine ⟨H.frz 3 rfl, ?_⟩ | refine ⟨H.frz 4 rfl, ?_⟩ | refine ⟨H.frz 5 rfl, ?_⟩ | refine ⟨H.frz 6 rfl, ?_⟩ | refine ⟨H.frz 7 rfl, ?_⟩)
      | (first | refine ⟨_, H.get 0 rfl rfl, ?_⟩ | refine ⟨_, H.get 1 rfl rfl, ?_⟩ | refine ⟨_, H.get 2 rfl rfl, ?_⟩ | refine ⟨_, H.get 3 rfl rfl, ?_⟩ | refine ⟨_, H.get 4 rfl rfl, ?_⟩ | refine ⟨_, H.get 5 rfl rfl, ?_⟩ | refine ⟨_, H.get 6 rfl rfl, ?_⟩ | refine ⟨_, H.get 7 rfl rfl, ?_⟩)
      | (first | refine ⟨_, _, _, H.get 0 rfl rfl, ?_⟩ | refine ⟨_, _, _, H.get 1 rfl rfl, ?_⟩ | refine ⟨_, _, _, H.get 2 rfl rfl, ?_⟩ | refine ⟨_, _, _, H.get 3 rfl rfl, ?_⟩ | refine ⟨_, _, _, H.get 4 rfl rfl, ?_⟩ | refine ⟨_, _, _, H.get 5 rfl rfl, ?_⟩ | refine ⟨_, _, _, H.get 6 rfl rfl, ?_⟩ | refine ⟨_, _, _, H.get 7 rfl rfl, ?_⟩))
    refine (r5find_ok (hc.ext H.ext) x.name).mono ?_
    rintro e W ⟨rfl, eX⟩
    replace H := H.step eX
    obtain ⟨zb, zo, hzp, z0, z1, z2, z3, z4, z5, z6⟩ := (hz.ext H.ext).zone hzi
    refine ⟨_, rfl, zb, zo, hzp, h0, by omega, _, z0, _, z1, _, z2, _, z3, _, z4, _, z5, _, z6, ?_⟩
    repeat (first
      | (intro _ _ hS; replace H := H.new hS; clear hS)
      | (intro _ hS; (first | replace H := H.put 0 rfl hS | replace H := H.put 1 rfl hS | replace H := H.put 2 rfl hS | replace H := H.put 3 rfl hS | replace H := H.put 4 rfl hS | replace H := H.put 5 rfl hS | replace H := H.put 6 rfl hS | replace H := H.put 7 rfl hS); clear hS; try simp only [setA, List.setIfInBounds_toArray, List.set_cons_zero, List.set_cons_succ, Nat.zero_add, Nat.reduceAdd] at H)
      | (intro _ hS; replace H := H.step (Drew.ext hS); clear hS)
      | (first | refine ⟨⟨_, H.get 0 rfl rfl⟩, ?_⟩ | refine ⟨⟨_, H.get 1 rfl rfl⟩, ?_⟩ | refine ⟨⟨_, H.get 2 rfl rfl⟩, ?_⟩ | refine ⟨⟨_, H.get 3 rfl rfl⟩, ?_⟩ | refine ⟨⟨_, H.get 4 rfl rfl⟩, ?_⟩ | refine ⟨⟨_, H.get 5 rfl rfl⟩, ?_⟩ | refine ⟨⟨_, H.get 6 rfl rfl⟩, ?_⟩ | refine ⟨⟨_, H.get 7 rfl rfl⟩, ?_⟩)
      | (first | refine ⟨H.frz 0 rfl, ?_⟩ | refine ⟨H.frz 1 rfl, ?_⟩ | refine ⟨H.frz 2 rfl, ?_⟩ | refine ⟨H.frz 3 rfl, ?_⟩ | refine ⟨H.frz 4 rfl, ?_⟩ | refine ⟨H.frz 5 rfl, ?_⟩ | refine ⟨H.frz 6 rfl, ?_⟩ | refine ⟨H.frz 7 rfl, ?_⟩)
      | (first | refine ⟨_, H.get 0 rfl rfl, ?_⟩ | refine ⟨_, H.get 1 rfl rfl, ?_⟩ | refine ⟨_, H.get 2 rfl rfl, ?_⟩ | refine ⟨_, H.get 3 rfl rfl, ?_⟩ | refine ⟨_, H.get 4 rfl rfl, ?_⟩ | refine ⟨_, H.get 5 rfl rfl, ?_⟩ | refine ⟨_, H.get 6 rfl rfl, ?_⟩ | refine ⟨_, H.get 7 rfl rfl, ?_⟩)
      | (first | refine ⟨_, _, _, H.get 0 rfl rfl, ?_⟩ | refine ⟨_, _, _, H.get 1 rfl rfl, ?_⟩ | refine ⟨_, _, _, H.get 2 rfl rfl, ?_⟩ | refine ⟨_, _, _, H.get 3 rfl rfl, ?_⟩ | refine ⟨_, _, _, H.get 4 rfl rfl, ?_⟩ | refine ⟨_, _, _, H.get 5 rfl rfl, ?_⟩ | refine ⟨_, _, _, H.get 6 rfl rfl, ?_⟩ | refine ⟨_, _, _, H.get 7 rfl rfl, ?_⟩))
    repeat' (first
    | (refine And.intro ?_ (fun _ _ hS => ?_)
       rotate_left
       have eX := hS.ext; replace H := H.new hS
       (try refine And.intro eX.same ?_)
       rotate_left)
    | (refine And.intro (fun hq => ?_) (fun hq => ?_) <;> (try (exfalso; omega)))
    | (intro _ _ hS
       have eX := hS.ext; replace H := H.new hS
       (try refine And.intro eX.same ?_))
    | (intro _ hS
       (first | replace H := H.put 0 rfl hS | replace H := H.put 1 rfl hS | replace H := H.put 2 rfl hS)
       clear hS
       try simp only [setA, List.setIfInBounds_toArray, List.set_cons_zero, List.set_cons_succ, Nat.zero_add, Nat.reduceAdd] at H)
    | (intro _ hS; replace H := H.step (Drew.ext hS); clear hS)
    | (first | refine ⟨⟨_, H.get 0 rfl rfl⟩, ?_⟩ | refine ⟨⟨_, H.get 1 rfl rfl⟩, ?_⟩)
    | (first | refine ⟨H.frz 0 rfl, ?_⟩ | refine ⟨H.frz 1 rfl, ?_⟩)
    | (first | refine ⟨_, H.get 0 rfl rfl, ?_⟩ | refine ⟨_, H.get 1 rfl rfl, ?_⟩ | refine ⟨_, H.get 2 rfl rfl, ?_⟩ | refine ⟨_, H.get 3 rfl rfl, ?_⟩)
    | (first | refine ⟨_, _, _, H.get 0 rfl rfl, ?_⟩ | refine ⟨_, _, _, H.get 1 rfl rfl, ?_⟩ | refine ⟨_, _, _, H.get 2 rfl rfl, ?_⟩ | refine ⟨_, _, _, H.get 3 rfl rfl, ?_⟩)
    | (refine (rset_ok _ _ _ _).mono ?_
       rintro e W ⟨rfl, eX⟩
       replace H := H.step eX
       refine ⟨_, rfl, ?_⟩
       (try refine And.intro eX.same ?_))
    | (refine And.intro ?_ H.ext))

    all_goals (
      apply congrArg Ending.returned; apply congrArg (Value.int .i64); apply congrArg S3.i
      unfold colS
      by_cases hq1 : z.nulls < m <;> first | (exfalso; omega) | simp [hq1])
  rw [if_neg h1]
  refine ⟨fun h14 => ?_, fun h14 => ?_⟩
  · rw [if_pos h14]
    have hlen : x.kids.length = 1 := by have : manyOf x.op = 1 := by rw [h14]; rfl
                                        omega
    have g0 : x.kids[0]? = some (x.kids[0]'(by omega)) := List.getElem?_eq_getElem _
    generalize x.kids[0]'(by omega) = k0 at g0
    obtain ⟨b0, o0, kp0, kn0, kc0, hp0, hi0, hx0, hcell0⟩ := hx.kid g0
    have e0 : (x.kids.map (ansF cols zones m)).getD 0 .all = ansF cols zones m k0 := by rw [List.getD_eq_getElem?_getD, List.getElem?_map, g0]; rfl
    rw [e0]
    repeat' (first
    | (refine And.intro ?_ (fun _ _ hS => ?_)
       rotate_left
       have eX := hS.ext; replace H := H.new hS
       (try refine And.intro eX.same ?_)
       rotate_left)
    | (refine And.intro (fun hq => ?_) (fun hq => ?_) <;> (try (exfalso; omega)))
    | (intro _ _ hS
       have eX := hS.ext; replace H := H.new hS
       (try refine And.intro eX.same ?_))
    | (intro _ hS
       (first | replace H := H.put 0 rfl hS | replace H := H.put 1 rfl hS | replace H := H.put 2 rfl hS)
       clear hS
       try simp only [setA, List.setIfInBounds_toArray, List.set_cons_zero, List.set_cons_succ, Nat.zero_add, Nat.reduceAdd] at H)
    | (intro _ hS; replace H := H.step (Drew.ext hS); clear hS)
    | (first | refine ⟨⟨_, H.get 0 rfl rfl⟩, ?_⟩ | refine ⟨⟨_, H.get 1 rfl rfl⟩, ?_⟩)
    | (first | refine ⟨H.frz 0 rfl, ?_⟩ | refine ⟨H.frz 1 rfl, ?_⟩)
    | (first | refine ⟨_, H.get 0 rfl rfl, ?_⟩ | refine ⟨_, H.get 1 rfl rfl, ?_⟩ | refine ⟨_, H.get 2 rfl rfl, ?_⟩ | refine ⟨_, H.get 3 rfl rfl, ?_⟩)
    | (first | refine ⟨_, _, _, H.get 0 rfl rfl, ?_⟩ | refine ⟨_, _, _, H.get 1 rfl rfl, ?_⟩ | refine ⟨_, _, _, H.get 2 rfl rfl, ?_⟩ | refine ⟨_, _, _, H.get 3 rfl rfl, ?_⟩)
    | (obtain ⟨c0, c1, c2, c3, c4, c5⟩ := hcell0 H.ext
       refine ⟨b0, o0, hp0, by omega, by omega, _, by simpa using c0, _, by simpa using c1, _, by simpa using c2, _, by simpa using c3, _, by simpa using c4, _, _, _, by simpa using c5, ?_⟩)
    | (refine (ih k0 (hsub 0 k0 g0).2.1 (hsub 0 k0 g0).2.2 (hsub 0 k0 g0).1 (kid_kind (by omega) hkind g0) (hc.ext H.ext) (hz.ext H.ext) (hx0.ext H.ext)).mono ?_
       rintro e W ⟨rfl, eX⟩
       replace H := H.step eX
       refine ⟨_, rfl, ?_⟩
       (try refine And.intro eX.same ?_))
    | (refine (rhas_ok (ansF cols zones m k0) (k := 1) (by decide) _).mono ?_
       rintro e W ⟨rfl, eX⟩
       replace H := H.step eX
       refine ⟨_, rfl, ?_⟩
       (try refine And.intro eX.same ?_))
    | (refine (rhas_ok (ansF cols zones m k0) (k := 0) (by decide) _).mono ?_
       rintro e W ⟨rfl, eX⟩
       replace H := H.step eX
       refine ⟨_, rfl, ?_⟩
       (try refine And.intro eX.same ?_))
    | (refine (rhas_ok (ansF cols zones m k0) (k := 2) (by decide) _).mono ?_
       rintro e W ⟨rfl, eX⟩
       replace H := H.step eX
       refine ⟨_, rfl, ?_⟩
       (try refine And.intro eX.same ?_))
    | (refine (rset_ok _ _ _ _).mono ?_
       rintro e W ⟨rfl, eX⟩
       replace H := H.step eX
       refine ⟨_, rfl, ?_⟩
       (try refine And.intro eX.same ?_))
    | (refine And.intro ?_ H.ext))

    all_goals rfl
  rw [if_neg h14]
  by_cases hlog : x.op = 12 ∨ x.op = 13
  · have hlen := htwo (by omega)
    have g0 : x.kids[0]? = some (x.kids[0]'(by omega)) := List.getElem?_eq_getElem _
    have g1 : x.kids[1]? = some (x.kids[1]'(by omega)) := List.getElem?_eq_getElem _
    generalize x.kids[0]'(by omega) = k0 at g0
    generalize x.kids[1]'(by omega) = k1 at g1
    obtain ⟨b0, o0, kp0, kn0, kc0, hp0, hi0, hx0, hcell0⟩ := hx.kid g0
    obtain ⟨b1, o1, kp1, kn1, kc1, hp1, hi1, hx1, hcell1⟩ := hx.kid g1
    have e0 : (x.kids.map (ansF cols zones m)).getD 0 .all = ansF cols zones m k0 := by rw [List.getD_eq_getElem?_getD, List.getElem?_map, g0]; rfl
    have e1 : (x.kids.map (ansF cols zones m)).getD 1 .all = ansF cols zones m k1 := by rw [List.getD_eq_getElem?_getD, List.getElem?_map, g1]; rfl
    rw [e0, e1]
    repeat' (first
    | (refine And.intro ?_ (fun _ _ hS => ?_)
       rotate_left
       have eX := hS.ext; replace H := H.new hS
       (try refine And.intro eX.same ?_)
       rotate_left)
    | (refine And.intro (fun hq => ?_) (fun hq => ?_) <;> (try (exfalso; omega)))
    | (intro _ _ hS
       have eX := hS.ext; replace H := H.new hS
       (try refine And.intro eX.same ?_))
    | (intro _ hS
       (first | replace H := H.put 0 rfl hS | replace H := H.put 1 rfl hS | replace H := H.put 2 rfl hS)
       clear hS
       try simp only [setA, List.setIfInBounds_toArray, List.set_cons_zero, List.set_cons_succ, Nat.zero_add, Nat.reduceAdd] at H)
    | (intro _ hS; replace H := H.step (Drew.ext hS); clear hS)
    | (first | refine ⟨⟨_, H.get 0 rfl rfl⟩, ?_⟩ | refine ⟨⟨_, H.get 1 rfl rfl⟩, ?_⟩)
    | (first | refine ⟨H.frz 0 rfl, ?_⟩ | refine ⟨H.frz 1 rfl, ?_⟩)
    | (first | refine ⟨_, H.get 0 rfl rfl, ?_⟩ | refine ⟨_, H.get 1 rfl rfl, ?_⟩ | refine ⟨_, H.get 2 rfl rfl, ?_⟩ | refine ⟨_, H.get 3 rfl rfl, ?_⟩)
    | (first | refine ⟨_, _, _, H.get 0 rfl rfl, ?_⟩ | refine ⟨_, _, _, H.get 1 rfl rfl, ?_⟩ | refine ⟨_, _, _, H.get 2 rfl rfl, ?_⟩ | refine ⟨_, _, _, H.get 3 rfl rfl, ?_⟩)
    | (obtain ⟨c0, c1, c2, c3, c4, c5⟩ := hcell0 H.ext
       refine ⟨b0, o0, hp0, by omega, by omega, _, by simpa using c0, _, by simpa using c1, _, by simpa using c2, _, by simpa using c3, _, by simpa using c4, _, _, _, by simpa using c5, ?_⟩)
    | (obtain ⟨c0, c1, c2, c3, c4, c5⟩ := hcell1 H.ext
       refine ⟨b1, o1, hp1, by omega, by omega, _, by simpa using c0, _, by simpa using c1, _, by simpa using c2, _, by simpa using c3, _, by simpa using c4, _, _, _, by simpa using c5, ?_⟩)
    | (refine (ih k0 (hsub 0 k0 g0).2.1 (hsub 0 k0 g0).2.2 (hsub 0 k0 g0).1 (kid_kind (by omega) hkind g0) (hc.ext H.ext) (hz.ext H.ext) (hx0.ext H.ext)).mono ?_
       rintro e W ⟨rfl, eX⟩
       replace H := H.step eX
       refine ⟨_, rfl, ?_⟩
       (try refine And.intro eX.same ?_))
    | (refine (ih k1 (hsub 1 k1 g1).2.1 (hsub 1 k1 g1).2.2 (hsub 1 k1 g1).1 (kid_kind (by omega) hkind g1) (hc.ext H.ext) (hz.ext H.ext) (hx1.ext H.ext)).mono ?_
       rintro e W ⟨rfl, eX⟩
       replace H := H.step eX
       refine ⟨_, rfl, ?_⟩
       (try refine And.intro eX.same ?_))
    | (refine (rbothS_ok hlog (ansF cols zones m k0) (ansF cols zones m k1) _).mono ?_
       rintro e W ⟨rfl, eX⟩
       replace H := H.step eX
       refine ⟨_, rfl, ?_⟩
       (try refine And.intro eX.same ?_))
    | (refine And.intro ?_ H.ext))

    all_goals (
      apply congrArg Ending.returned; apply congrArg (Value.int .i64)
      rcases hlog with h | h
      · rw [if_pos h, h, bothO_and]
      · rw [if_neg (by omega), if_pos h, h, bothO_or])
  rw [if_neg (by omega), if_neg (by omega)]
  by_cases h15 : x.op = 15
  · rw [if_pos h15]
    have hlen : x.kids.length = 1 := by have : manyOf x.op = 1 := by rw [h15]; rfl
                                        omega
    have g0 : x.kids[0]? = some (x.kids[0]'(by omega)) := List.getElem?_eq_getElem _
    generalize x.kids[0]'(by omega) = k0 at g0
    obtain ⟨b0, o0, kp0, kn0, kc0, hp0, hi0, hx0, hcell0⟩ := hx.kid g0
    rw [g0, Option.bind_some]
    repeat' (first
    | (refine And.intro ?_ (fun _ _ hS => ?_)
       rotate_left
       have eX := hS.ext; replace H := H.new hS
       (try refine And.intro eX.same ?_)
       rotate_left)
    | (refine And.intro (fun hq => ?_) (fun hq => ?_) <;> (try (exfalso; omega)))
    | (intro _ _ hS
       have eX := hS.ext; replace H := H.new hS
       (try refine And.intro eX.same ?_))
    | (intro _ hS
       (first | replace H := H.put 0 rfl hS | replace H := H.put 1 rfl hS | replace H := H.put 2 rfl hS)
       clear hS
       try simp only [setA, List.setIfInBounds_toArray, List.set_cons_zero, List.set_cons_succ, Nat.zero_add, Nat.reduceAdd] at H)
    | (intro _ hS; replace H := H.step (Drew.ext hS); clear hS)
    | (first | refine ⟨⟨_, H.get 0 rfl rfl⟩, ?_⟩ | refine ⟨⟨_, H.get 1 rfl rfl⟩, ?_⟩)
    | (first | refine ⟨H.frz 0 rfl, ?_⟩ | refine ⟨H.frz 1 rfl, ?_⟩)
    | (first | refine ⟨_, H.get 0 rfl rfl, ?_⟩ | refine ⟨_, H.get 1 rfl rfl, ?_⟩ | refine ⟨_, H.get 2 rfl rfl, ?_⟩ | refine ⟨_, H.get 3 rfl rfl, ?_⟩)
    | (first | refine ⟨_, _, _, H.get 0 rfl rfl, ?_⟩ | refine ⟨_, _, _, H.get 1 rfl rfl, ?_⟩ | refine ⟨_, _, _, H.get 2 rfl rfl, ?_⟩ | refine ⟨_, _, _, H.get 3 rfl rfl, ?_⟩)
    | (obtain ⟨c0, c1, c2, c3, c4, c5⟩ := hcell0 H.ext
       refine ⟨b0, o0, hp0, by omega, by omega, _, by simpa using c0, _, by simpa using c1, _, by simpa using c2, _, by simpa using c3, _, by simpa using c4, _, _, _, by simpa using c5, ?_⟩)
    | (refine (rside_ok (x := k0) (hc.ext H.ext) (hz.ext H.ext) hzo (hx0.ext H.ext) (hno k0 (kid_node g0 (self_node k0))) (hsub 0 k0 g0).1).mono ?_
       rintro e W ⟨rfl, eX⟩
       replace H := H.step eX
       refine ⟨_, _, _, _, _, _, _, _, _, rfl, ?_⟩
       (try refine And.intro eX.same ?_))
    | (refine (rset_ok _ _ _ _).mono ?_
       rintro e W ⟨rfl, eX⟩
       replace H := H.step eX
       refine ⟨_, rfl, ?_⟩
       (try refine And.intro eX.same ?_))
    | (refine And.intro ?_ H.ext))

    all_goals (
      cases hs : sideF cols zones m k0 with
      | none => first | rfl | (rw [hs] at hq; cases hq)
      | some s => first | rfl | (rw [hs] at hq; cases hq))
  rw [if_neg h15]
  by_cases hcmp : x.op = 9 ∨ x.op = 10 ∨ x.op = 11
  · rw [if_pos hcmp]
    have hlen := htwo (by omega)
    have g0 : x.kids[0]? = some (x.kids[0]'(by omega)) := List.getElem?_eq_getElem _
    have g1 : x.kids[1]? = some (x.kids[1]'(by omega)) := List.getElem?_eq_getElem _
    generalize x.kids[0]'(by omega) = k0 at g0
    generalize x.kids[1]'(by omega) = k1 at g1
    obtain ⟨b0, o0, kp0, kn0, kc0, hp0, hi0, hx0, hcell0⟩ := hx.kid g0
    obtain ⟨b1, o1, kp1, kn1, kc1, hp1, hi1, hx1, hcell1⟩ := hx.kid g1
    rw [g0, g1, Option.bind_some, Option.bind_some]
    have fine0 : ∀ s, sideF cols zones m k0 = some s → s.full = true → s.lo.Ok ∧ s.hi.Ok ∧ cmpV s.lo s.hi ≤ 0 := fun s hs => side_fine hzo (hno k0 (kid_node g0 (self_node k0))) (hsub 0 k0 g0).1 hs
    have fine1 : ∀ s, sideF cols zones m k1 = some s → s.full = true → s.lo.Ok ∧ s.hi.Ok ∧ cmpV s.lo s.hi ≤ 0 := fun s hs => side_fine hzo (hno k1 (kid_node g1 (self_node k1))) (hsub 1 k1 g1).1 hs
    repeat' (first
    | (refine And.intro ?_ (fun _ _ hS => ?_)
       rotate_left
       have eX := hS.ext; replace H := H.new hS
       (try refine And.intro eX.same ?_)
       rotate_left)
    | (refine And.intro (fun hq => ?_) (fun hq => ?_) <;> (try (exfalso; omega)))
    | (intro _ _ hS
       have eX := hS.ext; replace H := H.new hS
       (try refine And.intro eX.same ?_))
    | (intro _ hS
       (first | replace H := H.put 0 rfl hS | replace H := H.put 1 rfl hS | replace H := H.put 2 rfl hS)
       clear hS
       try simp only [setA, List.setIfInBounds_toArray, List.set_cons_zero, List.set_cons_succ, Nat.zero_add, Nat.reduceAdd] at H)
    | (intro _ hS; replace H := H.step (Drew.ext hS); clear hS)
    | (first | refine ⟨⟨_, H.get 0 rfl rfl⟩, ?_⟩ | refine ⟨⟨_, H.get 1 rfl rfl⟩, ?_⟩)
    | (first | refine ⟨H.frz 0 rfl, ?_⟩ | refine ⟨H.frz 1 rfl, ?_⟩)
    | (first | refine ⟨_, H.get 0 rfl rfl, ?_⟩ | refine ⟨_, H.get 1 rfl rfl, ?_⟩ | refine ⟨_, H.get 2 rfl rfl, ?_⟩ | refine ⟨_, H.get 3 rfl rfl, ?_⟩)
    | (first | refine ⟨_, _, _, H.get 0 rfl rfl, ?_⟩ | refine ⟨_, _, _, H.get 1 rfl rfl, ?_⟩ | refine ⟨_, _, _, H.get 2 rfl rfl, ?_⟩ | refine ⟨_, _, _, H.get 3 rfl rfl, ?_⟩)
    | (obtain ⟨c0, c1, c2, c3, c4, c5⟩ := hcell0 H.ext
       refine ⟨b0, o0, hp0, by omega, by omega, _, by simpa using c0, _, by simpa using c1, _, by simpa using c2, _, by simpa using c3, _, by simpa using c4, _, _, _, by simpa using c5, ?_⟩)
    | (obtain ⟨c0, c1, c2, c3, c4, c5⟩ := hcell1 H.ext
       refine ⟨b1, o1, hp1, by omega, by omega, _, by simpa using c0, _, by simpa using c1, _, by simpa using c2, _, by simpa using c3, _, by simpa using c4, _, _, _, by simpa using c5, ?_⟩)
    | (refine (rside_ok (x := k0) (hc.ext H.ext) (hz.ext H.ext) hzo (hx0.ext H.ext) (hno k0 (kid_node g0 (self_node k0))) (hsub 0 k0 g0).1).mono ?_
       rintro e W ⟨rfl, eX⟩
       replace H := H.step eX
       refine ⟨_, _, _, _, _, _, _, _, _, rfl, ?_⟩
       (try refine And.intro eX.same ?_))
    | (refine (rside_ok (x := k1) (hc.ext H.ext) (hz.ext H.ext) hzo (hx1.ext H.ext) (hno k1 (kid_node g1 (self_node k1))) (hsub 1 k1 g1).1).mono ?_
       rintro e W ⟨rfl, eX⟩
       replace H := H.step eX
       refine ⟨_, _, _, _, _, _, _, _, _, rfl, ?_⟩
       (try refine And.intro eX.same ?_))
    | (obtain ⟨s0, hs0⟩ := Option.isSome_iff_exists.1 hq.1
       obtain ⟨s1, hs1⟩ := Option.isSome_iff_exists.1 hq.2
       rw [hs0, hs1]
       refine (rcompared_ok (op := x.op) hcmp (fine0 s0 hs0) (fine1 s1 hs1) _).mono ?_
       rintro e W ⟨rfl, eX⟩
       replace H := H.step eX
       exact ⟨_, rfl, rfl, H.ext⟩)
    | (refine And.intro ?_ H.ext))

    all_goals (
      cases h0 : sideF cols zones m k0 with
      | none => rfl
      | some s0 =>
        cases h1 : sideF cols zones m k1 with
        | none => rfl
        | some s1 => rw [h0, h1] at hq; simp at hq)
  · rw [if_neg hcmp]
    repeat' (first
    | (refine And.intro (fun hq => ?_) (fun hq => ?_) <;> (try (exfalso; omega)))
    | (refine And.intro ?_ H.ext))
    all_goals rfl

theorem rAnswers_ok {cols : List Col} {zones : List Zn} {m : Int} (x : Ex) {w : World} {p zp : Option Addr} {n c zn zc : Nat} {cs : List Value} (hc : Cols w p n c cols) (hs : ∀ y ∈ cols, y.name.size ≤ 9223372036854775807) (hz : Zns w zp zn zc zones) (hx : ExAt w x cs) :
    Calls Tryd.prog 12 #[.slice p n c, .slice zp zn zc, .int .i64 m, .agg cs.toArray] w fun e w' => e = .returned (.tuple #[.int .i64 (answersF cols zones m x).1, .int .i64 (answersF cols zones m x).2]) ∧ Ext w w' := by
  obtain ⟨xp, xn, xc, rfl, _⟩ := hx.six
  apply qAnswers_vc
  unfold qAnswers_T
  intro b1 w2 h1
  have H := (Hold.start (Ext.rfl (w := w))).new h1
  repeat (first
    | (intro _ _ hS; replace H := H.new hS; clear hS)
    | (intro _ hS; (first | replace H := H.put 0 rfl hS | replace H := H.put 1 rfl hS | replace H := H.put 2 rfl hS | replace H := H.put 3 rfl hS | replace H := H.put 4 rfl hS | replace H := H.put 5 rfl hS | replace H := H.put 6 rfl hS | replace H := H.put 7 rfl hS); clear hS; try simp only [setA, List.setIfInBounds_toArray, List.set_cons_zero, List.set_cons_succ, Nat.zero_add, Nat.reduceAdd] at H)
    | (intro _ hS; replace H := H.step (Drew.ext hS); clear hS)
    | (first | refine ⟨⟨_, H.get 0 rfl rfl⟩, ?_⟩ | refine ⟨⟨_, H.get 1 rfl rfl⟩, ?_⟩ | refine ⟨⟨_, H.get 2 rfl rfl⟩, ?_⟩ | refine ⟨⟨_, H.get 3 rfl rfl⟩, ?_⟩ | refine ⟨⟨_, H.get 4 rfl rfl⟩, ?_⟩ | refine ⟨⟨_, H.get 5 rfl rfl⟩, ?_⟩ | refine ⟨⟨_, H.get 6 rfl rfl⟩, ?_⟩ | refine ⟨⟨_, H.get 7 rfl rfl⟩, ?_⟩)
    | (first | refine ⟨H.frz 0 rfl, ?_⟩ | refine ⟨H.frz 1 rfl, ?_⟩ | refine ⟨H.frz 2 rfl, ?_⟩ | refine ⟨H.frz 3 rfl, ?_⟩ | refine ⟨H.frz 4 rfl, ?_⟩ | refine ⟨H.frz 5 rfl, ?_⟩ | refine ⟨H.frz 6 rfl, ?_⟩ | refine ⟨H.frz 7 rfl, ?_⟩)
    | (first | refine ⟨_, H.get 0 rfl rfl, ?_⟩ | refine ⟨_, H.get 1 rfl rfl, ?_⟩ | refine ⟨_, H.get 2 rfl rfl, ?_⟩ | refine ⟨_, H.get 3 rfl rfl, ?_⟩ | refine ⟨_, H.get 4 rfl rfl, ?_⟩ | refine ⟨_, H.get 5 rfl rfl, ?_⟩ | refine ⟨_, H.get 6 rfl rfl, ?_⟩ | refine ⟨_, H.get 7 rfl rfl, ?_⟩)
    | (first | refine ⟨_, _, _, H.get 0 rfl rfl, ?_⟩ | refine ⟨_, _, _, H.get 1 rfl rfl, ?_⟩ | refine ⟨_, _, _, H.get 2 rfl rfl, ?_⟩ | refine ⟨_, _, _, H.get 3 rfl rfl, ?_⟩ | refine ⟨_, _, _, H.get 4 rfl rfl, ?_⟩ | refine ⟨_, _, _, H.get 5 rfl rfl, ?_⟩ | refine ⟨_, _, _, H.get 6 rfl rfl, ?_⟩ | refine ⟨_, _, _, H.get 7 rfl rfl, ?_⟩))
  refine (rtype_ok x (hc.ext H.ext) hs (hx.ext H.ext)).mono ?_
  rintro e W ⟨rfl, eX⟩
  replace H := H.step eX
  refine ⟨_, _, rfl, fun he => ⟨?_, H.ext⟩, fun he => ⟨fun hk => ⟨?_, H.ext⟩, fun hk => ?_⟩⟩
  · unfold answersF; rw [if_pos he]
  · unfold answersF; rw [if_neg (by simp [he]), if_pos hk]
  refine (rzright_ok (m := m) (hc.ext H.ext) (hz.ext H.ext)).mono ?_
  rintro e W ⟨rfl, eX⟩
  replace H := H.step eX
  refine ⟨_, rfl, fun hf => ⟨?_, H.ext⟩, fun ht => ⟨fun h0 => ⟨?_, H.ext⟩, fun h0 => ?_⟩⟩
  · unfold answersF; rw [if_neg (by simp [he]), if_neg (by omega), if_pos hf]
  · unfold answersF; rw [if_neg (by simp [he]), if_neg (by omega), if_neg (by simp [ht]), if_pos h0]
  repeat (first
    | (intro _ _ hS; replace H := H.new hS; clear hS)
    | (intro _ hS; (first | replace H := H.put 0 rfl hS | replace H := H.put 1 rfl hS | replace H := H.put 2 rfl hS | replace H := H.put 3 rfl hS | replace H := H.put 4 rfl hS | replace H := H.put 5 rfl hS | replace H := H.put 6 rfl hS | replace H := H.put 7 rfl hS); clear hS; try simp only [setA, List.setIfInBounds_toArray, List.set_cons_zero, List.set_cons_succ, Nat.zero_add, Nat.reduceAdd] at H)
    | (intro _ hS; replace H := H.step (Drew.ext hS); clear hS)
    | (first | refine ⟨⟨_, H.get 0 rfl rfl⟩, ?_⟩ | refine ⟨⟨_, H.get 1 rfl rfl⟩, ?_⟩ | refine ⟨⟨_, H.get 2 rfl rfl⟩, ?_⟩ | refine ⟨⟨_, H.get 3 rfl rfl⟩, ?_⟩ | refine ⟨⟨_, H.get 4 rfl rfl⟩, ?_⟩ | refine ⟨⟨_, H.get 5 rfl rfl⟩, ?_⟩ | refine ⟨⟨_, H.get 6 rfl rfl⟩, ?_⟩ | refine ⟨⟨_, H.get 7 rfl rfl⟩, ?_⟩)
    | (first | refine ⟨H.frz 0 rfl, ?_⟩ | refine ⟨H.frz 1 rfl, ?_⟩ | refine ⟨H.frz 2 rfl, ?_⟩ | refine ⟨H.frz 3 rfl, ?_⟩ | refine ⟨H.frz 4 rfl, ?_⟩ | refine ⟨H.frz 5 rfl, ?_⟩ | refine ⟨H.frz 6 rfl, ?_⟩ | refine ⟨H.frz 7 rfl, ?_⟩)
    | (first | refine ⟨_, H.get 0 rfl rfl, ?_⟩ | refine ⟨_, H.get 1 rfl rfl, ?_⟩ | refine ⟨_, H.get 2 rfl rfl, ?_⟩ | refine ⟨_, H.get 3 rfl rfl, ?_⟩ | refine ⟨_, H.get 4 rfl rfl, ?_⟩ | refine ⟨_, H.get 5 rfl rfl, ?_⟩ | refine ⟨_, H.get 6 rfl rfl, ?_⟩ | refine ⟨_, H.get 7 rfl rfl, ?_⟩)
    | (first | refine ⟨_, _, _, H.get 0 rfl rfl, ?_⟩ | refine ⟨_, _, _, H.get 1 rfl rfl, ?_⟩ | refine ⟨_, _, _, H.get 2 rfl rfl, ?_⟩ | refine ⟨_, _, _, H.get 3 rfl rfl, ?_⟩ | refine ⟨_, _, _, H.get 4 rfl rfl, ?_⟩ | refine ⟨_, _, _, H.get 5 rfl rfl, ?_⟩ | refine ⟨_, _, _, H.get 6 rfl rfl, ?_⟩ | refine ⟨_, _, _, H.get 7 rfl rfl, ?_⟩))
  have hz0 : zonesL cols zones m = true := by
    unfold zonesOk at ht
    rw [Bool.and_eq_true] at ht
    exact ht.2
  obtain ⟨hr, hform, hkd⟩ := typeF_right he
  have hfp : FormedP x := of_decide_eq_true hform
  refine (ranswers_ok hz0 _ x (Nat.le_refl _) hfp.1 (by rw [← hkd]; exact he) (by rw [← hkd]; omega) (hc.ext H.ext) (hz.ext H.ext) (hx.ext H.ext)).mono ?_
  rintro e W ⟨rfl, eX⟩
  refine ⟨_, rfl, ?_, (H.step eX).ext⟩
  unfold answersF
  rw [if_neg (by simp [he]), if_neg (by omega), if_neg (by simp [ht]), if_neg h0]

theorem rbare_ok : ∀ (N : Nat) (x : Ex) {w : World} {cs : List Value}, depthT x ≤ N → ExAt w x cs →
    Calls Tryd.prog 28 #[.agg cs.toArray] w fun e w' => e = .returned (.bool (bareF x)) ∧ Ext w w' := by
  intro N
  induction N with
  | zero => intro x w cs hd; cases x; unfold depthT at hd; omega
  | succ N ih =>
  intro x w cs hd hx
  obtain ⟨xp, xn, xc, rfl, hkl, hxn, _⟩ := hx.six
  apply qbare_vc
  unfold qbare_T
  intro b1 w2 h1
  have H := (Hold.start (Ext.rfl (w := w))).new h1
  refine ⟨_, H.get 0 rfl rfl, fun h3 => ⟨_, H.get 0 rfl rfl, fun h8 => ⟨?_, H.ext⟩, fun h8 => ?_⟩, fun h3 => ?_⟩
  · rw [bareF_eq, decide_eq_true (by omega)]; rfl
  all_goals (
    refine ⟨fun i W => ∃ j : Nat, i = (j : Int) ∧ j ≤ xn ∧ (x.kids.take j).all bareF = true ∧ Hold w W [(b1, .cells #[.int .i64 x.op, .string x.name, .int .i64 x.v.k, .int .i64 x.v.n, .string x.v.s, .slice xp xn xc] 28 (0, 0))] [], fun i _ => xn - i.toNat, ⟨0, rfl, Nat.zero_le _, rfl, H⟩, ?_⟩
    rintro i W ⟨j, rfl, hj, hall, H⟩
    refine ⟨_, _, _, H.get 0 rfl rfl, fun hlt => ?_, fun hge => ?_⟩
    · have g : x.kids[j]? = some (x.kids[j]'(by omega)) := List.getElem?_eq_getElem _
      generalize x.kids[j]'(by omega) = k at g
      obtain ⟨b, o, kp, kn, kc, hp, hi, hk, hcell⟩ := hx.kid g
      obtain ⟨c0, c1, c2, c3, c4, c5⟩ := hcell H.ext
      simp only [Int.toNat_natCast]
      refine ⟨_, _, _, H.get 0 rfl rfl, b, o, hp, by omega, by omega, _, c0, _, c1, _, c2, _, c3, _, c4, _, _, _, c5, ?_⟩
      refine (ih k (by have := kid_depth g; omega) (hk.ext H.ext)).mono ?_
      rintro e W2 ⟨rfl, eS⟩
      replace H := H.step eS
      have hb : (x.kids.take (j + 1)).all bareF = bareF k := by
        rw [List.take_add_one, g, List.all_append, hall]; simp
      refine ⟨_, rfl, fun hb0 => ⟨?_, H.ext⟩, fun hb1 => ?_⟩
      · rw [bareF_eq]
        have : x.kids.all bareF = false := by
          rw [List.all_eq_false]
          exact ⟨k, List.mem_of_getElem? g, by simp [hb0]⟩
        rw [this, Bool.and_false]
      · rw [i64_next (by omega)]
        exact ⟨⟨j + 1, rfl, by omega, by rw [hb, hb1], H⟩, by simp only [Int.toNat_natCast]; omega⟩
    · have hjn : j = xn := by omega
      subst hjn
      rw [List.take_of_length_le (by omega)] at hall
      refine ⟨?_, H.ext⟩
      rw [bareF_eq, hall, Bool.and_true, decide_eq_false (by omega)]; rfl)
theorem has_yes (s : S3) : S3.has s 1 = decide (s.i % 4 / 2 = 1) := by
  obtain ⟨a, b, c⟩ := s
  cases a <;> cases b <;> cases c <;> decide +kernel
theorem rMay_ok {cols : List Col} {zones : List Zn} {m : Int} (x : Ex) {w : World} {p zp : Option Addr} {n c zn zc : Nat} {cs : List Value} (hc : Cols w p n c cols) (hs : ∀ y ∈ cols, y.name.size ≤ 9223372036854775807) (hz : Zns w zp zn zc zones) (hx : ExAt w x cs) :
    Calls Tryd.prog 14 #[.slice p n c, .slice zp zn zc, .int .i64 m, .agg cs.toArray] w fun e w' => e = .returned (.tuple #[.bool (mayF cols zones m x).1, .int .i64 (mayF cols zones m x).2]) ∧ Ext w w' := by
  obtain ⟨xp, xn, xc, rfl, _⟩ := hx.six
  apply qMay_vc
  unfold qMay_T
  have H := Hold.start (Ext.rfl (w := w))
  obtain ⟨s, hsi⟩ := answers_shape (cols := cols) (zones := zones) (m := m) (x := x)
  repeat' (first
    | (refine And.intro ?_ (fun _ _ hS => ?_)
       rotate_left
       have eX := hS.ext; replace H := H.new hS
       (try refine And.intro eX.same ?_)
       rotate_left)
    | (refine And.intro (fun hq => ?_) (fun hq => ?_) <;> (try (exfalso; omega)))
    | (intro _ _ hS
       have eX := hS.ext; replace H := H.new hS
       (try refine And.intro eX.same ?_))
    | (intro _ hS
       (first | replace H := H.put 0 rfl hS | replace H := H.put 1 rfl hS | replace H := H.put 2 rfl hS)
       clear hS
       try simp only [setA, List.setIfInBounds_toArray, List.set_cons_zero, List.set_cons_succ, Nat.zero_add, Nat.reduceAdd] at H)
    | (intro _ hS; replace H := H.step (Drew.ext hS); clear hS)
    | (first | refine ⟨⟨_, H.get 0 rfl rfl⟩, ?_⟩ | refine ⟨⟨_, H.get 1 rfl rfl⟩, ?_⟩)
    | (first | refine ⟨H.frz 0 rfl, ?_⟩ | refine ⟨H.frz 1 rfl, ?_⟩)
    | (first | refine ⟨_, H.get 0 rfl rfl, ?_⟩ | refine ⟨_, H.get 1 rfl rfl, ?_⟩ | refine ⟨_, H.get 2 rfl rfl, ?_⟩ | refine ⟨_, H.get 3 rfl rfl, ?_⟩)
    | (first | refine ⟨_, _, _, H.get 0 rfl rfl, ?_⟩ | refine ⟨_, _, _, H.get 1 rfl rfl, ?_⟩ | refine ⟨_, _, _, H.get 2 rfl rfl, ?_⟩ | refine ⟨_, _, _, H.get 3 rfl rfl, ?_⟩)
    | (refine (rAnswers_ok (m := m) x (hc.ext H.ext) hs (hz.ext H.ext) (hx.ext H.ext)).mono ?_
       rintro e W ⟨rfl, eX⟩
       replace H := H.step eX
       refine ⟨_, _, rfl, ?_⟩
       (try refine And.intro eX.same ?_))
    | (refine (rbare_ok _ x (Nat.le_refl _) (hx.ext H.ext)).mono ?_
       rintro e W ⟨rfl, eX⟩
       replace H := H.step eX
       refine ⟨_, rfl, ?_⟩
       (try refine And.intro eX.same ?_))
    | (rw [hsi]
       refine (rhas_ok s (k := 1) (by decide) _).mono ?_
       rintro e W ⟨rfl, eX⟩
       replace H := H.step eX
       refine ⟨_, rfl, ?_⟩)
    | (refine And.intro ?_ H.ext))

  all_goals (
    apply congrArg Ending.returned
    by_cases h0 : (answersF cols zones m x).2 = 0
    · by_cases hm : 0 < m
      · have hb := yes_bit s
        have he := has_yes s
        unfold mayF
        rw [if_neg (by simp [h0]), hsi, ← he, decide_eq_true hm]
        first | (exfalso; omega) | (simp_all; done)
      · unfold mayF
        rw [if_neg (by simp [h0]), decide_eq_false hm]
        first | (exfalso; omega) | (simp_all; done)
    · first | (exfalso; omega) | (unfold mayF; rw [if_pos h0]; done) | (unfold mayF; rw [if_pos h0]; rfl))
end Go.Proofs.YtpjafkcmbinjiaaDoor

/- The verification conditions of the functions, evaluated: printed by program. -/
namespace Go.Proofs.YtpjafkcmbinjiaaDoor
open Go Go.Vc

set_option maxRecDepth 100000 in
def lless_T (name : ByteArray) (n : Int) (w : World) (R : Ending → World → Prop) : Prop :=
  ∀ b1 w'2, New w
 (Obj.cells
 #[.int .i64 0, .string ⟨#[]⟩, .int .i64 0, .int .i64 0, .string ⟨#[]⟩, .slice none 0 0] 28)
 b1 w'2 → ∀ b4 w'5, New w'2
 (Obj.cells
 #[.int .i64 1, .string name, .int .i64 0, .int .i64 0, .string ⟨#[]⟩, .slice none 0 0, .int .i64 2, .string ⟨#[]⟩, .int .i64 1, .int .i64 n, .string ⟨#[]⟩, .slice none 0 0]
 28)
 b4 w'5 → CW w'5 b1 0 fun _ ↦ CW w'5 b1 1 fun _ ↦ CW w'5 b1 2 fun _ ↦ CW w'5 b1 3 fun _ ↦ CW w'5 b1 4 fun _ ↦ CW w'5 b1 5 fun _ ↦ ∀ w'13, Put w'5 b1 0
 [.int .i64 10, .string ⟨#[]⟩, .int .i64 0, .int .i64 0, .string ⟨#[]⟩, .slice (some ⟨b4, 0, none⟩) 2 2]
 w'13 → RI w'13 b1 0 fun n15 ↦ RS w'13 b1 1 fun s16 ↦ RI w'13 b1 2 fun n17 ↦ RI w'13 b1 3 fun n18 ↦ RS w'13 b1 4 fun s19 ↦ RL w'13 b1 5 fun p20 n21 c22 ↦ R
 (.returned
 (.agg #[.int .i64 n15, .string s16, .int .i64 n17, .int .i64 n18, .string s19, .slice p20 n21 c22]))
 w'13

set_option maxRecDepth 100000 in
theorem lless_eq (name : ByteArray) (n : Int) (w : World) (R : Ending → World → Prop) : lless_T name n w R = vcFn Tryd.prog [] [] Tryd.f16 [.string name, .int .i64 n] w R := by kernel_rfl

set_option maxRecDepth 100000 in
theorem lless_vc (name : ByteArray) (n : Int) (w : World) (R : Ending → World → Prop) (h : lless_T name n w R) : Calls Tryd.prog 16 #[.string name, .int .i64 n] w R :=
  calls_of_vc (args := [.string name, .int .i64 n]) [] [] Tryd.mixed Tryd.func16 (cast (lless_eq _ _ w R) h)

set_option maxRecDepth 100000 in
def shown16_T (w : World) (R : Ending → World → Prop) : Prop :=
  ∀ b1 w'2, New w (Obj.cells #[.string (ByteArray.mk #[97]), .int .i64 1, .bool false] 48) b1 w'2 → ∀ b4 w'5, New w'2
 (Obj.cells
 #[.int .i64 0, .int .i64 1, .int .i64 5, .string ⟨#[]⟩, .int .i64 1, .int .i64 9, .string ⟨#[]⟩]
 50)
 b4 w'5 → Calls Tryd.prog 16 #[.string (ByteArray.mk #[97]), .int .i64 5] w'5 fun e7 w8 ↦
 ∃ n9, ∃ s10, ∃ n11, ∃ n12, ∃ s13, ∃ p14 n15 c16, e7 =
 .returned
 (.agg #[.int .i64 n9, .string s10, .int .i64 n11, .int .i64 n12, .string s13, .slice p14 n15 c16]) ∧ Calls Tryd.prog 11
 #[.slice (some ⟨b1, 0, none⟩) 1 1, .slice (some ⟨b4, 0, none⟩) 1 1, .int .i64 3, .agg #[.int .i64 n9, .string s10, .int .i64 n11, .int .i64 n12, .string s13, .slice p14 n15 c16]]
 w8 fun e17 w18 ↦
 ∃ n19, ∃ n20, e17 = .returned (.tuple #[.int .i64 n19, .int .i64 n20]) ∧ Calls Tryd.prog 16 #[.string (ByteArray.mk #[97]), .int .i64 6] w18 fun e21 w22 ↦
 ∃ n23, ∃ s24, ∃ n25, ∃ n26, ∃ s27, ∃ p28 n29 c30, e21 =
 .returned
 (.agg #[.int .i64 n23, .string s24, .int .i64 n25, .int .i64 n26, .string s27, .slice p28 n29 c30]) ∧ Calls Tryd.prog 11
 #[.slice (some ⟨b1, 0, none⟩) 1 1, .slice (some ⟨b4, 0, none⟩) 1 1, .int .i64 3, .agg #[.int .i64 n23, .string s24, .int .i64 n25, .int .i64 n26, .string s27, .slice p28 n29 c30]]
 w22 fun e31 w32 ↦
 ∃ n33, ∃ n34, e31 = .returned (.tuple #[.int .i64 n33, .int .i64 n34]) ∧ R (.returned (.bool (decide (n20 = 0) && decide (n34 = 0) && decide (n19 = 1) && decide (n33 = 3)))) w32

set_option maxRecDepth 100000 in
theorem shown16_eq (w : World) (R : Ending → World → Prop) : shown16_T w R = vcFn Tryd.prog [] [] Tryd.f7 [] w R := by kernel_rfl

set_option maxRecDepth 100000 in
theorem shown16_vc (w : World) (R : Ending → World → Prop) (h : shown16_T w R) : Calls Tryd.prog 7 #[] w R :=
  calls_of_vc (args := []) [] [] Tryd.mixed Tryd.func7 (cast (shown16_eq w R) h)

set_option maxRecDepth 100000 in
def lawAnswers_T (cols_p : Option Addr) (cols_n : Nat) (cols_c : Nat) (zones_p : Option Addr) (zones_n : Nat) (zones_c : Nat) (n : Int) (x0 : Int) (x1 : ByteArray) (x2 : Int) (x3 : Int) (x4 : ByteArray) (x5_p : Option Addr) (x5_n : Nat) (x5_c : Nat) (w : World) (R : Ending → World → Prop) : Prop :=
  ∀ b1 w'2, New w (Obj.cells #[.int .i64 x0, .string x1, .int .i64 x2, .int .i64 x3, .string x4, .slice x5_p x5_n x5_c] 28) b1
 w'2 → Calls Tryd.prog 7 #[] w'2 fun e4 w5 ↦
 ∃ b6, e4 = .returned (.bool b6) ∧ RI w5 b1 0 fun n7 ↦ RS w5 b1 1 fun s8 ↦ RI w5 b1 2 fun n9 ↦ RI w5 b1 3 fun n10 ↦ RS w5 b1 4 fun s11 ↦ RL w5 b1 5 fun p12 n13 c14 ↦ Calls Tryd.prog 11
 #[.slice cols_p cols_n cols_c, .slice zones_p zones_n zones_c, .int .i64 n, .agg #[.int .i64 n7, .string s8, .int .i64 n9, .int .i64 n10, .string s11, .slice p12 n13 c14]]
 w5 fun e15 w16 ↦
 ∃ n17, ∃ n18, e15 = .returned (.tuple #[.int .i64 n17, .int .i64 n18]) ∧ RI w16 b1 0 fun n19 ↦ RS w16 b1 1 fun s20 ↦ RI w16 b1 2 fun n21 ↦ RI w16 b1 3 fun n22 ↦ RS w16 b1 4 fun s23 ↦ RL w16 b1 5 fun p24 n25 c26 ↦ Calls Tryd.prog 12
 #[.slice cols_p cols_n cols_c, .slice zones_p zones_n zones_c, .int .i64 n, .agg #[.int .i64 n19, .string s20, .int .i64 n21, .int .i64 n22, .string s23, .slice p24 n25 c26]]
 w16 fun e27 w28 ↦
 ∃ n29, ∃ n30, e27 = .returned (.tuple #[.int .i64 n29, .int .i64 n30]) ∧ RI w28 b1 0 fun n31 ↦ RS w28 b1 1 fun s32 ↦ RI w28 b1 2 fun n33 ↦ RI w28 b1 3 fun n34 ↦ RS w28 b1 4 fun s35 ↦ RL w28 b1 5 fun p36 n37 c38 ↦ Calls Tryd.prog 13
 #[.slice cols_p cols_n cols_c, .slice zones_p zones_n zones_c, .int .i64 n, .agg #[.int .i64 n31, .string s32, .int .i64 n33, .int .i64 n34, .string s35, .slice p36 n37 c38]]
 w28 fun e39 w40 ↦
 ∃ b41, ∃ n42, e39 = .returned (.tuple #[.bool b41, .int .i64 n42]) ∧ RI w40 b1 0 fun n43 ↦ RS w40 b1 1 fun s44 ↦ RI w40 b1 2 fun n45 ↦ RI w40 b1 3 fun n46 ↦ RS w40 b1 4 fun s47 ↦ RL w40 b1 5 fun p48 n49 c50 ↦ Calls Tryd.prog 14
 #[.slice cols_p cols_n cols_c, .slice zones_p zones_n zones_c, .int .i64 n, .agg #[.int .i64 n43, .string s44, .int .i64 n45, .int .i64 n46, .string s47, .slice p48 n49 c50]]
 w40 fun e51 w52 ↦
 ∃ b53, ∃ n54, e51 = .returned (.tuple #[.bool b53, .int .i64 n54]) ∧ R (.returned (.bool (b6 && decide (n17 = n29) && decide (n18 = n30) && b41 == b53 && decide (n42 = n54)))) w52

set_option maxRecDepth 100000 in
theorem lawAnswers_eq (cols_p : Option Addr) (cols_n : Nat) (cols_c : Nat) (zones_p : Option Addr) (zones_n : Nat) (zones_c : Nat) (n : Int) (x0 : Int) (x1 : ByteArray) (x2 : Int) (x3 : Int) (x4 : ByteArray) (x5_p : Option Addr) (x5_n : Nat) (x5_c : Nat) (w : World) (R : Ending → World → Prop) : lawAnswers_T cols_p cols_n cols_c zones_p zones_n zones_c n x0 x1 x2 x3 x4 x5_p x5_n x5_c w R = vcFn Tryd.prog [] [] Tryd.f5 [.slice cols_p cols_n cols_c, .slice zones_p zones_n zones_c, .int .i64 n, Value.agg
 #[.int .i64 x0, .string x1, .int .i64 x2, .int .i64 x3, .string x4, .slice x5_p x5_n x5_c]] w R := by kernel_rfl

set_option maxRecDepth 100000 in
theorem lawAnswers_vc (cols_p : Option Addr) (cols_n : Nat) (cols_c : Nat) (zones_p : Option Addr) (zones_n : Nat) (zones_c : Nat) (n : Int) (x0 : Int) (x1 : ByteArray) (x2 : Int) (x3 : Int) (x4 : ByteArray) (x5_p : Option Addr) (x5_n : Nat) (x5_c : Nat) (w : World) (R : Ending → World → Prop) (h : lawAnswers_T cols_p cols_n cols_c zones_p zones_n zones_c n x0 x1 x2 x3 x4 x5_p x5_n x5_c w R) : Calls Tryd.prog 5 #[.slice cols_p cols_n cols_c, .slice zones_p zones_n zones_c, .int .i64 n, Value.agg
 #[.int .i64 x0, .string x1, .int .i64 x2, .int .i64 x3, .string x4, .slice x5_p x5_n x5_c]] w R :=
  calls_of_vc (args := [.slice cols_p cols_n cols_c, .slice zones_p zones_n zones_c, .int .i64 n, Value.agg
 #[.int .i64 x0, .string x1, .int .i64 x2, .int .i64 x3, .string x4, .slice x5_p x5_n x5_c]]) [] [] Tryd.mixed Tryd.func5 (cast (lawAnswers_eq _ _ _ _ _ _ _ _ _ _ _ _ _ _ _ w R) h)

set_option maxRecDepth 100000 in
def lawNots_T (cols_p : Option Addr) (cols_n : Nat) (cols_c : Nat) (zones_p : Option Addr) (zones_n : Nat) (zones_c : Nat) (n : Int) (x0 : Int) (x1 : ByteArray) (x2 : Int) (x3 : Int) (x4 : ByteArray) (x5_p : Option Addr) (x5_n : Nat) (x5_c : Nat) (w : World) (R : Ending → World → Prop) : Prop :=
  ∀ b1 w'2, New w (Obj.cells #[.int .i64 x0, .string x1, .int .i64 x2, .int .i64 x3, .string x4, .slice x5_p x5_n x5_c] 28) b1
 w'2 → Calls Tryd.prog 7 #[] w'2 fun e4 w5 ↦
 ∃ b6, e4 = .returned (.bool b6) ∧ RI w5 b1 0 fun n7 ↦ RS w5 b1 1 fun s8 ↦ RI w5 b1 2 fun n9 ↦ RI w5 b1 3 fun n10 ↦ RS w5 b1 4 fun s11 ↦ RL w5 b1 5 fun p12 n13 c14 ↦ Calls Tryd.prog 11
 #[.slice cols_p cols_n cols_c, .slice zones_p zones_n zones_c, .int .i64 n, .agg #[.int .i64 n7, .string s8, .int .i64 n9, .int .i64 n10, .string s11, .slice p12 n13 c14]]
 w5 fun e15 w16 ↦
 ∃ n17, ∃ n18, e15 = .returned (.tuple #[.int .i64 n17, .int .i64 n18]) ∧ RI w16 b1 0 fun n19 ↦ RS w16 b1 1 fun s20 ↦ RI w16 b1 2 fun n21 ↦ RI w16 b1 3 fun n22 ↦ RS w16 b1 4 fun s23 ↦ RL w16 b1 5 fun p24 n25 c26 ↦ ∀ b27 w'28, New w16 (Obj.cells #[.int .i64 n19, .string s20, .int .i64 n21, .int .i64 n22, .string s23, .slice p24 n25 c26] 28) b27
 w'28 → Calls Tryd.prog 11
 #[.slice cols_p cols_n cols_c, .slice zones_p zones_n zones_c, .int .i64 n, Value.agg
 #[.int .i64 14, .string ⟨#[]⟩, .int .i64 0, .int .i64 0, .string ⟨#[]⟩, .slice (some ⟨b27, 0, none⟩) 1 1]]
 w'28 fun e30 w31 ↦
 ∃ n32, ∃ n33, e30 = .returned (.tuple #[.int .i64 n32, .int .i64 n33]) ∧ (n18 ≠ 0 ∨ n33 ≠ 0 → (b6 = true → (n18 = n33 ∨ n33 = 122 → R (.returned (.bool true)) w31) ∧ (n18 ≠ n33 ∧ n33 ≠ 122 → R (.returned (.bool (decide (n18 = 121) && decide (n33 = 121)))) w31)) ∧ (b6 = false → R (.returned (.bool false)) w31)) ∧ (n18 = 0 ∧ n33 = 0 → R
 (.returned
 (Value.bool
 (b6 &&
 decide
 (n32 =
 bits BinOp.or IntKind.i64 (bits BinOp.or IntKind.i64 (bits BinOp.and IntKind.i64 (shrI IntKind.i64 n17 1) 1) (shlI IntKind.i64 (bits BinOp.and IntKind.i64 n17 1) 1))
 (bits BinOp.and IntKind.i64 n17 4)))))
 w31)

set_option maxRecDepth 100000 in
theorem lawNots_eq (cols_p : Option Addr) (cols_n : Nat) (cols_c : Nat) (zones_p : Option Addr) (zones_n : Nat) (zones_c : Nat) (n : Int) (x0 : Int) (x1 : ByteArray) (x2 : Int) (x3 : Int) (x4 : ByteArray) (x5_p : Option Addr) (x5_n : Nat) (x5_c : Nat) (w : World) (R : Ending → World → Prop) : lawNots_T cols_p cols_n cols_c zones_p zones_n zones_c n x0 x1 x2 x3 x4 x5_p x5_n x5_c w R = vcFn Tryd.prog [] [] Tryd.f4 [.slice cols_p cols_n cols_c, .slice zones_p zones_n zones_c, .int .i64 n, Value.agg
 #[.int .i64 x0, .string x1, .int .i64 x2, .int .i64 x3, .string x4, .slice x5_p x5_n x5_c]] w R := by kernel_rfl

set_option maxRecDepth 100000 in
theorem lawNots_vc (cols_p : Option Addr) (cols_n : Nat) (cols_c : Nat) (zones_p : Option Addr) (zones_n : Nat) (zones_c : Nat) (n : Int) (x0 : Int) (x1 : ByteArray) (x2 : Int) (x3 : Int) (x4 : ByteArray) (x5_p : Option Addr) (x5_n : Nat) (x5_c : Nat) (w : World) (R : Ending → World → Prop) (h : lawNots_T cols_p cols_n cols_c zones_p zones_n zones_c n x0 x1 x2 x3 x4 x5_p x5_n x5_c w R) : Calls Tryd.prog 4 #[.slice cols_p cols_n cols_c, .slice zones_p zones_n zones_c, .int .i64 n, Value.agg
 #[.int .i64 x0, .string x1, .int .i64 x2, .int .i64 x3, .string x4, .slice x5_p x5_n x5_c]] w R :=
  calls_of_vc (args := [.slice cols_p cols_n cols_c, .slice zones_p zones_n zones_c, .int .i64 n, Value.agg
 #[.int .i64 x0, .string x1, .int .i64 x2, .int .i64 x3, .string x4, .slice x5_p x5_n x5_c]]) [] [] Tryd.mixed Tryd.func4 (cast (lawNots_eq _ _ _ _ _ _ _ _ _ _ _ _ _ _ _ w R) h)

set_option maxRecDepth 100000 in
def lzones_T (cols_p : Option Addr) (cols_n : Nat) (cols_c : Nat) (rows_p : Option Addr) (rows_n : Nat) (rows_c : Nat) (w : World) (R : Ending → World → Prop) : Prop :=
  ∃ (I1 : Option Addr → Nat → Nat → Int → World → Prop), ∃ (M2 : Option Addr → Nat → Nat → Int → World → Nat), I1 none 0 0 0 w ∧ ∀ (p3 : Option Addr) (n4 c5 : Nat) (n6 : Int) (w'7 : World), I1 p3 n4 c5 n6 w'7 → (n6 < (↑cols_n : Int) → Calls Tryd.prog 20 #[.slice rows_p rows_n rows_c, .int .i64 n6] w'7 fun e10 w11 ↦
 ∃ p12 n13 c14, e10 = .returned (.slice p12 n13 c14) ∧ Calls Tryd.prog 19 #[.slice p12 n13 c14] w11 fun e15 w16 ↦
 ∃ n17, ∃ n18, ∃ n19, ∃ s20, ∃ n21, ∃ n22, ∃ s23, ∃ n24, e15 =
 .returned
 (Value.tuple
 #[Value.agg
 #[.int .i64 n17, .int .i64 n18, .int .i64 n19, .string s20, .int .i64 n21, .int .i64 n22, .string s23], .int .i64 n24]) ∧ ∀ b25 w'26, New w16
 (Obj.cells
 #[.int .i64 0, .int .i64 0, .int .i64 0, .string ⟨#[]⟩, .int .i64 0, .int .i64 0, .string ⟨#[]⟩]
 50)
 b25 w'26 → CW w'26 b25 0 fun _ ↦ CW w'26 b25 1 fun _ ↦ CW w'26 b25 2 fun _ ↦ CW w'26 b25 3 fun _ ↦ CW w'26 b25 4 fun _ ↦ CW w'26 b25 5 fun _ ↦ CW w'26 b25 6 fun _ ↦ ∀ w'35, Put w'26 b25 0
 [.int .i64 n17, .int .i64 n18, .int .i64 n19, .string s20, .int .i64 n21, .int .i64 n22, .string s23]
 w'35 → RI w'35 b25 0 fun n37 ↦ RI w'35 b25 1 fun n38 ↦ RI w'35 b25 2 fun n39 ↦ RS w'35 b25 3 fun s40 ↦ RI w'35 b25 4 fun n41 ↦ RI w'35 b25 5 fun n42 ↦ RS w'35 b25 6 fun s43 ↦ ∀ b44 w'45, New w'35
 (Obj.cells
 #[.int .i64 n37, .int .i64 n38, .int .i64 n39, .string s40, .int .i64 n41, .int .i64 n42, .string s43]
 50)
 b44 w'45 → ∃ p47 n48 c49, ∃ (w'50 : World), Sem.run Tryd.prog (Builtin.append_ #[33, 33] 33 #[.slice p3 n4 c5, .slice (some ⟨b44, 0, none⟩) 1 1]) w'45 = Result.ok (.slice p47 n48 c49) w'50 ∧ I1 p47 n48 c49 (IntKind.i64.wrap (n6 + 1)) w'50 ∧ M2 p47 n48 c49 (IntKind.i64.wrap (n6 + 1)) w'50 < M2 p3 n4 c5 n6 w'7) ∧ ((↑cols_n : Int) ≤ n6 → R (.returned (.slice p3 n4 c5)) w'7)

set_option maxRecDepth 100000 in
theorem lzones_eq (cols_p : Option Addr) (cols_n : Nat) (cols_c : Nat) (rows_p : Option Addr) (rows_n : Nat) (rows_c : Nat) (w : World) (R : Ending → World → Prop) : lzones_T cols_p cols_n cols_c rows_p rows_n rows_c w R = vcFn Tryd.prog [] [] Tryd.f10 [.slice cols_p cols_n cols_c, .slice rows_p rows_n rows_c] w R := by kernel_rfl

set_option maxRecDepth 100000 in
theorem lzones_vc (cols_p : Option Addr) (cols_n : Nat) (cols_c : Nat) (rows_p : Option Addr) (rows_n : Nat) (rows_c : Nat) (w : World) (R : Ending → World → Prop) (h : lzones_T cols_p cols_n cols_c rows_p rows_n rows_c w R) : Calls Tryd.prog 10 #[.slice cols_p cols_n cols_c, .slice rows_p rows_n rows_c] w R :=
  calls_of_vc (args := [.slice cols_p cols_n cols_c, .slice rows_p rows_n rows_c]) [] [] Tryd.mixed Tryd.func10 (cast (lzones_eq _ _ _ _ _ _ w R) h)

set_option maxRecDepth 100000 in
def lwider_T (a_p : Option Addr) (a_n : Nat) (a_c : Nat) (b_p : Option Addr) (b_n : Nat) (b_c : Nat) (w : World) (R : Ending → World → Prop) : Prop :=
  ∃ (I1 : Option Addr → Nat → Nat → Int → World → Prop), ∃ (M2 : Option Addr → Nat → Nat → Int → World → Nat), I1 none 0 0 0 w ∧ ∀ (p3 : Option Addr) (n4 c5 : Nat) (n6 : Int) (w'7 : World), I1 p3 n4 c5 n6 w'7 → (n6 < (↑a_n : Int) → ∃ b10, ∃ o11, a_p = some ⟨b10, o11, none⟩ ∧ 0 ≤ n6 ∧ n6 < (↑a_n : Int) ∧ RI w'7 b10 (o11 + n6.toNat * 7) fun n12 ↦ RI w'7 b10 (o11 + n6.toNat * 7 + 1) fun n13 ↦ RI w'7 b10 (o11 + n6.toNat * 7 + 2) fun n14 ↦ RS w'7 b10 (o11 + n6.toNat * 7 + 3) fun s15 ↦ RI w'7 b10 (o11 + n6.toNat * 7 + 4) fun n16 ↦ RI w'7 b10 (o11 + n6.toNat * 7 + 5) fun n17 ↦ RS w'7 b10 (o11 + n6.toNat * 7 + 6) fun s18 ↦ ∀ b19 w'20, New w'7
 (Obj.cells
 #[.int .i64 0, .int .i64 0, .int .i64 0, .string ⟨#[]⟩, .int .i64 0, .int .i64 0, .string ⟨#[]⟩]
 50)
 b19 w'20 → CW w'20 b19 0 fun _ ↦ CW w'20 b19 1 fun _ ↦ CW w'20 b19 2 fun _ ↦ CW w'20 b19 3 fun _ ↦ CW w'20 b19 4 fun _ ↦ CW w'20 b19 5 fun _ ↦ CW w'20 b19 6 fun _ ↦ ∀ w'29, Put w'20 b19 0
 [.int .i64 n12, .int .i64 n13, .int .i64 n14, .string s15, .int .i64 n16, .int .i64 n17, .string s18]
 w'29 → RI w'29 b19 1 fun n31 ↦ (n31 = 0 → ∃ b33, ∃ o34, b_p = some ⟨b33, o34, none⟩ ∧ 0 ≤ n6 ∧ n6 < (↑b_n : Int) ∧ RI w'29 b33 (o34 + n6.toNat * 7 + 1) fun n35 ↦ RI w'29 b33 (o34 + n6.toNat * 7 + 1 + 1) fun n36 ↦ RS w'29 b33 (o34 + n6.toNat * 7 + 1 + 2) fun s37 ↦ CW w'29 b19 1 fun _ ↦ CW w'29 b19 2 fun _ ↦ CW w'29 b19 3 fun _ ↦ ∀ w'41, Put w'29 b19 1 [.int .i64 n35, .int .i64 n36, .string s37] w'41 → ∃ b43, ∃ o44, b_p = some ⟨b43, o44, none⟩ ∧ 0 ≤ n6 ∧ n6 < (↑b_n : Int) ∧ RI w'41 b43 (o44 + n6.toNat * 7 + 4) fun n45 ↦ RI w'41 b43 (o44 + n6.toNat * 7 + 4 + 1) fun n46 ↦ RS w'41 b43 (o44 + n6.toNat * 7 + 4 + 2) fun s47 ↦ CW w'41 b19 4 fun _ ↦ CW w'41 b19 5 fun _ ↦ CW w'41 b19 6 fun _ ↦ ∀ w'51, Put w'41 b19 4 [.int .i64 n45, .int .i64 n46, .string s47] w'51 → ∀ w'53, Drew w'51 w'53 → RI w'53 b19 0 fun n55 ↦ ∃ b56, ∃ o57, b_p = some ⟨b56, o57, none⟩ ∧ 0 ≤ n6 ∧ n6 < (↑b_n : Int) ∧ RI w'53 b56 (o57 + n6.toNat * 7) fun n58 ↦ CW w'53 b19 0 fun _ ↦ ∀ w'60, Put w'53 b19 0 [.int .i64 (IntKind.i64.wrap (n55 + n58))] w'60 → RI w'60 b19 0 fun n62 ↦ RI w'60 b19 1 fun n63 ↦ RI w'60 b19 2 fun n64 ↦ RS w'60 b19 3 fun s65 ↦ RI w'60 b19 4 fun n66 ↦ RI w'60 b19 5 fun n67 ↦ RS w'60 b19 6 fun s68 ↦ ∀ b69 w'70, New w'60
 (Obj.cells
 #[.int .i64 n62, .int .i64 n63, .int .i64 n64, .string s65, .int .i64 n66, .int .i64 n67, .string s68]
 50)
 b69 w'70 → ∃ p72 n73 c74, ∃ (w'75 : World), Sem.run Tryd.prog (Builtin.append_ #[33, 33] 33 #[.slice p3 n4 c5, .slice (some ⟨b69, 0, none⟩) 1 1]) w'70 = Result.ok (.slice p72 n73 c74) w'75 ∧ I1 p72 n73 c74 (IntKind.i64.wrap (n6 + 1)) w'75 ∧ M2 p72 n73 c74 (IntKind.i64.wrap (n6 + 1)) w'75 < M2 p3 n4 c5 n6 w'7) ∧ (n31 ≠ 0 → ∃ b77, ∃ o78, b_p = some ⟨b77, o78, none⟩ ∧ 0 ≤ n6 ∧ n6 < (↑b_n : Int) ∧ RI w'29 b77 (o78 + n6.toNat * 7 + 1) fun n79 ↦ (n79 ≠ 0 → ∀ w'81, Drew w'29 w'81 → RI w'81 b19 1 fun n83 ↦ RI w'81 b19 2 fun n84 ↦ RS w'81 b19 3 fun s85 ↦ RI w'81 b19 4 fun n86 ↦ RI w'81 b19 5 fun n87 ↦ RS w'81 b19 6 fun s88 ↦ ∃ b89, ∃ o90, b_p = some ⟨b89, o90, none⟩ ∧ 0 ≤ n6 ∧ n6 < (↑b_n : Int) ∧ RI w'81 b89 (o90 + n6.toNat * 7 + 1) fun n91 ↦ RI w'81 b89 (o90 + n6.toNat * 7 + 1 + 1) fun n92 ↦ RS w'81 b89 (o90 + n6.toNat * 7 + 1 + 2) fun s93 ↦ ∃ b94, ∃ o95, b_p = some ⟨b94, o95, none⟩ ∧ 0 ≤ n6 ∧ n6 < (↑b_n : Int) ∧ RI w'81 b94 (o95 + n6.toNat * 7 + 4) fun n96 ↦ RI w'81 b94 (o95 + n6.toNat * 7 + 4 + 1) fun n97 ↦ RS w'81 b94 (o95 + n6.toNat * 7 + 4 + 2) fun s98 ↦ (∀ b99 w'100, New w'81
 (Obj.cells
 #[.int .i64 n83, .int .i64 n84, .string s85, .int .i64 n86, .int .i64 n87, .string s88, .int .i64 n91, .int .i64 n92, .string s93, .int .i64 n96, .int .i64 n97, .string s98]
 25)
 b99 w'100 → (Calls Tryd.prog 19 #[.slice (some ⟨b99, 0, none⟩) 4 4] w'100 fun e102 w103 ↦
 ∃ n104, ∃ n105, ∃ n106, ∃ s107, ∃ n108, ∃ n109, ∃ s110, ∃ n111, e102 =
 .returned
 (Value.tuple
 #[Value.agg
 #[.int .i64 n104, .int .i64 n105, .int .i64 n106, .string s107, .int .i64 n108, .int .i64 n109, .string s110], .int .i64 n111]) ∧ ∀ b112 w'113, New w103
 (Obj.cells
 #[.int .i64 0, .int .i64 0, .int .i64 0, .string ⟨#[]⟩, .int .i64 0, .int .i64 0, .string ⟨#[]⟩]
 50)
 b112 w'113 → SameTo w'81 w103 w'113 ∧ CW w'113 b112 0 fun _ ↦ CW w'113 b112 1 fun _ ↦ CW w'113 b112 2 fun _ ↦ CW w'113 b112 3 fun _ ↦ CW w'113 b112 4 fun _ ↦ CW w'113 b112 5 fun _ ↦ CW w'113 b112 6 fun _ ↦ ∀ w'122, Put w'113 b112 0
 [.int .i64 n104, .int .i64 n105, .int .i64 n106, .string s107, .int .i64 n108, .int .i64 n109, .string s110]
 w'122 → RI w'122 b112 1 fun n124 ↦ RI w'122 b112 2 fun n125 ↦ RS w'122 b112 3 fun s126 ↦ CW w'122 b19 1 fun _ ↦ CW w'122 b19 2 fun _ ↦ CW w'122 b19 3 fun _ ↦ ∀ w'130, Put w'122 b19 1 [.int .i64 n124, .int .i64 n125, .string s126] w'130 → RI w'130 b112 4 fun n132 ↦ RI w'130 b112 5 fun n133 ↦ RS w'130 b112 6 fun s134 ↦ CW w'130 b19 4 fun _ ↦ CW w'130 b19 5 fun _ ↦ CW w'130 b19 6 fun _ ↦ ∀ w'138, Put w'130 b19 4 [.int .i64 n132, .int .i64 n133, .string s134] w'138 → ∀ w'140, Drew w'138 w'140 → RI w'140 b19 0 fun n142 ↦ ∃ b143, ∃ o144, b_p = some ⟨b143, o144, none⟩ ∧ 0 ≤ n6 ∧ n6 < (↑b_n : Int) ∧ RI w'140 b143 (o144 + n6.toNat * 7) fun n145 ↦ CW w'140 b19 0 fun _ ↦ ∀ w'147, Put w'140 b19 0 [.int .i64 (IntKind.i64.wrap (n142 + n145))] w'147 → RI w'147 b19 0 fun n149 ↦ RI w'147 b19 1 fun n150 ↦ RI w'147 b19 2 fun n151 ↦ RS w'147 b19 3 fun s152 ↦ RI w'147 b19 4 fun n153 ↦ RI w'147 b19 5 fun n154 ↦ RS w'147 b19 6 fun s155 ↦ ∀ b156 w'157, New w'147
 (Obj.cells
 #[.int .i64 n149, .int .i64 n150, .int .i64 n151, .string s152, .int .i64 n153, .int .i64 n154, .string s155]
 50)
 b156 w'157 → ∃ p159 n160 c161, ∃ (w'162 : World), Sem.run Tryd.prog (Builtin.append_ #[33, 33] 33 #[.slice p3 n4 c5, .slice (some ⟨b156, 0, none⟩) 1 1]) w'157 =
 Result.ok (.slice p159 n160 c161) w'162 ∧ I1 p159 n160 c161 (IntKind.i64.wrap (n6 + 1)) w'162 ∧ M2 p159 n160 c161 (IntKind.i64.wrap (n6 + 1)) w'162 < M2 p3 n4 c5 n6 w'7) ∧ ∀ b163 w'164, New w'100
 (Obj.cells
 #[.int .i64 0, .int .i64 0, .int .i64 0, .string ⟨#[]⟩, .int .i64 0, .int .i64 0, .string ⟨#[]⟩]
 50)
 b163 w'164 → SameTo w'81 w'100 w'164 ∧ Calls Tryd.prog 19 #[.slice (some ⟨b99, 0, none⟩) 4 4] w'164 fun e166 w167 ↦
 ∃ n168, ∃ n169, ∃ n170, ∃ s171, ∃ n172, ∃ n173, ∃ s174, ∃ n175, e166 =
 .returned
 (Value.tuple
 #[Value.agg
 #[.int .i64 n168, .int .i64 n169, .int .i64 n170, .string s171, .int .i64 n172, .int .i64 n173, .string s174], .int .i64 n175]) ∧ CW w167 b163 0 fun _ ↦ CW w167 b163 1 fun _ ↦ CW w167 b163 2 fun _ ↦ CW w167 b163 3 fun _ ↦ CW w167 b163 4 fun _ ↦ CW w167 b163 5 fun _ ↦ CW w167 b163 6 fun _ ↦ ∀ w'183, Put w167 b163 0
 [.int .i64 n168, .int .i64 n169, .int .i64 n170, .string s171, .int .i64 n172, .int .i64 n173, .string s174]
 w'183 → RI w'183 b163 1 fun n185 ↦ RI w'183 b163 2 fun n186 ↦ RS w'183 b163 3 fun s187 ↦ CW w'183 b19 1 fun _ ↦ CW w'183 b19 2 fun _ ↦ CW w'183 b19 3 fun _ ↦ ∀ w'191, Put w'183 b19 1 [.int .i64 n185, .int .i64 n186, .string s187] w'191 → RI w'191 b163 4 fun n193 ↦ RI w'191 b163 5 fun n194 ↦ RS w'191 b163 6 fun s195 ↦ CW w'191 b19 4 fun _ ↦ CW w'191 b19 5 fun _ ↦ CW w'191 b19 6 fun _ ↦ ∀ w'199, Put w'191 b19 4 [.int .i64 n193, .int .i64 n194, .string s195] w'199 → ∀ w'201, Drew w'199 w'201 → RI w'201 b19 0 fun n203 ↦ ∃ b204, ∃ o205, b_p = some ⟨b204, o205, none⟩ ∧ 0 ≤ n6 ∧ n6 < (↑b_n : Int) ∧ RI w'201 b204 (o205 + n6.toNat * 7) fun n206 ↦ CW w'201 b19 0 fun _ ↦ ∀ w'208, Put w'201 b19 0 [.int .i64 (IntKind.i64.wrap (n203 + n206))] w'208 → RI w'208 b19 0 fun n210 ↦ RI w'208 b19 1 fun n211 ↦ RI w'208 b19 2 fun n212 ↦ RS w'208 b19 3 fun s213 ↦ RI w'208 b19 4 fun n214 ↦ RI w'208 b19 5 fun n215 ↦ RS w'208 b19 6 fun s216 ↦ ∀ b217 w'218, New w'208
 (Obj.cells
 #[.int .i64 n210, .int .i64 n211, .int .i64 n212, .string s213, .int .i64 n214, .int .i64 n215, .string s216]
 50)
 b217 w'218 → ∃ p220 n221 c222, ∃ (w'223 : World), Sem.run Tryd.prog (Builtin.append_ #[33, 33] 33 #[.slice p3 n4 c5, .slice (some ⟨b217, 0, none⟩) 1 1]) w'218 =
 Result.ok (.slice p220 n221 c222) w'223 ∧ I1 p220 n221 c222 (IntKind.i64.wrap (n6 + 1)) w'223 ∧ M2 p220 n221 c222 (IntKind.i64.wrap (n6 + 1)) w'223 < M2 p3 n4 c5 n6 w'7) ∧ ∀ b224 w'225, New w'81
 (Obj.cells
 #[.int .i64 0, .int .i64 0, .int .i64 0, .string ⟨#[]⟩, .int .i64 0, .int .i64 0, .string ⟨#[]⟩]
 50)
 b224 w'225 → SameTo w'81 w'81 w'225 ∧ ∀ b227 w'228, New w'225
 (Obj.cells
 #[.int .i64 n83, .int .i64 n84, .string s85, .int .i64 n86, .int .i64 n87, .string s88, .int .i64 n91, .int .i64 n92, .string s93, .int .i64 n96, .int .i64 n97, .string s98]
 25)
 b227 w'228 → Calls Tryd.prog 19 #[.slice (some ⟨b227, 0, none⟩) 4 4] w'228 fun e230 w231 ↦
 ∃ n232, ∃ n233, ∃ n234, ∃ s235, ∃ n236, ∃ n237, ∃ s238, ∃ n239, e230 =
 .returned
 (Value.tuple
 #[Value.agg
 #[.int .i64 n232, .int .i64 n233, .int .i64 n234, .string s235, .int .i64 n236, .int .i64 n237, .string s238], .int .i64 n239]) ∧ CW w231 b224 0 fun _ ↦ CW w231 b224 1 fun _ ↦ CW w231 b224 2 fun _ ↦ CW w231 b224 3 fun _ ↦ CW w231 b224 4 fun _ ↦ CW w231 b224 5 fun _ ↦ CW w231 b224 6 fun _ ↦ ∀ w'247, Put w231 b224 0
 [.int .i64 n232, .int .i64 n233, .int .i64 n234, .string s235, .int .i64 n236, .int .i64 n237, .string s238]
 w'247 → RI w'247 b224 1 fun n249 ↦ RI w'247 b224 2 fun n250 ↦ RS w'247 b224 3 fun s251 ↦ CW w'247 b19 1 fun _ ↦ CW w'247 b19 2 fun _ ↦ CW w'247 b19 3 fun _ ↦ ∀ w'255, Put w'247 b19 1 [.int .i64 n249, .int .i64 n250, .string s251] w'255 → RI w'255 b224 4 fun n257 ↦ RI w'255 b224 5 fun n258 ↦ RS w'255 b224 6 fun s259 ↦ CW w'255 b19 4 fun _ ↦ CW w'255 b19 5 fun _ ↦ CW w'255 b19 6 fun _ ↦ ∀ w'263, Put w'255 b19 4 [.int .i64 n257, .int .i64 n258, .string s259] w'263 → ∀ w'265, Drew w'263 w'265 → RI w'265 b19 0 fun n267 ↦ ∃ b268, ∃ o269, b_p = some ⟨b268, o269, none⟩ ∧ 0 ≤ n6 ∧ n6 < (↑b_n : Int) ∧ RI w'265 b268 (o269 + n6.toNat * 7) fun n270 ↦ CW w'265 b19 0 fun _ ↦ ∀ w'272, Put w'265 b19 0 [.int .i64 (IntKind.i64.wrap (n267 + n270))] w'272 → RI w'272 b19 0 fun n274 ↦ RI w'272 b19 1 fun n275 ↦ RI w'272 b19 2 fun n276 ↦ RS w'272 b19 3 fun s277 ↦ RI w'272 b19 4 fun n278 ↦ RI w'272 b19 5 fun n279 ↦ RS w'272 b19 6 fun s280 ↦ ∀ b281 w'282, New w'272
 (Obj.cells
 #[.int .i64 n274, .int .i64 n275, .int .i64 n276, .string s277, .int .i64 n278, .int .i64 n279, .string s280]
 50)
 b281 w'282 → ∃ p284 n285 c286, ∃ (w'287 : World), Sem.run Tryd.prog (Builtin.append_ #[33, 33] 33 #[.slice p3 n4 c5, .slice (some ⟨b281, 0, none⟩) 1 1]) w'282 =
 Result.ok (.slice p284 n285 c286) w'287 ∧ I1 p284 n285 c286 (IntKind.i64.wrap (n6 + 1)) w'287 ∧ M2 p284 n285 c286 (IntKind.i64.wrap (n6 + 1)) w'287 < M2 p3 n4 c5 n6 w'7) ∧ (n79 = 0 → ∀ w'289, Drew w'29 w'289 → RI w'289 b19 0 fun n291 ↦ ∃ b292, ∃ o293, b_p = some ⟨b292, o293, none⟩ ∧ 0 ≤ n6 ∧ n6 < (↑b_n : Int) ∧ RI w'289 b292 (o293 + n6.toNat * 7) fun n294 ↦ CW w'289 b19 0 fun _ ↦ ∀ w'296, Put w'289 b19 0 [.int .i64 (IntKind.i64.wrap (n291 + n294))] w'296 → RI w'296 b19 0 fun n298 ↦ RI w'296 b19 1 fun n299 ↦ RI w'296 b19 2 fun n300 ↦ RS w'296 b19 3 fun s301 ↦ RI w'296 b19 4 fun n302 ↦ RI w'296 b19 5 fun n303 ↦ RS w'296 b19 6 fun s304 ↦ ∀ b305 w'306, New w'296
 (Obj.cells
 #[.int .i64 n298, .int .i64 n299, .int .i64 n300, .string s301, .int .i64 n302, .int .i64 n303, .string s304]
 50)
 b305 w'306 → ∃ p308 n309 c310, ∃ (w'311 : World), Sem.run Tryd.prog (Builtin.append_ #[33, 33] 33 #[.slice p3 n4 c5, .slice (some ⟨b305, 0, none⟩) 1 1]) w'306 =
 Result.ok (.slice p308 n309 c310) w'311 ∧ I1 p308 n309 c310 (IntKind.i64.wrap (n6 + 1)) w'311 ∧ M2 p308 n309 c310 (IntKind.i64.wrap (n6 + 1)) w'311 < M2 p3 n4 c5 n6 w'7))) ∧ ((↑a_n : Int) ≤ n6 → R (.returned (.slice p3 n4 c5)) w'7)

set_option maxRecDepth 100000 in
theorem lwider_eq (a_p : Option Addr) (a_n : Nat) (a_c : Nat) (b_p : Option Addr) (b_n : Nat) (b_c : Nat) (w : World) (R : Ending → World → Prop) : lwider_T a_p a_n a_c b_p b_n b_c w R = vcFn Tryd.prog [] [(10, [2, 4, 6, 8, 10, 12, 14, 16, 18, 20, 22, 24, 26, 28, 1, 30, 1, 32, 34, 36, 38, 41, 42, 44, 0, 41, 32, 34, 36, 38, 42, 44, 0, 41, 30, 32, 34, 36, 38, 42, 44, 0]), (13, [2, 4, 6, 8, 10, 12, 14, 16, 18, 20, 0])] Tryd.f9 [.slice a_p a_n a_c, .slice b_p b_n b_c] w R := by kernel_rfl

set_option maxRecDepth 100000 in
theorem lwider_vc (a_p : Option Addr) (a_n : Nat) (a_c : Nat) (b_p : Option Addr) (b_n : Nat) (b_c : Nat) (w : World) (R : Ending → World → Prop) (h : lwider_T a_p a_n a_c b_p b_n b_c w R) : Calls Tryd.prog 9 #[.slice a_p a_n a_c, .slice b_p b_n b_c] w R :=
  calls_of_vc (args := [.slice a_p a_n a_c, .slice b_p b_n b_c]) [] [(10, [2, 4, 6, 8, 10, 12, 14, 16, 18, 20, 22, 24, 26, 28, 1, 30, 1, 32, 34, 36, 38, 41, 42, 44, 0, 41, 32, 34, 36, 38, 42, 44, 0, 41, 30, 32, 34, 36, 38, 42, 44, 0]), (13, [2, 4, 6, 8, 10, 12, 14, 16, 18, 20, 0])] Tryd.mixed Tryd.func9 (cast (lwider_eq _ _ _ _ _ _ w R) h)

set_option maxRecDepth 100000 in
def lawSound_T (cols_p : Option Addr) (cols_n : Nat) (cols_c : Nat) (rows_p : Option Addr) (rows_n : Nat) (rows_c : Nat) (x0 : Int) (x1 : ByteArray) (x2 : Int) (x3 : Int) (x4 : ByteArray) (x5_p : Option Addr) (x5_n : Nat) (x5_c : Nat) (w : World) (R : Ending → World → Prop) : Prop :=
  ∀ b1 w'2, New w (Obj.cells #[.int .i64 x0, .string x1, .int .i64 x2, .int .i64 x3, .string x4, .slice x5_p x5_n x5_c] 28) b1
 w'2 → Calls Tryd.prog 7 #[] w'2 fun e4 w5 ↦
 ∃ b6, e4 = .returned (.bool b6) ∧ 0 ≤ mmI false (↑rows_n : Int) 100 ∧ mmI false (↑rows_n : Int) 100 ≤ (↑rows_c : Int) ∧ ∃ (I7 : Int → World → Prop), ∃ (M8 : Int → World → Nat), I7 0 w5 ∧ ∀ (n9 : Int) (w'10 : World), I7 n9 w'10 → (n9 < (↑(mmI false (↑rows_n : Int) 100).toNat : Int) → ∃ b13, ∃ o14, rows_p = some ⟨b13, o14, none⟩ ∧ 0 ≤ n9 ∧ n9 < (↑(mmI false (↑rows_n : Int) 100).toNat : Int) ∧ RL w'10 b13 (o14 + n9.toNat) fun p15 n16 c17 ↦ Calls Tryd.prog 8 #[.slice cols_p cols_n cols_c, .slice p15 n16 c17] w'10 fun e18 w19 ↦
 ∃ b20, e18 = .returned (.bool b20) ∧ (b20 = false → R (.returned (.bool b6)) w19) ∧ (b20 = true → I7 (IntKind.i64.wrap (n9 + 1)) w19 ∧ M8 (IntKind.i64.wrap (n9 + 1)) w19 < M8 n9 w'10)) ∧ ((↑(mmI false (↑rows_n : Int) 100).toNat : Int) ≤ n9 → Calls Tryd.prog 10 #[.slice cols_p cols_n cols_c, .slice rows_p (mmI false (↑rows_n : Int) 100).toNat rows_c] w'10 fun e24 w25 ↦
 ∃ p26 n27 c28, e24 = .returned (.slice p26 n27 c28) ∧ RI w25 b1 0 fun n29 ↦ RS w25 b1 1 fun s30 ↦ RI w25 b1 2 fun n31 ↦ RI w25 b1 3 fun n32 ↦ RS w25 b1 4 fun s33 ↦ RL w25 b1 5 fun p34 n35 c36 ↦ Calls Tryd.prog 11
 #[.slice cols_p cols_n cols_c, .slice p26 n27 c28, .int .i64 (↑(mmI false (↑rows_n : Int) 100).toNat : Int), .agg #[.int .i64 n29, .string s30, .int .i64 n31, .int .i64 n32, .string s33, .slice p34 n35 c36]]
 w25 fun e37 w38 ↦
 ∃ n39, ∃ n40, e37 = .returned (.tuple #[.int .i64 n39, .int .i64 n40]) ∧ RI w38 b1 0 fun n41 ↦ RS w38 b1 1 fun s42 ↦ RI w38 b1 2 fun n43 ↦ RI w38 b1 3 fun n44 ↦ RS w38 b1 4 fun s45 ↦ RL w38 b1 5 fun p46 n47 c48 ↦ Calls Tryd.prog 13
 #[.slice cols_p cols_n cols_c, .slice p26 n27 c28, .int .i64 (↑(mmI false (↑rows_n : Int) 100).toNat : Int), .agg #[.int .i64 n41, .string s42, .int .i64 n43, .int .i64 n44, .string s45, .slice p46 n47 c48]]
 w38 fun e49 w50 ↦
 ∃ b51, ∃ n52, e49 = .returned (.tuple #[.bool b51, .int .i64 n52]) ∧ (n40 ≠ 0 ∨ n52 ≠ 0 → R (.returned (.bool (b6 && decide (n40 = n52)))) w50) ∧ (n40 = 0 ∧ n52 = 0 → ∃ (I55 : Int → World → Prop), ∃ (M56 : Int → World → Nat), I55 0 w50 ∧ ∀ (n57 : Int) (w'58 : World), I55 n57 w'58 → (n57 < (↑(mmI false (↑rows_n : Int) 100).toNat : Int) → ∀ w'61, Drew w'58 w'61 → ∃ b63, ∃ o64, rows_p = some ⟨b63, o64, none⟩ ∧ 0 ≤ n57 ∧ n57 < (↑(mmI false (↑rows_n : Int) 100).toNat : Int) ∧ RL w'61 b63 (o64 + n57.toNat) fun p65 n66 c67 ↦ RI w'61 b1 0 fun n68 ↦ RS w'61 b1 1 fun s69 ↦ RI w'61 b1 2 fun n70 ↦ RI w'61 b1 3 fun n71 ↦ RS w'61 b1 4 fun s72 ↦ RL w'61 b1 5 fun p73 n74 c75 ↦ (Calls Tryd.prog 15
 #[.slice cols_p cols_n cols_c, .slice p65 n66 c67, .agg #[.int .i64 n68, .string s69, .int .i64 n70, .int .i64 n71, .string s72, .slice p73 n74 c75]]
 w'61 fun e76 w77 ↦
 ∃ n78, ∃ n79, ∃ s80, ∃ n81, e76 = .returned (.tuple #[.agg #[.int .i64 n78, .int .i64 n79, .string s80], .int .i64 n81]) ∧ ∀ b82 w'83, New w77 (Obj.cells #[.int .i64 0, .int .i64 0, .string ⟨#[]⟩] 25) b82 w'83 → SameTo w'61 w77 w'83 ∧ CW w'83 b82 0 fun _ ↦ CW w'83 b82 1 fun _ ↦ CW w'83 b82 2 fun _ ↦ ∀ w'88, Put w'83 b82 0 [.int .i64 n78, .int .i64 n79, .string s80] w'88 → (n81 ≠ 0 → (b51 = false → R (.returned (.bool false)) w'88) ∧ (b51 = true → I55 (IntKind.i64.wrap (n57 + 1)) w'88 ∧ M56 (IntKind.i64.wrap (n57 + 1)) w'88 < M56 n57 w'58)) ∧ (n81 = 0 → RI w'88 b82 0 fun n94 ↦ (n94 = 2 → RI w'88 b82 1 fun n96 ↦ 0 ≤ n96 ∧ (bits BinOp.and IntKind.i64 n39 (shlI IntKind.i64 1 n96.toNat) = 0 → R (.returned (.bool false)) w'88) ∧ (bits BinOp.and IntKind.i64 n39 (shlI IntKind.i64 1 n96.toNat) ≠ 0 → (shlI IntKind.i64 1 n96.toNat = 2 ∧ b51 = false → R (.returned (.bool false)) w'88) ∧ (shlI IntKind.i64 1 n96.toNat ≠ 2 ∨ b51 = true → I55 (IntKind.i64.wrap (n57 + 1)) w'88 ∧ M56 (IntKind.i64.wrap (n57 + 1)) w'88 < M56 n57 w'58))) ∧ (n94 ≠ 2 → (bits BinOp.and IntKind.i64 n39 4 = 0 → R (.returned (.bool false)) w'88) ∧ (bits BinOp.and IntKind.i64 n39 4 ≠ 0 → ((4 : Int) = 2 ∧ b51 = false → R (.returned (.bool false)) w'88) ∧ ((4 : Int) ≠ 2 ∨ b51 = true → I55 (IntKind.i64.wrap (n57 + 1)) w'88 ∧ M56 (IntKind.i64.wrap (n57 + 1)) w'88 < M56 n57 w'58))))) ∧ ∀ b106 w'107, New w'61 (Obj.cells #[.int .i64 0, .int .i64 0, .string ⟨#[]⟩] 25) b106 w'107 → SameTo w'61 w'61 w'107 ∧ Calls Tryd.prog 15
 #[.slice cols_p cols_n cols_c, .slice p65 n66 c67, .agg #[.int .i64 n68, .string s69, .int .i64 n70, .int .i64 n71, .string s72, .slice p73 n74 c75]]
 w'107 fun e109 w110 ↦
 ∃ n111, ∃ n112, ∃ s113, ∃ n114, e109 = .returned (.tuple #[.agg #[.int .i64 n111, .int .i64 n112, .string s113], .int .i64 n114]) ∧ CW w110 b106 0 fun _ ↦ CW w110 b106 1 fun _ ↦ CW w110 b106 2 fun _ ↦ ∀ w'118, Put w110 b106 0 [.int .i64 n111, .int .i64 n112, .string s113] w'118 → (n114 ≠ 0 → (b51 = false → R (.returned (.bool false)) w'118) ∧ (b51 = true → I55 (IntKind.i64.wrap (n57 + 1)) w'118 ∧ M56 (IntKind.i64.wrap (n57 + 1)) w'118 < M56 n57 w'58)) ∧ (n114 = 0 → RI w'118 b106 0 fun n124 ↦ (n124 = 2 → RI w'118 b106 1 fun n126 ↦ 0 ≤ n126 ∧ (bits BinOp.and IntKind.i64 n39 (shlI IntKind.i64 1 n126.toNat) = 0 → R (.returned (.bool false)) w'118) ∧ (bits BinOp.and IntKind.i64 n39 (shlI IntKind.i64 1 n126.toNat) ≠ 0 → (shlI IntKind.i64 1 n126.toNat = 2 ∧ b51 = false → R (.returned (.bool false)) w'118) ∧ (shlI IntKind.i64 1 n126.toNat ≠ 2 ∨ b51 = true → I55 (IntKind.i64.wrap (n57 + 1)) w'118 ∧ M56 (IntKind.i64.wrap (n57 + 1)) w'118 < M56 n57 w'58))) ∧ (n124 ≠ 2 → (bits BinOp.and IntKind.i64 n39 4 = 0 → R (.returned (.bool false)) w'118) ∧ (bits BinOp.and IntKind.i64 n39 4 ≠ 0 → ((4 : Int) = 2 ∧ b51 = false → R (.returned (.bool false)) w'118) ∧ ((4 : Int) ≠ 2 ∨ b51 = true → I55 (IntKind.i64.wrap (n57 + 1)) w'118 ∧ M56 (IntKind.i64.wrap (n57 + 1)) w'118 < M56 n57 w'58))))) ∧ ((↑(mmI false (↑rows_n : Int) 100).toNat : Int) ≤ n57 → R (.returned (.bool b6)) w'58)))

set_option maxRecDepth 100000 in
theorem lawSound_eq (cols_p : Option Addr) (cols_n : Nat) (cols_c : Nat) (rows_p : Option Addr) (rows_n : Nat) (rows_c : Nat) (x0 : Int) (x1 : ByteArray) (x2 : Int) (x3 : Int) (x4 : ByteArray) (x5_p : Option Addr) (x5_n : Nat) (x5_c : Nat) (w : World) (R : Ending → World → Prop) : lawSound_T cols_p cols_n cols_c rows_p rows_n rows_c x0 x1 x2 x3 x4 x5_p x5_n x5_c w R = vcFn Tryd.prog [] [(17, [2, 4, 6, 8, 10, 12, 1, 14, 16, 18, 20, 23, 24, 26, 0, 23, 14, 16, 18, 20, 24, 26, 0])] Tryd.f6 [.slice cols_p cols_n cols_c, .slice rows_p rows_n rows_c, Value.agg
 #[.int .i64 x0, .string x1, .int .i64 x2, .int .i64 x3, .string x4, .slice x5_p x5_n x5_c]] w R := by kernel_rfl

set_option maxRecDepth 100000 in
theorem lawSound_vc (cols_p : Option Addr) (cols_n : Nat) (cols_c : Nat) (rows_p : Option Addr) (rows_n : Nat) (rows_c : Nat) (x0 : Int) (x1 : ByteArray) (x2 : Int) (x3 : Int) (x4 : ByteArray) (x5_p : Option Addr) (x5_n : Nat) (x5_c : Nat) (w : World) (R : Ending → World → Prop) (h : lawSound_T cols_p cols_n cols_c rows_p rows_n rows_c x0 x1 x2 x3 x4 x5_p x5_n x5_c w R) : Calls Tryd.prog 6 #[.slice cols_p cols_n cols_c, .slice rows_p rows_n rows_c, Value.agg
 #[.int .i64 x0, .string x1, .int .i64 x2, .int .i64 x3, .string x4, .slice x5_p x5_n x5_c]] w R :=
  calls_of_vc (args := [.slice cols_p cols_n cols_c, .slice rows_p rows_n rows_c, Value.agg
 #[.int .i64 x0, .string x1, .int .i64 x2, .int .i64 x3, .string x4, .slice x5_p x5_n x5_c]]) [] [(17, [2, 4, 6, 8, 10, 12, 1, 14, 16, 18, 20, 23, 24, 26, 0, 23, 14, 16, 18, 20, 24, 26, 0])] Tryd.mixed Tryd.func6 (cast (lawSound_eq _ _ _ _ _ _ _ _ _ _ _ _ _ _ w R) h)

set_option maxRecDepth 100000 in
def lawWider_T (cols_p : Option Addr) (cols_n : Nat) (cols_c : Nat) (a_p : Option Addr) (a_n : Nat) (a_c : Nat) (b_p : Option Addr) (b_n : Nat) (b_c : Nat) (x0 : Int) (x1 : ByteArray) (x2 : Int) (x3 : Int) (x4 : ByteArray) (x5_p : Option Addr) (x5_n : Nat) (x5_c : Nat) (w : World) (R : Ending → World → Prop) : Prop :=
  ∀ b1 w'2, New w (Obj.cells #[.int .i64 x0, .string x1, .int .i64 x2, .int .i64 x3, .string x4, .slice x5_p x5_n x5_c] 28) b1
 w'2 → Calls Tryd.prog 7 #[] w'2 fun e4 w5 ↦
 ∃ b6, e4 = .returned (.bool b6) ∧ 0 ≤ mmI false (↑a_n : Int) 100 ∧ mmI false (↑a_n : Int) 100 ≤ (↑a_c : Int) ∧ 0 ≤ mmI false (↑b_n : Int) 100 ∧ mmI false (↑b_n : Int) 100 ≤ (↑b_c : Int) ∧ (0 : Int) ≤ 0 ∧ 0 ≤ IntKind.i64.wrap ((↑(mmI false (↑a_n : Int) 100).toNat : Int) + (↑(mmI false (↑b_n : Int) 100).toNat : Int)) ∧ 24 * IntKind.i64.wrap ((↑(mmI false (↑a_n : Int) 100).toNat : Int) + (↑(mmI false (↑b_n : Int) 100).toNat : Int)) ≤ 281474976710656 ∧ IntKind.i64.wrap ((↑(mmI false (↑a_n : Int) 100).toNat : Int) + (↑(mmI false (↑b_n : Int) 100).toNat : Int)) ≤ 9223372036854775807 ∧ ∀ b7 w'8, New w5
 (Obj.cells (madeCells #[.slice none 0 0] (IntKind.i64.wrap ((↑(mmI false (↑a_n : Int) 100).toNat : Int) + (↑(mmI false (↑b_n : Int) 100).toNat : Int))).toNat) 32) b7
 w'8 → ∃ p10 n11 c12, ∃ (w'13 : World), Sem.run Tryd.prog
 (Builtin.append_ #[23, 23] 23
 #[.slice (some ⟨b7, 0, none⟩) 0 (IntKind.i64.wrap ((↑(mmI false (↑a_n : Int) 100).toNat : Int) + (↑(mmI false (↑b_n : Int) 100).toNat : Int))).toNat, .slice a_p (mmI false (↑a_n : Int) 100).toNat a_c])
 w'8 =
 Result.ok (.slice p10 n11 c12) w'13 ∧ ∃ p14 n15 c16, ∃ (w'17 : World), Sem.run Tryd.prog (Builtin.append_ #[23, 23] 23 #[.slice p10 n11 c12, .slice b_p (mmI false (↑b_n : Int) 100).toNat b_c]) w'13 =
 Result.ok (.slice p14 n15 c16) w'17 ∧ ∃ (I18 : Int → World → Prop), ∃ (M19 : Int → World → Nat), I18 0 w'17 ∧ ∀ (n20 : Int) (w'21 : World), I18 n20 w'21 → (n20 < (↑n15 : Int) → ∃ b24, ∃ o25, p14 = some ⟨b24, o25, none⟩ ∧ 0 ≤ n20 ∧ n20 < (↑n15 : Int) ∧ RL w'21 b24 (o25 + n20.toNat) fun p26 n27 c28 ↦ Calls Tryd.prog 8 #[.slice cols_p cols_n cols_c, .slice p26 n27 c28] w'21 fun e29 w30 ↦
 ∃ b31, e29 = .returned (.bool b31) ∧ (b31 = false → R (.returned (.bool b6)) w30) ∧ (b31 = true → I18 (IntKind.i64.wrap (n20 + 1)) w30 ∧ M19 (IntKind.i64.wrap (n20 + 1)) w30 < M19 n20 w'21)) ∧ ((↑n15 : Int) ≤ n20 → Calls Tryd.prog 10 #[.slice cols_p cols_n cols_c, .slice a_p (mmI false (↑a_n : Int) 100).toNat a_c] w'21 fun e35 w36 ↦
 ∃ p37 n38 c39, e35 = .returned (.slice p37 n38 c39) ∧ Calls Tryd.prog 10 #[.slice cols_p cols_n cols_c, .slice b_p (mmI false (↑b_n : Int) 100).toNat b_c] w36 fun e40 w41 ↦
 ∃ p42 n43 c44, e40 = .returned (.slice p42 n43 c44) ∧ Calls Tryd.prog 9 #[.slice p37 n38 c39, .slice p42 n43 c44] w41 fun e45 w46 ↦
 ∃ p47 n48 c49, e45 = .returned (.slice p47 n48 c49) ∧ ∀ w'50, Drew w46 w'50 → RI w'50 b1 0 fun n52 ↦ RS w'50 b1 1 fun s53 ↦ RI w'50 b1 2 fun n54 ↦ RI w'50 b1 3 fun n55 ↦ RS w'50 b1 4 fun s56 ↦ RL w'50 b1 5 fun p57 n58 c59 ↦ Calls Tryd.prog 10 #[.slice cols_p cols_n cols_c, .slice a_p (mmI false (↑a_n : Int) 100).toNat a_c] w'50 fun e60 w61 ↦
 ∃ p62 n63 c64, e60 = .returned (.slice p62 n63 c64) ∧ SameTo w'50 w'50 w61 ∧ Calls Tryd.prog 11
 #[.slice cols_p cols_n cols_c, .slice p62 n63 c64, .int .i64 (↑(mmI false (↑a_n : Int) 100).toNat : Int), .agg #[.int .i64 n52, .string s53, .int .i64 n54, .int .i64 n55, .string s56, .slice p57 n58 c59]]
 w61 fun e65 w66 ↦
 ∃ n67, ∃ n68, e65 = .returned (.tuple #[.int .i64 n67, .int .i64 n68]) ∧ RI w66 b1 0 fun n69 ↦ RS w66 b1 1 fun s70 ↦ RI w66 b1 2 fun n71 ↦ RI w66 b1 3 fun n72 ↦ RS w66 b1 4 fun s73 ↦ RL w66 b1 5 fun p74 n75 c76 ↦ Calls Tryd.prog 11
 #[.slice cols_p cols_n cols_c, .slice p47 n48 c49, .int .i64 (↑n15 : Int), .agg #[.int .i64 n69, .string s70, .int .i64 n71, .int .i64 n72, .string s73, .slice p74 n75 c76]]
 w66 fun e77 w78 ↦
 ∃ n79, ∃ n80, e77 = .returned (.tuple #[.int .i64 n79, .int .i64 n80]) ∧ (n68 ≠ 0 ∨ n80 ≠ 0 → R (.returned (.bool (b6 && decide (n68 = n80)))) w78) ∧ (n68 = 0 ∧ n80 = 0 → R (.returned (.bool (b6 && decide (bits BinOp.and IntKind.i64 n67 n79 = n67)))) w78))

set_option maxRecDepth 100000 in
theorem lawWider_eq (cols_p : Option Addr) (cols_n : Nat) (cols_c : Nat) (a_p : Option Addr) (a_n : Nat) (a_c : Nat) (b_p : Option Addr) (b_n : Nat) (b_c : Nat) (x0 : Int) (x1 : ByteArray) (x2 : Int) (x3 : Int) (x4 : ByteArray) (x5_p : Option Addr) (x5_n : Nat) (x5_c : Nat) (w : World) (R : Ending → World → Prop) : lawWider_T cols_p cols_n cols_c a_p a_n a_c b_p b_n b_c x0 x1 x2 x3 x4 x5_p x5_n x5_c w R = vcFn Tryd.prog [] [(12, [2, 4, 6, 10, 12, 14, 9, 16, 18, 20, 22, 24, 26, 0])] Tryd.f3 [.slice cols_p cols_n cols_c, .slice a_p a_n a_c, .slice b_p b_n b_c, Value.agg
 #[.int .i64 x0, .string x1, .int .i64 x2, .int .i64 x3, .string x4, .slice x5_p x5_n x5_c]] w R := by kernel_rfl

set_option maxRecDepth 100000 in
theorem lawWider_vc (cols_p : Option Addr) (cols_n : Nat) (cols_c : Nat) (a_p : Option Addr) (a_n : Nat) (a_c : Nat) (b_p : Option Addr) (b_n : Nat) (b_c : Nat) (x0 : Int) (x1 : ByteArray) (x2 : Int) (x3 : Int) (x4 : ByteArray) (x5_p : Option Addr) (x5_n : Nat) (x5_c : Nat) (w : World) (R : Ending → World → Prop) (h : lawWider_T cols_p cols_n cols_c a_p a_n a_c b_p b_n b_c x0 x1 x2 x3 x4 x5_p x5_n x5_c w R) : Calls Tryd.prog 3 #[.slice cols_p cols_n cols_c, .slice a_p a_n a_c, .slice b_p b_n b_c, Value.agg
 #[.int .i64 x0, .string x1, .int .i64 x2, .int .i64 x3, .string x4, .slice x5_p x5_n x5_c]] w R :=
  calls_of_vc (args := [.slice cols_p cols_n cols_c, .slice a_p a_n a_c, .slice b_p b_n b_c, Value.agg
 #[.int .i64 x0, .string x1, .int .i64 x2, .int .i64 x3, .string x4, .slice x5_p x5_n x5_c]]) [] [(12, [2, 4, 6, 10, 12, 14, 9, 16, 18, 20, 22, 24, 26, 0])] Tryd.mixed Tryd.func3 (cast (lawWider_eq _ _ _ _ _ _ _ _ _ _ _ _ _ _ _ _ _ w R) h)


end Go.Proofs.YtpjafkcmbinjiaaDoor
