/- Texts of the proof, one behind the other. -/
import Derived.Test.YtaccokhdmhomhaaDoorMc
set_option linter.unusedVariables false
set_option linter.unusedSimpArgs false
/- The verification conditions of the functions, evaluated: printed by program. -/
namespace Go.Proofs.YtaccokhdmhomhaaDoor
open Go Go.Vc
set_option maxRecDepth 20000

set_option maxRecDepth 100000 in
def many_T (op : Int) (w : World) (R : Ending → World → Prop) : Prop :=
  (op = 1 → (op = 1 → R (.returned (.int .i64 0)) w) ∧ (op ≠ 1 → (op = 8 → (op = 8 → R (.returned (.int .i64 1)) w) ∧ (op ≠ 8 → (op = 3 → (op = 3 → R (.returned (.int .i64 2)) w) ∧ (op ≠ 3 → R (.returned (.int .i64 (-1))) w)) ∧ (op ≠ 3 → (op = 4 → (op = 4 → R (.returned (.int .i64 2)) w) ∧ (op ≠ 4 → R (.returned (.int .i64 (-1))) w)) ∧ (op ≠ 4 → (op = 5 → (op = 5 → R (.returned (.int .i64 2)) w) ∧ (op ≠ 5 → R (.returned (.int .i64 (-1))) w)) ∧ (op ≠ 5 → (op = 6 → (op = 6 → R (.returned (.int .i64 2)) w) ∧ (op ≠ 6 → R (.returned (.int .i64 (-1))) w)) ∧ (op ≠ 6 → (op = 7 → (op = 7 → R (.returned (.int .i64 2)) w) ∧ (op ≠ 7 → R (.returned (.int .i64 (-1))) w)) ∧ (op ≠ 7 → (op = 9 → (op = 9 → R (.returned (.int .i64 2)) w) ∧ (op ≠ 9 → R (.returned (.int .i64 (-1))) w)) ∧ (op ≠ 9 → (op = 10 → (op = 10 → R (.returned (.int .i64 2)) w) ∧ (op ≠ 10 → R (.returned (.int .i64 (-1))) w)) ∧ (op ≠ 10 → (op = 11 → (op = 11 → R (.returned (.int .i64 2)) w) ∧ (op ≠ 11 → R (.returned (.int .i64 (-1))) w)) ∧ (op ≠ 11 → (op = 12 → (op = 12 → R (.returned (.int .i64 2)) w) ∧ (op ≠ 12 → R (.returned (.int .i64 (-1))) w)) ∧ (op ≠ 12 → (op = 13 → R (.returned (.int .i64 2)) w) ∧ (op ≠ 13 → R (.returned (.int .i64 (-1))) w)))))))))))) ∧ (op ≠ 8 → (op = 14 → (op = 14 → R (.returned (.int .i64 1)) w) ∧ (op ≠ 14 → (op = 3 → (op = 3 → R (.returned (.int .i64 2)) w) ∧ (op ≠ 3 → R (.returned (.int .i64 (-1))) w)) ∧ (op ≠ 3 → (op = 4 → (op = 4 → R (.returned (.int .i64 2)) w) ∧ (op ≠ 4 → R (.returned (.int .i64 (-1))) w)) ∧ (op ≠ 4 → (op = 5 → (op = 5 → R (.returned (.int .i64 2)) w) ∧ (op ≠ 5 → R (.returned (.int .i64 (-1))) w)) ∧ (op ≠ 5 → (op = 6 → (op = 6 → R (.returned (.int .i64 2)) w) ∧ (op ≠ 6 → R (.returned (.int .i64 (-1))) w)) ∧ (op ≠ 6 → (op = 7 → (op = 7 → R (.returned (.int .i64 2)) w) ∧ (op ≠ 7 → R (.returned (.int .i64 (-1))) w)) ∧ (op ≠ 7 → (op = 9 → (op = 9 → R (.returned (.int .i64 2)) w) ∧ (op ≠ 9 → R (.returned (.int .i64 (-1))) w)) ∧ (op ≠ 9 → (op = 10 → (op = 10 → R (.returned (.int .i64 2)) w) ∧ (op ≠ 10 → R (.returned (.int .i64 (-1))) w)) ∧ (op ≠ 10 → (op = 11 → (op = 11 → R (.returned (.int .i64 2)) w) ∧ (op ≠ 11 → R (.returned (.int .i64 (-1))) w)) ∧ (op ≠ 11 → (op = 12 → (op = 12 → R (.returned (.int .i64 2)) w) ∧ (op ≠ 12 → R (.returned (.int .i64 (-1))) w)) ∧ (op ≠ 12 → (op = 13 → R (.returned (.int .i64 2)) w) ∧ (op ≠ 13 → R (.returned (.int .i64 (-1))) w)))))))))))) ∧ (op ≠ 14 → (op = 15 → (op = 15 → R (.returned (.int .i64 1)) w) ∧ (op ≠ 15 → (op = 3 → (op = 3 → R (.returned (.int .i64 2)) w) ∧ (op ≠ 3 → R (.returned (.int .i64 (-1))) w)) ∧ (op ≠ 3 → (op = 4 → (op = 4 → R (.returned (.int .i64 2)) w) ∧ (op ≠ 4 → R (.returned (.int .i64 (-1))) w)) ∧ (op ≠ 4 → (op = 5 → (op = 5 → R (.returned (.int .i64 2)) w) ∧ (op ≠ 5 → R (.returned (.int .i64 (-1))) w)) ∧ (op ≠ 5 → (op = 6 → (op = 6 → R (.returned (.int .i64 2)) w) ∧ (op ≠ 6 → R (.returned (.int .i64 (-1))) w)) ∧ (op ≠ 6 → (op = 7 → (op = 7 → R (.returned (.int .i64 2)) w) ∧ (op ≠ 7 → R (.returned (.int .i64 (-1))) w)) ∧ (op ≠ 7 → (op = 9 → (op = 9 → R (.returned (.int .i64 2)) w) ∧ (op ≠ 9 → R (.returned (.int .i64 (-1))) w)) ∧ (op ≠ 9 → (op = 10 → (op = 10 → R (.returned (.int .i64 2)) w) ∧ (op ≠ 10 → R (.returned (.int .i64 (-1))) w)) ∧ (op ≠ 10 → (op = 11 → (op = 11 → R (.returned (.int .i64 2)) w) ∧ (op ≠ 11 → R (.returned (.int .i64 (-1))) w)) ∧ (op ≠ 11 → (op = 12 → (op = 12 → R (.returned (.int .i64 2)) w) ∧ (op ≠ 12 → R (.returned (.int .i64 (-1))) w)) ∧ (op ≠ 12 → (op = 13 → R (.returned (.int .i64 2)) w) ∧ (op ≠ 13 → R (.returned (.int .i64 (-1))) w)))))))))))) ∧ (op ≠ 15 → (op = 16 → R (.returned (.int .i64 1)) w) ∧ (op ≠ 16 → (op = 3 → (op = 3 → R (.returned (.int .i64 2)) w) ∧ (op ≠ 3 → R (.returned (.int .i64 (-1))) w)) ∧ (op ≠ 3 → (op = 4 → (op = 4 → R (.returned (.int .i64 2)) w) ∧ (op ≠ 4 → R (.returned (.int .i64 (-1))) w)) ∧ (op ≠ 4 → (op = 5 → (op = 5 → R (.returned (.int .i64 2)) w) ∧ (op ≠ 5 → R (.returned (.int .i64 (-1))) w)) ∧ (op ≠ 5 → (op = 6 → (op = 6 → R (.returned (.int .i64 2)) w) ∧ (op ≠ 6 → R (.returned (.int .i64 (-1))) w)) ∧ (op ≠ 6 → (op = 7 → (op = 7 → R (.returned (.int .i64 2)) w) ∧ (op ≠ 7 → R (.returned (.int .i64 (-1))) w)) ∧ (op ≠ 7 → (op = 9 → (op = 9 → R (.returned (.int .i64 2)) w) ∧ (op ≠ 9 → R (.returned (.int .i64 (-1))) w)) ∧ (op ≠ 9 → (op = 10 → (op = 10 → R (.returned (.int .i64 2)) w) ∧ (op ≠ 10 → R (.returned (.int .i64 (-1))) w)) ∧ (op ≠ 10 → (op = 11 → (op = 11 → R (.returned (.int .i64 2)) w) ∧ (op ≠ 11 → R (.returned (.int .i64 (-1))) w)) ∧ (op ≠ 11 → (op = 12 → (op = 12 → R (.returned (.int .i64 2)) w) ∧ (op ≠ 12 → R (.returned (.int .i64 (-1))) w)) ∧ (op ≠ 12 → (op = 13 → R (.returned (.int .i64 2)) w) ∧ (op ≠ 13 → R (.returned (.int .i64 (-1))) w)))))))))))))))) ∧ (op ≠ 1 → (op = 2 → R (.returned (.int .i64 0)) w) ∧ (op ≠ 2 → (op = 8 → (op = 8 → R (.returned (.int .i64 1)) w) ∧ (op ≠ 8 → (op = 3 → (op = 3 → R (.returned (.int .i64 2)) w) ∧ (op ≠ 3 → R (.returned (.int .i64 (-1))) w)) ∧ (op ≠ 3 → (op = 4 → (op = 4 → R (.returned (.int .i64 2)) w) ∧ (op ≠ 4 → R (.returned (.int .i64 (-1))) w)) ∧ (op ≠ 4 → (op = 5 → (op = 5 → R (.returned (.int .i64 2)) w) ∧ (op ≠ 5 → R (.returned (.int .i64 (-1))) w)) ∧ (op ≠ 5 → (op = 6 → (op = 6 → R (.returned (.int .i64 2)) w) ∧ (op ≠ 6 → R (.returned (.int .i64 (-1))) w)) ∧ (op ≠ 6 → (op = 7 → (op = 7 → R (.returned (.int .i64 2)) w) ∧ (op ≠ 7 → R (.returned (.int .i64 (-1))) w)) ∧ (op ≠ 7 → (op = 9 → (op = 9 → R (.returned (.int .i64 2)) w) ∧ (op ≠ 9 → R (.returned (.int .i64 (-1))) w)) ∧ (op ≠ 9 → (op = 10 → (op = 10 → R (.returned (.int .i64 2)) w) ∧ (op ≠ 10 → R (.returned (.int .i64 (-1))) w)) ∧ (op ≠ 10 → (op = 11 → (op = 11 → R (.returned (.int .i64 2)) w) ∧ (op ≠ 11 → R (.returned (.int .i64 (-1))) w)) ∧ (op ≠ 11 → (op = 12 → (op = 12 → R (.returned (.int .i64 2)) w) ∧ (op ≠ 12 → R (.returned (.int .i64 (-1))) w)) ∧ (op ≠ 12 → (op = 13 → R (.returned (.int .i64 2)) w) ∧ (op ≠ 13 → R (.returned (.int .i64 (-1))) w)))))))))))) ∧ (op ≠ 8 → (op = 14 → (op = 14 → R (.returned (.int .i64 1)) w) ∧ (op ≠ 14 → (op = 3 → (op = 3 → R (.returned (.int .i64 2)) w) ∧ (op ≠ 3 → R (.returned (.int .i64 (-1))) w)) ∧ (op ≠ 3 → (op = 4 → (op = 4 → R (.returned (.int .i64 2)) w) ∧ (op ≠ 4 → R (.returned (.int .i64 (-1))) w)) ∧ (op ≠ 4 → (op = 5 → (op = 5 → R (.returned (.int .i64 2)) w) ∧ (op ≠ 5 → R (.returned (.int .i64 (-1))) w)) ∧ (op ≠ 5 → (op = 6 → (op = 6 → R (.returned (.int .i64 2)) w) ∧ (op ≠ 6 → R (.returned (.int .i64 (-1))) w)) ∧ (op ≠ 6 → (op = 7 → (op = 7 → R (.returned (.int .i64 2)) w) ∧ (op ≠ 7 → R (.returned (.int .i64 (-1))) w)) ∧ (op ≠ 7 → (op = 9 → (op = 9 → R (.returned (.int .i64 2)) w) ∧ (op ≠ 9 → R (.returned (.int .i64 (-1))) w)) ∧ (op ≠ 9 → (op = 10 → (op = 10 → R (.returned (.int .i64 2)) w) ∧ (op ≠ 10 → R (.returned (.int .i64 (-1))) w)) ∧ (op ≠ 10 → (op = 11 → (op = 11 → R (.returned (.int .i64 2)) w) ∧ (op ≠ 11 → R (.returned (.int .i64 (-1))) w)) ∧ (op ≠ 11 → (op = 12 → (op = 12 → R (.returned (.int .i64 2)) w) ∧ (op ≠ 12 → R (.returned (.int .i64 (-1))) w)) ∧ (op ≠ 12 → (op = 13 → R (.returned (.int .i64 2)) w) ∧ (op ≠ 13 → R (.returned (.int .i64 (-1))) w)))))))))))) ∧ (op ≠ 14 → (op = 15 → (op = 15 → R (.returned (.int .i64 1)) w) ∧ (op ≠ 15 → (op = 3 → (op = 3 → R (.returned (.int .i64 2)) w) ∧ (op ≠ 3 → R (.returned (.int .i64 (-1))) w)) ∧ (op ≠ 3 → (op = 4 → (op = 4 → R (.returned (.int .i64 2)) w) ∧ (op ≠ 4 → R (.returned (.int .i64 (-1))) w)) ∧ (op ≠ 4 → (op = 5 → (op = 5 → R (.returned (.int .i64 2)) w) ∧ (op ≠ 5 → R (.returned (.int .i64 (-1))) w)) ∧ (op ≠ 5 → (op = 6 → (op = 6 → R (.returned (.int .i64 2)) w) ∧ (op ≠ 6 → R (.returned (.int .i64 (-1))) w)) ∧ (op ≠ 6 → (op = 7 → (op = 7 → R (.returned (.int .i64 2)) w) ∧ (op ≠ 7 → R (.returned (.int .i64 (-1))) w)) ∧ (op ≠ 7 → (op = 9 → (op = 9 → R (.returned (.int .i64 2)) w) ∧ (op ≠ 9 → R (.returned (.int .i64 (-1))) w)) ∧ (op ≠ 9 → (op = 10 → (op = 10 → R (.returned (.int .i64 2)) w) ∧ (op ≠ 10 → R (.returned (.int .i64 (-1))) w)) ∧ (op ≠ 10 → (op = 11 → (op = 11 → R (.returned (.int .i64 2)) w) ∧ (op ≠ 11 → R (.returned (.int .i64 (-1))) w)) ∧ (op ≠ 11 → (op = 12 → (op = 12 → R (.returned (.int .i64 2)) w) ∧ (op ≠ 12 → R (.returned (.int .i64 (-1))) w)) ∧ (op ≠ 12 → (op = 13 → R (.returned (.int .i64 2)) w) ∧ (op ≠ 13 → R (.returned (.int .i64 (-1))) w)))))))))))) ∧ (op ≠ 15 → (op = 16 → R (.returned (.int .i64 1)) w) ∧ (op ≠ 16 → (op = 3 → (op = 3 → R (.returned (.int .i64 2)) w) ∧ (op ≠ 3 → R (.returned (.int .i64 (-1))) w)) ∧ (op ≠ 3 → (op = 4 → (op = 4 → R (.returned (.int .i64 2)) w) ∧ (op ≠ 4 → R (.returned (.int .i64 (-1))) w)) ∧ (op ≠ 4 → (op = 5 → (op = 5 → R (.returned (.int .i64 2)) w) ∧ (op ≠ 5 → R (.returned (.int .i64 (-1))) w)) ∧ (op ≠ 5 → (op = 6 → (op = 6 → R (.returned (.int .i64 2)) w) ∧ (op ≠ 6 → R (.returned (.int .i64 (-1))) w)) ∧ (op ≠ 6 → (op = 7 → (op = 7 → R (.returned (.int .i64 2)) w) ∧ (op ≠ 7 → R (.returned (.int .i64 (-1))) w)) ∧ (op ≠ 7 → (op = 9 → (op = 9 → R (.returned (.int .i64 2)) w) ∧ (op ≠ 9 → R (.returned (.int .i64 (-1))) w)) ∧ (op ≠ 9 → (op = 10 → (op = 10 → R (.returned (.int .i64 2)) w) ∧ (op ≠ 10 → R (.returned (.int .i64 (-1))) w)) ∧ (op ≠ 10 → (op = 11 → (op = 11 → R (.returned (.int .i64 2)) w) ∧ (op ≠ 11 → R (.returned (.int .i64 (-1))) w)) ∧ (op ≠ 11 → (op = 12 → (op = 12 → R (.returned (.int .i64 2)) w) ∧ (op ≠ 12 → R (.returned (.int .i64 (-1))) w)) ∧ (op ≠ 12 → (op = 13 → R (.returned (.int .i64 2)) w) ∧ (op ≠ 13 → R (.returned (.int .i64 (-1))) w))))))))))))))))

set_option maxRecDepth 100000 in
theorem many_eq (op : Int) (w : World) (R : Ending → World → Prop) : many_T op w R = vcFn Tryd.prog [] [] Tryd.f84 [.int .i64 op] w R := by kernel_rfl

set_option maxRecDepth 100000 in
theorem many_vc (op : Int) (w : World) (R : Ending → World → Prop) (hvc : many_T op w R) : Calls Tryd.prog 84 #[.int .i64 op] w R :=
  calls_of_vc (args := [.int .i64 op]) [] [] Tryd.mixed Tryd.func84 (cast (many_eq _ w R) hvc)

set_option maxRecDepth 100000 in
def rformed_T (x0 : Int) (x1 : ByteArray) (x2 : Int) (x3 : Int) (x4 : ByteArray) (x5_p : Option Addr) (x5_n : Nat) (x5_c : Nat) (depth : Int) (left : Int) (w : World) (R : Ending → World → Prop) : Prop :=
  ∀ b1 w'2, New w (Obj.cells #[.int .i64 x0, .string x1, .int .i64 x2, .int .i64 x3, .string x4, .slice x5_p x5_n x5_c] 29) b1
 w'2 → ∃ n4, w'2.cell? ⟨b1, 2, none⟩ = some (.int .i64 n4) ∧ ∃ n5, w'2.cell? ⟨b1, 3, none⟩ = some (.int .i64 n5) ∧ ∃ s6, w'2.cell? ⟨b1, 4, none⟩ = some (.string s6) ∧ Calls Tryd.prog 71 #[.agg #[.int .i64 n4, .int .i64 n5, .string s6]] w'2 fun e7 w8 ↦
 ∃ b9, e7 = .returned (.bool b9) ∧ ∀ w'10, Drew w8 w'10 → (depth < 1 ∨ left < 1 → SameTo none w'10 w'10 w'10 ∧ R (.returned (.int .i64 (-1))) w'10) ∧ (1 ≤ depth ∧ 1 ≤ left → ∃ p14 n15 c16, w'10.cell? ⟨b1, 5, none⟩ = some (.slice p14 n15 c16) ∧ ∃ n17, w'10.cell? ⟨b1, 0, none⟩ = some (.int .i64 n17) ∧ Calls Tryd.prog 84 #[.int .i64 n17] w'10 fun e18 w19 ↦
 ∃ n20, e18 = .returned (.int .i64 n20) ∧ SameTo none w'10 w'10 w19 ∧ ((↑n15 : Int) ≠ n20 ∨ b9 = false → R (.returned (.int .i64 (-1))) w19) ∧ ((↑n15 : Int) = n20 ∧ b9 = true → ∃ n23, w19.cell? ⟨b1, 0, none⟩ = some (.int .i64 n23) ∧ (n23 ≠ 1 → ∃ s25, w19.cell? ⟨b1, 1, none⟩ = some (.string s25) ∧ (s25 ≠ ByteArray.mk #[] → R (.returned (.int .i64 (-1))) w19) ∧ (s25 = ByteArray.mk #[] → ∃ n28, w19.cell? ⟨b1, 0, none⟩ = some (.int .i64 n28) ∧ (n28 ≠ 2 → ∃ n30, w19.cell? ⟨b1, 2, none⟩ = some (.int .i64 n30) ∧ ∃ n31, w19.cell? ⟨b1, 3, none⟩ = some (.int .i64 n31) ∧ ∃ s32, w19.cell? ⟨b1, 4, none⟩ = some (.string s32) ∧ (n30 ≠ 0 ∨ n31 ≠ 0 ∨ s32 ≠ ByteArray.mk #[] → R (.returned (.int .i64 (-1))) w19) ∧ (n30 = 0 ∧ n31 = 0 ∧ s32 = ByteArray.mk #[] → ∃ (I35 : Int → Int → World → Prop), ∃ (M36 : Int → Int → World → Nat), I35 (IntKind.i64.wrap (left - 1)) 0 w19 ∧ ∀ (n37 n38 : Int) (w'39 : World), I35 n37 n38 w'39 → ∃ p41 n42 c43, w'39.cell? ⟨b1, 5, none⟩ = some (.slice p41 n42 c43) ∧ (n38 < (↑n42 : Int) ∧ 0 ≤ n37 → ∃ p45 n46 c47, w'39.cell? ⟨b1, 5, none⟩ = some (.slice p45 n46 c47) ∧ ∃ b48, ∃ o49, p45 = some ⟨b48, o49, none⟩ ∧ 0 ≤ n38 ∧ n38 < (↑n46 : Int) ∧ ∃ n50, w'39.cell? ⟨b48, (o49 + n38.toNat * 6), none⟩ = some (.int .i64 n50) ∧ ∃ s51, w'39.cell? ⟨b48, (o49 + n38.toNat * 6 + 1), none⟩ = some (.string s51) ∧ ∃ n52, w'39.cell? ⟨b48, (o49 + n38.toNat * 6 + 2), none⟩ = some (.int .i64 n52) ∧ ∃ n53, w'39.cell? ⟨b48, (o49 + n38.toNat * 6 + 3), none⟩ = some (.int .i64 n53) ∧ ∃ s54, w'39.cell? ⟨b48, (o49 + n38.toNat * 6 + 4), none⟩ = some (.string s54) ∧ ∃ p55 n56 c57, w'39.cell? ⟨b48, (o49 + n38.toNat * 6 + 5), none⟩ = some (.slice p55 n56 c57) ∧ Calls Tryd.prog 69
 #[.agg #[.int .i64 n50, .string s51, .int .i64 n52, .int .i64 n53, .string s54, .slice p55 n56 c57], .int .i64 (IntKind.i64.wrap (depth - 1)), .int .i64 n37]
 w'39 fun e58 w59 ↦
 ∃ n60, e58 = .returned (.int .i64 n60) ∧ I35 n60 (IntKind.i64.wrap (n38 + 1)) w59 ∧ M36 n60 (IntKind.i64.wrap (n38 + 1)) w59 < M36 n37 n38 w'39) ∧ ((↑n42 : Int) ≤ n38 ∨ n37 < 0 → R (.returned (.int .i64 n37)) w'39))) ∧ (n28 = 2 → ∃ (I63 : Int → Int → World → Prop), ∃ (M64 : Int → Int → World → Nat), I63 (IntKind.i64.wrap (left - 1)) 0 w19 ∧ ∀ (n65 n66 : Int) (w'67 : World), I63 n65 n66 w'67 → ∃ p69 n70 c71, w'67.cell? ⟨b1, 5, none⟩ = some (.slice p69 n70 c71) ∧ (n66 < (↑n70 : Int) ∧ 0 ≤ n65 → ∃ p73 n74 c75, w'67.cell? ⟨b1, 5, none⟩ = some (.slice p73 n74 c75) ∧ ∃ b76, ∃ o77, p73 = some ⟨b76, o77, none⟩ ∧ 0 ≤ n66 ∧ n66 < (↑n74 : Int) ∧ ∃ n78, w'67.cell? ⟨b76, (o77 + n66.toNat * 6), none⟩ = some (.int .i64 n78) ∧ ∃ s79, w'67.cell? ⟨b76, (o77 + n66.toNat * 6 + 1), none⟩ = some (.string s79) ∧ ∃ n80, w'67.cell? ⟨b76, (o77 + n66.toNat * 6 + 2), none⟩ = some (.int .i64 n80) ∧ ∃ n81, w'67.cell? ⟨b76, (o77 + n66.toNat * 6 + 3), none⟩ = some (.int .i64 n81) ∧ ∃ s82, w'67.cell? ⟨b76, (o77 + n66.toNat * 6 + 4), none⟩ = some (.string s82) ∧ ∃ p83 n84 c85, w'67.cell? ⟨b76, (o77 + n66.toNat * 6 + 5), none⟩ = some (.slice p83 n84 c85) ∧ Calls Tryd.prog 69
 #[.agg #[.int .i64 n78, .string s79, .int .i64 n80, .int .i64 n81, .string s82, .slice p83 n84 c85], .int .i64 (IntKind.i64.wrap (depth - 1)), .int .i64 n65]
 w'67 fun e86 w87 ↦
 ∃ n88, e86 = .returned (.int .i64 n88) ∧ I63 n88 (IntKind.i64.wrap (n66 + 1)) w87 ∧ M64 n88 (IntKind.i64.wrap (n66 + 1)) w87 < M64 n65 n66 w'67) ∧ ((↑n70 : Int) ≤ n66 ∨ n65 < 0 → R (.returned (.int .i64 n65)) w'67)))) ∧ (n23 = 1 → ∃ n91, w19.cell? ⟨b1, 0, none⟩ = some (.int .i64 n91) ∧ (n91 ≠ 2 → ∃ n93, w19.cell? ⟨b1, 2, none⟩ = some (.int .i64 n93) ∧ ∃ n94, w19.cell? ⟨b1, 3, none⟩ = some (.int .i64 n94) ∧ ∃ s95, w19.cell? ⟨b1, 4, none⟩ = some (.string s95) ∧ (n93 ≠ 0 ∨ n94 ≠ 0 ∨ s95 ≠ ByteArray.mk #[] → R (.returned (.int .i64 (-1))) w19) ∧ (n93 = 0 ∧ n94 = 0 ∧ s95 = ByteArray.mk #[] → ∃ (I98 : Int → Int → World → Prop), ∃ (M99 : Int → Int → World → Nat), I98 (IntKind.i64.wrap (left - 1)) 0 w19 ∧ ∀ (n100 n101 : Int) (w'102 : World), I98 n100 n101 w'102 → ∃ p104 n105 c106, w'102.cell? ⟨b1, 5, none⟩ = some (.slice p104 n105 c106) ∧ (n101 < (↑n105 : Int) ∧ 0 ≤ n100 → ∃ p108 n109 c110, w'102.cell? ⟨b1, 5, none⟩ = some (.slice p108 n109 c110) ∧ ∃ b111, ∃ o112, p108 = some ⟨b111, o112, none⟩ ∧ 0 ≤ n101 ∧ n101 < (↑n109 : Int) ∧ ∃ n113, w'102.cell? ⟨b111, (o112 + n101.toNat * 6), none⟩ = some (.int .i64 n113) ∧ ∃ s114, w'102.cell? ⟨b111, (o112 + n101.toNat * 6 + 1), none⟩ = some (.string s114) ∧ ∃ n115, w'102.cell? ⟨b111, (o112 + n101.toNat * 6 + 2), none⟩ = some (.int .i64 n115) ∧ ∃ n116, w'102.cell? ⟨b111, (o112 + n101.toNat * 6 + 3), none⟩ = some (.int .i64 n116) ∧ ∃ s117, w'102.cell? ⟨b111, (o112 + n101.toNat * 6 + 4), none⟩ = some (.string s117) ∧ ∃ p118 n119 c120, w'102.cell? ⟨b111, (o112 + n101.toNat * 6 + 5), none⟩ = some (.slice p118 n119 c120) ∧ Calls Tryd.prog 69
 #[.agg #[.int .i64 n113, .string s114, .int .i64 n115, .int .i64 n116, .string s117, .slice p118 n119 c120], .int .i64 (IntKind.i64.wrap (depth - 1)), .int .i64 n100]
 w'102 fun e121 w122 ↦
 ∃ n123, e121 = .returned (.int .i64 n123) ∧ I98 n123 (IntKind.i64.wrap (n101 + 1)) w122 ∧ M99 n123 (IntKind.i64.wrap (n101 + 1)) w122 < M99 n100 n101 w'102) ∧ ((↑n105 : Int) ≤ n101 ∨ n100 < 0 → R (.returned (.int .i64 n100)) w'102))) ∧ (n91 = 2 → ∃ (I126 : Int → Int → World → Prop), ∃ (M127 : Int → Int → World → Nat), I126 (IntKind.i64.wrap (left - 1)) 0 w19 ∧ ∀ (n128 n129 : Int) (w'130 : World), I126 n128 n129 w'130 → ∃ p132 n133 c134, w'130.cell? ⟨b1, 5, none⟩ = some (.slice p132 n133 c134) ∧ (n129 < (↑n133 : Int) ∧ 0 ≤ n128 → ∃ p136 n137 c138, w'130.cell? ⟨b1, 5, none⟩ = some (.slice p136 n137 c138) ∧ ∃ b139, ∃ o140, p136 = some ⟨b139, o140, none⟩ ∧ 0 ≤ n129 ∧ n129 < (↑n137 : Int) ∧ ∃ n141, w'130.cell? ⟨b139, (o140 + n129.toNat * 6), none⟩ = some (.int .i64 n141) ∧ ∃ s142, w'130.cell? ⟨b139, (o140 + n129.toNat * 6 + 1), none⟩ = some (.string s142) ∧ ∃ n143, w'130.cell? ⟨b139, (o140 + n129.toNat * 6 + 2), none⟩ = some (.int .i64 n143) ∧ ∃ n144, w'130.cell? ⟨b139, (o140 + n129.toNat * 6 + 3), none⟩ = some (.int .i64 n144) ∧ ∃ s145, w'130.cell? ⟨b139, (o140 + n129.toNat * 6 + 4), none⟩ = some (.string s145) ∧ ∃ p146 n147 c148, w'130.cell? ⟨b139, (o140 + n129.toNat * 6 + 5), none⟩ = some (.slice p146 n147 c148) ∧ Calls Tryd.prog 69
 #[.agg #[.int .i64 n141, .string s142, .int .i64 n143, .int .i64 n144, .string s145, .slice p146 n147 c148], .int .i64 (IntKind.i64.wrap (depth - 1)), .int .i64 n128]
 w'130 fun e149 w150 ↦
 ∃ n151, e149 = .returned (.int .i64 n151) ∧ I126 n151 (IntKind.i64.wrap (n129 + 1)) w150 ∧ M127 n151 (IntKind.i64.wrap (n129 + 1)) w150 < M127 n128 n129 w'130) ∧ ((↑n133 : Int) ≤ n129 ∨ n128 < 0 → R (.returned (.int .i64 n128)) w'130)))))

set_option maxRecDepth 100000 in
theorem rformed_eq (x0 : Int) (x1 : ByteArray) (x2 : Int) (x3 : Int) (x4 : ByteArray) (x5_p : Option Addr) (x5_n : Nat) (x5_c : Nat) (depth : Int) (left : Int) (w : World) (R : Ending → World → Prop) : rformed_T x0 x1 x2 x3 x4 x5_p x5_n x5_c depth left w R = vcFn Tryd.prog [] [(2, [2, 4, 6, 8, 10, 12, 14, 16, 18, 20, 22, 24, 27, 28, 30, 32, 34, 36, 38, 40, 42, 44, 46, 48, 50, 52, 54, 56, 58, 60, 62, 64, 66, 68, 70, 72, 74, 76, 78, 80, 0])] Tryd.f69 [Value.agg
 #[.int .i64 x0, .string x1, .int .i64 x2, .int .i64 x3, .string x4, .slice x5_p x5_n x5_c], .int .i64 depth, .int .i64 left] w R := by kernel_rfl

set_option maxRecDepth 100000 in
theorem rformed_vc (x0 : Int) (x1 : ByteArray) (x2 : Int) (x3 : Int) (x4 : ByteArray) (x5_p : Option Addr) (x5_n : Nat) (x5_c : Nat) (depth : Int) (left : Int) (w : World) (R : Ending → World → Prop) (hvc : rformed_T x0 x1 x2 x3 x4 x5_p x5_n x5_c depth left w R) : Calls Tryd.prog 69 #[Value.agg
 #[.int .i64 x0, .string x1, .int .i64 x2, .int .i64 x3, .string x4, .slice x5_p x5_n x5_c], .int .i64 depth, .int .i64 left] w R :=
  calls_of_vc (args := [Value.agg
 #[.int .i64 x0, .string x1, .int .i64 x2, .int .i64 x3, .string x4, .slice x5_p x5_n x5_c], .int .i64 depth, .int .i64 left]) [] [(2, [2, 4, 6, 8, 10, 12, 14, 16, 18, 20, 22, 24, 27, 28, 30, 32, 34, 36, 38, 40, 42, 44, 46, 48, 50, 52, 54, 56, 58, 60, 62, 64, 66, 68, 70, 72, 74, 76, 78, 80, 0])] Tryd.mixed Tryd.func69 (cast (rformed_eq _ _ _ _ _ _ _ _ _ _ w R) hvc)

set_option maxRecDepth 100000 in
def rFormed_T (x0 : Int) (x1 : ByteArray) (x2 : Int) (x3 : Int) (x4 : ByteArray) (x5_p : Option Addr) (x5_n : Nat) (x5_c : Nat) (w : World) (R : Ending → World → Prop) : Prop :=
  ∀ b1 w'2, New w (Obj.cells #[.int .i64 x0, .string x1, .int .i64 x2, .int .i64 x3, .string x4, .slice x5_p x5_n x5_c] 29) b1
 w'2 → ∃ n4, w'2.cell? ⟨b1, 0, none⟩ = some (.int .i64 n4) ∧ ∃ s5, w'2.cell? ⟨b1, 1, none⟩ = some (.string s5) ∧ ∃ n6, w'2.cell? ⟨b1, 2, none⟩ = some (.int .i64 n6) ∧ ∃ n7, w'2.cell? ⟨b1, 3, none⟩ = some (.int .i64 n7) ∧ ∃ s8, w'2.cell? ⟨b1, 4, none⟩ = some (.string s8) ∧ ∃ p9 n10 c11, w'2.cell? ⟨b1, 5, none⟩ = some (.slice p9 n10 c11) ∧ Calls Tryd.prog 69
 #[.agg #[.int .i64 n4, .string s5, .int .i64 n6, .int .i64 n7, .string s8, .slice p9 n10 c11], .int .i64 40, .int .i64 400]
 w'2 fun e12 w13 ↦ ∃ n14, e12 = .returned (.int .i64 n14) ∧ R (.returned (.bool (decide (0 ≤ n14)))) w13

set_option maxRecDepth 100000 in
theorem rFormed_eq (x0 : Int) (x1 : ByteArray) (x2 : Int) (x3 : Int) (x4 : ByteArray) (x5_p : Option Addr) (x5_n : Nat) (x5_c : Nat) (w : World) (R : Ending → World → Prop) : rFormed_T x0 x1 x2 x3 x4 x5_p x5_n x5_c w R = vcFn Tryd.prog [] [] Tryd.f48 [Value.agg
 #[.int .i64 x0, .string x1, .int .i64 x2, .int .i64 x3, .string x4, .slice x5_p x5_n x5_c]] w R := by kernel_rfl

set_option maxRecDepth 100000 in
theorem rFormed_vc (x0 : Int) (x1 : ByteArray) (x2 : Int) (x3 : Int) (x4 : ByteArray) (x5_p : Option Addr) (x5_n : Nat) (x5_c : Nat) (w : World) (R : Ending → World → Prop) (hvc : rFormed_T x0 x1 x2 x3 x4 x5_p x5_n x5_c w R) : Calls Tryd.prog 48 #[Value.agg
 #[.int .i64 x0, .string x1, .int .i64 x2, .int .i64 x3, .string x4, .slice x5_p x5_n x5_c]] w R :=
  calls_of_vc (args := [Value.agg
 #[.int .i64 x0, .string x1, .int .i64 x2, .int .i64 x3, .string x4, .slice x5_p x5_n x5_c]]) [] [] Tryd.mixed Tryd.func48 (cast (rFormed_eq _ _ _ _ _ _ _ _ w R) hvc)

set_option maxRecDepth 100000 in
def wants_T (op : Int) (w : World) (R : Ending → World → Prop) : Prop :=
  (op = 12 → (op = 12 → R (.returned (.int .i64 2)) w) ∧ (op ≠ 12 → (op = 16 → R (.returned (.int .i64 3)) w) ∧ (op ≠ 16 → (op = 3 → (op = 3 → R (.returned (.int .i64 1)) w) ∧ (op ≠ 3 → R (.returned (.int .i64 0)) w)) ∧ (op ≠ 3 → (op = 4 → (op = 4 → R (.returned (.int .i64 1)) w) ∧ (op ≠ 4 → R (.returned (.int .i64 0)) w)) ∧ (op ≠ 4 → (op = 5 → (op = 5 → R (.returned (.int .i64 1)) w) ∧ (op ≠ 5 → R (.returned (.int .i64 0)) w)) ∧ (op ≠ 5 → (op = 6 → (op = 6 → R (.returned (.int .i64 1)) w) ∧ (op ≠ 6 → R (.returned (.int .i64 0)) w)) ∧ (op ≠ 6 → (op = 7 → (op = 7 → R (.returned (.int .i64 1)) w) ∧ (op ≠ 7 → R (.returned (.int .i64 0)) w)) ∧ (op ≠ 7 → (op = 8 → R (.returned (.int .i64 1)) w) ∧ (op ≠ 8 → R (.returned (.int .i64 0)) w))))))))) ∧ (op ≠ 12 → (op = 13 → (op = 13 → R (.returned (.int .i64 2)) w) ∧ (op ≠ 13 → (op = 16 → R (.returned (.int .i64 3)) w) ∧ (op ≠ 16 → (op = 3 → (op = 3 → R (.returned (.int .i64 1)) w) ∧ (op ≠ 3 → R (.returned (.int .i64 0)) w)) ∧ (op ≠ 3 → (op = 4 → (op = 4 → R (.returned (.int .i64 1)) w) ∧ (op ≠ 4 → R (.returned (.int .i64 0)) w)) ∧ (op ≠ 4 → (op = 5 → (op = 5 → R (.returned (.int .i64 1)) w) ∧ (op ≠ 5 → R (.returned (.int .i64 0)) w)) ∧ (op ≠ 5 → (op = 6 → (op = 6 → R (.returned (.int .i64 1)) w) ∧ (op ≠ 6 → R (.returned (.int .i64 0)) w)) ∧ (op ≠ 6 → (op = 7 → (op = 7 → R (.returned (.int .i64 1)) w) ∧ (op ≠ 7 → R (.returned (.int .i64 0)) w)) ∧ (op ≠ 7 → (op = 8 → R (.returned (.int .i64 1)) w) ∧ (op ≠ 8 → R (.returned (.int .i64 0)) w))))))))) ∧ (op ≠ 13 → (op = 14 → R (.returned (.int .i64 2)) w) ∧ (op ≠ 14 → (op = 16 → R (.returned (.int .i64 3)) w) ∧ (op ≠ 16 → (op = 3 → (op = 3 → R (.returned (.int .i64 1)) w) ∧ (op ≠ 3 → R (.returned (.int .i64 0)) w)) ∧ (op ≠ 3 → (op = 4 → (op = 4 → R (.returned (.int .i64 1)) w) ∧ (op ≠ 4 → R (.returned (.int .i64 0)) w)) ∧ (op ≠ 4 → (op = 5 → (op = 5 → R (.returned (.int .i64 1)) w) ∧ (op ≠ 5 → R (.returned (.int .i64 0)) w)) ∧ (op ≠ 5 → (op = 6 → (op = 6 → R (.returned (.int .i64 1)) w) ∧ (op ≠ 6 → R (.returned (.int .i64 0)) w)) ∧ (op ≠ 6 → (op = 7 → (op = 7 → R (.returned (.int .i64 1)) w) ∧ (op ≠ 7 → R (.returned (.int .i64 0)) w)) ∧ (op ≠ 7 → (op = 8 → R (.returned (.int .i64 1)) w) ∧ (op ≠ 8 → R (.returned (.int .i64 0)) w))))))))))

set_option maxRecDepth 100000 in
theorem wants_eq (op : Int) (w : World) (R : Ending → World → Prop) : wants_T op w R = vcFn Tryd.prog [] [] Tryd.f70 [.int .i64 op] w R := by kernel_rfl

set_option maxRecDepth 100000 in
theorem wants_vc (op : Int) (w : World) (R : Ending → World → Prop) (hvc : wants_T op w R) : Calls Tryd.prog 70 #[.int .i64 op] w R :=
  calls_of_vc (args := [.int .i64 op]) [] [] Tryd.mixed Tryd.func70 (cast (wants_eq _ w R) hvc)

set_option maxRecDepth 100000 in
def rkind_T (cols_p : Option Addr) (cols_n : Nat) (cols_c : Nat) (x0 : Int) (x1 : ByteArray) (x2 : Int) (x3 : Int) (x4 : ByteArray) (x5_p : Option Addr) (x5_n : Nat) (x5_c : Nat) (w : World) (R : Ending → World → Prop) : Prop :=
  ∀ b1 w'2, New w (Obj.cells #[.int .i64 x0, .string x1, .int .i64 x2, .int .i64 x3, .string x4, .slice x5_p x5_n x5_c] 29) b1
 w'2 → ∃ (I4 : Option Addr → Nat → Nat → Int → World → Prop), ∃ (M5 : Option Addr → Nat → Nat → Int → World → Nat), I4 none 0 0 0 w'2 ∧ ∀ (p6 : Option Addr) (n7 c8 : Nat) (n9 : Int) (w'10 : World), I4 p6 n7 c8 n9 w'10 → ∃ p12 n13 c14, w'10.cell? ⟨b1, 5, none⟩ = some (.slice p12 n13 c14) ∧ (n9 < (↑n13 : Int) → ∃ p16 n17 c18, w'10.cell? ⟨b1, 5, none⟩ = some (.slice p16 n17 c18) ∧ ∃ b19, ∃ o20, p16 = some ⟨b19, o20, none⟩ ∧ 0 ≤ n9 ∧ n9 < (↑n17 : Int) ∧ ∃ n21, w'10.cell? ⟨b19, (o20 + n9.toNat * 6), none⟩ = some (.int .i64 n21) ∧ ∃ s22, w'10.cell? ⟨b19, (o20 + n9.toNat * 6 + 1), none⟩ = some (.string s22) ∧ ∃ n23, w'10.cell? ⟨b19, (o20 + n9.toNat * 6 + 2), none⟩ = some (.int .i64 n23) ∧ ∃ n24, w'10.cell? ⟨b19, (o20 + n9.toNat * 6 + 3), none⟩ = some (.int .i64 n24) ∧ ∃ s25, w'10.cell? ⟨b19, (o20 + n9.toNat * 6 + 4), none⟩ = some (.string s25) ∧ ∃ p26 n27 c28, w'10.cell? ⟨b19, (o20 + n9.toNat * 6 + 5), none⟩ = some (.slice p26 n27 c28) ∧ Calls Tryd.prog 49
 #[.slice cols_p cols_n cols_c, .agg #[.int .i64 n21, .string s22, .int .i64 n23, .int .i64 n24, .string s25, .slice p26 n27 c28]]
 w'10 fun e29 w30 ↦
 ∃ n31, ∃ n32, e29 = .returned (.tuple #[.int .i64 n31, .int .i64 n32]) ∧ (n32 ≠ 0 → R (.returned (.tuple #[.int .i64 0, .int .i64 n32])) w30) ∧ (n32 = 0 → ∀ b35 w'36, New w30 (Obj.cells #[.int .i64 n31] 3) b35 w'36 → ∃ p38 n39 c40, ∃ (w'41 : World), Sem.run Tryd.prog (Builtin.append_ #[24, 24] 24 #[.slice p6 n7 c8, .slice (some ⟨b35, 0, none⟩) 1 1]) w'36 = Result.ok (.slice p38 n39 c40) w'41 ∧ I4 p38 n39 c40 (IntKind.i64.wrap (n9 + 1)) w'41 ∧ M5 p38 n39 c40 (IntKind.i64.wrap (n9 + 1)) w'41 < M5 p6 n7 c8 n9 w'10)) ∧ ((↑n13 : Int) ≤ n9 → ∃ n43, w'10.cell? ⟨b1, 0, none⟩ = some (.int .i64 n43) ∧ Calls Tryd.prog 70 #[.int .i64 n43] w'10 fun e44 w45 ↦
 ∃ n46, e44 = .returned (.int .i64 n46) ∧ ∃ (I47 : Int → World → Prop), ∃ (M48 : Int → World → Nat), I47 0 w45 ∧ ∀ (n49 : Int) (w'50 : World), I47 n49 w'50 → (n49 < (↑n7 : Int) → (n46 ≠ 0 → ∃ b54, ∃ o55, p6 = some ⟨b54, o55, none⟩ ∧ 0 ≤ n49 ∧ n49 < (↑n7 : Int) ∧ ∃ n56, w'50.cell? ⟨b54, (o55 + n49.toNat), none⟩ = some (.int .i64 n56) ∧ (n56 ≠ n46 → ∃ b58, ∃ o59, p6 = some ⟨b58, o59, none⟩ ∧ 0 ≤ n49 ∧ n49 < (↑n7 : Int) ∧ ∃ n60, w'50.cell? ⟨b58, (o59 + n49.toNat), none⟩ = some (.int .i64 n60) ∧ (n60 ≠ 0 → R (.returned (.tuple #[.int .i64 0, .int .i64 121])) w'50) ∧ (n60 = 0 → I47 (IntKind.i64.wrap (n49 + 1)) w'50 ∧ M48 (IntKind.i64.wrap (n49 + 1)) w'50 < M48 n49 w'50)) ∧ (n56 = n46 → I47 (IntKind.i64.wrap (n49 + 1)) w'50 ∧ M48 (IntKind.i64.wrap (n49 + 1)) w'50 < M48 n49 w'50)) ∧ (n46 = 0 → I47 (IntKind.i64.wrap (n49 + 1)) w'50 ∧ M48 (IntKind.i64.wrap (n49 + 1)) w'50 < M48 n49 w'50)) ∧ ((↑n7 : Int) ≤ n49 → ∃ n66, w'50.cell? ⟨b1, 0, none⟩ = some (.int .i64 n66) ∧ (n66 = 1 → ∃ s68, w'50.cell? ⟨b1, 1, none⟩ = some (.string s68) ∧ Calls Tryd.prog 51 #[.slice cols_p cols_n cols_c, .string s68] w'50 fun e69 w70 ↦
 ∃ n71, e69 = .returned (.int .i64 n71) ∧ (n71 < 0 → R (.returned (.tuple #[.int .i64 0, .int .i64 120])) w70) ∧ (0 ≤ n71 → ∃ b74, ∃ o75, cols_p = some ⟨b74, o75, none⟩ ∧ 0 ≤ n71 ∧ n71 < (↑cols_n : Int) ∧ ∃ n76, w70.cell? ⟨b74, (o75 + n71.toNat * 3 + 1), none⟩ = some (.int .i64 n76) ∧ R (.returned (.tuple #[.int .i64 n76, .int .i64 0])) w70)) ∧ (n66 ≠ 1 → (n66 = 2 → ∃ n79, w'50.cell? ⟨b1, 2, none⟩ = some (.int .i64 n79) ∧ R (.returned (.tuple #[.int .i64 n79, .int .i64 0])) w'50) ∧ (n66 ≠ 2 → (n66 = 9 → (n66 = 9 → ∀ w'83, Drew w'50 w'83 → ∃ b85, ∃ o86, p6 = some ⟨b85, o86, none⟩ ∧ (0 : Int) ≤ 0 ∧ 0 < (↑n7 : Int) ∧ ∃ n87, w'83.cell? ⟨b85, (o86 + 0), none⟩ = some (.int .i64 n87) ∧ ∃ b88, ∃ o89, p6 = some ⟨b88, o89, none⟩ ∧ (0 : Int) ≤ 1 ∧ 1 < (↑n7 : Int) ∧ ∃ n90, w'83.cell? ⟨b88, (o89 + 1), none⟩ = some (.int .i64 n90) ∧ (n87 ≠ n90 → ∃ b92, ∃ o93, p6 = some ⟨b92, o93, none⟩ ∧ (0 : Int) ≤ 0 ∧ 0 < (↑n7 : Int) ∧ ∃ n94, w'83.cell? ⟨b92, (o93 + 0), none⟩ = some (.int .i64 n94) ∧ (n94 ≠ 0 → ∃ b96, ∃ o97, p6 = some ⟨b96, o97, none⟩ ∧ (0 : Int) ≤ 1 ∧ 1 < (↑n7 : Int) ∧ ∃ n98, w'83.cell? ⟨b96, (o97 + 1), none⟩ = some (.int .i64 n98) ∧ (n98 ≠ 0 → R (.returned (.tuple #[.int .i64 0, .int .i64 121])) w'83) ∧ (n98 = 0 → R (.returned (.tuple #[.int .i64 2, .int .i64 0])) w'83)) ∧ (n94 = 0 → R (.returned (.tuple #[.int .i64 2, .int .i64 0])) w'83)) ∧ (n87 = n90 → R (.returned (.tuple #[.int .i64 2, .int .i64 0])) w'83)) ∧ (n66 ≠ 9 → (n66 = 12 → (n66 = 12 → R (.returned (.tuple #[.int .i64 2, .int .i64 0])) w'50) ∧ (n66 ≠ 12 → R (.returned (.tuple #[.int .i64 1, .int .i64 0])) w'50)) ∧ (n66 ≠ 12 → (n66 = 13 → (n66 = 13 → R (.returned (.tuple #[.int .i64 2, .int .i64 0])) w'50) ∧ (n66 ≠ 13 → R (.returned (.tuple #[.int .i64 1, .int .i64 0])) w'50)) ∧ (n66 ≠ 13 → (n66 = 14 → (n66 = 14 → R (.returned (.tuple #[.int .i64 2, .int .i64 0])) w'50) ∧ (n66 ≠ 14 → R (.returned (.tuple #[.int .i64 1, .int .i64 0])) w'50)) ∧ (n66 ≠ 14 → (n66 = 15 → R (.returned (.tuple #[.int .i64 2, .int .i64 0])) w'50) ∧ (n66 ≠ 15 → R (.returned (.tuple #[.int .i64 1, .int .i64 0])) w'50)))))) ∧ (n66 ≠ 9 → (n66 = 10 → (n66 = 10 → ∀ w'121, Drew w'50 w'121 → ∃ b123, ∃ o124, p6 = some ⟨b123, o124, none⟩ ∧ (0 : Int) ≤ 0 ∧ 0 < (↑n7 : Int) ∧ ∃ n125, w'121.cell? ⟨b123, (o124 + 0), none⟩ = some (.int .i64 n125) ∧ ∃ b126, ∃ o127, p6 = some ⟨b126, o127, none⟩ ∧ (0 : Int) ≤ 1 ∧ 1 < (↑n7 : Int) ∧ ∃ n128, w'121.cell? ⟨b126, (o127 + 1), none⟩ = some (.int .i64 n128) ∧ (n125 ≠ n128 → ∃ b130, ∃ o131, p6 = some ⟨b130, o131, none⟩ ∧ (0 : Int) ≤ 0 ∧ 0 < (↑n7 : Int) ∧ ∃ n132, w'121.cell? ⟨b130, (o131 + 0), none⟩ = some (.int .i64 n132) ∧ (n132 ≠ 0 → ∃ b134, ∃ o135, p6 = some ⟨b134, o135, none⟩ ∧ (0 : Int) ≤ 1 ∧ 1 < (↑n7 : Int) ∧ ∃ n136, w'121.cell? ⟨b134, (o135 + 1), none⟩ = some (.int .i64 n136) ∧ (n136 ≠ 0 → R (.returned (.tuple #[.int .i64 0, .int .i64 121])) w'121) ∧ (n136 = 0 → R (.returned (.tuple #[.int .i64 2, .int .i64 0])) w'121)) ∧ (n132 = 0 → R (.returned (.tuple #[.int .i64 2, .int .i64 0])) w'121)) ∧ (n125 = n128 → R (.returned (.tuple #[.int .i64 2, .int .i64 0])) w'121)) ∧ (n66 ≠ 10 → (n66 = 12 → (n66 = 12 → R (.returned (.tuple #[.int .i64 2, .int .i64 0])) w'50) ∧ (n66 ≠ 12 → R (.returned (.tuple #[.int .i64 1, .int .i64 0])) w'50)) ∧ (n66 ≠ 12 → (n66 = 13 → (n66 = 13 → R (.returned (.tuple #[.int .i64 2, .int .i64 0])) w'50) ∧ (n66 ≠ 13 → R (.returned (.tuple #[.int .i64 1, .int .i64 0])) w'50)) ∧ (n66 ≠ 13 → (n66 = 14 → (n66 = 14 → R (.returned (.tuple #[.int .i64 2, .int .i64 0])) w'50) ∧ (n66 ≠ 14 → R (.returned (.tuple #[.int .i64 1, .int .i64 0])) w'50)) ∧ (n66 ≠ 14 → (n66 = 15 → R (.returned (.tuple #[.int .i64 2, .int .i64 0])) w'50) ∧ (n66 ≠ 15 → R (.returned (.tuple #[.int .i64 1, .int .i64 0])) w'50)))))) ∧ (n66 ≠ 10 → (n66 = 11 → ∀ w'158, Drew w'50 w'158 → ∃ b160, ∃ o161, p6 = some ⟨b160, o161, none⟩ ∧ (0 : Int) ≤ 0 ∧ 0 < (↑n7 : Int) ∧ ∃ n162, w'158.cell? ⟨b160, (o161 + 0), none⟩ = some (.int .i64 n162) ∧ ∃ b163, ∃ o164, p6 = some ⟨b163, o164, none⟩ ∧ (0 : Int) ≤ 1 ∧ 1 < (↑n7 : Int) ∧ ∃ n165, w'158.cell? ⟨b163, (o164 + 1), none⟩ = some (.int .i64 n165) ∧ (n162 ≠ n165 → ∃ b167, ∃ o168, p6 = some ⟨b167, o168, none⟩ ∧ (0 : Int) ≤ 0 ∧ 0 < (↑n7 : Int) ∧ ∃ n169, w'158.cell? ⟨b167, (o168 + 0), none⟩ = some (.int .i64 n169) ∧ (n169 ≠ 0 → ∃ b171, ∃ o172, p6 = some ⟨b171, o172, none⟩ ∧ (0 : Int) ≤ 1 ∧ 1 < (↑n7 : Int) ∧ ∃ n173, w'158.cell? ⟨b171, (o172 + 1), none⟩ = some (.int .i64 n173) ∧ (n173 ≠ 0 → R (.returned (.tuple #[.int .i64 0, .int .i64 121])) w'158) ∧ (n173 = 0 → R (.returned (.tuple #[.int .i64 2, .int .i64 0])) w'158)) ∧ (n169 = 0 → R (.returned (.tuple #[.int .i64 2, .int .i64 0])) w'158)) ∧ (n162 = n165 → R (.returned (.tuple #[.int .i64 2, .int .i64 0])) w'158)) ∧ (n66 ≠ 11 → (n66 = 12 → (n66 = 12 → R (.returned (.tuple #[.int .i64 2, .int .i64 0])) w'50) ∧ (n66 ≠ 12 → R (.returned (.tuple #[.int .i64 1, .int .i64 0])) w'50)) ∧ (n66 ≠ 12 → (n66 = 13 → (n66 = 13 → R (.returned (.tuple #[.int .i64 2, .int .i64 0])) w'50) ∧ (n66 ≠ 13 → R (.returned (.tuple #[.int .i64 1, .int .i64 0])) w'50)) ∧ (n66 ≠ 13 → (n66 = 14 → (n66 = 14 → R (.returned (.tuple #[.int .i64 2, .int .i64 0])) w'50) ∧ (n66 ≠ 14 → R (.returned (.tuple #[.int .i64 1, .int .i64 0])) w'50)) ∧ (n66 ≠ 14 → (n66 = 15 → R (.returned (.tuple #[.int .i64 2, .int .i64 0])) w'50) ∧ (n66 ≠ 15 → R (.returned (.tuple #[.int .i64 1, .int .i64 0])) w'50)))))))))))

set_option maxRecDepth 100000 in
theorem rkind_eq (cols_p : Option Addr) (cols_n : Nat) (cols_c : Nat) (x0 : Int) (x1 : ByteArray) (x2 : Int) (x3 : Int) (x4 : ByteArray) (x5_p : Option Addr) (x5_n : Nat) (x5_c : Nat) (w : World) (R : Ending → World → Prop) : rkind_T cols_p cols_n cols_c x0 x1 x2 x3 x4 x5_p x5_n x5_c w R = vcFn Tryd.prog [] [(26, [2, 4, 6, 8, 10, 12, 14, 16, 18, 20, 22, 24, 26, 28, 30, 32, 34, 36, 38, 0])] Tryd.f49 [.slice cols_p cols_n cols_c, Value.agg
 #[.int .i64 x0, .string x1, .int .i64 x2, .int .i64 x3, .string x4, .slice x5_p x5_n x5_c]] w R := by kernel_rfl

set_option maxRecDepth 100000 in
theorem rkind_vc (cols_p : Option Addr) (cols_n : Nat) (cols_c : Nat) (x0 : Int) (x1 : ByteArray) (x2 : Int) (x3 : Int) (x4 : ByteArray) (x5_p : Option Addr) (x5_n : Nat) (x5_c : Nat) (w : World) (R : Ending → World → Prop) (hvc : rkind_T cols_p cols_n cols_c x0 x1 x2 x3 x4 x5_p x5_n x5_c w R) : Calls Tryd.prog 49 #[.slice cols_p cols_n cols_c, Value.agg
 #[.int .i64 x0, .string x1, .int .i64 x2, .int .i64 x3, .string x4, .slice x5_p x5_n x5_c]] w R :=
  calls_of_vc (args := [.slice cols_p cols_n cols_c, Value.agg
 #[.int .i64 x0, .string x1, .int .i64 x2, .int .i64 x3, .string x4, .slice x5_p x5_n x5_c]]) [] [(26, [2, 4, 6, 8, 10, 12, 14, 16, 18, 20, 22, 24, 26, 28, 30, 32, 34, 36, 38, 0])] Tryd.mixed Tryd.func49 (cast (rkind_eq _ _ _ _ _ _ _ _ _ _ _ w R) hvc)

set_option maxRecDepth 100000 in
def rtype_T (cols_p : Option Addr) (cols_n : Nat) (cols_c : Nat) (x0 : Int) (x1 : ByteArray) (x2 : Int) (x3 : Int) (x4 : ByteArray) (x5_p : Option Addr) (x5_n : Nat) (x5_c : Nat) (w : World) (R : Ending → World → Prop) : Prop :=
  ∀ b1 w'2, New w (Obj.cells #[.int .i64 x0, .string x1, .int .i64 x2, .int .i64 x3, .string x4, .slice x5_p x5_n x5_c] 29) b1
 w'2 → Calls Tryd.prog 47 #[.slice cols_p cols_n cols_c] w'2 fun e4 w5 ↦
 ∃ b6, e4 = .returned (.bool b6) ∧ (b6 = false → R (.returned (.tuple #[.int .i64 0, .int .i64 50])) w5) ∧ (b6 = true → ∃ n9, w5.cell? ⟨b1, 0, none⟩ = some (.int .i64 n9) ∧ ∃ s10, w5.cell? ⟨b1, 1, none⟩ = some (.string s10) ∧ ∃ n11, w5.cell? ⟨b1, 2, none⟩ = some (.int .i64 n11) ∧ ∃ n12, w5.cell? ⟨b1, 3, none⟩ = some (.int .i64 n12) ∧ ∃ s13, w5.cell? ⟨b1, 4, none⟩ = some (.string s13) ∧ ∃ p14 n15 c16, w5.cell? ⟨b1, 5, none⟩ = some (.slice p14 n15 c16) ∧ Calls Tryd.prog 48
 #[.agg #[.int .i64 n9, .string s10, .int .i64 n11, .int .i64 n12, .string s13, .slice p14 n15 c16]] w5
 fun e17 w18 ↦
 ∃ b19, e17 = .returned (.bool b19) ∧ (b19 = false → R (.returned (.tuple #[.int .i64 0, .int .i64 122])) w18) ∧ (b19 = true → ∃ n22, w18.cell? ⟨b1, 0, none⟩ = some (.int .i64 n22) ∧ ∃ s23, w18.cell? ⟨b1, 1, none⟩ = some (.string s23) ∧ ∃ n24, w18.cell? ⟨b1, 2, none⟩ = some (.int .i64 n24) ∧ ∃ n25, w18.cell? ⟨b1, 3, none⟩ = some (.int .i64 n25) ∧ ∃ s26, w18.cell? ⟨b1, 4, none⟩ = some (.string s26) ∧ ∃ p27 n28 c29, w18.cell? ⟨b1, 5, none⟩ = some (.slice p27 n28 c29) ∧ Calls Tryd.prog 49
 #[.slice cols_p cols_n cols_c, .agg #[.int .i64 n22, .string s23, .int .i64 n24, .int .i64 n25, .string s26, .slice p27 n28 c29]]
 w18 fun e30 w31 ↦
 ∃ n32, ∃ n33, e30 = .returned (.tuple #[.int .i64 n32, .int .i64 n33]) ∧ R (.returned (.tuple #[.int .i64 n32, .int .i64 n33])) w31))

set_option maxRecDepth 100000 in
theorem rtype_eq (cols_p : Option Addr) (cols_n : Nat) (cols_c : Nat) (x0 : Int) (x1 : ByteArray) (x2 : Int) (x3 : Int) (x4 : ByteArray) (x5_p : Option Addr) (x5_n : Nat) (x5_c : Nat) (w : World) (R : Ending → World → Prop) : rtype_T cols_p cols_n cols_c x0 x1 x2 x3 x4 x5_p x5_n x5_c w R = vcFn Tryd.prog [] [] Tryd.f23 [.slice cols_p cols_n cols_c, Value.agg
 #[.int .i64 x0, .string x1, .int .i64 x2, .int .i64 x3, .string x4, .slice x5_p x5_n x5_c]] w R := by kernel_rfl

set_option maxRecDepth 100000 in
theorem rtype_vc (cols_p : Option Addr) (cols_n : Nat) (cols_c : Nat) (x0 : Int) (x1 : ByteArray) (x2 : Int) (x3 : Int) (x4 : ByteArray) (x5_p : Option Addr) (x5_n : Nat) (x5_c : Nat) (w : World) (R : Ending → World → Prop) (hvc : rtype_T cols_p cols_n cols_c x0 x1 x2 x3 x4 x5_p x5_n x5_c w R) : Calls Tryd.prog 23 #[.slice cols_p cols_n cols_c, Value.agg
 #[.int .i64 x0, .string x1, .int .i64 x2, .int .i64 x3, .string x4, .slice x5_p x5_n x5_c]] w R :=
  calls_of_vc (args := [.slice cols_p cols_n cols_c, Value.agg
 #[.int .i64 x0, .string x1, .int .i64 x2, .int .i64 x3, .string x4, .slice x5_p x5_n x5_c]]) [] [] Tryd.mixed Tryd.func23 (cast (rtype_eq _ _ _ _ _ _ _ _ _ _ _ w R) hvc)

set_option maxRecDepth 100000 in
def rtruth_T (b : Bool) (w : World) (R : Ending → World → Prop) : Prop :=
  ∀ b1 w'2, New w (Obj.cells #[.int .i64 0, .int .i64 0, .string ⟨#[]⟩] 26) b1 w'2 → ∀ b4 w'5, New w'2 (Obj.cells #[.int .i64 0, .int .i64 0, .string ⟨#[]⟩] 26) b4 w'5 → (∃ u7, w'5.cell? ⟨b4, 0, none⟩ = some u7) ∧ w'5.frozen? ⟨b4, 0, none⟩ = false ∧ (∃ u8, w'5.cell? ⟨b4, 1, none⟩ = some u8) ∧ w'5.frozen? ⟨b4, 1, none⟩ = false ∧ (∃ u9, w'5.cell? ⟨b4, 2, none⟩ = some u9) ∧ w'5.frozen? ⟨b4, 2, none⟩ = false ∧ ∀ w'10, Put w'5 b4 0 [.int .i64 2, .int .i64 0, .string ⟨#[]⟩] w'10 → (b = true → (∃ u13, w'10.cell? ⟨b4, 1, none⟩ = some u13) ∧ w'10.frozen? ⟨b4, 1, none⟩ = false ∧ ∀ w'14, Put w'10 b4 1 [.int .i64 1] w'14 → ∃ n16, w'14.cell? ⟨b4, 0, none⟩ = some (.int .i64 n16) ∧ ∃ n17, w'14.cell? ⟨b4, 1, none⟩ = some (.int .i64 n17) ∧ ∃ s18, w'14.cell? ⟨b4, 2, none⟩ = some (.string s18) ∧ (∃ u19, w'14.cell? ⟨b1, 0, none⟩ = some u19) ∧ w'14.frozen? ⟨b1, 0, none⟩ = false ∧ (∃ u20, w'14.cell? ⟨b1, 1, none⟩ = some u20) ∧ w'14.frozen? ⟨b1, 1, none⟩ = false ∧ (∃ u21, w'14.cell? ⟨b1, 2, none⟩ = some u21) ∧ w'14.frozen? ⟨b1, 2, none⟩ = false ∧ ∀ w'22, Put w'14 b1 0 [.int .i64 n16, .int .i64 n17, .string s18] w'22 → ∃ n24, w'22.cell? ⟨b1, 0, none⟩ = some (.int .i64 n24) ∧ ∃ n25, w'22.cell? ⟨b1, 1, none⟩ = some (.int .i64 n25) ∧ ∃ s26, w'22.cell? ⟨b1, 2, none⟩ = some (.string s26) ∧ R (.returned (.agg #[.int .i64 n24, .int .i64 n25, .string s26])) w'22) ∧ (b = false → ∃ n28, w'10.cell? ⟨b4, 0, none⟩ = some (.int .i64 n28) ∧ ∃ n29, w'10.cell? ⟨b4, 1, none⟩ = some (.int .i64 n29) ∧ ∃ s30, w'10.cell? ⟨b4, 2, none⟩ = some (.string s30) ∧ (∃ u31, w'10.cell? ⟨b1, 0, none⟩ = some u31) ∧ w'10.frozen? ⟨b1, 0, none⟩ = false ∧ (∃ u32, w'10.cell? ⟨b1, 1, none⟩ = some u32) ∧ w'10.frozen? ⟨b1, 1, none⟩ = false ∧ (∃ u33, w'10.cell? ⟨b1, 2, none⟩ = some u33) ∧ w'10.frozen? ⟨b1, 2, none⟩ = false ∧ ∀ w'34, Put w'10 b1 0 [.int .i64 n28, .int .i64 n29, .string s30] w'34 → ∃ n36, w'34.cell? ⟨b1, 0, none⟩ = some (.int .i64 n36) ∧ ∃ n37, w'34.cell? ⟨b1, 1, none⟩ = some (.int .i64 n37) ∧ ∃ s38, w'34.cell? ⟨b1, 2, none⟩ = some (.string s38) ∧ R (.returned (.agg #[.int .i64 n36, .int .i64 n37, .string s38])) w'34)

set_option maxRecDepth 100000 in
theorem rtruth_eq (b : Bool) (w : World) (R : Ending → World → Prop) : rtruth_T b w R = vcFn Tryd.prog [] [] Tryd.f53 [.bool b] w R := by kernel_rfl

set_option maxRecDepth 100000 in
theorem rtruth_vc (b : Bool) (w : World) (R : Ending → World → Prop) (hvc : rtruth_T b w R) : Calls Tryd.prog 53 #[.bool b] w R :=
  calls_of_vc (args := [.bool b]) [] [] Tryd.mixed Tryd.func53 (cast (rtruth_eq _ w R) hvc)

set_option maxRecDepth 100000 in
def rnumber_T (n : Int) (w : World) (R : Ending → World → Prop) : Prop :=
  ∀ b1 w'2, New w (Obj.cells #[.int .i64 0, .int .i64 0, .string ⟨#[]⟩] 26) b1 w'2 → (∃ u4, w'2.cell? ⟨b1, 0, none⟩ = some u4) ∧ w'2.frozen? ⟨b1, 0, none⟩ = false ∧ (∃ u5, w'2.cell? ⟨b1, 1, none⟩ = some u5) ∧ w'2.frozen? ⟨b1, 1, none⟩ = false ∧ (∃ u6, w'2.cell? ⟨b1, 2, none⟩ = some u6) ∧ w'2.frozen? ⟨b1, 2, none⟩ = false ∧ ∀ w'7, Put w'2 b1 0 [.int .i64 1, .int .i64 n, .string ⟨#[]⟩] w'7 → ∃ n9, w'7.cell? ⟨b1, 0, none⟩ = some (.int .i64 n9) ∧ ∃ n10, w'7.cell? ⟨b1, 1, none⟩ = some (.int .i64 n10) ∧ ∃ s11, w'7.cell? ⟨b1, 2, none⟩ = some (.string s11) ∧ R (.returned (.agg #[.int .i64 n9, .int .i64 n10, .string s11])) w'7

set_option maxRecDepth 100000 in
theorem rnumber_eq (n : Int) (w : World) (R : Ending → World → Prop) : rnumber_T n w R = vcFn Tryd.prog [] [] Tryd.f54 [.int .i64 n] w R := by kernel_rfl

set_option maxRecDepth 100000 in
theorem rnumber_vc (n : Int) (w : World) (R : Ending → World → Prop) (hvc : rnumber_T n w R) : Calls Tryd.prog 54 #[.int .i64 n] w R :=
  calls_of_vc (args := [.int .i64 n]) [] [] Tryd.mixed Tryd.func54 (cast (rnumber_eq _ w R) hvc)

set_option maxRecDepth 100000 in
def rproduct_T (a : Int) (b : Int) (w : World) (R : Ending → World → Prop) : Prop :=
  (a = 0 ∨ b = 0 → R (.returned (.tuple #[.int .i64 0, .bool true])) w) ∧ (a ≠ 0 ∧ b ≠ 0 → (a = -1 ∧ b = -9223372036854775808 → R (.returned (.tuple #[.int .i64 0, .bool false])) w) ∧ (a ≠ -1 ∨ b ≠ -9223372036854775808 → (b = -1 ∧ a = -9223372036854775808 → R (.returned (.tuple #[.int .i64 0, .bool false])) w) ∧ (b ≠ -1 ∨ a ≠ -9223372036854775808 → ∀ w'7, Drew w w'7 → b ≠ 0 ∧ R (.returned (.tuple #[.int .i64 (IntKind.i64.wrap (a * b)), .bool (decide (quoI IntKind.i64 (IntKind.i64.wrap (a * b)) b = a))])) w'7)))

set_option maxRecDepth 100000 in
theorem rproduct_eq (a : Int) (b : Int) (w : World) (R : Ending → World → Prop) : rproduct_T a b w R = vcFn Tryd.prog [] [(6, [2, 4, 6, 8, 10, 12, 14, 16, 0])] Tryd.f74 [.int .i64 a, .int .i64 b] w R := by kernel_rfl

set_option maxRecDepth 100000 in
theorem rproduct_vc (a : Int) (b : Int) (w : World) (R : Ending → World → Prop) (hvc : rproduct_T a b w R) : Calls Tryd.prog 74 #[.int .i64 a, .int .i64 b] w R :=
  calls_of_vc (args := [.int .i64 a, .int .i64 b]) [] [(6, [2, 4, 6, 8, 10, 12, 14, 16, 0])] Tryd.mixed Tryd.func74 (cast (rproduct_eq _ _ w R) hvc)

set_option maxRecDepth 100000 in
def reckoned_T (op : Int) (a : Int) (b : Int) (w : World) (R : Ending → World → Prop) : Prop :=
  (op = 3 → (0 ≤ b ∧ a ≤ IntKind.i64.wrap (a + b) → R (.returned (.tuple #[.int .i64 (IntKind.i64.wrap (a + b)), .int .i64 0])) w) ∧ (b < 0 ∨ IntKind.i64.wrap (a + b) < a → (0 ≤ b ∨ a ≤ IntKind.i64.wrap (a + b) → R (.returned (.tuple #[.int .i64 0, .int .i64 100])) w) ∧ (b < 0 ∧ IntKind.i64.wrap (a + b) < a → R (.returned (.tuple #[.int .i64 (IntKind.i64.wrap (a + b)), .int .i64 0])) w))) ∧ (op ≠ 3 → (op = 4 → (0 ≤ b ∧ IntKind.i64.wrap (a - b) ≤ a → R (.returned (.tuple #[.int .i64 (IntKind.i64.wrap (a - b)), .int .i64 0])) w) ∧ (b < 0 ∨ a < IntKind.i64.wrap (a - b) → (0 ≤ b ∨ IntKind.i64.wrap (a - b) ≤ a → R (.returned (.tuple #[.int .i64 0, .int .i64 100])) w) ∧ (b < 0 ∧ a < IntKind.i64.wrap (a - b) → R (.returned (.tuple #[.int .i64 (IntKind.i64.wrap (a - b)), .int .i64 0])) w))) ∧ (op ≠ 4 → (op = 5 → Calls Tryd.prog 74 #[.int .i64 a, .int .i64 b] w fun e14 w15 ↦
 ∃ n16, ∃ b17, e14 = .returned (.tuple #[.int .i64 n16, .bool b17]) ∧ (b17 = false → R (.returned (.tuple #[.int .i64 0, .int .i64 100])) w15) ∧ (b17 = true → R (.returned (.tuple #[.int .i64 n16, .int .i64 0])) w15)) ∧ (op ≠ 5 → (op = 6 → (b = 0 → R (.returned (.tuple #[.int .i64 0, .int .i64 101])) w) ∧ (b ≠ 0 → (b = -1 → (a = -9223372036854775808 → R (.returned (.tuple #[.int .i64 0, .int .i64 100])) w) ∧ (a ≠ -9223372036854775808 → R (.returned (.tuple #[.int .i64 (IntKind.i64.wrap (0 - a)), .int .i64 0])) w)) ∧ (b ≠ -1 → b ≠ 0 ∧ R (.returned (.tuple #[.int .i64 (quoI IntKind.i64 a b), .int .i64 0])) w))) ∧ (op ≠ 6 → (b = 0 → R (.returned (.tuple #[.int .i64 0, .int .i64 101])) w) ∧ (b ≠ 0 → (b ≠ -1 → b ≠ 0 ∧ R (.returned (.tuple #[.int .i64 (remI a b), .int .i64 0])) w) ∧ (b = -1 → R (.returned (.tuple #[.int .i64 0, .int .i64 0])) w))))))

set_option maxRecDepth 100000 in
theorem reckoned_eq (op : Int) (a : Int) (b : Int) (w : World) (R : Ending → World → Prop) : reckoned_T op a b w R = vcFn Tryd.prog [] [] Tryd.f55 [.int .i64 op, .int .i64 a, .int .i64 b] w R := by kernel_rfl

set_option maxRecDepth 100000 in
theorem reckoned_vc (op : Int) (a : Int) (b : Int) (w : World) (R : Ending → World → Prop) (hvc : reckoned_T op a b w R) : Calls Tryd.prog 55 #[.int .i64 op, .int .i64 a, .int .i64 b] w R :=
  calls_of_vc (args := [.int .i64 op, .int .i64 a, .int .i64 b]) [] [] Tryd.mixed Tryd.func55 (cast (reckoned_eq _ _ _ w R) hvc)

set_option maxRecDepth 100000 in
def rboth_T (a0 : Int) (a1 : Int) (a2 : ByteArray) (b0 : Int) (b1 : Int) (b2 : ByteArray) (strong : Int) (w : World) (R : Ending → World → Prop) : Prop :=
  ∀ b1_1 w'2, New w (Obj.cells #[.int .i64 a0, .int .i64 a1, .string a2] 26) b1_1 w'2 → ∀ b4 w'5, New w'2 (Obj.cells #[.int .i64 b0, .int .i64 b1, .string b2] 26) b4 w'5 → ∀ b7 w'8, New w'5 (Obj.cells #[.int .i64 0, .int .i64 0, .string ⟨#[]⟩] 26) b7 w'8 → ∃ n10, w'8.cell? ⟨b1_1, 0, none⟩ = some (.int .i64 n10) ∧ (n10 = 2 → ∃ n12, w'8.cell? ⟨b1_1, 1, none⟩ = some (.int .i64 n12) ∧ (n12 = strong → Calls Tryd.prog 53 #[.bool (decide (strong = 1))] w'8 fun e14 w15 ↦
 ∃ n16, ∃ n17, ∃ s18, e14 = .returned (.agg #[.int .i64 n16, .int .i64 n17, .string s18]) ∧ (∃ u19, w15.cell? ⟨b7, 0, none⟩ = some u19) ∧ w15.frozen? ⟨b7, 0, none⟩ = false ∧ (∃ u20, w15.cell? ⟨b7, 1, none⟩ = some u20) ∧ w15.frozen? ⟨b7, 1, none⟩ = false ∧ (∃ u21, w15.cell? ⟨b7, 2, none⟩ = some u21) ∧ w15.frozen? ⟨b7, 2, none⟩ = false ∧ ∀ w'22, Put w15 b7 0 [.int .i64 n16, .int .i64 n17, .string s18] w'22 → ∃ n24, w'22.cell? ⟨b7, 0, none⟩ = some (.int .i64 n24) ∧ ∃ n25, w'22.cell? ⟨b7, 1, none⟩ = some (.int .i64 n25) ∧ ∃ s26, w'22.cell? ⟨b7, 2, none⟩ = some (.string s26) ∧ R (.returned (.agg #[.int .i64 n24, .int .i64 n25, .string s26])) w'22) ∧ (n12 ≠ strong → ∃ n28, w'8.cell? ⟨b4, 0, none⟩ = some (.int .i64 n28) ∧ (n28 = 2 → ∃ n30, w'8.cell? ⟨b4, 1, none⟩ = some (.int .i64 n30) ∧ (n30 = strong → Calls Tryd.prog 53 #[.bool (decide (strong = 1))] w'8 fun e32 w33 ↦
 ∃ n34, ∃ n35, ∃ s36, e32 = .returned (.agg #[.int .i64 n34, .int .i64 n35, .string s36]) ∧ (∃ u37, w33.cell? ⟨b7, 0, none⟩ = some u37) ∧ w33.frozen? ⟨b7, 0, none⟩ = false ∧ (∃ u38, w33.cell? ⟨b7, 1, none⟩ = some u38) ∧ w33.frozen? ⟨b7, 1, none⟩ = false ∧ (∃ u39, w33.cell? ⟨b7, 2, none⟩ = some u39) ∧ w33.frozen? ⟨b7, 2, none⟩ = false ∧ ∀ w'40, Put w33 b7 0 [.int .i64 n34, .int .i64 n35, .string s36] w'40 → ∃ n42, w'40.cell? ⟨b7, 0, none⟩ = some (.int .i64 n42) ∧ ∃ n43, w'40.cell? ⟨b7, 1, none⟩ = some (.int .i64 n43) ∧ ∃ s44, w'40.cell? ⟨b7, 2, none⟩ = some (.string s44) ∧ R (.returned (.agg #[.int .i64 n42, .int .i64 n43, .string s44])) w'40) ∧ (n30 ≠ strong → ∃ n46, w'8.cell? ⟨b1_1, 0, none⟩ = some (.int .i64 n46) ∧ (n46 = 0 → (∃ u48, w'8.cell? ⟨b7, 0, none⟩ = some u48) ∧ w'8.frozen? ⟨b7, 0, none⟩ = false ∧ (∃ u49, w'8.cell? ⟨b7, 1, none⟩ = some u49) ∧ w'8.frozen? ⟨b7, 1, none⟩ = false ∧ (∃ u50, w'8.cell? ⟨b7, 2, none⟩ = some u50) ∧ w'8.frozen? ⟨b7, 2, none⟩ = false ∧ ∀ w'51, Put w'8 b7 0 [.int .i64 0, .int .i64 0, .string ⟨#[]⟩] w'51 → ∃ n53, w'51.cell? ⟨b7, 0, none⟩ = some (.int .i64 n53) ∧ ∃ n54, w'51.cell? ⟨b7, 1, none⟩ = some (.int .i64 n54) ∧ ∃ s55, w'51.cell? ⟨b7, 2, none⟩ = some (.string s55) ∧ R (.returned (.agg #[.int .i64 n53, .int .i64 n54, .string s55])) w'51) ∧ (n46 ≠ 0 → ∃ n57, w'8.cell? ⟨b4, 0, none⟩ = some (.int .i64 n57) ∧ (n57 = 0 → (∃ u59, w'8.cell? ⟨b7, 0, none⟩ = some u59) ∧ w'8.frozen? ⟨b7, 0, none⟩ = false ∧ (∃ u60, w'8.cell? ⟨b7, 1, none⟩ = some u60) ∧ w'8.frozen? ⟨b7, 1, none⟩ = false ∧ (∃ u61, w'8.cell? ⟨b7, 2, none⟩ = some u61) ∧ w'8.frozen? ⟨b7, 2, none⟩ = false ∧ ∀ w'62, Put w'8 b7 0 [.int .i64 0, .int .i64 0, .string ⟨#[]⟩] w'62 → ∃ n64, w'62.cell? ⟨b7, 0, none⟩ = some (.int .i64 n64) ∧ ∃ n65, w'62.cell? ⟨b7, 1, none⟩ = some (.int .i64 n65) ∧ ∃ s66, w'62.cell? ⟨b7, 2, none⟩ = some (.string s66) ∧ R (.returned (.agg #[.int .i64 n64, .int .i64 n65, .string s66])) w'62) ∧ (n57 ≠ 0 → Calls Tryd.prog 53 #[.bool (decide (strong = 0))] w'8 fun e68 w69 ↦
 ∃ n70, ∃ n71, ∃ s72, e68 = .returned (.agg #[.int .i64 n70, .int .i64 n71, .string s72]) ∧ (∃ u73, w69.cell? ⟨b7, 0, none⟩ = some u73) ∧ w69.frozen? ⟨b7, 0, none⟩ = false ∧ (∃ u74, w69.cell? ⟨b7, 1, none⟩ = some u74) ∧ w69.frozen? ⟨b7, 1, none⟩ = false ∧ (∃ u75, w69.cell? ⟨b7, 2, none⟩ = some u75) ∧ w69.frozen? ⟨b7, 2, none⟩ = false ∧ ∀ w'76, Put w69 b7 0 [.int .i64 n70, .int .i64 n71, .string s72] w'76 → ∃ n78, w'76.cell? ⟨b7, 0, none⟩ = some (.int .i64 n78) ∧ ∃ n79, w'76.cell? ⟨b7, 1, none⟩ = some (.int .i64 n79) ∧ ∃ s80, w'76.cell? ⟨b7, 2, none⟩ = some (.string s80) ∧ R (.returned (.agg #[.int .i64 n78, .int .i64 n79, .string s80])) w'76)))) ∧ (n28 ≠ 2 → ∃ n82, w'8.cell? ⟨b1_1, 0, none⟩ = some (.int .i64 n82) ∧ (n82 = 0 → (∃ u84, w'8.cell? ⟨b7, 0, none⟩ = some u84) ∧ w'8.frozen? ⟨b7, 0, none⟩ = false ∧ (∃ u85, w'8.cell? ⟨b7, 1, none⟩ = some u85) ∧ w'8.frozen? ⟨b7, 1, none⟩ = false ∧ (∃ u86, w'8.cell? ⟨b7, 2, none⟩ = some u86) ∧ w'8.frozen? ⟨b7, 2, none⟩ = false ∧ ∀ w'87, Put w'8 b7 0 [.int .i64 0, .int .i64 0, .string ⟨#[]⟩] w'87 → ∃ n89, w'87.cell? ⟨b7, 0, none⟩ = some (.int .i64 n89) ∧ ∃ n90, w'87.cell? ⟨b7, 1, none⟩ = some (.int .i64 n90) ∧ ∃ s91, w'87.cell? ⟨b7, 2, none⟩ = some (.string s91) ∧ R (.returned (.agg #[.int .i64 n89, .int .i64 n90, .string s91])) w'87) ∧ (n82 ≠ 0 → ∃ n93, w'8.cell? ⟨b4, 0, none⟩ = some (.int .i64 n93) ∧ (n93 = 0 → (∃ u95, w'8.cell? ⟨b7, 0, none⟩ = some u95) ∧ w'8.frozen? ⟨b7, 0, none⟩ = false ∧ (∃ u96, w'8.cell? ⟨b7, 1, none⟩ = some u96) ∧ w'8.frozen? ⟨b7, 1, none⟩ = false ∧ (∃ u97, w'8.cell? ⟨b7, 2, none⟩ = some u97) ∧ w'8.frozen? ⟨b7, 2, none⟩ = false ∧ ∀ w'98, Put w'8 b7 0 [.int .i64 0, .int .i64 0, .string ⟨#[]⟩] w'98 → ∃ n100, w'98.cell? ⟨b7, 0, none⟩ = some (.int .i64 n100) ∧ ∃ n101, w'98.cell? ⟨b7, 1, none⟩ = some (.int .i64 n101) ∧ ∃ s102, w'98.cell? ⟨b7, 2, none⟩ = some (.string s102) ∧ R (.returned (.agg #[.int .i64 n100, .int .i64 n101, .string s102])) w'98) ∧ (n93 ≠ 0 → Calls Tryd.prog 53 #[.bool (decide (strong = 0))] w'8 fun e104 w105 ↦
 ∃ n106, ∃ n107, ∃ s108, e104 = .returned (.agg #[.int .i64 n106, .int .i64 n107, .string s108]) ∧ (∃ u109, w105.cell? ⟨b7, 0, none⟩ = some u109) ∧ w105.frozen? ⟨b7, 0, none⟩ = false ∧ (∃ u110, w105.cell? ⟨b7, 1, none⟩ = some u110) ∧ w105.frozen? ⟨b7, 1, none⟩ = false ∧ (∃ u111, w105.cell? ⟨b7, 2, none⟩ = some u111) ∧ w105.frozen? ⟨b7, 2, none⟩ = false ∧ ∀ w'112, Put w105 b7 0 [.int .i64 n106, .int .i64 n107, .string s108] w'112 → ∃ n114, w'112.cell? ⟨b7, 0, none⟩ = some (.int .i64 n114) ∧ ∃ n115, w'112.cell? ⟨b7, 1, none⟩ = some (.int .i64 n115) ∧ ∃ s116, w'112.cell? ⟨b7, 2, none⟩ = some (.string s116) ∧ R (.returned (.agg #[.int .i64 n114, .int .i64 n115, .string s116])) w'112))))) ∧ (n10 ≠ 2 → ∃ n118, w'8.cell? ⟨b4, 0, none⟩ = some (.int .i64 n118) ∧ (n118 = 2 → ∃ n120, w'8.cell? ⟨b4, 1, none⟩ = some (.int .i64 n120) ∧ (n120 = strong → Calls Tryd.prog 53 #[.bool (decide (strong = 1))] w'8 fun e122 w123 ↦
 ∃ n124, ∃ n125, ∃ s126, e122 = .returned (.agg #[.int .i64 n124, .int .i64 n125, .string s126]) ∧ (∃ u127, w123.cell? ⟨b7, 0, none⟩ = some u127) ∧ w123.frozen? ⟨b7, 0, none⟩ = false ∧ (∃ u128, w123.cell? ⟨b7, 1, none⟩ = some u128) ∧ w123.frozen? ⟨b7, 1, none⟩ = false ∧ (∃ u129, w123.cell? ⟨b7, 2, none⟩ = some u129) ∧ w123.frozen? ⟨b7, 2, none⟩ = false ∧ ∀ w'130, Put w123 b7 0 [.int .i64 n124, .int .i64 n125, .string s126] w'130 → ∃ n132, w'130.cell? ⟨b7, 0, none⟩ = some (.int .i64 n132) ∧ ∃ n133, w'130.cell? ⟨b7, 1, none⟩ = some (.int .i64 n133) ∧ ∃ s134, w'130.cell? ⟨b7, 2, none⟩ = some (.string s134) ∧ R (.returned (.agg #[.int .i64 n132, .int .i64 n133, .string s134])) w'130) ∧ (n120 ≠ strong → ∃ n136, w'8.cell? ⟨b1_1, 0, none⟩ = some (.int .i64 n136) ∧ (n136 = 0 → (∃ u138, w'8.cell? ⟨b7, 0, none⟩ = some u138) ∧ w'8.frozen? ⟨b7, 0, none⟩ = false ∧ (∃ u139, w'8.cell? ⟨b7, 1, none⟩ = some u139) ∧ w'8.frozen? ⟨b7, 1, none⟩ = false ∧ (∃ u140, w'8.cell? ⟨b7, 2, none⟩ = some u140) ∧ w'8.frozen? ⟨b7, 2, none⟩ = false ∧ ∀ w'141, Put w'8 b7 0 [.int .i64 0, .int .i64 0, .string ⟨#[]⟩] w'141 → ∃ n143, w'141.cell? ⟨b7, 0, none⟩ = some (.int .i64 n143) ∧ ∃ n144, w'141.cell? ⟨b7, 1, none⟩ = some (.int .i64 n144) ∧ ∃ s145, w'141.cell? ⟨b7, 2, none⟩ = some (.string s145) ∧ R (.returned (.agg #[.int .i64 n143, .int .i64 n144, .string s145])) w'141) ∧ (n136 ≠ 0 → ∃ n147, w'8.cell? ⟨b4, 0, none⟩ = some (.int .i64 n147) ∧ (n147 = 0 → (∃ u149, w'8.cell? ⟨b7, 0, none⟩ = some u149) ∧ w'8.frozen? ⟨b7, 0, none⟩ = false ∧ (∃ u150, w'8.cell? ⟨b7, 1, none⟩ = some u150) ∧ w'8.frozen? ⟨b7, 1, none⟩ = false ∧ (∃ u151, w'8.cell? ⟨b7, 2, none⟩ = some u151) ∧ w'8.frozen? ⟨b7, 2, none⟩ = false ∧ ∀ w'152, Put w'8 b7 0 [.int .i64 0, .int .i64 0, .string ⟨#[]⟩] w'152 → ∃ n154, w'152.cell? ⟨b7, 0, none⟩ = some (.int .i64 n154) ∧ ∃ n155, w'152.cell? ⟨b7, 1, none⟩ = some (.int .i64 n155) ∧ ∃ s156, w'152.cell? ⟨b7, 2, none⟩ = some (.string s156) ∧ R (.returned (.agg #[.int .i64 n154, .int .i64 n155, .string s156])) w'152) ∧ (n147 ≠ 0 → Calls Tryd.prog 53 #[.bool (decide (strong = 0))] w'8 fun e158 w159 ↦
 ∃ n160, ∃ n161, ∃ s162, e158 = .returned (.agg #[.int .i64 n160, .int .i64 n161, .string s162]) ∧ (∃ u163, w159.cell? ⟨b7, 0, none⟩ = some u163) ∧ w159.frozen? ⟨b7, 0, none⟩ = false ∧ (∃ u164, w159.cell? ⟨b7, 1, none⟩ = some u164) ∧ w159.frozen? ⟨b7, 1, none⟩ = false ∧ (∃ u165, w159.cell? ⟨b7, 2, none⟩ = some u165) ∧ w159.frozen? ⟨b7, 2, none⟩ = false ∧ ∀ w'166, Put w159 b7 0 [.int .i64 n160, .int .i64 n161, .string s162] w'166 → ∃ n168, w'166.cell? ⟨b7, 0, none⟩ = some (.int .i64 n168) ∧ ∃ n169, w'166.cell? ⟨b7, 1, none⟩ = some (.int .i64 n169) ∧ ∃ s170, w'166.cell? ⟨b7, 2, none⟩ = some (.string s170) ∧ R (.returned (.agg #[.int .i64 n168, .int .i64 n169, .string s170])) w'166)))) ∧ (n118 ≠ 2 → ∃ n172, w'8.cell? ⟨b1_1, 0, none⟩ = some (.int .i64 n172) ∧ (n172 = 0 → (∃ u174, w'8.cell? ⟨b7, 0, none⟩ = some u174) ∧ w'8.frozen? ⟨b7, 0, none⟩ = false ∧ (∃ u175, w'8.cell? ⟨b7, 1, none⟩ = some u175) ∧ w'8.frozen? ⟨b7, 1, none⟩ = false ∧ (∃ u176, w'8.cell? ⟨b7, 2, none⟩ = some u176) ∧ w'8.frozen? ⟨b7, 2, none⟩ = false ∧ ∀ w'177, Put w'8 b7 0 [.int .i64 0, .int .i64 0, .string ⟨#[]⟩] w'177 → ∃ n179, w'177.cell? ⟨b7, 0, none⟩ = some (.int .i64 n179) ∧ ∃ n180, w'177.cell? ⟨b7, 1, none⟩ = some (.int .i64 n180) ∧ ∃ s181, w'177.cell? ⟨b7, 2, none⟩ = some (.string s181) ∧ R (.returned (.agg #[.int .i64 n179, .int .i64 n180, .string s181])) w'177) ∧ (n172 ≠ 0 → ∃ n183, w'8.cell? ⟨b4, 0, none⟩ = some (.int .i64 n183) ∧ (n183 = 0 → (∃ u185, w'8.cell? ⟨b7, 0, none⟩ = some u185) ∧ w'8.frozen? ⟨b7, 0, none⟩ = false ∧ (∃ u186, w'8.cell? ⟨b7, 1, none⟩ = some u186) ∧ w'8.frozen? ⟨b7, 1, none⟩ = false ∧ (∃ u187, w'8.cell? ⟨b7, 2, none⟩ = some u187) ∧ w'8.frozen? ⟨b7, 2, none⟩ = false ∧ ∀ w'188, Put w'8 b7 0 [.int .i64 0, .int .i64 0, .string ⟨#[]⟩] w'188 → ∃ n190, w'188.cell? ⟨b7, 0, none⟩ = some (.int .i64 n190) ∧ ∃ n191, w'188.cell? ⟨b7, 1, none⟩ = some (.int .i64 n191) ∧ ∃ s192, w'188.cell? ⟨b7, 2, none⟩ = some (.string s192) ∧ R (.returned (.agg #[.int .i64 n190, .int .i64 n191, .string s192])) w'188) ∧ (n183 ≠ 0 → Calls Tryd.prog 53 #[.bool (decide (strong = 0))] w'8 fun e194 w195 ↦
 ∃ n196, ∃ n197, ∃ s198, e194 = .returned (.agg #[.int .i64 n196, .int .i64 n197, .string s198]) ∧ (∃ u199, w195.cell? ⟨b7, 0, none⟩ = some u199) ∧ w195.frozen? ⟨b7, 0, none⟩ = false ∧ (∃ u200, w195.cell? ⟨b7, 1, none⟩ = some u200) ∧ w195.frozen? ⟨b7, 1, none⟩ = false ∧ (∃ u201, w195.cell? ⟨b7, 2, none⟩ = some u201) ∧ w195.frozen? ⟨b7, 2, none⟩ = false ∧ ∀ w'202, Put w195 b7 0 [.int .i64 n196, .int .i64 n197, .string s198] w'202 → ∃ n204, w'202.cell? ⟨b7, 0, none⟩ = some (.int .i64 n204) ∧ ∃ n205, w'202.cell? ⟨b7, 1, none⟩ = some (.int .i64 n205) ∧ ∃ s206, w'202.cell? ⟨b7, 2, none⟩ = some (.string s206) ∧ R (.returned (.agg #[.int .i64 n204, .int .i64 n205, .string s206])) w'202))))

set_option maxRecDepth 100000 in
theorem rboth_eq (a0 : Int) (a1 : Int) (a2 : ByteArray) (b0 : Int) (b1 : Int) (b2 : ByteArray) (strong : Int) (w : World) (R : Ending → World → Prop) : rboth_T a0 a1 a2 b0 b1 b2 strong w R = vcFn Tryd.prog [] [] Tryd.f72 [.agg #[.int .i64 a0, .int .i64 a1, .string a2], .agg #[.int .i64 b0, .int .i64 b1, .string b2], .int .i64 strong] w R := by kernel_rfl

set_option maxRecDepth 100000 in
theorem rboth_vc (a0 : Int) (a1 : Int) (a2 : ByteArray) (b0 : Int) (b1 : Int) (b2 : ByteArray) (strong : Int) (w : World) (R : Ending → World → Prop) (hvc : rboth_T a0 a1 a2 b0 b1 b2 strong w R) : Calls Tryd.prog 72 #[.agg #[.int .i64 a0, .int .i64 a1, .string a2], .agg #[.int .i64 b0, .int .i64 b1, .string b2], .int .i64 strong] w R :=
  calls_of_vc (args := [.agg #[.int .i64 a0, .int .i64 a1, .string a2], .agg #[.int .i64 b0, .int .i64 b1, .string b2], .int .i64 strong]) [] [] Tryd.mixed Tryd.func72 (cast (rboth_eq _ _ _ _ _ _ _ w R) hvc)

set_option maxRecDepth 100000 in
def rtwo_T (op : Int) (a0 : Int) (a1 : Int) (a2 : ByteArray) (b0 : Int) (b1 : Int) (b2 : ByteArray) (w : World) (R : Ending → World → Prop) : Prop :=
  ∀ b1_1 w'2, New w (Obj.cells #[.int .i64 a0, .int .i64 a1, .string a2] 26) b1_1 w'2 → ∀ b4 w'5, New w'2 (Obj.cells #[.int .i64 b0, .int .i64 b1, .string b2] 26) b4 w'5 → ∀ b7 w'8, New w'5 (Obj.cells #[.int .i64 0, .int .i64 0, .string ⟨#[]⟩] 26) b7 w'8 → (op = 12 → ∃ n11, w'8.cell? ⟨b1_1, 0, none⟩ = some (.int .i64 n11) ∧ ∃ n12, w'8.cell? ⟨b1_1, 1, none⟩ = some (.int .i64 n12) ∧ ∃ s13, w'8.cell? ⟨b1_1, 2, none⟩ = some (.string s13) ∧ ∃ n14, w'8.cell? ⟨b4, 0, none⟩ = some (.int .i64 n14) ∧ ∃ n15, w'8.cell? ⟨b4, 1, none⟩ = some (.int .i64 n15) ∧ ∃ s16, w'8.cell? ⟨b4, 2, none⟩ = some (.string s16) ∧ Calls Tryd.prog 72
 #[.agg #[.int .i64 n11, .int .i64 n12, .string s13], .agg #[.int .i64 n14, .int .i64 n15, .string s16], .int .i64 0]
 w'8 fun e17 w18 ↦
 ∃ n19, ∃ n20, ∃ s21, e17 = .returned (.agg #[.int .i64 n19, .int .i64 n20, .string s21]) ∧ (∃ u22, w18.cell? ⟨b7, 0, none⟩ = some u22) ∧ w18.frozen? ⟨b7, 0, none⟩ = false ∧ (∃ u23, w18.cell? ⟨b7, 1, none⟩ = some u23) ∧ w18.frozen? ⟨b7, 1, none⟩ = false ∧ (∃ u24, w18.cell? ⟨b7, 2, none⟩ = some u24) ∧ w18.frozen? ⟨b7, 2, none⟩ = false ∧ ∀ w'25, Put w18 b7 0 [.int .i64 n19, .int .i64 n20, .string s21] w'25 → ∃ n27, w'25.cell? ⟨b7, 0, none⟩ = some (.int .i64 n27) ∧ ∃ n28, w'25.cell? ⟨b7, 1, none⟩ = some (.int .i64 n28) ∧ ∃ s29, w'25.cell? ⟨b7, 2, none⟩ = some (.string s29) ∧ R (.returned (.tuple #[.agg #[.int .i64 n27, .int .i64 n28, .string s29], .int .i64 0])) w'25) ∧ (op ≠ 12 → (op = 13 → ∃ n32, w'8.cell? ⟨b1_1, 0, none⟩ = some (.int .i64 n32) ∧ ∃ n33, w'8.cell? ⟨b1_1, 1, none⟩ = some (.int .i64 n33) ∧ ∃ s34, w'8.cell? ⟨b1_1, 2, none⟩ = some (.string s34) ∧ ∃ n35, w'8.cell? ⟨b4, 0, none⟩ = some (.int .i64 n35) ∧ ∃ n36, w'8.cell? ⟨b4, 1, none⟩ = some (.int .i64 n36) ∧ ∃ s37, w'8.cell? ⟨b4, 2, none⟩ = some (.string s37) ∧ Calls Tryd.prog 72
 #[.agg #[.int .i64 n32, .int .i64 n33, .string s34], .agg #[.int .i64 n35, .int .i64 n36, .string s37], .int .i64 1]
 w'8 fun e38 w39 ↦
 ∃ n40, ∃ n41, ∃ s42, e38 = .returned (.agg #[.int .i64 n40, .int .i64 n41, .string s42]) ∧ (∃ u43, w39.cell? ⟨b7, 0, none⟩ = some u43) ∧ w39.frozen? ⟨b7, 0, none⟩ = false ∧ (∃ u44, w39.cell? ⟨b7, 1, none⟩ = some u44) ∧ w39.frozen? ⟨b7, 1, none⟩ = false ∧ (∃ u45, w39.cell? ⟨b7, 2, none⟩ = some u45) ∧ w39.frozen? ⟨b7, 2, none⟩ = false ∧ ∀ w'46, Put w39 b7 0 [.int .i64 n40, .int .i64 n41, .string s42] w'46 → ∃ n48, w'46.cell? ⟨b7, 0, none⟩ = some (.int .i64 n48) ∧ ∃ n49, w'46.cell? ⟨b7, 1, none⟩ = some (.int .i64 n49) ∧ ∃ s50, w'46.cell? ⟨b7, 2, none⟩ = some (.string s50) ∧ R (.returned (.tuple #[.agg #[.int .i64 n48, .int .i64 n49, .string s50], .int .i64 0])) w'46) ∧ (op ≠ 13 → ∃ n52, w'8.cell? ⟨b1_1, 0, none⟩ = some (.int .i64 n52) ∧ (n52 = 0 → (∃ u54, w'8.cell? ⟨b7, 0, none⟩ = some u54) ∧ w'8.frozen? ⟨b7, 0, none⟩ = false ∧ (∃ u55, w'8.cell? ⟨b7, 1, none⟩ = some u55) ∧ w'8.frozen? ⟨b7, 1, none⟩ = false ∧ (∃ u56, w'8.cell? ⟨b7, 2, none⟩ = some u56) ∧ w'8.frozen? ⟨b7, 2, none⟩ = false ∧ ∀ w'57, Put w'8 b7 0 [.int .i64 0, .int .i64 0, .string ⟨#[]⟩] w'57 → ∃ n59, w'57.cell? ⟨b7, 0, none⟩ = some (.int .i64 n59) ∧ ∃ n60, w'57.cell? ⟨b7, 1, none⟩ = some (.int .i64 n60) ∧ ∃ s61, w'57.cell? ⟨b7, 2, none⟩ = some (.string s61) ∧ R (.returned (.tuple #[.agg #[.int .i64 n59, .int .i64 n60, .string s61], .int .i64 0])) w'57) ∧ (n52 ≠ 0 → ∃ n63, w'8.cell? ⟨b4, 0, none⟩ = some (.int .i64 n63) ∧ (n63 = 0 → (∃ u65, w'8.cell? ⟨b7, 0, none⟩ = some u65) ∧ w'8.frozen? ⟨b7, 0, none⟩ = false ∧ (∃ u66, w'8.cell? ⟨b7, 1, none⟩ = some u66) ∧ w'8.frozen? ⟨b7, 1, none⟩ = false ∧ (∃ u67, w'8.cell? ⟨b7, 2, none⟩ = some u67) ∧ w'8.frozen? ⟨b7, 2, none⟩ = false ∧ ∀ w'68, Put w'8 b7 0 [.int .i64 0, .int .i64 0, .string ⟨#[]⟩] w'68 → ∃ n70, w'68.cell? ⟨b7, 0, none⟩ = some (.int .i64 n70) ∧ ∃ n71, w'68.cell? ⟨b7, 1, none⟩ = some (.int .i64 n71) ∧ ∃ s72, w'68.cell? ⟨b7, 2, none⟩ = some (.string s72) ∧ R (.returned (.tuple #[.agg #[.int .i64 n70, .int .i64 n71, .string s72], .int .i64 0])) w'68) ∧ (n63 ≠ 0 → ∃ n74, w'8.cell? ⟨b1_1, 0, none⟩ = some (.int .i64 n74) ∧ ∃ n75, w'8.cell? ⟨b1_1, 1, none⟩ = some (.int .i64 n75) ∧ ∃ s76, w'8.cell? ⟨b1_1, 2, none⟩ = some (.string s76) ∧ ∃ n77, w'8.cell? ⟨b4, 0, none⟩ = some (.int .i64 n77) ∧ ∃ n78, w'8.cell? ⟨b4, 1, none⟩ = some (.int .i64 n78) ∧ ∃ s79, w'8.cell? ⟨b4, 2, none⟩ = some (.string s79) ∧ Calls Tryd.prog 73
 #[.agg #[.int .i64 n74, .int .i64 n75, .string s76], .agg #[.int .i64 n77, .int .i64 n78, .string s79]]
 w'8 fun e80 w81 ↦
 ∃ n82, e80 = .returned (.int .i64 n82) ∧ (op = 9 → Calls Tryd.prog 53 #[.bool (decide (n82 = 0))] w81 fun e84 w85 ↦
 ∃ n86, ∃ n87, ∃ s88, e84 = .returned (.agg #[.int .i64 n86, .int .i64 n87, .string s88]) ∧ (∃ u89, w85.cell? ⟨b7, 0, none⟩ = some u89) ∧ w85.frozen? ⟨b7, 0, none⟩ = false ∧ (∃ u90, w85.cell? ⟨b7, 1, none⟩ = some u90) ∧ w85.frozen? ⟨b7, 1, none⟩ = false ∧ (∃ u91, w85.cell? ⟨b7, 2, none⟩ = some u91) ∧ w85.frozen? ⟨b7, 2, none⟩ = false ∧ ∀ w'92, Put w85 b7 0 [.int .i64 n86, .int .i64 n87, .string s88] w'92 → ∃ n94, w'92.cell? ⟨b7, 0, none⟩ = some (.int .i64 n94) ∧ ∃ n95, w'92.cell? ⟨b7, 1, none⟩ = some (.int .i64 n95) ∧ ∃ s96, w'92.cell? ⟨b7, 2, none⟩ = some (.string s96) ∧ R (.returned (.tuple #[.agg #[.int .i64 n94, .int .i64 n95, .string s96], .int .i64 0])) w'92) ∧ (op ≠ 9 → (op = 10 → Calls Tryd.prog 53 #[.bool (decide (n82 < 0))] w81 fun e99 w100 ↦
 ∃ n101, ∃ n102, ∃ s103, e99 = .returned (.agg #[.int .i64 n101, .int .i64 n102, .string s103]) ∧ (∃ u104, w100.cell? ⟨b7, 0, none⟩ = some u104) ∧ w100.frozen? ⟨b7, 0, none⟩ = false ∧ (∃ u105, w100.cell? ⟨b7, 1, none⟩ = some u105) ∧ w100.frozen? ⟨b7, 1, none⟩ = false ∧ (∃ u106, w100.cell? ⟨b7, 2, none⟩ = some u106) ∧ w100.frozen? ⟨b7, 2, none⟩ = false ∧ ∀ w'107, Put w100 b7 0 [.int .i64 n101, .int .i64 n102, .string s103] w'107 → ∃ n109, w'107.cell? ⟨b7, 0, none⟩ = some (.int .i64 n109) ∧ ∃ n110, w'107.cell? ⟨b7, 1, none⟩ = some (.int .i64 n110) ∧ ∃ s111, w'107.cell? ⟨b7, 2, none⟩ = some (.string s111) ∧ R (.returned (.tuple #[.agg #[.int .i64 n109, .int .i64 n110, .string s111], .int .i64 0])) w'107) ∧ (op ≠ 10 → (op = 11 → Calls Tryd.prog 53 #[.bool (decide (n82 ≤ 0))] w81 fun e114 w115 ↦
 ∃ n116, ∃ n117, ∃ s118, e114 = .returned (.agg #[.int .i64 n116, .int .i64 n117, .string s118]) ∧ (∃ u119, w115.cell? ⟨b7, 0, none⟩ = some u119) ∧ w115.frozen? ⟨b7, 0, none⟩ = false ∧ (∃ u120, w115.cell? ⟨b7, 1, none⟩ = some u120) ∧ w115.frozen? ⟨b7, 1, none⟩ = false ∧ (∃ u121, w115.cell? ⟨b7, 2, none⟩ = some u121) ∧ w115.frozen? ⟨b7, 2, none⟩ = false ∧ ∀ w'122, Put w115 b7 0 [.int .i64 n116, .int .i64 n117, .string s118] w'122 → ∃ n124, w'122.cell? ⟨b7, 0, none⟩ = some (.int .i64 n124) ∧ ∃ n125, w'122.cell? ⟨b7, 1, none⟩ = some (.int .i64 n125) ∧ ∃ s126, w'122.cell? ⟨b7, 2, none⟩ = some (.string s126) ∧ R (.returned (.tuple #[.agg #[.int .i64 n124, .int .i64 n125, .string s126], .int .i64 0])) w'122) ∧ (op ≠ 11 → ∃ n128, w81.cell? ⟨b1_1, 1, none⟩ = some (.int .i64 n128) ∧ ∃ n129, w81.cell? ⟨b4, 1, none⟩ = some (.int .i64 n129) ∧ Calls Tryd.prog 55 #[.int .i64 op, .int .i64 n128, .int .i64 n129] w81 fun e130 w131 ↦
 ∃ n132, ∃ n133, e130 = .returned (.tuple #[.int .i64 n132, .int .i64 n133]) ∧ (n133 ≠ 0 → (∃ u135, w131.cell? ⟨b7, 0, none⟩ = some u135) ∧ w131.frozen? ⟨b7, 0, none⟩ = false ∧ (∃ u136, w131.cell? ⟨b7, 1, none⟩ = some u136) ∧ w131.frozen? ⟨b7, 1, none⟩ = false ∧ (∃ u137, w131.cell? ⟨b7, 2, none⟩ = some u137) ∧ w131.frozen? ⟨b7, 2, none⟩ = false ∧ ∀ w'138, Put w131 b7 0 [.int .i64 0, .int .i64 0, .string ⟨#[]⟩] w'138 → ∃ n140, w'138.cell? ⟨b7, 0, none⟩ = some (.int .i64 n140) ∧ ∃ n141, w'138.cell? ⟨b7, 1, none⟩ = some (.int .i64 n141) ∧ ∃ s142, w'138.cell? ⟨b7, 2, none⟩ = some (.string s142) ∧ R (.returned (.tuple #[.agg #[.int .i64 n140, .int .i64 n141, .string s142], .int .i64 n133])) w'138) ∧ (n133 = 0 → Calls Tryd.prog 54 #[.int .i64 n132] w131 fun e144 w145 ↦
 ∃ n146, ∃ n147, ∃ s148, e144 = .returned (.agg #[.int .i64 n146, .int .i64 n147, .string s148]) ∧ (∃ u149, w145.cell? ⟨b7, 0, none⟩ = some u149) ∧ w145.frozen? ⟨b7, 0, none⟩ = false ∧ (∃ u150, w145.cell? ⟨b7, 1, none⟩ = some u150) ∧ w145.frozen? ⟨b7, 1, none⟩ = false ∧ (∃ u151, w145.cell? ⟨b7, 2, none⟩ = some u151) ∧ w145.frozen? ⟨b7, 2, none⟩ = false ∧ ∀ w'152, Put w145 b7 0 [.int .i64 n146, .int .i64 n147, .string s148] w'152 → ∃ n154, w'152.cell? ⟨b7, 0, none⟩ = some (.int .i64 n154) ∧ ∃ n155, w'152.cell? ⟨b7, 1, none⟩ = some (.int .i64 n155) ∧ ∃ s156, w'152.cell? ⟨b7, 2, none⟩ = some (.string s156) ∧ R (.returned (.tuple #[.agg #[.int .i64 n154, .int .i64 n155, .string s156], .int .i64 0])) w'152))))))))

set_option maxRecDepth 100000 in
theorem rtwo_eq (op : Int) (a0 : Int) (a1 : Int) (a2 : ByteArray) (b0 : Int) (b1 : Int) (b2 : ByteArray) (w : World) (R : Ending → World → Prop) : rtwo_T op a0 a1 a2 b0 b1 b2 w R = vcFn Tryd.prog [] [] Tryd.f52 [.int .i64 op, .agg #[.int .i64 a0, .int .i64 a1, .string a2], .agg #[.int .i64 b0, .int .i64 b1, .string b2]] w R := by kernel_rfl

set_option maxRecDepth 100000 in
theorem rtwo_vc (op : Int) (a0 : Int) (a1 : Int) (a2 : ByteArray) (b0 : Int) (b1 : Int) (b2 : ByteArray) (w : World) (R : Ending → World → Prop) (hvc : rtwo_T op a0 a1 a2 b0 b1 b2 w R) : Calls Tryd.prog 52 #[.int .i64 op, .agg #[.int .i64 a0, .int .i64 a1, .string a2], .agg #[.int .i64 b0, .int .i64 b1, .string b2]] w R :=
  calls_of_vc (args := [.int .i64 op, .agg #[.int .i64 a0, .int .i64 a1, .string a2], .agg #[.int .i64 b0, .int .i64 b1, .string b2]]) [] [] Tryd.mixed Tryd.func52 (cast (rtwo_eq _ _ _ _ _ _ _ w R) hvc)

set_option maxRecDepth 100000 in
def rvalue_T (cols_p : Option Addr) (cols_n : Nat) (cols_c : Nat) (row_p : Option Addr) (row_n : Nat) (row_c : Nat) (x0 : Int) (x1 : ByteArray) (x2 : Int) (x3 : Int) (x4 : ByteArray) (x5_p : Option Addr) (x5_n : Nat) (x5_c : Nat) (w : World) (R : Ending → World → Prop) : Prop :=
  ∀ b1 w'2, New w (Obj.cells #[.int .i64 x0, .string x1, .int .i64 x2, .int .i64 x3, .string x4, .slice x5_p x5_n x5_c] 29) b1
 w'2 → ∀ b4 w'5, New w'2 (Obj.cells #[.int .i64 0, .int .i64 0, .string ⟨#[]⟩] 26) b4 w'5 → ∃ (I7 : Option Addr → Nat → Nat → Int → World → Prop), ∃ (M8 : Option Addr → Nat → Nat → Int → World → Nat), I7 none 0 0 0 w'5 ∧ ∀ (p9 : Option Addr) (n10 c11 : Nat) (n12 : Int) (w'13 : World), I7 p9 n10 c11 n12 w'13 → ∃ p15 n16 c17, w'13.cell? ⟨b1, 5, none⟩ = some (.slice p15 n16 c17) ∧ (n12 < (↑n16 : Int) → ∃ p19 n20 c21, w'13.cell? ⟨b1, 5, none⟩ = some (.slice p19 n20 c21) ∧ ∃ b22, ∃ o23, p19 = some ⟨b22, o23, none⟩ ∧ 0 ≤ n12 ∧ n12 < (↑n20 : Int) ∧ ∃ n24, w'13.cell? ⟨b22, (o23 + n12.toNat * 6), none⟩ = some (.int .i64 n24) ∧ ∃ s25, w'13.cell? ⟨b22, (o23 + n12.toNat * 6 + 1), none⟩ = some (.string s25) ∧ ∃ n26, w'13.cell? ⟨b22, (o23 + n12.toNat * 6 + 2), none⟩ = some (.int .i64 n26) ∧ ∃ n27, w'13.cell? ⟨b22, (o23 + n12.toNat * 6 + 3), none⟩ = some (.int .i64 n27) ∧ ∃ s28, w'13.cell? ⟨b22, (o23 + n12.toNat * 6 + 4), none⟩ = some (.string s28) ∧ ∃ p29 n30 c31, w'13.cell? ⟨b22, (o23 + n12.toNat * 6 + 5), none⟩ = some (.slice p29 n30 c31) ∧ Calls Tryd.prog 25
 #[.slice cols_p cols_n cols_c, .slice row_p row_n row_c, .agg #[.int .i64 n24, .string s25, .int .i64 n26, .int .i64 n27, .string s28, .slice p29 n30 c31]]
 w'13 fun e32 w33 ↦
 ∃ n34, ∃ n35, ∃ s36, ∃ n37, e32 = .returned (.tuple #[.agg #[.int .i64 n34, .int .i64 n35, .string s36], .int .i64 n37]) ∧ ∀ b38 w'39, New w33 (Obj.cells #[.int .i64 0, .int .i64 0, .string ⟨#[]⟩] 26) b38 w'39 → (∃ u41, w'39.cell? ⟨b38, 0, none⟩ = some u41) ∧ w'39.frozen? ⟨b38, 0, none⟩ = false ∧ (∃ u42, w'39.cell? ⟨b38, 1, none⟩ = some u42) ∧ w'39.frozen? ⟨b38, 1, none⟩ = false ∧ (∃ u43, w'39.cell? ⟨b38, 2, none⟩ = some u43) ∧ w'39.frozen? ⟨b38, 2, none⟩ = false ∧ ∀ w'44, Put w'39 b38 0 [.int .i64 n34, .int .i64 n35, .string s36] w'44 → (n37 ≠ 0 → (∃ u47, w'44.cell? ⟨b4, 0, none⟩ = some u47) ∧ w'44.frozen? ⟨b4, 0, none⟩ = false ∧ (∃ u48, w'44.cell? ⟨b4, 1, none⟩ = some u48) ∧ w'44.frozen? ⟨b4, 1, none⟩ = false ∧ (∃ u49, w'44.cell? ⟨b4, 2, none⟩ = some u49) ∧ w'44.frozen? ⟨b4, 2, none⟩ = false ∧ ∀ w'50, Put w'44 b4 0 [.int .i64 0, .int .i64 0, .string ⟨#[]⟩] w'50 → ∃ n52, w'50.cell? ⟨b4, 0, none⟩ = some (.int .i64 n52) ∧ ∃ n53, w'50.cell? ⟨b4, 1, none⟩ = some (.int .i64 n53) ∧ ∃ s54, w'50.cell? ⟨b4, 2, none⟩ = some (.string s54) ∧ R (.returned (.tuple #[.agg #[.int .i64 n52, .int .i64 n53, .string s54], .int .i64 n37])) w'50) ∧ (n37 = 0 → ∃ n56, w'44.cell? ⟨b38, 0, none⟩ = some (.int .i64 n56) ∧ ∃ n57, w'44.cell? ⟨b38, 1, none⟩ = some (.int .i64 n57) ∧ ∃ s58, w'44.cell? ⟨b38, 2, none⟩ = some (.string s58) ∧ ∀ b59 w'60, New w'44 (Obj.cells #[.int .i64 n56, .int .i64 n57, .string s58] 26) b59 w'60 → ∃ p62 n63 c64, ∃ (w'65 : World), Sem.run Tryd.prog (Builtin.append_ #[31, 31] 31 #[.slice p9 n10 c11, .slice (some ⟨b59, 0, none⟩) 1 1]) w'60 = Result.ok (.slice p62 n63 c64) w'65 ∧ I7 p62 n63 c64 (IntKind.i64.wrap (n12 + 1)) w'65 ∧ M8 p62 n63 c64 (IntKind.i64.wrap (n12 + 1)) w'65 < M8 p9 n10 c11 n12 w'13)) ∧ ((↑n16 : Int) ≤ n12 → ∃ n67, w'13.cell? ⟨b1, 0, none⟩ = some (.int .i64 n67) ∧ (n67 = 1 → ∃ s69, w'13.cell? ⟨b1, 1, none⟩ = some (.string s69) ∧ Calls Tryd.prog 51 #[.slice cols_p cols_n cols_c, .string s69] w'13 fun e70 w71 ↦
 ∃ n72, e70 = .returned (.int .i64 n72) ∧ ∃ b73, ∃ o74, row_p = some ⟨b73, o74, none⟩ ∧ 0 ≤ n72 ∧ n72 < (↑row_n : Int) ∧ ∃ n75, w71.cell? ⟨b73, (o74 + n72.toNat * 3), none⟩ = some (.int .i64 n75) ∧ ∃ n76, w71.cell? ⟨b73, (o74 + n72.toNat * 3 + 1), none⟩ = some (.int .i64 n76) ∧ ∃ s77, w71.cell? ⟨b73, (o74 + n72.toNat * 3 + 2), none⟩ = some (.string s77) ∧ (∃ u78, w71.cell? ⟨b4, 0, none⟩ = some u78) ∧ w71.frozen? ⟨b4, 0, none⟩ = false ∧ (∃ u79, w71.cell? ⟨b4, 1, none⟩ = some u79) ∧ w71.frozen? ⟨b4, 1, none⟩ = false ∧ (∃ u80, w71.cell? ⟨b4, 2, none⟩ = some u80) ∧ w71.frozen? ⟨b4, 2, none⟩ = false ∧ ∀ w'81, Put w71 b4 0 [.int .i64 n75, .int .i64 n76, .string s77] w'81 → ∃ n83, w'81.cell? ⟨b4, 0, none⟩ = some (.int .i64 n83) ∧ ∃ n84, w'81.cell? ⟨b4, 1, none⟩ = some (.int .i64 n84) ∧ ∃ s85, w'81.cell? ⟨b4, 2, none⟩ = some (.string s85) ∧ R (.returned (.tuple #[.agg #[.int .i64 n83, .int .i64 n84, .string s85], .int .i64 0])) w'81) ∧ (n67 ≠ 1 → ∃ n87, w'13.cell? ⟨b1, 0, none⟩ = some (.int .i64 n87) ∧ (n87 = 2 → ∃ n89, w'13.cell? ⟨b1, 2, none⟩ = some (.int .i64 n89) ∧ ∃ n90, w'13.cell? ⟨b1, 3, none⟩ = some (.int .i64 n90) ∧ ∃ s91, w'13.cell? ⟨b1, 4, none⟩ = some (.string s91) ∧ (∃ u92, w'13.cell? ⟨b4, 0, none⟩ = some u92) ∧ w'13.frozen? ⟨b4, 0, none⟩ = false ∧ (∃ u93, w'13.cell? ⟨b4, 1, none⟩ = some u93) ∧ w'13.frozen? ⟨b4, 1, none⟩ = false ∧ (∃ u94, w'13.cell? ⟨b4, 2, none⟩ = some u94) ∧ w'13.frozen? ⟨b4, 2, none⟩ = false ∧ ∀ w'95, Put w'13 b4 0 [.int .i64 n89, .int .i64 n90, .string s91] w'95 → ∃ n97, w'95.cell? ⟨b4, 0, none⟩ = some (.int .i64 n97) ∧ ∃ n98, w'95.cell? ⟨b4, 1, none⟩ = some (.int .i64 n98) ∧ ∃ s99, w'95.cell? ⟨b4, 2, none⟩ = some (.string s99) ∧ R (.returned (.tuple #[.agg #[.int .i64 n97, .int .i64 n98, .string s99], .int .i64 0])) w'95) ∧ (n87 ≠ 2 → ((↑n10 : Int) = 2 → ∀ w'102, Drew w'13 w'102 → ∃ n104, w'102.cell? ⟨b1, 0, none⟩ = some (.int .i64 n104) ∧ ∃ b105, ∃ o106, p9 = some ⟨b105, o106, none⟩ ∧ (0 : Int) ≤ 0 ∧ 0 < (↑n10 : Int) ∧ ∃ n107, w'102.cell? ⟨b105, (o106 + 0), none⟩ = some (.int .i64 n107) ∧ ∃ n108, w'102.cell? ⟨b105, (o106 + 0 + 1), none⟩ = some (.int .i64 n108) ∧ ∃ s109, w'102.cell? ⟨b105, (o106 + 0 + 2), none⟩ = some (.string s109) ∧ ∃ b110, ∃ o111, p9 = some ⟨b110, o111, none⟩ ∧ (0 : Int) ≤ 1 ∧ 1 < (↑n10 : Int) ∧ ∃ n112, w'102.cell? ⟨b110, (o111 + 3), none⟩ = some (.int .i64 n112) ∧ ∃ n113, w'102.cell? ⟨b110, (o111 + 3 + 1), none⟩ = some (.int .i64 n113) ∧ ∃ s114, w'102.cell? ⟨b110, (o111 + 3 + 2), none⟩ = some (.string s114) ∧ Calls Tryd.prog 52
 #[.int .i64 n104, .agg #[.int .i64 n107, .int .i64 n108, .string s109], .agg #[.int .i64 n112, .int .i64 n113, .string s114]]
 w'102 fun e115 w116 ↦
 ∃ n117, ∃ n118, ∃ s119, ∃ n120, e115 = .returned (.tuple #[.agg #[.int .i64 n117, .int .i64 n118, .string s119], .int .i64 n120]) ∧ (∃ u121, w116.cell? ⟨b4, 0, none⟩ = some u121) ∧ w116.frozen? ⟨b4, 0, none⟩ = false ∧ (∃ u122, w116.cell? ⟨b4, 1, none⟩ = some u122) ∧ w116.frozen? ⟨b4, 1, none⟩ = false ∧ (∃ u123, w116.cell? ⟨b4, 2, none⟩ = some u123) ∧ w116.frozen? ⟨b4, 2, none⟩ = false ∧ ∀ w'124, Put w116 b4 0 [.int .i64 n117, .int .i64 n118, .string s119] w'124 → ∃ n126, w'124.cell? ⟨b4, 0, none⟩ = some (.int .i64 n126) ∧ ∃ n127, w'124.cell? ⟨b4, 1, none⟩ = some (.int .i64 n127) ∧ ∃ s128, w'124.cell? ⟨b4, 2, none⟩ = some (.string s128) ∧ R (.returned (.tuple #[.agg #[.int .i64 n126, .int .i64 n127, .string s128], .int .i64 n120])) w'124) ∧ ((↑n10 : Int) ≠ 2 → ∃ n130, w'13.cell? ⟨b1, 0, none⟩ = some (.int .i64 n130) ∧ (n130 = 15 → ∃ b132, ∃ o133, p9 = some ⟨b132, o133, none⟩ ∧ (0 : Int) ≤ 0 ∧ 0 < (↑n10 : Int) ∧ ∃ n134, w'13.cell? ⟨b132, (o133 + 0), none⟩ = some (.int .i64 n134) ∧ Calls Tryd.prog 53 #[.bool (decide (n134 = 0))] w'13 fun e135 w136 ↦
 ∃ n137, ∃ n138, ∃ s139, e135 = .returned (.agg #[.int .i64 n137, .int .i64 n138, .string s139]) ∧ (∃ u140, w136.cell? ⟨b4, 0, none⟩ = some u140) ∧ w136.frozen? ⟨b4, 0, none⟩ = false ∧ (∃ u141, w136.cell? ⟨b4, 1, none⟩ = some u141) ∧ w136.frozen? ⟨b4, 1, none⟩ = false ∧ (∃ u142, w136.cell? ⟨b4, 2, none⟩ = some u142) ∧ w136.frozen? ⟨b4, 2, none⟩ = false ∧ ∀ w'143, Put w136 b4 0 [.int .i64 n137, .int .i64 n138, .string s139] w'143 → ∃ n145, w'143.cell? ⟨b4, 0, none⟩ = some (.int .i64 n145) ∧ ∃ n146, w'143.cell? ⟨b4, 1, none⟩ = some (.int .i64 n146) ∧ ∃ s147, w'143.cell? ⟨b4, 2, none⟩ = some (.string s147) ∧ R (.returned (.tuple #[.agg #[.int .i64 n145, .int .i64 n146, .string s147], .int .i64 0])) w'143) ∧ (n130 ≠ 15 → ∃ b149, ∃ o150, p9 = some ⟨b149, o150, none⟩ ∧ (0 : Int) ≤ 0 ∧ 0 < (↑n10 : Int) ∧ ∃ n151, w'13.cell? ⟨b149, (o150 + 0), none⟩ = some (.int .i64 n151) ∧ (n151 = 0 → (∃ u153, w'13.cell? ⟨b4, 0, none⟩ = some u153) ∧ w'13.frozen? ⟨b4, 0, none⟩ = false ∧ (∃ u154, w'13.cell? ⟨b4, 1, none⟩ = some u154) ∧ w'13.frozen? ⟨b4, 1, none⟩ = false ∧ (∃ u155, w'13.cell? ⟨b4, 2, none⟩ = some u155) ∧ w'13.frozen? ⟨b4, 2, none⟩ = false ∧ ∀ w'156, Put w'13 b4 0 [.int .i64 0, .int .i64 0, .string ⟨#[]⟩] w'156 → ∃ n158, w'156.cell? ⟨b4, 0, none⟩ = some (.int .i64 n158) ∧ ∃ n159, w'156.cell? ⟨b4, 1, none⟩ = some (.int .i64 n159) ∧ ∃ s160, w'156.cell? ⟨b4, 2, none⟩ = some (.string s160) ∧ R (.returned (.tuple #[.agg #[.int .i64 n158, .int .i64 n159, .string s160], .int .i64 0])) w'156) ∧ (n151 ≠ 0 → ∃ n162, w'13.cell? ⟨b1, 0, none⟩ = some (.int .i64 n162) ∧ (n162 = 14 → ∃ b164, ∃ o165, p9 = some ⟨b164, o165, none⟩ ∧ (0 : Int) ≤ 0 ∧ 0 < (↑n10 : Int) ∧ ∃ n166, w'13.cell? ⟨b164, (o165 + 0 + 1), none⟩ = some (.int .i64 n166) ∧ Calls Tryd.prog 53 #[.bool (decide (n166 = 0))] w'13 fun e167 w168 ↦
 ∃ n169, ∃ n170, ∃ s171, e167 = .returned (.agg #[.int .i64 n169, .int .i64 n170, .string s171]) ∧ (∃ u172, w168.cell? ⟨b4, 0, none⟩ = some u172) ∧ w168.frozen? ⟨b4, 0, none⟩ = false ∧ (∃ u173, w168.cell? ⟨b4, 1, none⟩ = some u173) ∧ w168.frozen? ⟨b4, 1, none⟩ = false ∧ (∃ u174, w168.cell? ⟨b4, 2, none⟩ = some u174) ∧ w168.frozen? ⟨b4, 2, none⟩ = false ∧ ∀ w'175, Put w168 b4 0 [.int .i64 n169, .int .i64 n170, .string s171] w'175 → ∃ n177, w'175.cell? ⟨b4, 0, none⟩ = some (.int .i64 n177) ∧ ∃ n178, w'175.cell? ⟨b4, 1, none⟩ = some (.int .i64 n178) ∧ ∃ s179, w'175.cell? ⟨b4, 2, none⟩ = some (.string s179) ∧ R (.returned (.tuple #[.agg #[.int .i64 n177, .int .i64 n178, .string s179], .int .i64 0])) w'175) ∧ (n162 ≠ 14 → ∃ n181, w'13.cell? ⟨b1, 0, none⟩ = some (.int .i64 n181) ∧ (n181 = 16 → ∃ b183, ∃ o184, p9 = some ⟨b183, o184, none⟩ ∧ (0 : Int) ≤ 0 ∧ 0 < (↑n10 : Int) ∧ ∃ s185, w'13.cell? ⟨b183, (o184 + 0 + 2), none⟩ = some (.string s185) ∧ Calls Tryd.prog 54 #[.int .i64 (↑s185.size : Int)] w'13 fun e186 w187 ↦
 ∃ n188, ∃ n189, ∃ s190, e186 = .returned (.agg #[.int .i64 n188, .int .i64 n189, .string s190]) ∧ (∃ u191, w187.cell? ⟨b4, 0, none⟩ = some u191) ∧ w187.frozen? ⟨b4, 0, none⟩ = false ∧ (∃ u192, w187.cell? ⟨b4, 1, none⟩ = some u192) ∧ w187.frozen? ⟨b4, 1, none⟩ = false ∧ (∃ u193, w187.cell? ⟨b4, 2, none⟩ = some u193) ∧ w187.frozen? ⟨b4, 2, none⟩ = false ∧ ∀ w'194, Put w187 b4 0 [.int .i64 n188, .int .i64 n189, .string s190] w'194 → ∃ n196, w'194.cell? ⟨b4, 0, none⟩ = some (.int .i64 n196) ∧ ∃ n197, w'194.cell? ⟨b4, 1, none⟩ = some (.int .i64 n197) ∧ ∃ s198, w'194.cell? ⟨b4, 2, none⟩ = some (.string s198) ∧ R (.returned (.tuple #[.agg #[.int .i64 n196, .int .i64 n197, .string s198], .int .i64 0])) w'194) ∧ (n181 ≠ 16 → ∃ b200, ∃ o201, p9 = some ⟨b200, o201, none⟩ ∧ (0 : Int) ≤ 0 ∧ 0 < (↑n10 : Int) ∧ ∃ n202, w'13.cell? ⟨b200, (o201 + 0 + 1), none⟩ = some (.int .i64 n202) ∧ Calls Tryd.prog 55 #[.int .i64 4, .int .i64 0, .int .i64 n202] w'13 fun e203 w204 ↦
 ∃ n205, ∃ n206, e203 = .returned (.tuple #[.int .i64 n205, .int .i64 n206]) ∧ (n206 ≠ 0 → (∃ u208, w204.cell? ⟨b4, 0, none⟩ = some u208) ∧ w204.frozen? ⟨b4, 0, none⟩ = false ∧ (∃ u209, w204.cell? ⟨b4, 1, none⟩ = some u209) ∧ w204.frozen? ⟨b4, 1, none⟩ = false ∧ (∃ u210, w204.cell? ⟨b4, 2, none⟩ = some u210) ∧ w204.frozen? ⟨b4, 2, none⟩ = false ∧ ∀ w'211, Put w204 b4 0 [.int .i64 0, .int .i64 0, .string ⟨#[]⟩] w'211 → ∃ n213, w'211.cell? ⟨b4, 0, none⟩ = some (.int .i64 n213) ∧ ∃ n214, w'211.cell? ⟨b4, 1, none⟩ = some (.int .i64 n214) ∧ ∃ s215, w'211.cell? ⟨b4, 2, none⟩ = some (.string s215) ∧ R (.returned (.tuple #[.agg #[.int .i64 n213, .int .i64 n214, .string s215], .int .i64 n206])) w'211) ∧ (n206 = 0 → Calls Tryd.prog 54 #[.int .i64 n205] w204 fun e217 w218 ↦
 ∃ n219, ∃ n220, ∃ s221, e217 = .returned (.agg #[.int .i64 n219, .int .i64 n220, .string s221]) ∧ (∃ u222, w218.cell? ⟨b4, 0, none⟩ = some u222) ∧ w218.frozen? ⟨b4, 0, none⟩ = false ∧ (∃ u223, w218.cell? ⟨b4, 1, none⟩ = some u223) ∧ w218.frozen? ⟨b4, 1, none⟩ = false ∧ (∃ u224, w218.cell? ⟨b4, 2, none⟩ = some u224) ∧ w218.frozen? ⟨b4, 2, none⟩ = false ∧ ∀ w'225, Put w218 b4 0 [.int .i64 n219, .int .i64 n220, .string s221] w'225 → ∃ n227, w'225.cell? ⟨b4, 0, none⟩ = some (.int .i64 n227) ∧ ∃ n228, w'225.cell? ⟨b4, 1, none⟩ = some (.int .i64 n228) ∧ ∃ s229, w'225.cell? ⟨b4, 2, none⟩ = some (.string s229) ∧ R (.returned (.tuple #[.agg #[.int .i64 n227, .int .i64 n228, .string s229], .int .i64 0])) w'225)))))))))

set_option maxRecDepth 100000 in
theorem rvalue_eq (cols_p : Option Addr) (cols_n : Nat) (cols_c : Nat) (row_p : Option Addr) (row_n : Nat) (row_c : Nat) (x0 : Int) (x1 : ByteArray) (x2 : Int) (x3 : Int) (x4 : ByteArray) (x5_p : Option Addr) (x5_n : Nat) (x5_c : Nat) (w : World) (R : Ending → World → Prop) : rvalue_T cols_p cols_n cols_c row_p row_n row_c x0 x1 x2 x3 x4 x5_p x5_n x5_c w R = vcFn Tryd.prog [] [(14, [2, 4, 6, 8, 10, 12, 14, 16, 18, 20, 22, 24, 26, 0])] Tryd.f25 [.slice cols_p cols_n cols_c, .slice row_p row_n row_c, Value.agg
 #[.int .i64 x0, .string x1, .int .i64 x2, .int .i64 x3, .string x4, .slice x5_p x5_n x5_c]] w R := by kernel_rfl

set_option maxRecDepth 100000 in
theorem rvalue_vc (cols_p : Option Addr) (cols_n : Nat) (cols_c : Nat) (row_p : Option Addr) (row_n : Nat) (row_c : Nat) (x0 : Int) (x1 : ByteArray) (x2 : Int) (x3 : Int) (x4 : ByteArray) (x5_p : Option Addr) (x5_n : Nat) (x5_c : Nat) (w : World) (R : Ending → World → Prop) (hvc : rvalue_T cols_p cols_n cols_c row_p row_n row_c x0 x1 x2 x3 x4 x5_p x5_n x5_c w R) : Calls Tryd.prog 25 #[.slice cols_p cols_n cols_c, .slice row_p row_n row_c, Value.agg
 #[.int .i64 x0, .string x1, .int .i64 x2, .int .i64 x3, .string x4, .slice x5_p x5_n x5_c]] w R :=
  calls_of_vc (args := [.slice cols_p cols_n cols_c, .slice row_p row_n row_c, Value.agg
 #[.int .i64 x0, .string x1, .int .i64 x2, .int .i64 x3, .string x4, .slice x5_p x5_n x5_c]]) [] [(14, [2, 4, 6, 8, 10, 12, 14, 16, 18, 20, 22, 24, 26, 0])] Tryd.mixed Tryd.func25 (cast (rvalue_eq _ _ _ _ _ _ _ _ _ _ _ _ _ _ w R) hvc)


end Go.Proofs.YtaccokhdmhomhaaDoor

/- The verification conditions of the functions, evaluated: printed by program. -/
namespace Go.Proofs.YtaccokhdmhomhaaDoor
open Go Go.Vc
set_option maxRecDepth 20000

set_option maxRecDepth 100000 in
def nodes_T (x0 : Int) (x1 : ByteArray) (x2 : Int) (x3 : Int) (x4 : ByteArray) (x5_p : Option Addr) (x5_n : Nat) (x5_c : Nat) (depth : Int) (w : World) (R : Ending → World → Prop) : Prop :=
  ∀ b1 w'2, New w (Obj.cells #[.int .i64 x0, .string x1, .int .i64 x2, .int .i64 x3, .string x4, .slice x5_p x5_n x5_c] 29) b1
 w'2 → ∀ b4 w'5, New w'2 (Obj.cells #[.int .i64 depth] 3) b4 w'5 → R (.returned (.func (Fn.func 78) #[] #[.pointer (some ⟨b4, 0, none⟩), .pointer (some ⟨b1, 0, none⟩)])) w'5

set_option maxRecDepth 100000 in
theorem nodes_eq (x0 : Int) (x1 : ByteArray) (x2 : Int) (x3 : Int) (x4 : ByteArray) (x5_p : Option Addr) (x5_n : Nat) (x5_c : Nat) (depth : Int) (w : World) (R : Ending → World → Prop) : nodes_T x0 x1 x2 x3 x4 x5_p x5_n x5_c depth w R = vcFn Tryd.prog [] [] Tryd.f59 [Value.agg
 #[.int .i64 x0, .string x1, .int .i64 x2, .int .i64 x3, .string x4, .slice x5_p x5_n x5_c], .int .i64 depth] w R := by kernel_rfl

set_option maxRecDepth 100000 in
theorem nodes_vc (x0 : Int) (x1 : ByteArray) (x2 : Int) (x3 : Int) (x4 : ByteArray) (x5_p : Option Addr) (x5_n : Nat) (x5_c : Nat) (depth : Int) (w : World) (R : Ending → World → Prop) (hvc : nodes_T x0 x1 x2 x3 x4 x5_p x5_n x5_c depth w R) : Calls Tryd.prog 59 #[Value.agg
 #[.int .i64 x0, .string x1, .int .i64 x2, .int .i64 x3, .string x4, .slice x5_p x5_n x5_c], .int .i64 depth] w R :=
  calls_of_vc (args := [Value.agg
 #[.int .i64 x0, .string x1, .int .i64 x2, .int .i64 x3, .string x4, .slice x5_p x5_n x5_c], .int .i64 depth]) [] [] Tryd.mixed Tryd.func59 (cast (nodes_eq _ _ _ _ _ _ _ _ _ w R) hvc)

set_option maxRecDepth 100000 in
def nodes1_T (l0 : Nat) (fv0 : Nat) (fv1 : Nat) (w : World) (R : Ending → World → Prop) : Prop :=
  ∀ b1 w'2, New w (Obj.cells #[.func (Fn.yield l0) #[] #[]] 110) b1 w'2 → ∃ v4, w'2.cell? ⟨b1, 0, none⟩ = some v4 ∧ ∃ n5, w'2.cell? ⟨fv0, 0, none⟩ = some (.int .i64 n5) ∧ ∃ n6, w'2.cell? ⟨fv1, 0, none⟩ = some (.int .i64 n6) ∧ ∃ s7, w'2.cell? ⟨fv1, 1, none⟩ = some (.string s7) ∧ ∃ n8, w'2.cell? ⟨fv1, 2, none⟩ = some (.int .i64 n8) ∧ ∃ n9, w'2.cell? ⟨fv1, 3, none⟩ = some (.int .i64 n9) ∧ ∃ s10, w'2.cell? ⟨fv1, 4, none⟩ = some (.string s10) ∧ ∃ p11 n12 c13, w'2.cell? ⟨fv1, 5, none⟩ = some (.slice p11 n12 c13) ∧ ∃ l14, v4 = .func (Fn.yield l14) #[] #[] ∧ Yield Tryd.prog l14
 #[.int .i64 n5, .agg #[.int .i64 n6, .string s7, .int .i64 n8, .int .i64 n9, .string s10, .slice p11 n12 c13]]
 w'2 fun (b15 : Bool) (w16 : World) ↦
 (b15 = false → R (.returned (.tuple #[])) w16) ∧ (b15 = true → ∃ n19, w16.cell? ⟨fv0, 0, none⟩ = some (.int .i64 n19) ∧ (40 < n19 → R (.returned (.tuple #[])) w16) ∧ (n19 ≤ 40 → ∃ p22 n23 c24, w16.cell? ⟨fv1, 5, none⟩ = some (.slice p22 n23 c24) ∧ ∃ (I25 : Int → World → Prop), ∃ (M26 : Int → World → Nat), ∃ B27, I25 0 w16 ∧ Vc.Open B27 [] w16 ∧ ∀ (n28 : Int) (w'29 : World), I25 n28 w'29 → ∀ (ds'31 : List Nat), Vc.Open B27 ds'31 w'29 → (n28 < (↑n23 : Int) → ∃ b34, ∃ o35, p22 = some ⟨b34, o35, none⟩ ∧ 0 ≤ n28 ∧ n28 < (↑n23 : Int) ∧ ∃ n36, w'29.cell? ⟨b34, (o35 + n28.toNat * 6), none⟩ = some (.int .i64 n36) ∧ ∃ s37, w'29.cell? ⟨b34, (o35 + n28.toNat * 6 + 1), none⟩ = some (.string s37) ∧ ∃ n38, w'29.cell? ⟨b34, (o35 + n28.toNat * 6 + 2), none⟩ = some (.int .i64 n38) ∧ ∃ n39, w'29.cell? ⟨b34, (o35 + n28.toNat * 6 + 3), none⟩ = some (.int .i64 n39) ∧ ∃ s40, w'29.cell? ⟨b34, (o35 + n28.toNat * 6 + 4), none⟩ = some (.string s40) ∧ ∃ p41 n42 c43, w'29.cell? ⟨b34, (o35 + n28.toNat * 6 + 5), none⟩ = some (.slice p41 n42 c43) ∧ ∀ b44 w'45, New w'29
 (Obj.cells
 #[.int .i64 0, .string ⟨#[]⟩, .int .i64 0, .int .i64 0, .string ⟨#[]⟩, .slice none 0 0] 29)
 b44 w'45 → (∃ u47, w'45.cell? ⟨b44, 0, none⟩ = some u47) ∧ w'45.frozen? ⟨b44, 0, none⟩ = false ∧ (∃ u48, w'45.cell? ⟨b44, 1, none⟩ = some u48) ∧ w'45.frozen? ⟨b44, 1, none⟩ = false ∧ (∃ u49, w'45.cell? ⟨b44, 2, none⟩ = some u49) ∧ w'45.frozen? ⟨b44, 2, none⟩ = false ∧ (∃ u50, w'45.cell? ⟨b44, 3, none⟩ = some u50) ∧ w'45.frozen? ⟨b44, 3, none⟩ = false ∧ (∃ u51, w'45.cell? ⟨b44, 4, none⟩ = some u51) ∧ w'45.frozen? ⟨b44, 4, none⟩ = false ∧ (∃ u52, w'45.cell? ⟨b44, 5, none⟩ = some u52) ∧ w'45.frozen? ⟨b44, 5, none⟩ = false ∧ ∀ w'53, Put w'45 b44 0 [.int .i64 n36, .string s37, .int .i64 n38, .int .i64 n39, .string s40, .slice p41 n42 c43] w'53 → ∃ n55, w'53.cell? ⟨b44, 0, none⟩ = some (.int .i64 n55) ∧ ∃ s56, w'53.cell? ⟨b44, 1, none⟩ = some (.string s56) ∧ ∃ n57, w'53.cell? ⟨b44, 2, none⟩ = some (.int .i64 n57) ∧ ∃ n58, w'53.cell? ⟨b44, 3, none⟩ = some (.int .i64 n58) ∧ ∃ s59, w'53.cell? ⟨b44, 4, none⟩ = some (.string s59) ∧ ∃ p60 n61 c62, w'53.cell? ⟨b44, 5, none⟩ = some (.slice p60 n61 c62) ∧ ∃ n63, w'53.cell? ⟨fv0, 0, none⟩ = some (.int .i64 n63) ∧ Calls Tryd.prog 59
 #[.agg #[.int .i64 n55, .string s56, .int .i64 n57, .int .i64 n58, .string s59, .slice p60 n61 c62], .int .i64 (IntKind.i64.wrap (n63 + 1))]
 w'53 fun e64 w65 ↦
 ∃ v66, e64 = .returned v66 ∧ ∃ (g67 : FuncId), ∃ (lb68 : Array Value), v66 = .func (Fn.func g67) #[] lb68 ∧ enterable Tryd.prog g67 = true ∧ ∀ (r69 : Nat → Loop) (d70 l71 : Nat) (w172 : World), Began w65 r69 d70 l71 w172 → (∀ (n74 n75 : Int) (s76 : ByteArray) (n77 n78 : Int) (s79 : ByteArray) (p80 : Option Addr) (n81 c82 : Nat) (W83 : World) (R84 : Bool → World → Prop), Rec r69 l71 0 W83 → (∀ b86 w'87, New W83
 (Obj.cells
 #[.int .i64 0, .string ⟨#[]⟩, .int .i64 0, .int .i64 0, .string ⟨#[]⟩, .slice none 0 0] 29)
 b86 w'87 → (∃ u89, w'87.cell? ⟨b86, 0, none⟩ = some u89) ∧ w'87.frozen? ⟨b86, 0, none⟩ = false ∧ (∃ u90, w'87.cell? ⟨b86, 1, none⟩ = some u90) ∧ w'87.frozen? ⟨b86, 1, none⟩ = false ∧ (∃ u91, w'87.cell? ⟨b86, 2, none⟩ = some u91) ∧ w'87.frozen? ⟨b86, 2, none⟩ = false ∧ (∃ u92, w'87.cell? ⟨b86, 3, none⟩ = some u92) ∧ w'87.frozen? ⟨b86, 3, none⟩ = false ∧ (∃ u93, w'87.cell? ⟨b86, 4, none⟩ = some u93) ∧ w'87.frozen? ⟨b86, 4, none⟩ = false ∧ (∃ u94, w'87.cell? ⟨b86, 5, none⟩ = some u94) ∧ w'87.frozen? ⟨b86, 5, none⟩ = false ∧ ∀ w'95, Put w'87 b86 0 [.int .i64 n75, .string s76, .int .i64 n77, .int .i64 n78, .string s79, .slice p80 n81 c82] w'95 → Rec r69 l71 0 w'95 ∧ ∀ (Wb97 : World), Wb97 = turn r69 l71 1 w'95 → ∃ v99, Wb97.cell? ⟨b1, 0, none⟩ = some v99 ∧ ∃ n100, Wb97.cell? ⟨b86, 0, none⟩ = some (.int .i64 n100) ∧ ∃ s101, Wb97.cell? ⟨b86, 1, none⟩ = some (.string s101) ∧ ∃ n102, Wb97.cell? ⟨b86, 2, none⟩ = some (.int .i64 n102) ∧ ∃ n103, Wb97.cell? ⟨b86, 3, none⟩ = some (.int .i64 n103) ∧ ∃ s104, Wb97.cell? ⟨b86, 4, none⟩ = some (.string s104) ∧ ∃ p105 n106 c107, Wb97.cell? ⟨b86, 5, none⟩ = some (.slice p105 n106 c107) ∧ ∃ l108, v99 = .func (Fn.yield l108) #[] #[] ∧ Yield Tryd.prog l108
 #[.int .i64 n74, .agg #[.int .i64 n100, .string s101, .int .i64 n102, .int .i64 n103, .string s104, .slice p105 n106 c107]]
 Wb97 fun (b109 : Bool) (w110 : World) ↦
 (b109 = false → Rec r69 l71 1 w110 ∧ R84 false (turn r69 l71 3 w110)) ∧ (b109 = true → Rec r69 l71 1 w110 ∧ R84 true (turn r69 l71 0 w110))) → Yield Tryd.prog l71
 #[.int .i64 n74, .agg #[.int .i64 n75, .string s76, .int .i64 n77, .int .i64 n78, .string s79, .slice p80 n81 c82]]
 W83 fun (b114 : Bool) (w115 : World) ↦ R84 b114 w115) → Calls Tryd.prog g67 (.func (Fn.yield l71) #[] #[] :: lb68.1).toArray w172 fun e117 w118 ↦
 (∃ v119, e117 = .returned v119) ∧ (Rec r69 l71 0 w118 ∧ Vc.Open B27 (d70 :: ds'31) (turn r69 l71 2 w118) ∧ I25 (IntKind.i64.wrap (n28 + 1)) (turn r69 l71 2 w118) ∧ M26 (IntKind.i64.wrap (n28 + 1)) (turn r69 l71 2 w118) < M26 n28 w'29 ∨
 (Rec r69 l71 3 w118 ∧ (turn r69 l71 4 w118).heap[d70]? = some (Obj.deferred (some [])) ∧ unD ds'31 ((turn r69 l71 4 w118).putObj d70 (Obj.deferred none)) fun (w122 : World) ↦ R (.returned (.tuple #[])) w122) ∨
 False)) ∧ ((↑n23 : Int) ≤ n28 → unD ds'31 w'29 fun (w124 : World) ↦ R (.returned (.tuple #[])) w124)))

set_option maxRecDepth 100000 in
theorem nodes1_eq (l0 : Nat) (fv0 : Nat) (fv1 : Nat) (w : World) (R : Ending → World → Prop) : nodes1_T l0 fv0 fv1 w R = vcFn Tryd.prog [] [] Tryd.f78 [.func (Fn.yield l0) #[] #[], .pointer (some ⟨fv0, 0, none⟩), .pointer (some ⟨fv1, 0, none⟩)] w R := by kernel_rfl

set_option maxRecDepth 100000 in
theorem nodes1_vc (l0 : Nat) (fv0 : Nat) (fv1 : Nat) (w : World) (R : Ending → World → Prop) (hvc : nodes1_T l0 fv0 fv1 w R) : Calls Tryd.prog 78 #[.func (Fn.yield l0) #[] #[], .pointer (some ⟨fv0, 0, none⟩), .pointer (some ⟨fv1, 0, none⟩)] w R :=
  calls_of_vc (args := [.func (Fn.yield l0) #[] #[], .pointer (some ⟨fv0, 0, none⟩), .pointer (some ⟨fv1, 0, none⟩)]) [] [] Tryd.mixed Tryd.func78 (cast (nodes1_eq _ _ _ w R) hvc)

set_option maxRecDepth 100000 in
def xformed_T (x0 : Int) (x1 : ByteArray) (x2 : Int) (x3 : Int) (x4 : ByteArray) (x5_p : Option Addr) (x5_n : Nat) (x5_c : Nat) (w : World) (R : Ending → World → Prop) : Prop :=
  ∀ b1 w'2, New w (Obj.cells #[.int .i64 x0, .string x1, .int .i64 x2, .int .i64 x3, .string x4, .slice x5_p x5_n x5_c] 29) b1
 w'2 → ∀ b4 w'5, New w'2 (Obj.cells #[.bool false] 4) b4 w'5 → ∀ b7 w'8, New w'5 (Obj.cells #[.int .i64 0] 3) b7 w'8 → (∃ u10, w'8.cell? ⟨b7, 0, none⟩ = some u10) ∧ w'8.frozen? ⟨b7, 0, none⟩ = false ∧ ∀ w'11, Put w'8 b7 0 [.int .i64 0] w'11 → ∃ n13, w'11.cell? ⟨b1, 0, none⟩ = some (.int .i64 n13) ∧ ∃ s14, w'11.cell? ⟨b1, 1, none⟩ = some (.string s14) ∧ ∃ n15, w'11.cell? ⟨b1, 2, none⟩ = some (.int .i64 n15) ∧ ∃ n16, w'11.cell? ⟨b1, 3, none⟩ = some (.int .i64 n16) ∧ ∃ s17, w'11.cell? ⟨b1, 4, none⟩ = some (.string s17) ∧ ∃ p18 n19 c20, w'11.cell? ⟨b1, 5, none⟩ = some (.slice p18 n19 c20) ∧ Calls Tryd.prog 59
 #[.agg #[.int .i64 n13, .string s14, .int .i64 n15, .int .i64 n16, .string s17, .slice p18 n19 c20], .int .i64 1]
 w'11 fun e21 w22 ↦
 ∃ v23, e21 = .returned v23 ∧ ∃ (g24 : FuncId), ∃ (lb25 : Array Value), v23 = .func (Fn.func g24) #[] lb25 ∧ enterable Tryd.prog g24 = true ∧ ∀ (r26 : Nat → Loop) (d27 l28 : Nat) (w129 : World), Began w22 r26 d27 l28 w129 → (∀ (n31 n32 : Int) (s33 : ByteArray) (n34 n35 : Int) (s36 : ByteArray) (p37 : Option Addr) (n38 c39 : Nat) (W40 : World) (R41 : Bool → World → Prop), Rec r26 l28 0 W40 → (∀ b43 w'44, New W40
 (Obj.cells
 #[.int .i64 0, .string ⟨#[]⟩, .int .i64 0, .int .i64 0, .string ⟨#[]⟩, .slice none 0 0] 29)
 b43 w'44 → (∃ u46, w'44.cell? ⟨b43, 0, none⟩ = some u46) ∧ w'44.frozen? ⟨b43, 0, none⟩ = false ∧ (∃ u47, w'44.cell? ⟨b43, 1, none⟩ = some u47) ∧ w'44.frozen? ⟨b43, 1, none⟩ = false ∧ (∃ u48, w'44.cell? ⟨b43, 2, none⟩ = some u48) ∧ w'44.frozen? ⟨b43, 2, none⟩ = false ∧ (∃ u49, w'44.cell? ⟨b43, 3, none⟩ = some u49) ∧ w'44.frozen? ⟨b43, 3, none⟩ = false ∧ (∃ u50, w'44.cell? ⟨b43, 4, none⟩ = some u50) ∧ w'44.frozen? ⟨b43, 4, none⟩ = false ∧ (∃ u51, w'44.cell? ⟨b43, 5, none⟩ = some u51) ∧ w'44.frozen? ⟨b43, 5, none⟩ = false ∧ ∀ w'52, Put w'44 b43 0 [.int .i64 n32, .string s33, .int .i64 n34, .int .i64 n35, .string s36, .slice p37 n38 c39] w'52 → Rec r26 l28 0 w'52 ∧ ∀ (Wb54 : World), Wb54 = turn r26 l28 1 w'52 → ∃ n56, Wb54.cell? ⟨b7, 0, none⟩ = some (.int .i64 n56) ∧ (∃ u57, Wb54.cell? ⟨b7, 0, none⟩ = some u57) ∧ Wb54.frozen? ⟨b7, 0, none⟩ = false ∧ ∀ w'58, Put Wb54 b7 0 [.int .i64 (IntKind.i64.wrap (n56 + 1))] w'58 → ∀ w'60, Drew w'58 w'60 → (40 < n31 → (∃ u63, w'60.cell? ⟨b4, 0, none⟩ = some u63) ∧ w'60.frozen? ⟨b4, 0, none⟩ = false ∧ ∀ w'64, Put w'60 b4 0 [.bool false] w'64 → Rec r26 l28 1 w'64 ∧ R41 false (turn r26 l28 3 w'64)) ∧ (n31 ≤ 40 → ∃ n67, w'60.cell? ⟨b7, 0, none⟩ = some (.int .i64 n67) ∧ (400 < n67 → (∃ u69, w'60.cell? ⟨b4, 0, none⟩ = some u69) ∧ w'60.frozen? ⟨b4, 0, none⟩ = false ∧ ∀ w'70, Put w'60 b4 0 [.bool false] w'70 → Rec r26 l28 1 w'70 ∧ R41 false (turn r26 l28 3 w'70)) ∧ (n67 ≤ 400 → ∃ n73, w'60.cell? ⟨b43, 0, none⟩ = some (.int .i64 n73) ∧ (n73 < 1 → (∃ u75, w'60.cell? ⟨b4, 0, none⟩ = some u75) ∧ w'60.frozen? ⟨b4, 0, none⟩ = false ∧ ∀ w'76, Put w'60 b4 0 [.bool false] w'76 → Rec r26 l28 1 w'76 ∧ R41 false (turn r26 l28 3 w'76)) ∧ (1 ≤ n73 → ∃ n79, w'60.cell? ⟨b43, 0, none⟩ = some (.int .i64 n79) ∧ (17 ≤ n79 → (∃ u81, w'60.cell? ⟨b4, 0, none⟩ = some u81) ∧ w'60.frozen? ⟨b4, 0, none⟩ = false ∧ ∀ w'82, Put w'60 b4 0 [.bool false] w'82 → Rec r26 l28 1 w'82 ∧ R41 false (turn r26 l28 3 w'82)) ∧ (n79 < 17 → ∃ p85 n86 c87, w'60.cell? ⟨b43, 5, none⟩ = some (.slice p85 n86 c87) ∧ ∃ n88, w'60.cell? ⟨b43, 0, none⟩ = some (.int .i64 n88) ∧ 0 ≤ n88 ∧ n88 < 17 ∧ ∃ n89, w'60.cell? ⟨0, (0 + n88.toNat * 3), none⟩ = some (.int .i64 n89) ∧ ((↑n86 : Int) ≠ n89 → (∃ u91, w'60.cell? ⟨b4, 0, none⟩ = some u91) ∧ w'60.frozen? ⟨b4, 0, none⟩ = false ∧ ∀ w'92, Put w'60 b4 0 [.bool false] w'92 → Rec r26 l28 1 w'92 ∧ R41 false (turn r26 l28 3 w'92)) ∧ ((↑n86 : Int) = n89 → ∃ n95, w'60.cell? ⟨b43, 0, none⟩ = some (.int .i64 n95) ∧ (n95 ≠ 1 → ∃ s97, w'60.cell? ⟨b43, 1, none⟩ = some (.string s97) ∧ (s97 ≠ ByteArray.mk #[] → (∃ u99, w'60.cell? ⟨b4, 0, none⟩ = some u99) ∧ w'60.frozen? ⟨b4, 0, none⟩ = false ∧ ∀ w'100, Put w'60 b4 0 [.bool false] w'100 → Rec r26 l28 1 w'100 ∧ R41 false (turn r26 l28 3 w'100)) ∧ (s97 = ByteArray.mk #[] → ∃ n103, w'60.cell? ⟨b43, 0, none⟩ = some (.int .i64 n103) ∧ (n103 ≠ 2 → ∃ n105, w'60.cell? ⟨b43, 2, none⟩ = some (.int .i64 n105) ∧ ∃ n106, w'60.cell? ⟨b43, 3, none⟩ = some (.int .i64 n106) ∧ ∃ s107, w'60.cell? ⟨b43, 4, none⟩ = some (.string s107) ∧ (n105 ≠ 0 ∨ n106 ≠ 0 ∨ s107 ≠ ByteArray.mk #[] → (∃ u109, w'60.cell? ⟨b4, 0, none⟩ = some u109) ∧ w'60.frozen? ⟨b4, 0, none⟩ = false ∧ ∀ w'110, Put w'60 b4 0 [.bool false] w'110 → Rec r26 l28 1 w'110 ∧ R41 false (turn r26 l28 3 w'110)) ∧ (n105 = 0 ∧ n106 = 0 ∧ s107 = ByteArray.mk #[] → ∃ n113, w'60.cell? ⟨b43, 2, none⟩ = some (.int .i64 n113) ∧ ∃ n114, w'60.cell? ⟨b43, 3, none⟩ = some (.int .i64 n114) ∧ ∃ s115, w'60.cell? ⟨b43, 4, none⟩ = some (.string s115) ∧ Calls Tryd.prog 60 #[.agg #[.int .i64 n113, .int .i64 n114, .string s115]] w'60 fun e116 w117 ↦
 ∃ b118, e116 = .returned (.bool b118) ∧ (b118 = false → (∃ u120, w117.cell? ⟨b4, 0, none⟩ = some u120) ∧ w117.frozen? ⟨b4, 0, none⟩ = false ∧ ∀ w'121, Put w117 b4 0 [.bool false] w'121 → Rec r26 l28 1 w'121 ∧ R41 false (turn r26 l28 3 w'121)) ∧ (b118 = true → Rec r26 l28 1 w117 ∧ R41 true (turn r26 l28 0 w117)))) ∧ (n103 = 2 → ∃ n125, w'60.cell? ⟨b43, 2, none⟩ = some (.int .i64 n125) ∧ ∃ n126, w'60.cell? ⟨b43, 3, none⟩ = some (.int .i64 n126) ∧ ∃ s127, w'60.cell? ⟨b43, 4, none⟩ = some (.string s127) ∧ Calls Tryd.prog 60 #[.agg #[.int .i64 n125, .int .i64 n126, .string s127]] w'60 fun e128 w129 ↦
 ∃ b130, e128 = .returned (.bool b130) ∧ (b130 = false → (∃ u132, w129.cell? ⟨b4, 0, none⟩ = some u132) ∧ w129.frozen? ⟨b4, 0, none⟩ = false ∧ ∀ w'133, Put w129 b4 0 [.bool false] w'133 → Rec r26 l28 1 w'133 ∧ R41 false (turn r26 l28 3 w'133)) ∧ (b130 = true → Rec r26 l28 1 w129 ∧ R41 true (turn r26 l28 0 w129))))) ∧ (n95 = 1 → ∃ n137, w'60.cell? ⟨b43, 0, none⟩ = some (.int .i64 n137) ∧ (n137 ≠ 2 → ∃ n139, w'60.cell? ⟨b43, 2, none⟩ = some (.int .i64 n139) ∧ ∃ n140, w'60.cell? ⟨b43, 3, none⟩ = some (.int .i64 n140) ∧ ∃ s141, w'60.cell? ⟨b43, 4, none⟩ = some (.string s141) ∧ (n139 ≠ 0 ∨ n140 ≠ 0 ∨ s141 ≠ ByteArray.mk #[] → (∃ u143, w'60.cell? ⟨b4, 0, none⟩ = some u143) ∧ w'60.frozen? ⟨b4, 0, none⟩ = false ∧ ∀ w'144, Put w'60 b4 0 [.bool false] w'144 → Rec r26 l28 1 w'144 ∧ R41 false (turn r26 l28 3 w'144)) ∧ (n139 = 0 ∧ n140 = 0 ∧ s141 = ByteArray.mk #[] → ∃ n147, w'60.cell? ⟨b43, 2, none⟩ = some (.int .i64 n147) ∧ ∃ n148, w'60.cell? ⟨b43, 3, none⟩ = some (.int .i64 n148) ∧ ∃ s149, w'60.cell? ⟨b43, 4, none⟩ = some (.string s149) ∧ Calls Tryd.prog 60 #[.agg #[.int .i64 n147, .int .i64 n148, .string s149]] w'60 fun e150 w151 ↦
 ∃ b152, e150 = .returned (.bool b152) ∧ (b152 = false → (∃ u154, w151.cell? ⟨b4, 0, none⟩ = some u154) ∧ w151.frozen? ⟨b4, 0, none⟩ = false ∧ ∀ w'155, Put w151 b4 0 [.bool false] w'155 → Rec r26 l28 1 w'155 ∧ R41 false (turn r26 l28 3 w'155)) ∧ (b152 = true → Rec r26 l28 1 w151 ∧ R41 true (turn r26 l28 0 w151)))) ∧ (n137 = 2 → ∃ n159, w'60.cell? ⟨b43, 2, none⟩ = some (.int .i64 n159) ∧ ∃ n160, w'60.cell? ⟨b43, 3, none⟩ = some (.int .i64 n160) ∧ ∃ s161, w'60.cell? ⟨b43, 4, none⟩ = some (.string s161) ∧ Calls Tryd.prog 60 #[.agg #[.int .i64 n159, .int .i64 n160, .string s161]] w'60 fun e162 w163 ↦
 ∃ b164, e162 = .returned (.bool b164) ∧ (b164 = false → (∃ u166, w163.cell? ⟨b4, 0, none⟩ = some u166) ∧ w163.frozen? ⟨b4, 0, none⟩ = false ∧ ∀ w'167, Put w163 b4 0 [.bool false] w'167 → Rec r26 l28 1 w'167 ∧ R41 false (turn r26 l28 3 w'167)) ∧ (b164 = true → Rec r26 l28 1 w163 ∧ R41 true (turn r26 l28 0 w163)))))))))) → Yield Tryd.prog l28
 #[.int .i64 n31, .agg #[.int .i64 n32, .string s33, .int .i64 n34, .int .i64 n35, .string s36, .slice p37 n38 c39]]
 W40 fun (b171 : Bool) (w172 : World) ↦ R41 b171 w172) → Calls Tryd.prog g24 (.func (Fn.yield l28) #[] #[] :: lb25.1).toArray w129 fun e174 w175 ↦
 (∃ v176, e174 = .returned v176) ∧ ((Rec r26 l28 0 w175 ∧ (∃ u177, (turn r26 l28 2 w175).cell? ⟨b4, 0, none⟩ = some u177) ∧ (turn r26 l28 2 w175).frozen? ⟨b4, 0, none⟩ = false ∧ ∀ w'178, Put (turn r26 l28 2 w175) b4 0 [.bool true] w'178 → w'178.heap[d27]? = some (Obj.deferred (some [])) ∧ ∃ b182, (w'178.putObj d27 (Obj.deferred none)).cell? ⟨b4, 0, none⟩ = some (.bool b182) ∧ R (.returned (.bool b182)) (w'178.putObj d27 (Obj.deferred none))) ∨
 (Rec r26 l28 3 w175 ∧ (turn r26 l28 4 w175).heap[d27]? = some (Obj.deferred (some [])) ∧ ∃ b185, ((turn r26 l28 4 w175).putObj d27 (Obj.deferred none)).cell? ⟨b4, 0, none⟩ = some (.bool b185) ∧ R (.returned (.bool b185)) ((turn r26 l28 4 w175).putObj d27 (Obj.deferred none))) ∨
 False)

set_option maxRecDepth 100000 in
theorem xformed_eq (x0 : Int) (x1 : ByteArray) (x2 : Int) (x3 : Int) (x4 : ByteArray) (x5_p : Option Addr) (x5_n : Nat) (x5_c : Nat) (w : World) (R : Ending → World → Prop) : xformed_T x0 x1 x2 x3 x4 x5_p x5_n x5_c w R = vcFn Tryd.prog [] [(6, [2, 4, 6, 8, 10, 12, 14, 16, 18, 20, 22, 24, 26, 28, 30, 32, 34, 36, 38, 40, 42, 44, 46, 48, 50, 52, 54, 0])] Tryd.f37 [Value.agg
 #[.int .i64 x0, .string x1, .int .i64 x2, .int .i64 x3, .string x4, .slice x5_p x5_n x5_c]] w R := by kernel_rfl

set_option maxRecDepth 100000 in
theorem xformed_vc (x0 : Int) (x1 : ByteArray) (x2 : Int) (x3 : Int) (x4 : ByteArray) (x5_p : Option Addr) (x5_n : Nat) (x5_c : Nat) (w : World) (R : Ending → World → Prop) (hvc : xformed_T x0 x1 x2 x3 x4 x5_p x5_n x5_c w R) : Calls Tryd.prog 37 #[Value.agg
 #[.int .i64 x0, .string x1, .int .i64 x2, .int .i64 x3, .string x4, .slice x5_p x5_n x5_c]] w R :=
  calls_of_vc (args := [Value.agg
 #[.int .i64 x0, .string x1, .int .i64 x2, .int .i64 x3, .string x4, .slice x5_p x5_n x5_c]]) [] [(6, [2, 4, 6, 8, 10, 12, 14, 16, 18, 20, 22, 24, 26, 28, 30, 32, 34, 36, 38, 40, 42, 44, 46, 48, 50, 52, 54, 0])] Tryd.mixed Tryd.func37 (cast (xformed_eq _ _ _ _ _ _ _ _ w R) hvc)

set_option maxRecDepth 100000 in
def alike_T (a : Int) (b : Int) (w : World) (R : Ending → World → Prop) : Prop :=
  R (.returned (.bool (decide (a = b) || decide (a = 0) || decide (b = 0)))) w

set_option maxRecDepth 100000 in
theorem alike_eq (a : Int) (b : Int) (w : World) (R : Ending → World → Prop) : alike_T a b w R = vcFn Tryd.prog [] [] Tryd.f61 [.int .i64 a, .int .i64 b] w R := by kernel_rfl

set_option maxRecDepth 100000 in
theorem alike_vc (a : Int) (b : Int) (w : World) (R : Ending → World → Prop) (hvc : alike_T a b w R) : Calls Tryd.prog 61 #[.int .i64 a, .int .i64 b] w R :=
  calls_of_vc (args := [.int .i64 a, .int .i64 b]) [] [] Tryd.mixed Tryd.func61 (cast (alike_eq _ _ w R) hvc)

set_option maxRecDepth 100000 in
def xkind_T (cols_p : Option Addr) (cols_n : Nat) (cols_c : Nat) (x0 : Int) (x1 : ByteArray) (x2 : Int) (x3 : Int) (x4 : ByteArray) (x5_p : Option Addr) (x5_n : Nat) (x5_c : Nat) (w : World) (R : Ending → World → Prop) : Prop :=
  ∀ b1 w'2, New w (Obj.cells #[.int .i64 x0, .string x1, .int .i64 x2, .int .i64 x3, .string x4, .slice x5_p x5_n x5_c] 29) b1
 w'2 → ∃ n4, w'2.cell? ⟨b1, 0, none⟩ = some (.int .i64 n4) ∧ 0 ≤ n4 ∧ n4 < 17 ∧ ∃ n5, w'2.cell? ⟨0, (0 + n4.toNat * 3), none⟩ = some (.int .i64 n5) ∧ ∃ n6, w'2.cell? ⟨0, (0 + n4.toNat * 3 + 1), none⟩ = some (.int .i64 n6) ∧ ∃ n7, w'2.cell? ⟨0, (0 + n4.toNat * 3 + 2), none⟩ = some (.int .i64 n7) ∧ ∀ b8 w'9, New w'2 (Obj.cells #[.int .i64 0, .int .i64 0, .int .i64 0] 90) b8 w'9 → (∃ u11, w'9.cell? ⟨b8, 0, none⟩ = some u11) ∧ w'9.frozen? ⟨b8, 0, none⟩ = false ∧ (∃ u12, w'9.cell? ⟨b8, 1, none⟩ = some u12) ∧ w'9.frozen? ⟨b8, 1, none⟩ = false ∧ (∃ u13, w'9.cell? ⟨b8, 2, none⟩ = some u13) ∧ w'9.frozen? ⟨b8, 2, none⟩ = false ∧ ∀ w'14, Put w'9 b8 0 [.int .i64 n5, .int .i64 n6, .int .i64 n7] w'14 → ∀ b16 w'17, New w'14 (Obj.cells #[.int .i64 0, .int .i64 0] 93) b16 w'17 → ∃ p19 n20 c21, w'17.cell? ⟨b1, 5, none⟩ = some (.slice p19 n20 c21) ∧ ∃ (I22 : Int → World → Prop), ∃ (M23 : Int → World → Nat), I22 0 w'17 ∧ ∀ (n24 : Int) (w'25 : World), I22 n24 w'25 → (n24 < (↑n20 : Int) → ∃ b28, ∃ o29, p19 = some ⟨b28, o29, none⟩ ∧ 0 ≤ n24 ∧ n24 < (↑n20 : Int) ∧ ∃ n30, w'25.cell? ⟨b28, (o29 + n24.toNat * 6), none⟩ = some (.int .i64 n30) ∧ ∃ s31, w'25.cell? ⟨b28, (o29 + n24.toNat * 6 + 1), none⟩ = some (.string s31) ∧ ∃ n32, w'25.cell? ⟨b28, (o29 + n24.toNat * 6 + 2), none⟩ = some (.int .i64 n32) ∧ ∃ n33, w'25.cell? ⟨b28, (o29 + n24.toNat * 6 + 3), none⟩ = some (.int .i64 n33) ∧ ∃ s34, w'25.cell? ⟨b28, (o29 + n24.toNat * 6 + 4), none⟩ = some (.string s34) ∧ ∃ p35 n36 c37, w'25.cell? ⟨b28, (o29 + n24.toNat * 6 + 5), none⟩ = some (.slice p35 n36 c37) ∧ ∀ b38 w'39, New w'25
 (Obj.cells
 #[.int .i64 0, .string ⟨#[]⟩, .int .i64 0, .int .i64 0, .string ⟨#[]⟩, .slice none 0 0] 29)
 b38 w'39 → (∃ u41, w'39.cell? ⟨b38, 0, none⟩ = some u41) ∧ w'39.frozen? ⟨b38, 0, none⟩ = false ∧ (∃ u42, w'39.cell? ⟨b38, 1, none⟩ = some u42) ∧ w'39.frozen? ⟨b38, 1, none⟩ = false ∧ (∃ u43, w'39.cell? ⟨b38, 2, none⟩ = some u43) ∧ w'39.frozen? ⟨b38, 2, none⟩ = false ∧ (∃ u44, w'39.cell? ⟨b38, 3, none⟩ = some u44) ∧ w'39.frozen? ⟨b38, 3, none⟩ = false ∧ (∃ u45, w'39.cell? ⟨b38, 4, none⟩ = some u45) ∧ w'39.frozen? ⟨b38, 4, none⟩ = false ∧ (∃ u46, w'39.cell? ⟨b38, 5, none⟩ = some u46) ∧ w'39.frozen? ⟨b38, 5, none⟩ = false ∧ ∀ w'47, Put w'39 b38 0 [.int .i64 n30, .string s31, .int .i64 n32, .int .i64 n33, .string s34, .slice p35 n36 c37] w'47 → ∃ n49, w'47.cell? ⟨b38, 0, none⟩ = some (.int .i64 n49) ∧ ∃ s50, w'47.cell? ⟨b38, 1, none⟩ = some (.string s50) ∧ ∃ n51, w'47.cell? ⟨b38, 2, none⟩ = some (.int .i64 n51) ∧ ∃ n52, w'47.cell? ⟨b38, 3, none⟩ = some (.int .i64 n52) ∧ ∃ s53, w'47.cell? ⟨b38, 4, none⟩ = some (.string s53) ∧ ∃ p54 n55 c56, w'47.cell? ⟨b38, 5, none⟩ = some (.slice p54 n55 c56) ∧ Calls Tryd.prog 38
 #[.slice cols_p cols_n cols_c, .agg #[.int .i64 n49, .string s50, .int .i64 n51, .int .i64 n52, .string s53, .slice p54 n55 c56]]
 w'47 fun e57 w58 ↦
 ∃ n59, ∃ n60, e57 = .returned (.tuple #[.int .i64 n59, .int .i64 n60]) ∧ (n60 ≠ 0 → R (.returned (.tuple #[.int .i64 0, .int .i64 n60])) w58) ∧ (n60 = 0 → 0 ≤ n24 ∧ n24 < 2 ∧ (∃ u63, w58.cell? ⟨b16, (0 + n24.toNat), none⟩ = some u63) ∧ w58.frozen? ⟨b16, (0 + n24.toNat), none⟩ = false ∧ ∀ w'64, Put w58 b16 (0 + n24.toNat) [.int .i64 n59] w'64 → I22 (IntKind.i64.wrap (n24 + 1)) w'64 ∧ M23 (IntKind.i64.wrap (n24 + 1)) w'64 < M23 n24 w'25)) ∧ ((↑n20 : Int) ≤ n24 → ∃ p67 n68 c69, w'25.cell? ⟨b1, 5, none⟩ = some (.slice p67 n68 c69) ∧ ∃ (I70 : Int → World → Prop), ∃ (M71 : Int → World → Nat), I70 0 w'25 ∧ ∀ (n72 : Int) (w'73 : World), I70 n72 w'73 → (n72 < (↑n68 : Int) → ∀ w'76, Drew w'73 w'76 → ∃ n78, w'76.cell? ⟨b8, 1, none⟩ = some (.int .i64 n78) ∧ (n78 ≠ 0 → 0 ≤ n72 ∧ n72 < 2 ∧ ∃ n80, w'76.cell? ⟨b16, (0 + n72.toNat), none⟩ = some (.int .i64 n80) ∧ ∃ n81, w'76.cell? ⟨b8, 1, none⟩ = some (.int .i64 n81) ∧ Calls Tryd.prog 61 #[.int .i64 n80, .int .i64 n81] w'76 fun e82 w83 ↦
 ∃ b84, e82 = .returned (.bool b84) ∧ (b84 = false → R (.returned (.tuple #[.int .i64 0, .int .i64 121])) w83) ∧ (b84 = true → I70 (IntKind.i64.wrap (n72 + 1)) w83 ∧ M71 (IntKind.i64.wrap (n72 + 1)) w83 < M71 n72 w'73)) ∧ (n78 = 0 → I70 (IntKind.i64.wrap (n72 + 1)) w'76 ∧ M71 (IntKind.i64.wrap (n72 + 1)) w'76 < M71 n72 w'73)) ∧ ((↑n68 : Int) ≤ n72 → ∃ n89, w'73.cell? ⟨b1, 0, none⟩ = some (.int .i64 n89) ∧ (n89 = 1 → ∃ s91, w'73.cell? ⟨b1, 1, none⟩ = some (.string s91) ∧ Calls Tryd.prog 43 #[.slice cols_p cols_n cols_c, .string s91] w'73 fun e92 w93 ↦
 ∃ n94, e92 = .returned (.int .i64 n94) ∧ (n94 < 0 → R (.returned (.tuple #[.int .i64 0, .int .i64 120])) w93) ∧ (0 ≤ n94 → ∃ b97, ∃ o98, cols_p = some ⟨b97, o98, none⟩ ∧ 0 ≤ n94 ∧ n94 < (↑cols_n : Int) ∧ ∃ n99, w93.cell? ⟨b97, (o98 + n94.toNat * 3 + 1), none⟩ = some (.int .i64 n99) ∧ R (.returned (.tuple #[.int .i64 n99, .int .i64 0])) w93)) ∧ (n89 ≠ 1 → (n89 = 2 → ∃ n102, w'73.cell? ⟨b1, 2, none⟩ = some (.int .i64 n102) ∧ R (.returned (.tuple #[.int .i64 n102, .int .i64 0])) w'73) ∧ (n89 ≠ 2 → (n89 = 9 → (n89 = 9 → (0 : Int) ≤ 0 ∧ (0 : Int) < 2 ∧ ∃ n106, w'73.cell? ⟨b16, 0, none⟩ = some (.int .i64 n106) ∧ (0 : Int) ≤ 1 ∧ (1 : Int) < 2 ∧ ∃ n107, w'73.cell? ⟨b16, 1, none⟩ = some (.int .i64 n107) ∧ Calls Tryd.prog 61 #[.int .i64 n106, .int .i64 n107] w'73 fun e108 w109 ↦
 ∃ b110, e108 = .returned (.bool b110) ∧ (b110 = false → R (.returned (.tuple #[.int .i64 0, .int .i64 121])) w109) ∧ (b110 = true → ∃ n113, w109.cell? ⟨b8, 2, none⟩ = some (.int .i64 n113) ∧ R (.returned (.tuple #[.int .i64 n113, .int .i64 0])) w109)) ∧ (n89 ≠ 9 → ∃ n115, w'73.cell? ⟨b8, 2, none⟩ = some (.int .i64 n115) ∧ R (.returned (.tuple #[.int .i64 n115, .int .i64 0])) w'73)) ∧ (n89 ≠ 9 → (n89 = 10 → (n89 = 10 → (0 : Int) ≤ 0 ∧ (0 : Int) < 2 ∧ ∃ n119, w'73.cell? ⟨b16, 0, none⟩ = some (.int .i64 n119) ∧ (0 : Int) ≤ 1 ∧ (1 : Int) < 2 ∧ ∃ n120, w'73.cell? ⟨b16, 1, none⟩ = some (.int .i64 n120) ∧ Calls Tryd.prog 61 #[.int .i64 n119, .int .i64 n120] w'73 fun e121 w122 ↦
 ∃ b123, e121 = .returned (.bool b123) ∧ (b123 = false → R (.returned (.tuple #[.int .i64 0, .int .i64 121])) w122) ∧ (b123 = true → ∃ n126, w122.cell? ⟨b8, 2, none⟩ = some (.int .i64 n126) ∧ R (.returned (.tuple #[.int .i64 n126, .int .i64 0])) w122)) ∧ (n89 ≠ 10 → ∃ n128, w'73.cell? ⟨b8, 2, none⟩ = some (.int .i64 n128) ∧ R (.returned (.tuple #[.int .i64 n128, .int .i64 0])) w'73)) ∧ (n89 ≠ 10 → (n89 = 11 → (0 : Int) ≤ 0 ∧ (0 : Int) < 2 ∧ ∃ n131, w'73.cell? ⟨b16, 0, none⟩ = some (.int .i64 n131) ∧ (0 : Int) ≤ 1 ∧ (1 : Int) < 2 ∧ ∃ n132, w'73.cell? ⟨b16, 1, none⟩ = some (.int .i64 n132) ∧ Calls Tryd.prog 61 #[.int .i64 n131, .int .i64 n132] w'73 fun e133 w134 ↦
 ∃ b135, e133 = .returned (.bool b135) ∧ (b135 = false → R (.returned (.tuple #[.int .i64 0, .int .i64 121])) w134) ∧ (b135 = true → ∃ n138, w134.cell? ⟨b8, 2, none⟩ = some (.int .i64 n138) ∧ R (.returned (.tuple #[.int .i64 n138, .int .i64 0])) w134)) ∧ (n89 ≠ 11 → ∃ n140, w'73.cell? ⟨b8, 2, none⟩ = some (.int .i64 n140) ∧ R (.returned (.tuple #[.int .i64 n140, .int .i64 0])) w'73)))))))

set_option maxRecDepth 100000 in
theorem xkind_eq (cols_p : Option Addr) (cols_n : Nat) (cols_c : Nat) (x0 : Int) (x1 : ByteArray) (x2 : Int) (x3 : Int) (x4 : ByteArray) (x5_p : Option Addr) (x5_n : Nat) (x5_c : Nat) (w : World) (R : Ending → World → Prop) : xkind_T cols_p cols_n cols_c x0 x1 x2 x3 x4 x5_p x5_n x5_c w R = vcFn Tryd.prog [] [(14, [2, 4, 6, 8, 10, 12, 14, 16, 18, 20, 22, 24, 0])] Tryd.f38 [.slice cols_p cols_n cols_c, Value.agg
 #[.int .i64 x0, .string x1, .int .i64 x2, .int .i64 x3, .string x4, .slice x5_p x5_n x5_c]] w R := by kernel_rfl

set_option maxRecDepth 100000 in
theorem xkind_vc (cols_p : Option Addr) (cols_n : Nat) (cols_c : Nat) (x0 : Int) (x1 : ByteArray) (x2 : Int) (x3 : Int) (x4 : ByteArray) (x5_p : Option Addr) (x5_n : Nat) (x5_c : Nat) (w : World) (R : Ending → World → Prop) (hvc : xkind_T cols_p cols_n cols_c x0 x1 x2 x3 x4 x5_p x5_n x5_c w R) : Calls Tryd.prog 38 #[.slice cols_p cols_n cols_c, Value.agg
 #[.int .i64 x0, .string x1, .int .i64 x2, .int .i64 x3, .string x4, .slice x5_p x5_n x5_c]] w R :=
  calls_of_vc (args := [.slice cols_p cols_n cols_c, Value.agg
 #[.int .i64 x0, .string x1, .int .i64 x2, .int .i64 x3, .string x4, .slice x5_p x5_n x5_c]]) [] [(14, [2, 4, 6, 8, 10, 12, 14, 16, 18, 20, 22, 24, 0])] Tryd.mixed Tryd.func38 (cast (xkind_eq _ _ _ _ _ _ _ _ _ _ _ w R) hvc)

set_option maxRecDepth 100000 in
def xtype_T (cols_p : Option Addr) (cols_n : Nat) (cols_c : Nat) (x0 : Int) (x1 : ByteArray) (x2 : Int) (x3 : Int) (x4 : ByteArray) (x5_p : Option Addr) (x5_n : Nat) (x5_c : Nat) (w : World) (R : Ending → World → Prop) : Prop :=
  ∀ b1 w'2, New w (Obj.cells #[.int .i64 x0, .string x1, .int .i64 x2, .int .i64 x3, .string x4, .slice x5_p x5_n x5_c] 29) b1
 w'2 → Calls Tryd.prog 27 #[.slice cols_p cols_n cols_c] w'2 fun e4 w5 ↦
 ∃ b6, e4 = .returned (.bool b6) ∧ (b6 = false → R (.returned (.tuple #[.int .i64 0, .int .i64 50])) w5) ∧ (b6 = true → ∃ n9, w5.cell? ⟨b1, 0, none⟩ = some (.int .i64 n9) ∧ ∃ s10, w5.cell? ⟨b1, 1, none⟩ = some (.string s10) ∧ ∃ n11, w5.cell? ⟨b1, 2, none⟩ = some (.int .i64 n11) ∧ ∃ n12, w5.cell? ⟨b1, 3, none⟩ = some (.int .i64 n12) ∧ ∃ s13, w5.cell? ⟨b1, 4, none⟩ = some (.string s13) ∧ ∃ p14 n15 c16, w5.cell? ⟨b1, 5, none⟩ = some (.slice p14 n15 c16) ∧ Calls Tryd.prog 37
 #[.agg #[.int .i64 n9, .string s10, .int .i64 n11, .int .i64 n12, .string s13, .slice p14 n15 c16]] w5
 fun e17 w18 ↦
 ∃ b19, e17 = .returned (.bool b19) ∧ (b19 = false → R (.returned (.tuple #[.int .i64 0, .int .i64 122])) w18) ∧ (b19 = true → ∃ n22, w18.cell? ⟨b1, 0, none⟩ = some (.int .i64 n22) ∧ ∃ s23, w18.cell? ⟨b1, 1, none⟩ = some (.string s23) ∧ ∃ n24, w18.cell? ⟨b1, 2, none⟩ = some (.int .i64 n24) ∧ ∃ n25, w18.cell? ⟨b1, 3, none⟩ = some (.int .i64 n25) ∧ ∃ s26, w18.cell? ⟨b1, 4, none⟩ = some (.string s26) ∧ ∃ p27 n28 c29, w18.cell? ⟨b1, 5, none⟩ = some (.slice p27 n28 c29) ∧ Calls Tryd.prog 38
 #[.slice cols_p cols_n cols_c, .agg #[.int .i64 n22, .string s23, .int .i64 n24, .int .i64 n25, .string s26, .slice p27 n28 c29]]
 w18 fun e30 w31 ↦
 ∃ n32, ∃ n33, e30 = .returned (.tuple #[.int .i64 n32, .int .i64 n33]) ∧ R (.returned (.tuple #[.int .i64 n32, .int .i64 n33])) w31))

set_option maxRecDepth 100000 in
theorem xtype_eq (cols_p : Option Addr) (cols_n : Nat) (cols_c : Nat) (x0 : Int) (x1 : ByteArray) (x2 : Int) (x3 : Int) (x4 : ByteArray) (x5_p : Option Addr) (x5_n : Nat) (x5_c : Nat) (w : World) (R : Ending → World → Prop) : xtype_T cols_p cols_n cols_c x0 x1 x2 x3 x4 x5_p x5_n x5_c w R = vcFn Tryd.prog [] [] Tryd.f18 [.slice cols_p cols_n cols_c, Value.agg
 #[.int .i64 x0, .string x1, .int .i64 x2, .int .i64 x3, .string x4, .slice x5_p x5_n x5_c]] w R := by kernel_rfl

set_option maxRecDepth 100000 in
theorem xtype_vc (cols_p : Option Addr) (cols_n : Nat) (cols_c : Nat) (x0 : Int) (x1 : ByteArray) (x2 : Int) (x3 : Int) (x4 : ByteArray) (x5_p : Option Addr) (x5_n : Nat) (x5_c : Nat) (w : World) (R : Ending → World → Prop) (hvc : xtype_T cols_p cols_n cols_c x0 x1 x2 x3 x4 x5_p x5_n x5_c w R) : Calls Tryd.prog 18 #[.slice cols_p cols_n cols_c, Value.agg
 #[.int .i64 x0, .string x1, .int .i64 x2, .int .i64 x3, .string x4, .slice x5_p x5_n x5_c]] w R :=
  calls_of_vc (args := [.slice cols_p cols_n cols_c, Value.agg
 #[.int .i64 x0, .string x1, .int .i64 x2, .int .i64 x3, .string x4, .slice x5_p x5_n x5_c]]) [] [] Tryd.mixed Tryd.func18 (cast (xtype_eq _ _ _ _ _ _ _ _ _ _ _ w R) hvc)

set_option maxRecDepth 100000 in
def xtruth_T (b : Bool) (w : World) (R : Ending → World → Prop) : Prop :=
  ∀ b1 w'2, New w (Obj.cells #[.int .i64 0, .int .i64 0, .string ⟨#[]⟩] 26) b1 w'2 → (b = true → (∃ u5, w'2.cell? ⟨b1, 0, none⟩ = some u5) ∧ w'2.frozen? ⟨b1, 0, none⟩ = false ∧ (∃ u6, w'2.cell? ⟨b1, 1, none⟩ = some u6) ∧ w'2.frozen? ⟨b1, 1, none⟩ = false ∧ (∃ u7, w'2.cell? ⟨b1, 2, none⟩ = some u7) ∧ w'2.frozen? ⟨b1, 2, none⟩ = false ∧ ∀ w'8, Put w'2 b1 0 [.int .i64 2, .int .i64 1, .string ⟨#[]⟩] w'8 → ∃ n10, w'8.cell? ⟨b1, 0, none⟩ = some (.int .i64 n10) ∧ ∃ n11, w'8.cell? ⟨b1, 1, none⟩ = some (.int .i64 n11) ∧ ∃ s12, w'8.cell? ⟨b1, 2, none⟩ = some (.string s12) ∧ R (.returned (.agg #[.int .i64 n10, .int .i64 n11, .string s12])) w'8) ∧ (b = false → (∃ u14, w'2.cell? ⟨b1, 0, none⟩ = some u14) ∧ w'2.frozen? ⟨b1, 0, none⟩ = false ∧ (∃ u15, w'2.cell? ⟨b1, 1, none⟩ = some u15) ∧ w'2.frozen? ⟨b1, 1, none⟩ = false ∧ (∃ u16, w'2.cell? ⟨b1, 2, none⟩ = some u16) ∧ w'2.frozen? ⟨b1, 2, none⟩ = false ∧ ∀ w'17, Put w'2 b1 0 [.int .i64 2, .int .i64 0, .string ⟨#[]⟩] w'17 → ∃ n19, w'17.cell? ⟨b1, 0, none⟩ = some (.int .i64 n19) ∧ ∃ n20, w'17.cell? ⟨b1, 1, none⟩ = some (.int .i64 n20) ∧ ∃ s21, w'17.cell? ⟨b1, 2, none⟩ = some (.string s21) ∧ R (.returned (.agg #[.int .i64 n19, .int .i64 n20, .string s21])) w'17)

set_option maxRecDepth 100000 in
theorem xtruth_eq (b : Bool) (w : World) (R : Ending → World → Prop) : xtruth_T b w R = vcFn Tryd.prog [] [] Tryd.f79 [.bool b] w R := by kernel_rfl

set_option maxRecDepth 100000 in
theorem xtruth_vc (b : Bool) (w : World) (R : Ending → World → Prop) (hvc : xtruth_T b w R) : Calls Tryd.prog 79 #[.bool b] w R :=
  calls_of_vc (args := [.bool b]) [] [] Tryd.mixed Tryd.func79 (cast (xtruth_eq _ w R) hvc)

set_option maxRecDepth 100000 in
def times_T (a : Int) (b : Int) (w : World) (R : Ending → World → Prop) : Prop :=
  Calls Tryd.prog 108 #[.int .i64 a] w fun e1 w2 ↦
 ∃ n3, e1 = .returned (.int .u64 n3) ∧ Calls Tryd.prog 108 #[.int .i64 b] w2 fun e4 w5 ↦
 ∃ n6, e4 = .returned (.int .u64 n6) ∧ Calls Tryd.prog 109 #[.int .u64 n3, .int .u64 n6] w5 fun e7 w8 ↦
 ∃ n9, ∃ n10, e7 = .returned (.tuple #[.int .u64 n9, .int .u64 n10]) ∧ (n9 ≠ 0 → R (.returned (.tuple #[.int .i64 0, .bool false])) w8) ∧ (n9 = 0 → (decide (a < 0) ≠ decide (b < 0) → R (.returned (.tuple #[.int .i64 (IntKind.i64.wrap (0 - IntKind.i64.wrap n10)), .bool (decide (n10 ≤ 9223372036854775808))])) w8) ∧ (decide (a < 0) = decide (b < 0) → R (.returned (.tuple #[.int .i64 (IntKind.i64.wrap n10), .bool (decide (n10 < 9223372036854775808))])) w8))

set_option maxRecDepth 100000 in
theorem times_eq (a : Int) (b : Int) (w : World) (R : Ending → World → Prop) : times_T a b w R = vcFn Tryd.prog [] [] Tryd.f99 [.int .i64 a, .int .i64 b] w R := by kernel_rfl

set_option maxRecDepth 100000 in
theorem times_vc (a : Int) (b : Int) (w : World) (R : Ending → World → Prop) (hvc : times_T a b w R) : Calls Tryd.prog 99 #[.int .i64 a, .int .i64 b] w R :=
  calls_of_vc (args := [.int .i64 a, .int .i64 b]) [] [] Tryd.mixed Tryd.func99 (cast (times_eq _ _ w R) hvc)

set_option maxRecDepth 100000 in
def times1_T (n : Int) (w : World) (R : Ending → World → Prop) : Prop :=
  (n < 0 → R (.returned (.int .u64 (IntKind.u64.wrap (0 - IntKind.u64.wrap n)))) w) ∧ (0 ≤ n → R (.returned (.int .u64 (IntKind.u64.wrap n))) w)

set_option maxRecDepth 100000 in
theorem times1_eq (n : Int) (w : World) (R : Ending → World → Prop) : times1_T n w R = vcFn Tryd.prog [] [] Tryd.f108 [.int .i64 n] w R := by kernel_rfl

set_option maxRecDepth 100000 in
theorem times1_vc (n : Int) (w : World) (R : Ending → World → Prop) (hvc : times1_T n w R) : Calls Tryd.prog 108 #[.int .i64 n] w R :=
  calls_of_vc (args := [.int .i64 n]) [] [] Tryd.mixed Tryd.func108 (cast (times1_eq _ w R) hvc)

set_option maxRecDepth 100000 in
def mul64_T (x : Int) (y : Int) (w : World) (R : Ending → World → Prop) : Prop :=
  R
 (.returned
 (Value.tuple
 #[Value.int IntKind.u64
 (IntKind.u64.wrap
 (IntKind.u64.wrap
 (IntKind.u64.wrap (shrI IntKind.u64 x 32 * shrI IntKind.u64 y 32) +
 shrI IntKind.u64
 (IntKind.u64.wrap
 (IntKind.u64.wrap (shrI IntKind.u64 x 32 * bits BinOp.and IntKind.u64 y 4294967295) +
 shrI IntKind.u64 (IntKind.u64.wrap (bits BinOp.and IntKind.u64 x 4294967295 * bits BinOp.and IntKind.u64 y 4294967295)) 32))
 32) +
 shrI IntKind.u64
 (IntKind.u64.wrap
 (bits BinOp.and IntKind.u64
 (IntKind.u64.wrap
 (IntKind.u64.wrap (shrI IntKind.u64 x 32 * bits BinOp.and IntKind.u64 y 4294967295) +
 shrI IntKind.u64 (IntKind.u64.wrap (bits BinOp.and IntKind.u64 x 4294967295 * bits BinOp.and IntKind.u64 y 4294967295)) 32))
 4294967295 +
 IntKind.u64.wrap (bits BinOp.and IntKind.u64 x 4294967295 * shrI IntKind.u64 y 32)))
 32)), .int .u64 (IntKind.u64.wrap (x * y))]))
 w

set_option maxRecDepth 100000 in
theorem mul64_eq (x : Int) (y : Int) (w : World) (R : Ending → World → Prop) : mul64_T x y w R = vcFn Tryd.prog [] [] Tryd.f109 [.int .u64 x, .int .u64 y] w R := by kernel_rfl

set_option maxRecDepth 100000 in
theorem mul64_vc (x : Int) (y : Int) (w : World) (R : Ending → World → Prop) (hvc : mul64_T x y w R) : Calls Tryd.prog 109 #[.int .u64 x, .int .u64 y] w R :=
  calls_of_vc (args := [.int .u64 x, .int .u64 y]) [] [] Tryd.mixed Tryd.func109 (cast (mul64_eq _ _ w R) hvc)

set_option maxRecDepth 100000 in
def xarith_T (op : Int) (a : Int) (b : Int) (w : World) (R : Ending → World → Prop) : Prop :=
  ((op = 6 ∨ op = 7) ∧ b = 0 → R (.returned (.tuple #[.int .i64 0, .int .i64 101])) w) ∧ (op ≠ 6 ∧ op ≠ 7 ∨ b ≠ 0 → (op = 3 → (bits BinOp.and IntKind.i64 (bits BinOp.xor IntKind.i64 a (IntKind.i64.wrap (a + b))) (bits BinOp.xor IntKind.i64 b (IntKind.i64.wrap (a + b))) < 0 → R (.returned (.tuple #[.int .i64 0, .int .i64 100])) w) ∧ (0 ≤ bits BinOp.and IntKind.i64 (bits BinOp.xor IntKind.i64 a (IntKind.i64.wrap (a + b))) (bits BinOp.xor IntKind.i64 b (IntKind.i64.wrap (a + b))) → R (.returned (.tuple #[.int .i64 (IntKind.i64.wrap (a + b)), .int .i64 0])) w)) ∧ (op ≠ 3 → (op = 4 → (bits BinOp.and IntKind.i64 (bits BinOp.xor IntKind.i64 a b) (bits BinOp.xor IntKind.i64 a (IntKind.i64.wrap (a - b))) < 0 → R (.returned (.tuple #[.int .i64 0, .int .i64 100])) w) ∧ (0 ≤ bits BinOp.and IntKind.i64 (bits BinOp.xor IntKind.i64 a b) (bits BinOp.xor IntKind.i64 a (IntKind.i64.wrap (a - b))) → R (.returned (.tuple #[.int .i64 (IntKind.i64.wrap (a - b)), .int .i64 0])) w)) ∧ (op ≠ 4 → (op = 5 → Calls Tryd.prog 99 #[.int .i64 a, .int .i64 b] w fun e12 w13 ↦
 ∃ n14, ∃ b15, e12 = .returned (.tuple #[.int .i64 n14, .bool b15]) ∧ (b15 = false → R (.returned (.tuple #[.int .i64 0, .int .i64 100])) w13) ∧ (b15 = true → R (.returned (.tuple #[.int .i64 n14, .int .i64 0])) w13)) ∧ (op ≠ 5 → (op = 6 → b ≠ 0 ∧ (a = -9223372036854775808 ∧ b = -1 → R (.returned (.tuple #[.int .i64 0, .int .i64 100])) w) ∧ (a ≠ -9223372036854775808 ∨ b ≠ -1 → R (.returned (.tuple #[.int .i64 (quoI IntKind.i64 a b), .int .i64 0])) w)) ∧ (op ≠ 6 → (op = 7 → b ≠ 0 ∧ R (.returned (.tuple #[.int .i64 (remI a b), .int .i64 0])) w) ∧ (op ≠ 7 → R (.returned (.tuple #[.int .i64 0, .int .i64 0])) w))))))

set_option maxRecDepth 100000 in
theorem xarith_eq (op : Int) (a : Int) (b : Int) (w : World) (R : Ending → World → Prop) : xarith_T op a b w R = vcFn Tryd.prog [] [] Tryd.f83 [.int .i64 op, .int .i64 a, .int .i64 b] w R := by kernel_rfl

set_option maxRecDepth 100000 in
theorem xarith_vc (op : Int) (a : Int) (b : Int) (w : World) (R : Ending → World → Prop) (hvc : xarith_T op a b w R) : Calls Tryd.prog 83 #[.int .i64 op, .int .i64 a, .int .i64 b] w R :=
  calls_of_vc (args := [.int .i64 op, .int .i64 a, .int .i64 b]) [] [] Tryd.mixed Tryd.func83 (cast (xarith_eq _ _ _ w R) hvc)

set_option maxRecDepth 100000 in
def third_T (v0 : Int) (v1 : Int) (v2 : ByteArray) (w : World) (R : Ending → World → Prop) : Prop :=
  ∀ b1 w'2, New w (Obj.cells #[.int .i64 v0, .int .i64 v1, .string v2] 26) b1 w'2 → ∃ n4, w'2.cell? ⟨b1, 0, none⟩ = some (.int .i64 n4) ∧ (n4 = 0 → R (.returned (.int .i64 2)) w'2) ∧ (n4 ≠ 0 → ∃ n7, w'2.cell? ⟨b1, 1, none⟩ = some (.int .i64 n7) ∧ R (.returned (.int .i64 n7)) w'2)

set_option maxRecDepth 100000 in
theorem third_eq (v0 : Int) (v1 : Int) (v2 : ByteArray) (w : World) (R : Ending → World → Prop) : third_T v0 v1 v2 w R = vcFn Tryd.prog [] [] Tryd.f81 [.agg #[.int .i64 v0, .int .i64 v1, .string v2]] w R := by kernel_rfl

set_option maxRecDepth 100000 in
theorem third_vc (v0 : Int) (v1 : Int) (v2 : ByteArray) (w : World) (R : Ending → World → Prop) (hvc : third_T v0 v1 v2 w R) : Calls Tryd.prog 81 #[.agg #[.int .i64 v0, .int .i64 v1, .string v2]] w R :=
  calls_of_vc (args := [.agg #[.int .i64 v0, .int .i64 v1, .string v2]]) [] [] Tryd.mixed Tryd.func81 (cast (third_eq _ _ _ w R) hvc)

set_option maxRecDepth 100000 in
def answer_T (n : Int) (w : World) (R : Ending → World → Prop) : Prop :=
  ∀ b1 w'2, New w (Obj.cells #[.int .i64 0, .int .i64 0, .string ⟨#[]⟩] 26) b1 w'2 → (n = 2 → (∃ u5, w'2.cell? ⟨b1, 0, none⟩ = some u5) ∧ w'2.frozen? ⟨b1, 0, none⟩ = false ∧ (∃ u6, w'2.cell? ⟨b1, 1, none⟩ = some u6) ∧ w'2.frozen? ⟨b1, 1, none⟩ = false ∧ (∃ u7, w'2.cell? ⟨b1, 2, none⟩ = some u7) ∧ w'2.frozen? ⟨b1, 2, none⟩ = false ∧ ∀ w'8, Put w'2 b1 0 [.int .i64 0, .int .i64 0, .string ⟨#[]⟩] w'8 → ∃ n10, w'8.cell? ⟨b1, 0, none⟩ = some (.int .i64 n10) ∧ ∃ n11, w'8.cell? ⟨b1, 1, none⟩ = some (.int .i64 n11) ∧ ∃ s12, w'8.cell? ⟨b1, 2, none⟩ = some (.string s12) ∧ R (.returned (.agg #[.int .i64 n10, .int .i64 n11, .string s12])) w'8) ∧ (n ≠ 2 → Calls Tryd.prog 79 #[.bool (decide (n = 1))] w'2 fun e14 w15 ↦
 ∃ n16, ∃ n17, ∃ s18, e14 = .returned (.agg #[.int .i64 n16, .int .i64 n17, .string s18]) ∧ (∃ u19, w15.cell? ⟨b1, 0, none⟩ = some u19) ∧ w15.frozen? ⟨b1, 0, none⟩ = false ∧ (∃ u20, w15.cell? ⟨b1, 1, none⟩ = some u20) ∧ w15.frozen? ⟨b1, 1, none⟩ = false ∧ (∃ u21, w15.cell? ⟨b1, 2, none⟩ = some u21) ∧ w15.frozen? ⟨b1, 2, none⟩ = false ∧ ∀ w'22, Put w15 b1 0 [.int .i64 n16, .int .i64 n17, .string s18] w'22 → ∃ n24, w'22.cell? ⟨b1, 0, none⟩ = some (.int .i64 n24) ∧ ∃ n25, w'22.cell? ⟨b1, 1, none⟩ = some (.int .i64 n25) ∧ ∃ s26, w'22.cell? ⟨b1, 2, none⟩ = some (.string s26) ∧ R (.returned (.agg #[.int .i64 n24, .int .i64 n25, .string s26])) w'22)

set_option maxRecDepth 100000 in
theorem answer_eq (n : Int) (w : World) (R : Ending → World → Prop) : answer_T n w R = vcFn Tryd.prog [] [] Tryd.f80 [.int .i64 n] w R := by kernel_rfl

set_option maxRecDepth 100000 in
theorem answer_vc (n : Int) (w : World) (R : Ending → World → Prop) (hvc : answer_T n w R) : Calls Tryd.prog 80 #[.int .i64 n] w R :=
  calls_of_vc (args := [.int .i64 n]) [] [] Tryd.mixed Tryd.func80 (cast (answer_eq _ w R) hvc)

set_option maxRecDepth 100000 in
def xpair_T (op : Int) (a0 : Int) (a1 : Int) (a2 : ByteArray) (b0 : Int) (b1 : Int) (b2 : ByteArray) (w : World) (R : Ending → World → Prop) : Prop :=
  ∀ b1_1 w'2, New w (Obj.cells #[.int .i64 a0, .int .i64 a1, .string a2] 26) b1_1 w'2 → ∀ b4 w'5, New w'2 (Obj.cells #[.int .i64 b0, .int .i64 b1, .string b2] 26) b4 w'5 → ∀ b7 w'8, New w'5 (Obj.cells #[.int .i64 0, .int .i64 0, .string ⟨#[]⟩] 26) b7 w'8 → (op = 12 → ∀ w'11, Drew w'8 w'11 → ∃ n13, w'11.cell? ⟨b1_1, 0, none⟩ = some (.int .i64 n13) ∧ ∃ n14, w'11.cell? ⟨b1_1, 1, none⟩ = some (.int .i64 n14) ∧ ∃ s15, w'11.cell? ⟨b1_1, 2, none⟩ = some (.string s15) ∧ ∃ n16, w'11.cell? ⟨b4, 0, none⟩ = some (.int .i64 n16) ∧ ∃ n17, w'11.cell? ⟨b4, 1, none⟩ = some (.int .i64 n17) ∧ ∃ s18, w'11.cell? ⟨b4, 2, none⟩ = some (.string s18) ∧ Calls Tryd.prog 81 #[.agg #[.int .i64 n13, .int .i64 n14, .string s15]] w'11 fun e19 w20 ↦
 ∃ n21, e19 = .returned (.int .i64 n21) ∧ SameTo (some [b4, b1_1]) w'11 w'11 w20 ∧ 0 ≤ n21 ∧ n21 < 3 ∧ Calls Tryd.prog 81 #[.agg #[.int .i64 n16, .int .i64 n17, .string s18]] w20 fun e22 w23 ↦
 ∃ n24, e22 = .returned (.int .i64 n24) ∧ 0 ≤ n24 ∧ n24 < 3 ∧ ∃ n25, w23.cell? ⟨1, (0 + n21.toNat * 3 + n24.toNat), none⟩ = some (.int .i64 n25) ∧ Calls Tryd.prog 80 #[.int .i64 n25] w23 fun e26 w27 ↦
 ∃ n28, ∃ n29, ∃ s30, e26 = .returned (.agg #[.int .i64 n28, .int .i64 n29, .string s30]) ∧ (∃ u31, w27.cell? ⟨b7, 0, none⟩ = some u31) ∧ w27.frozen? ⟨b7, 0, none⟩ = false ∧ (∃ u32, w27.cell? ⟨b7, 1, none⟩ = some u32) ∧ w27.frozen? ⟨b7, 1, none⟩ = false ∧ (∃ u33, w27.cell? ⟨b7, 2, none⟩ = some u33) ∧ w27.frozen? ⟨b7, 2, none⟩ = false ∧ ∀ w'34, Put w27 b7 0 [.int .i64 n28, .int .i64 n29, .string s30] w'34 → ∃ n36, w'34.cell? ⟨b7, 0, none⟩ = some (.int .i64 n36) ∧ ∃ n37, w'34.cell? ⟨b7, 1, none⟩ = some (.int .i64 n37) ∧ ∃ s38, w'34.cell? ⟨b7, 2, none⟩ = some (.string s38) ∧ R (.returned (.tuple #[.agg #[.int .i64 n36, .int .i64 n37, .string s38], .int .i64 0])) w'34) ∧ (op ≠ 12 → (op = 13 → ∀ w'41, Drew w'8 w'41 → ∃ n43, w'41.cell? ⟨b1_1, 0, none⟩ = some (.int .i64 n43) ∧ ∃ n44, w'41.cell? ⟨b1_1, 1, none⟩ = some (.int .i64 n44) ∧ ∃ s45, w'41.cell? ⟨b1_1, 2, none⟩ = some (.string s45) ∧ ∃ n46, w'41.cell? ⟨b4, 0, none⟩ = some (.int .i64 n46) ∧ ∃ n47, w'41.cell? ⟨b4, 1, none⟩ = some (.int .i64 n47) ∧ ∃ s48, w'41.cell? ⟨b4, 2, none⟩ = some (.string s48) ∧ Calls Tryd.prog 81 #[.agg #[.int .i64 n43, .int .i64 n44, .string s45]] w'41 fun e49 w50 ↦
 ∃ n51, e49 = .returned (.int .i64 n51) ∧ SameTo (some [b4, b1_1]) w'41 w'41 w50 ∧ 0 ≤ n51 ∧ n51 < 3 ∧ Calls Tryd.prog 81 #[.agg #[.int .i64 n46, .int .i64 n47, .string s48]] w50 fun e52 w53 ↦
 ∃ n54, e52 = .returned (.int .i64 n54) ∧ 0 ≤ n54 ∧ n54 < 3 ∧ ∃ n55, w53.cell? ⟨2, (0 + n51.toNat * 3 + n54.toNat), none⟩ = some (.int .i64 n55) ∧ Calls Tryd.prog 80 #[.int .i64 n55] w53 fun e56 w57 ↦
 ∃ n58, ∃ n59, ∃ s60, e56 = .returned (.agg #[.int .i64 n58, .int .i64 n59, .string s60]) ∧ (∃ u61, w57.cell? ⟨b7, 0, none⟩ = some u61) ∧ w57.frozen? ⟨b7, 0, none⟩ = false ∧ (∃ u62, w57.cell? ⟨b7, 1, none⟩ = some u62) ∧ w57.frozen? ⟨b7, 1, none⟩ = false ∧ (∃ u63, w57.cell? ⟨b7, 2, none⟩ = some u63) ∧ w57.frozen? ⟨b7, 2, none⟩ = false ∧ ∀ w'64, Put w57 b7 0 [.int .i64 n58, .int .i64 n59, .string s60] w'64 → ∃ n66, w'64.cell? ⟨b7, 0, none⟩ = some (.int .i64 n66) ∧ ∃ n67, w'64.cell? ⟨b7, 1, none⟩ = some (.int .i64 n67) ∧ ∃ s68, w'64.cell? ⟨b7, 2, none⟩ = some (.string s68) ∧ R (.returned (.tuple #[.agg #[.int .i64 n66, .int .i64 n67, .string s68], .int .i64 0])) w'64) ∧ (op ≠ 13 → ∃ n70, w'8.cell? ⟨b1_1, 0, none⟩ = some (.int .i64 n70) ∧ (n70 = 0 → (∃ u72, w'8.cell? ⟨b7, 0, none⟩ = some u72) ∧ w'8.frozen? ⟨b7, 0, none⟩ = false ∧ (∃ u73, w'8.cell? ⟨b7, 1, none⟩ = some u73) ∧ w'8.frozen? ⟨b7, 1, none⟩ = false ∧ (∃ u74, w'8.cell? ⟨b7, 2, none⟩ = some u74) ∧ w'8.frozen? ⟨b7, 2, none⟩ = false ∧ ∀ w'75, Put w'8 b7 0 [.int .i64 0, .int .i64 0, .string ⟨#[]⟩] w'75 → ∃ n77, w'75.cell? ⟨b7, 0, none⟩ = some (.int .i64 n77) ∧ ∃ n78, w'75.cell? ⟨b7, 1, none⟩ = some (.int .i64 n78) ∧ ∃ s79, w'75.cell? ⟨b7, 2, none⟩ = some (.string s79) ∧ R (.returned (.tuple #[.agg #[.int .i64 n77, .int .i64 n78, .string s79], .int .i64 0])) w'75) ∧ (n70 ≠ 0 → ∃ n81, w'8.cell? ⟨b4, 0, none⟩ = some (.int .i64 n81) ∧ (n81 = 0 → (∃ u83, w'8.cell? ⟨b7, 0, none⟩ = some u83) ∧ w'8.frozen? ⟨b7, 0, none⟩ = false ∧ (∃ u84, w'8.cell? ⟨b7, 1, none⟩ = some u84) ∧ w'8.frozen? ⟨b7, 1, none⟩ = false ∧ (∃ u85, w'8.cell? ⟨b7, 2, none⟩ = some u85) ∧ w'8.frozen? ⟨b7, 2, none⟩ = false ∧ ∀ w'86, Put w'8 b7 0 [.int .i64 0, .int .i64 0, .string ⟨#[]⟩] w'86 → ∃ n88, w'86.cell? ⟨b7, 0, none⟩ = some (.int .i64 n88) ∧ ∃ n89, w'86.cell? ⟨b7, 1, none⟩ = some (.int .i64 n89) ∧ ∃ s90, w'86.cell? ⟨b7, 2, none⟩ = some (.string s90) ∧ R (.returned (.tuple #[.agg #[.int .i64 n88, .int .i64 n89, .string s90], .int .i64 0])) w'86) ∧ (n81 ≠ 0 → ∃ n92, w'8.cell? ⟨b1_1, 0, none⟩ = some (.int .i64 n92) ∧ ∃ n93, w'8.cell? ⟨b1_1, 1, none⟩ = some (.int .i64 n93) ∧ ∃ s94, w'8.cell? ⟨b1_1, 2, none⟩ = some (.string s94) ∧ ∃ n95, w'8.cell? ⟨b4, 0, none⟩ = some (.int .i64 n95) ∧ ∃ n96, w'8.cell? ⟨b4, 1, none⟩ = some (.int .i64 n96) ∧ ∃ s97, w'8.cell? ⟨b4, 2, none⟩ = some (.string s97) ∧ Calls Tryd.prog 82
 #[.agg #[.int .i64 n92, .int .i64 n93, .string s94], .agg #[.int .i64 n95, .int .i64 n96, .string s97]]
 w'8 fun e98 w99 ↦
 ∃ n100, e98 = .returned (.int .i64 n100) ∧ (op = 9 → Calls Tryd.prog 79 #[.bool (decide (n100 = 0))] w99 fun e102 w103 ↦
 ∃ n104, ∃ n105, ∃ s106, e102 = .returned (.agg #[.int .i64 n104, .int .i64 n105, .string s106]) ∧ (∃ u107, w103.cell? ⟨b7, 0, none⟩ = some u107) ∧ w103.frozen? ⟨b7, 0, none⟩ = false ∧ (∃ u108, w103.cell? ⟨b7, 1, none⟩ = some u108) ∧ w103.frozen? ⟨b7, 1, none⟩ = false ∧ (∃ u109, w103.cell? ⟨b7, 2, none⟩ = some u109) ∧ w103.frozen? ⟨b7, 2, none⟩ = false ∧ ∀ w'110, Put w103 b7 0 [.int .i64 n104, .int .i64 n105, .string s106] w'110 → ∃ n112, w'110.cell? ⟨b7, 0, none⟩ = some (.int .i64 n112) ∧ ∃ n113, w'110.cell? ⟨b7, 1, none⟩ = some (.int .i64 n113) ∧ ∃ s114, w'110.cell? ⟨b7, 2, none⟩ = some (.string s114) ∧ R (.returned (.tuple #[.agg #[.int .i64 n112, .int .i64 n113, .string s114], .int .i64 0])) w'110) ∧ (op ≠ 9 → (op = 10 → Calls Tryd.prog 79 #[.bool (decide (n100 < 0))] w99 fun e117 w118 ↦
 ∃ n119, ∃ n120, ∃ s121, e117 = .returned (.agg #[.int .i64 n119, .int .i64 n120, .string s121]) ∧ (∃ u122, w118.cell? ⟨b7, 0, none⟩ = some u122) ∧ w118.frozen? ⟨b7, 0, none⟩ = false ∧ (∃ u123, w118.cell? ⟨b7, 1, none⟩ = some u123) ∧ w118.frozen? ⟨b7, 1, none⟩ = false ∧ (∃ u124, w118.cell? ⟨b7, 2, none⟩ = some u124) ∧ w118.frozen? ⟨b7, 2, none⟩ = false ∧ ∀ w'125, Put w118 b7 0 [.int .i64 n119, .int .i64 n120, .string s121] w'125 → ∃ n127, w'125.cell? ⟨b7, 0, none⟩ = some (.int .i64 n127) ∧ ∃ n128, w'125.cell? ⟨b7, 1, none⟩ = some (.int .i64 n128) ∧ ∃ s129, w'125.cell? ⟨b7, 2, none⟩ = some (.string s129) ∧ R (.returned (.tuple #[.agg #[.int .i64 n127, .int .i64 n128, .string s129], .int .i64 0])) w'125) ∧ (op ≠ 10 → (op = 11 → Calls Tryd.prog 79 #[.bool (decide (n100 ≤ 0))] w99 fun e132 w133 ↦
 ∃ n134, ∃ n135, ∃ s136, e132 = .returned (.agg #[.int .i64 n134, .int .i64 n135, .string s136]) ∧ (∃ u137, w133.cell? ⟨b7, 0, none⟩ = some u137) ∧ w133.frozen? ⟨b7, 0, none⟩ = false ∧ (∃ u138, w133.cell? ⟨b7, 1, none⟩ = some u138) ∧ w133.frozen? ⟨b7, 1, none⟩ = false ∧ (∃ u139, w133.cell? ⟨b7, 2, none⟩ = some u139) ∧ w133.frozen? ⟨b7, 2, none⟩ = false ∧ ∀ w'140, Put w133 b7 0 [.int .i64 n134, .int .i64 n135, .string s136] w'140 → ∃ n142, w'140.cell? ⟨b7, 0, none⟩ = some (.int .i64 n142) ∧ ∃ n143, w'140.cell? ⟨b7, 1, none⟩ = some (.int .i64 n143) ∧ ∃ s144, w'140.cell? ⟨b7, 2, none⟩ = some (.string s144) ∧ R (.returned (.tuple #[.agg #[.int .i64 n142, .int .i64 n143, .string s144], .int .i64 0])) w'140) ∧ (op ≠ 11 → ∃ n146, w99.cell? ⟨b1_1, 1, none⟩ = some (.int .i64 n146) ∧ ∃ n147, w99.cell? ⟨b4, 1, none⟩ = some (.int .i64 n147) ∧ Calls Tryd.prog 83 #[.int .i64 op, .int .i64 n146, .int .i64 n147] w99 fun e148 w149 ↦
 ∃ n150, ∃ n151, e148 = .returned (.tuple #[.int .i64 n150, .int .i64 n151]) ∧ (n151 ≠ 0 → (∃ u153, w149.cell? ⟨b7, 0, none⟩ = some u153) ∧ w149.frozen? ⟨b7, 0, none⟩ = false ∧ (∃ u154, w149.cell? ⟨b7, 1, none⟩ = some u154) ∧ w149.frozen? ⟨b7, 1, none⟩ = false ∧ (∃ u155, w149.cell? ⟨b7, 2, none⟩ = some u155) ∧ w149.frozen? ⟨b7, 2, none⟩ = false ∧ ∀ w'156, Put w149 b7 0 [.int .i64 0, .int .i64 0, .string ⟨#[]⟩] w'156 → ∃ n158, w'156.cell? ⟨b7, 0, none⟩ = some (.int .i64 n158) ∧ ∃ n159, w'156.cell? ⟨b7, 1, none⟩ = some (.int .i64 n159) ∧ ∃ s160, w'156.cell? ⟨b7, 2, none⟩ = some (.string s160) ∧ R (.returned (.tuple #[.agg #[.int .i64 n158, .int .i64 n159, .string s160], .int .i64 n151])) w'156) ∧ (n151 = 0 → (∃ u162, w149.cell? ⟨b7, 0, none⟩ = some u162) ∧ w149.frozen? ⟨b7, 0, none⟩ = false ∧ (∃ u163, w149.cell? ⟨b7, 1, none⟩ = some u163) ∧ w149.frozen? ⟨b7, 1, none⟩ = false ∧ (∃ u164, w149.cell? ⟨b7, 2, none⟩ = some u164) ∧ w149.frozen? ⟨b7, 2, none⟩ = false ∧ ∀ w'165, Put w149 b7 0 [.int .i64 1, .int .i64 n150, .string ⟨#[]⟩] w'165 → ∃ n167, w'165.cell? ⟨b7, 0, none⟩ = some (.int .i64 n167) ∧ ∃ n168, w'165.cell? ⟨b7, 1, none⟩ = some (.int .i64 n168) ∧ ∃ s169, w'165.cell? ⟨b7, 2, none⟩ = some (.string s169) ∧ R (.returned (.tuple #[.agg #[.int .i64 n167, .int .i64 n168, .string s169], .int .i64 0])) w'165))))))))

set_option maxRecDepth 100000 in
theorem xpair_eq (op : Int) (a0 : Int) (a1 : Int) (a2 : ByteArray) (b0 : Int) (b1 : Int) (b2 : ByteArray) (w : World) (R : Ending → World → Prop) : xpair_T op a0 a1 a2 b0 b1 b2 w R = vcFn Tryd.prog [] [(2, [2, 6, 5, 10, 8, 12, 14, 16, 18, 20, 0]), (4, [2, 6, 5, 10, 8, 12, 14, 16, 18, 20, 0])] Tryd.f63 [.int .i64 op, .agg #[.int .i64 a0, .int .i64 a1, .string a2], .agg #[.int .i64 b0, .int .i64 b1, .string b2]] w R := by kernel_rfl

set_option maxRecDepth 100000 in
theorem xpair_vc (op : Int) (a0 : Int) (a1 : Int) (a2 : ByteArray) (b0 : Int) (b1 : Int) (b2 : ByteArray) (w : World) (R : Ending → World → Prop) (hvc : xpair_T op a0 a1 a2 b0 b1 b2 w R) : Calls Tryd.prog 63 #[.int .i64 op, .agg #[.int .i64 a0, .int .i64 a1, .string a2], .agg #[.int .i64 b0, .int .i64 b1, .string b2]] w R :=
  calls_of_vc (args := [.int .i64 op, .agg #[.int .i64 a0, .int .i64 a1, .string a2], .agg #[.int .i64 b0, .int .i64 b1, .string b2]]) [] [(2, [2, 6, 5, 10, 8, 12, 14, 16, 18, 20, 0]), (4, [2, 6, 5, 10, 8, 12, 14, 16, 18, 20, 0])] Tryd.mixed Tryd.func63 (cast (xpair_eq _ _ _ _ _ _ _ w R) hvc)

set_option maxRecDepth 100000 in
def xsingle_T (op : Int) (v0 : Int) (v1 : Int) (v2 : ByteArray) (w : World) (R : Ending → World → Prop) : Prop :=
  ∀ b1 w'2, New w (Obj.cells #[.int .i64 v0, .int .i64 v1, .string v2] 26) b1 w'2 → ∀ b4 w'5, New w'2 (Obj.cells #[.int .i64 0, .int .i64 0, .string ⟨#[]⟩] 26) b4 w'5 → (op = 15 → ∃ n8, w'5.cell? ⟨b1, 0, none⟩ = some (.int .i64 n8) ∧ Calls Tryd.prog 79 #[.bool (decide (n8 = 0))] w'5 fun e9 w10 ↦
 ∃ n11, ∃ n12, ∃ s13, e9 = .returned (.agg #[.int .i64 n11, .int .i64 n12, .string s13]) ∧ (∃ u14, w10.cell? ⟨b4, 0, none⟩ = some u14) ∧ w10.frozen? ⟨b4, 0, none⟩ = false ∧ (∃ u15, w10.cell? ⟨b4, 1, none⟩ = some u15) ∧ w10.frozen? ⟨b4, 1, none⟩ = false ∧ (∃ u16, w10.cell? ⟨b4, 2, none⟩ = some u16) ∧ w10.frozen? ⟨b4, 2, none⟩ = false ∧ ∀ w'17, Put w10 b4 0 [.int .i64 n11, .int .i64 n12, .string s13] w'17 → ∃ n19, w'17.cell? ⟨b4, 0, none⟩ = some (.int .i64 n19) ∧ ∃ n20, w'17.cell? ⟨b4, 1, none⟩ = some (.int .i64 n20) ∧ ∃ s21, w'17.cell? ⟨b4, 2, none⟩ = some (.string s21) ∧ R (.returned (.tuple #[.agg #[.int .i64 n19, .int .i64 n20, .string s21], .int .i64 0])) w'17) ∧ (op ≠ 15 → ∃ n23, w'5.cell? ⟨b1, 0, none⟩ = some (.int .i64 n23) ∧ (n23 = 0 → ∃ n25, w'5.cell? ⟨b1, 0, none⟩ = some (.int .i64 n25) ∧ ∃ n26, w'5.cell? ⟨b1, 1, none⟩ = some (.int .i64 n26) ∧ ∃ s27, w'5.cell? ⟨b1, 2, none⟩ = some (.string s27) ∧ (∃ u28, w'5.cell? ⟨b4, 0, none⟩ = some u28) ∧ w'5.frozen? ⟨b4, 0, none⟩ = false ∧ (∃ u29, w'5.cell? ⟨b4, 1, none⟩ = some u29) ∧ w'5.frozen? ⟨b4, 1, none⟩ = false ∧ (∃ u30, w'5.cell? ⟨b4, 2, none⟩ = some u30) ∧ w'5.frozen? ⟨b4, 2, none⟩ = false ∧ ∀ w'31, Put w'5 b4 0 [.int .i64 n25, .int .i64 n26, .string s27] w'31 → ∃ n33, w'31.cell? ⟨b4, 0, none⟩ = some (.int .i64 n33) ∧ ∃ n34, w'31.cell? ⟨b4, 1, none⟩ = some (.int .i64 n34) ∧ ∃ s35, w'31.cell? ⟨b4, 2, none⟩ = some (.string s35) ∧ R (.returned (.tuple #[.agg #[.int .i64 n33, .int .i64 n34, .string s35], .int .i64 0])) w'31) ∧ (n23 ≠ 0 → (op = 14 → ∃ n38, w'5.cell? ⟨b1, 1, none⟩ = some (.int .i64 n38) ∧ Calls Tryd.prog 79 #[.bool (decide (n38 = 0))] w'5 fun e39 w40 ↦
 ∃ n41, ∃ n42, ∃ s43, e39 = .returned (.agg #[.int .i64 n41, .int .i64 n42, .string s43]) ∧ (∃ u44, w40.cell? ⟨b4, 0, none⟩ = some u44) ∧ w40.frozen? ⟨b4, 0, none⟩ = false ∧ (∃ u45, w40.cell? ⟨b4, 1, none⟩ = some u45) ∧ w40.frozen? ⟨b4, 1, none⟩ = false ∧ (∃ u46, w40.cell? ⟨b4, 2, none⟩ = some u46) ∧ w40.frozen? ⟨b4, 2, none⟩ = false ∧ ∀ w'47, Put w40 b4 0 [.int .i64 n41, .int .i64 n42, .string s43] w'47 → ∃ n49, w'47.cell? ⟨b4, 0, none⟩ = some (.int .i64 n49) ∧ ∃ n50, w'47.cell? ⟨b4, 1, none⟩ = some (.int .i64 n50) ∧ ∃ s51, w'47.cell? ⟨b4, 2, none⟩ = some (.string s51) ∧ R (.returned (.tuple #[.agg #[.int .i64 n49, .int .i64 n50, .string s51], .int .i64 0])) w'47) ∧ (op ≠ 14 → (op = 16 → ∃ s54, w'5.cell? ⟨b1, 2, none⟩ = some (.string s54) ∧ (∃ u55, w'5.cell? ⟨b4, 0, none⟩ = some u55) ∧ w'5.frozen? ⟨b4, 0, none⟩ = false ∧ (∃ u56, w'5.cell? ⟨b4, 1, none⟩ = some u56) ∧ w'5.frozen? ⟨b4, 1, none⟩ = false ∧ (∃ u57, w'5.cell? ⟨b4, 2, none⟩ = some u57) ∧ w'5.frozen? ⟨b4, 2, none⟩ = false ∧ ∀ w'58, Put w'5 b4 0 [.int .i64 1, .int .i64 (↑s54.size : Int), .string ⟨#[]⟩] w'58 → ∃ n60, w'58.cell? ⟨b4, 0, none⟩ = some (.int .i64 n60) ∧ ∃ n61, w'58.cell? ⟨b4, 1, none⟩ = some (.int .i64 n61) ∧ ∃ s62, w'58.cell? ⟨b4, 2, none⟩ = some (.string s62) ∧ R (.returned (.tuple #[.agg #[.int .i64 n60, .int .i64 n61, .string s62], .int .i64 0])) w'58) ∧ (op ≠ 16 → ∃ n64, w'5.cell? ⟨b1, 0, none⟩ = some (.int .i64 n64) ∧ ∃ n65, w'5.cell? ⟨b1, 1, none⟩ = some (.int .i64 n65) ∧ ∃ s66, w'5.cell? ⟨b1, 2, none⟩ = some (.string s66) ∧ Calls Tryd.prog 63
 #[.int .i64 4, .agg #[.int .i64 1, .int .i64 0, .string ⟨#[]⟩], .agg #[.int .i64 n64, .int .i64 n65, .string s66]]
 w'5 fun e67 w68 ↦
 ∃ n69, ∃ n70, ∃ s71, ∃ n72, e67 = .returned (.tuple #[.agg #[.int .i64 n69, .int .i64 n70, .string s71], .int .i64 n72]) ∧ (∃ u73, w68.cell? ⟨b4, 0, none⟩ = some u73) ∧ w68.frozen? ⟨b4, 0, none⟩ = false ∧ (∃ u74, w68.cell? ⟨b4, 1, none⟩ = some u74) ∧ w68.frozen? ⟨b4, 1, none⟩ = false ∧ (∃ u75, w68.cell? ⟨b4, 2, none⟩ = some u75) ∧ w68.frozen? ⟨b4, 2, none⟩ = false ∧ ∀ w'76, Put w68 b4 0 [.int .i64 n69, .int .i64 n70, .string s71] w'76 → ∃ n78, w'76.cell? ⟨b4, 0, none⟩ = some (.int .i64 n78) ∧ ∃ n79, w'76.cell? ⟨b4, 1, none⟩ = some (.int .i64 n79) ∧ ∃ s80, w'76.cell? ⟨b4, 2, none⟩ = some (.string s80) ∧ R (.returned (.tuple #[.agg #[.int .i64 n78, .int .i64 n79, .string s80], .int .i64 n72])) w'76))))

set_option maxRecDepth 100000 in
theorem xsingle_eq (op : Int) (v0 : Int) (v1 : Int) (v2 : ByteArray) (w : World) (R : Ending → World → Prop) : xsingle_T op v0 v1 v2 w R = vcFn Tryd.prog [] [] Tryd.f62 [.int .i64 op, .agg #[.int .i64 v0, .int .i64 v1, .string v2]] w R := by kernel_rfl

set_option maxRecDepth 100000 in
theorem xsingle_vc (op : Int) (v0 : Int) (v1 : Int) (v2 : ByteArray) (w : World) (R : Ending → World → Prop) (hvc : xsingle_T op v0 v1 v2 w R) : Calls Tryd.prog 62 #[.int .i64 op, .agg #[.int .i64 v0, .int .i64 v1, .string v2]] w R :=
  calls_of_vc (args := [.int .i64 op, .agg #[.int .i64 v0, .int .i64 v1, .string v2]]) [] [] Tryd.mixed Tryd.func62 (cast (xsingle_eq _ _ _ _ w R) hvc)

set_option maxRecDepth 100000 in
def xeval_T (cols_p : Option Addr) (cols_n : Nat) (cols_c : Nat) (row_p : Option Addr) (row_n : Nat) (row_c : Nat) (x0 : Int) (x1 : ByteArray) (x2 : Int) (x3 : Int) (x4 : ByteArray) (x5_p : Option Addr) (x5_n : Nat) (x5_c : Nat) (w : World) (R : Ending → World → Prop) : Prop :=
  ∀ b1 w'2, New w (Obj.cells #[.int .i64 x0, .string x1, .int .i64 x2, .int .i64 x3, .string x4, .slice x5_p x5_n x5_c] 29) b1
 w'2 → ∀ b4 w'5, New w'2 (Obj.cells #[.int .i64 0, .int .i64 0, .string ⟨#[]⟩] 26) b4 w'5 → ∀ b7 w'8, New w'5
 (Obj.cells
 #[.int .i64 0, .int .i64 0, .string ⟨#[]⟩, .int .i64 0, .int .i64 0, .string ⟨#[]⟩]
 95)
 b7 w'8 → ∃ p10 n11 c12, w'8.cell? ⟨b1, 5, none⟩ = some (.slice p10 n11 c12) ∧ ∃ (I13 : Int → World → Prop), ∃ (M14 : Int → World → Nat), I13 0 w'8 ∧ ∀ (n15 : Int) (w'16 : World), I13 n15 w'16 → (n15 < (↑n11 : Int) → ∃ b19, ∃ o20, p10 = some ⟨b19, o20, none⟩ ∧ 0 ≤ n15 ∧ n15 < (↑n11 : Int) ∧ ∃ n21, w'16.cell? ⟨b19, (o20 + n15.toNat * 6), none⟩ = some (.int .i64 n21) ∧ ∃ s22, w'16.cell? ⟨b19, (o20 + n15.toNat * 6 + 1), none⟩ = some (.string s22) ∧ ∃ n23, w'16.cell? ⟨b19, (o20 + n15.toNat * 6 + 2), none⟩ = some (.int .i64 n23) ∧ ∃ n24, w'16.cell? ⟨b19, (o20 + n15.toNat * 6 + 3), none⟩ = some (.int .i64 n24) ∧ ∃ s25, w'16.cell? ⟨b19, (o20 + n15.toNat * 6 + 4), none⟩ = some (.string s25) ∧ ∃ p26 n27 c28, w'16.cell? ⟨b19, (o20 + n15.toNat * 6 + 5), none⟩ = some (.slice p26 n27 c28) ∧ ∀ b29 w'30, New w'16
 (Obj.cells
 #[.int .i64 0, .string ⟨#[]⟩, .int .i64 0, .int .i64 0, .string ⟨#[]⟩, .slice none 0 0] 29)
 b29 w'30 → (∃ u32, w'30.cell? ⟨b29, 0, none⟩ = some u32) ∧ w'30.frozen? ⟨b29, 0, none⟩ = false ∧ (∃ u33, w'30.cell? ⟨b29, 1, none⟩ = some u33) ∧ w'30.frozen? ⟨b29, 1, none⟩ = false ∧ (∃ u34, w'30.cell? ⟨b29, 2, none⟩ = some u34) ∧ w'30.frozen? ⟨b29, 2, none⟩ = false ∧ (∃ u35, w'30.cell? ⟨b29, 3, none⟩ = some u35) ∧ w'30.frozen? ⟨b29, 3, none⟩ = false ∧ (∃ u36, w'30.cell? ⟨b29, 4, none⟩ = some u36) ∧ w'30.frozen? ⟨b29, 4, none⟩ = false ∧ (∃ u37, w'30.cell? ⟨b29, 5, none⟩ = some u37) ∧ w'30.frozen? ⟨b29, 5, none⟩ = false ∧ ∀ w'38, Put w'30 b29 0 [.int .i64 n21, .string s22, .int .i64 n23, .int .i64 n24, .string s25, .slice p26 n27 c28] w'38 → ∃ n40, w'38.cell? ⟨b29, 0, none⟩ = some (.int .i64 n40) ∧ ∃ s41, w'38.cell? ⟨b29, 1, none⟩ = some (.string s41) ∧ ∃ n42, w'38.cell? ⟨b29, 2, none⟩ = some (.int .i64 n42) ∧ ∃ n43, w'38.cell? ⟨b29, 3, none⟩ = some (.int .i64 n43) ∧ ∃ s44, w'38.cell? ⟨b29, 4, none⟩ = some (.string s44) ∧ ∃ p45 n46 c47, w'38.cell? ⟨b29, 5, none⟩ = some (.slice p45 n46 c47) ∧ Calls Tryd.prog 39
 #[.slice cols_p cols_n cols_c, .slice row_p row_n row_c, .agg #[.int .i64 n40, .string s41, .int .i64 n42, .int .i64 n43, .string s44, .slice p45 n46 c47]]
 w'38 fun e48 w49 ↦
 ∃ n50, ∃ n51, ∃ s52, ∃ n53, e48 = .returned (.tuple #[.agg #[.int .i64 n50, .int .i64 n51, .string s52], .int .i64 n53]) ∧ ∀ b54 w'55, New w49 (Obj.cells #[.int .i64 0, .int .i64 0, .string ⟨#[]⟩] 26) b54 w'55 → (∃ u57, w'55.cell? ⟨b54, 0, none⟩ = some u57) ∧ w'55.frozen? ⟨b54, 0, none⟩ = false ∧ (∃ u58, w'55.cell? ⟨b54, 1, none⟩ = some u58) ∧ w'55.frozen? ⟨b54, 1, none⟩ = false ∧ (∃ u59, w'55.cell? ⟨b54, 2, none⟩ = some u59) ∧ w'55.frozen? ⟨b54, 2, none⟩ = false ∧ ∀ w'60, Put w'55 b54 0 [.int .i64 n50, .int .i64 n51, .string s52] w'60 → (n53 ≠ 0 → (∃ u63, w'60.cell? ⟨b4, 0, none⟩ = some u63) ∧ w'60.frozen? ⟨b4, 0, none⟩ = false ∧ (∃ u64, w'60.cell? ⟨b4, 1, none⟩ = some u64) ∧ w'60.frozen? ⟨b4, 1, none⟩ = false ∧ (∃ u65, w'60.cell? ⟨b4, 2, none⟩ = some u65) ∧ w'60.frozen? ⟨b4, 2, none⟩ = false ∧ ∀ w'66, Put w'60 b4 0 [.int .i64 0, .int .i64 0, .string ⟨#[]⟩] w'66 → ∃ n68, w'66.cell? ⟨b4, 0, none⟩ = some (.int .i64 n68) ∧ ∃ n69, w'66.cell? ⟨b4, 1, none⟩ = some (.int .i64 n69) ∧ ∃ s70, w'66.cell? ⟨b4, 2, none⟩ = some (.string s70) ∧ R (.returned (.tuple #[.agg #[.int .i64 n68, .int .i64 n69, .string s70], .int .i64 n53])) w'66) ∧ (n53 = 0 → ∃ n72, w'60.cell? ⟨b54, 0, none⟩ = some (.int .i64 n72) ∧ ∃ n73, w'60.cell? ⟨b54, 1, none⟩ = some (.int .i64 n73) ∧ ∃ s74, w'60.cell? ⟨b54, 2, none⟩ = some (.string s74) ∧ 0 ≤ n15 ∧ n15 < 2 ∧ (∃ u75, w'60.cell? ⟨b7, (0 + n15.toNat * 3), none⟩ = some u75) ∧ w'60.frozen? ⟨b7, (0 + n15.toNat * 3), none⟩ = false ∧ (∃ u76, w'60.cell? ⟨b7, (0 + n15.toNat * 3 + 1), none⟩ = some u76) ∧ w'60.frozen? ⟨b7, (0 + n15.toNat * 3 + 1), none⟩ = false ∧ (∃ u77, w'60.cell? ⟨b7, (0 + n15.toNat * 3 + 2), none⟩ = some u77) ∧ w'60.frozen? ⟨b7, (0 + n15.toNat * 3 + 2), none⟩ = false ∧ ∀ w'78, Put w'60 b7 (0 + n15.toNat * 3) [.int .i64 n72, .int .i64 n73, .string s74] w'78 → I13 (IntKind.i64.wrap (n15 + 1)) w'78 ∧ M14 (IntKind.i64.wrap (n15 + 1)) w'78 < M14 n15 w'16)) ∧ ((↑n11 : Int) ≤ n15 → ∃ n81, w'16.cell? ⟨b1, 0, none⟩ = some (.int .i64 n81) ∧ (n81 = 1 → ∃ s83, w'16.cell? ⟨b1, 1, none⟩ = some (.string s83) ∧ Calls Tryd.prog 43 #[.slice cols_p cols_n cols_c, .string s83] w'16 fun e84 w85 ↦
 ∃ n86, e84 = .returned (.int .i64 n86) ∧ ∃ b87, ∃ o88, row_p = some ⟨b87, o88, none⟩ ∧ 0 ≤ n86 ∧ n86 < (↑row_n : Int) ∧ ∃ n89, w85.cell? ⟨b87, (o88 + n86.toNat * 3), none⟩ = some (.int .i64 n89) ∧ ∃ n90, w85.cell? ⟨b87, (o88 + n86.toNat * 3 + 1), none⟩ = some (.int .i64 n90) ∧ ∃ s91, w85.cell? ⟨b87, (o88 + n86.toNat * 3 + 2), none⟩ = some (.string s91) ∧ (∃ u92, w85.cell? ⟨b4, 0, none⟩ = some u92) ∧ w85.frozen? ⟨b4, 0, none⟩ = false ∧ (∃ u93, w85.cell? ⟨b4, 1, none⟩ = some u93) ∧ w85.frozen? ⟨b4, 1, none⟩ = false ∧ (∃ u94, w85.cell? ⟨b4, 2, none⟩ = some u94) ∧ w85.frozen? ⟨b4, 2, none⟩ = false ∧ ∀ w'95, Put w85 b4 0 [.int .i64 n89, .int .i64 n90, .string s91] w'95 → ∃ n97, w'95.cell? ⟨b4, 0, none⟩ = some (.int .i64 n97) ∧ ∃ n98, w'95.cell? ⟨b4, 1, none⟩ = some (.int .i64 n98) ∧ ∃ s99, w'95.cell? ⟨b4, 2, none⟩ = some (.string s99) ∧ R (.returned (.tuple #[.agg #[.int .i64 n97, .int .i64 n98, .string s99], .int .i64 0])) w'95) ∧ (n81 ≠ 1 → ∃ n101, w'16.cell? ⟨b1, 0, none⟩ = some (.int .i64 n101) ∧ (n101 = 2 → ∃ n103, w'16.cell? ⟨b1, 2, none⟩ = some (.int .i64 n103) ∧ ∃ n104, w'16.cell? ⟨b1, 3, none⟩ = some (.int .i64 n104) ∧ ∃ s105, w'16.cell? ⟨b1, 4, none⟩ = some (.string s105) ∧ (∃ u106, w'16.cell? ⟨b4, 0, none⟩ = some u106) ∧ w'16.frozen? ⟨b4, 0, none⟩ = false ∧ (∃ u107, w'16.cell? ⟨b4, 1, none⟩ = some u107) ∧ w'16.frozen? ⟨b4, 1, none⟩ = false ∧ (∃ u108, w'16.cell? ⟨b4, 2, none⟩ = some u108) ∧ w'16.frozen? ⟨b4, 2, none⟩ = false ∧ ∀ w'109, Put w'16 b4 0 [.int .i64 n103, .int .i64 n104, .string s105] w'109 → ∃ n111, w'109.cell? ⟨b4, 0, none⟩ = some (.int .i64 n111) ∧ ∃ n112, w'109.cell? ⟨b4, 1, none⟩ = some (.int .i64 n112) ∧ ∃ s113, w'109.cell? ⟨b4, 2, none⟩ = some (.string s113) ∧ R (.returned (.tuple #[.agg #[.int .i64 n111, .int .i64 n112, .string s113], .int .i64 0])) w'109) ∧ (n101 ≠ 2 → ∃ p115 n116 c117, w'16.cell? ⟨b1, 5, none⟩ = some (.slice p115 n116 c117) ∧ ((↑n116 : Int) = 1 → ∃ n119, w'16.cell? ⟨b1, 0, none⟩ = some (.int .i64 n119) ∧ (0 : Int) ≤ 0 ∧ (0 : Int) < 2 ∧ ∃ n120, w'16.cell? ⟨b7, 0, none⟩ = some (.int .i64 n120) ∧ ∃ n121, w'16.cell? ⟨b7, 1, none⟩ = some (.int .i64 n121) ∧ ∃ s122, w'16.cell? ⟨b7, 2, none⟩ = some (.string s122) ∧ Calls Tryd.prog 62 #[.int .i64 n119, .agg #[.int .i64 n120, .int .i64 n121, .string s122]] w'16
 fun e123 w124 ↦
 ∃ n125, ∃ n126, ∃ s127, ∃ n128, e123 = .returned (.tuple #[.agg #[.int .i64 n125, .int .i64 n126, .string s127], .int .i64 n128]) ∧ (∃ u129, w124.cell? ⟨b4, 0, none⟩ = some u129) ∧ w124.frozen? ⟨b4, 0, none⟩ = false ∧ (∃ u130, w124.cell? ⟨b4, 1, none⟩ = some u130) ∧ w124.frozen? ⟨b4, 1, none⟩ = false ∧ (∃ u131, w124.cell? ⟨b4, 2, none⟩ = some u131) ∧ w124.frozen? ⟨b4, 2, none⟩ = false ∧ ∀ w'132, Put w124 b4 0 [.int .i64 n125, .int .i64 n126, .string s127] w'132 → ∃ n134, w'132.cell? ⟨b4, 0, none⟩ = some (.int .i64 n134) ∧ ∃ n135, w'132.cell? ⟨b4, 1, none⟩ = some (.int .i64 n135) ∧ ∃ s136, w'132.cell? ⟨b4, 2, none⟩ = some (.string s136) ∧ R (.returned (.tuple #[.agg #[.int .i64 n134, .int .i64 n135, .string s136], .int .i64 n128])) w'132) ∧ ((↑n116 : Int) ≠ 1 → ∃ n138, w'16.cell? ⟨b1, 0, none⟩ = some (.int .i64 n138) ∧ (0 : Int) ≤ 0 ∧ (0 : Int) < 2 ∧ ∃ n139, w'16.cell? ⟨b7, 0, none⟩ = some (.int .i64 n139) ∧ ∃ n140, w'16.cell? ⟨b7, 1, none⟩ = some (.int .i64 n140) ∧ ∃ s141, w'16.cell? ⟨b7, 2, none⟩ = some (.string s141) ∧ (0 : Int) ≤ 1 ∧ (1 : Int) < 2 ∧ ∃ n142, w'16.cell? ⟨b7, 3, none⟩ = some (.int .i64 n142) ∧ ∃ n143, w'16.cell? ⟨b7, 4, none⟩ = some (.int .i64 n143) ∧ ∃ s144, w'16.cell? ⟨b7, 5, none⟩ = some (.string s144) ∧ Calls Tryd.prog 63
 #[.int .i64 n138, .agg #[.int .i64 n139, .int .i64 n140, .string s141], .agg #[.int .i64 n142, .int .i64 n143, .string s144]]
 w'16 fun e145 w146 ↦
 ∃ n147, ∃ n148, ∃ s149, ∃ n150, e145 = .returned (.tuple #[.agg #[.int .i64 n147, .int .i64 n148, .string s149], .int .i64 n150]) ∧ (∃ u151, w146.cell? ⟨b4, 0, none⟩ = some u151) ∧ w146.frozen? ⟨b4, 0, none⟩ = false ∧ (∃ u152, w146.cell? ⟨b4, 1, none⟩ = some u152) ∧ w146.frozen? ⟨b4, 1, none⟩ = false ∧ (∃ u153, w146.cell? ⟨b4, 2, none⟩ = some u153) ∧ w146.frozen? ⟨b4, 2, none⟩ = false ∧ ∀ w'154, Put w146 b4 0 [.int .i64 n147, .int .i64 n148, .string s149] w'154 → ∃ n156, w'154.cell? ⟨b4, 0, none⟩ = some (.int .i64 n156) ∧ ∃ n157, w'154.cell? ⟨b4, 1, none⟩ = some (.int .i64 n157) ∧ ∃ s158, w'154.cell? ⟨b4, 2, none⟩ = some (.string s158) ∧ R (.returned (.tuple #[.agg #[.int .i64 n156, .int .i64 n157, .string s158], .int .i64 n150])) w'154))))

set_option maxRecDepth 100000 in
theorem xeval_eq (cols_p : Option Addr) (cols_n : Nat) (cols_c : Nat) (row_p : Option Addr) (row_n : Nat) (row_c : Nat) (x0 : Int) (x1 : ByteArray) (x2 : Int) (x3 : Int) (x4 : ByteArray) (x5_p : Option Addr) (x5_n : Nat) (x5_c : Nat) (w : World) (R : Ending → World → Prop) : xeval_T cols_p cols_n cols_c row_p row_n row_c x0 x1 x2 x3 x4 x5_p x5_n x5_c w R = vcFn Tryd.prog [] [] Tryd.f39 [.slice cols_p cols_n cols_c, .slice row_p row_n row_c, Value.agg
 #[.int .i64 x0, .string x1, .int .i64 x2, .int .i64 x3, .string x4, .slice x5_p x5_n x5_c]] w R := by kernel_rfl

set_option maxRecDepth 100000 in
theorem xeval_vc (cols_p : Option Addr) (cols_n : Nat) (cols_c : Nat) (row_p : Option Addr) (row_n : Nat) (row_c : Nat) (x0 : Int) (x1 : ByteArray) (x2 : Int) (x3 : Int) (x4 : ByteArray) (x5_p : Option Addr) (x5_n : Nat) (x5_c : Nat) (w : World) (R : Ending → World → Prop) (hvc : xeval_T cols_p cols_n cols_c row_p row_n row_c x0 x1 x2 x3 x4 x5_p x5_n x5_c w R) : Calls Tryd.prog 39 #[.slice cols_p cols_n cols_c, .slice row_p row_n row_c, Value.agg
 #[.int .i64 x0, .string x1, .int .i64 x2, .int .i64 x3, .string x4, .slice x5_p x5_n x5_c]] w R :=
  calls_of_vc (args := [.slice cols_p cols_n cols_c, .slice row_p row_n row_c, Value.agg
 #[.int .i64 x0, .string x1, .int .i64 x2, .int .i64 x3, .string x4, .slice x5_p x5_n x5_c]]) [] [] Tryd.mixed Tryd.func39 (cast (xeval_eq _ _ _ _ _ _ _ _ _ _ _ _ _ _ w R) hvc)

set_option maxRecDepth 100000 in
def xEval_T (cols_p : Option Addr) (cols_n : Nat) (cols_c : Nat) (row_p : Option Addr) (row_n : Nat) (row_c : Nat) (x0 : Int) (x1 : ByteArray) (x2 : Int) (x3 : Int) (x4 : ByteArray) (x5_p : Option Addr) (x5_n : Nat) (x5_c : Nat) (w : World) (R : Ending → World → Prop) : Prop :=
  ∀ b1 w'2, New w (Obj.cells #[.int .i64 x0, .string x1, .int .i64 x2, .int .i64 x3, .string x4, .slice x5_p x5_n x5_c] 29) b1
 w'2 → ∀ b4 w'5, New w'2 (Obj.cells #[.int .i64 0, .int .i64 0, .string ⟨#[]⟩] 26) b4 w'5 → ∃ n7, w'5.cell? ⟨b1, 0, none⟩ = some (.int .i64 n7) ∧ ∃ s8, w'5.cell? ⟨b1, 1, none⟩ = some (.string s8) ∧ ∃ n9, w'5.cell? ⟨b1, 2, none⟩ = some (.int .i64 n9) ∧ ∃ n10, w'5.cell? ⟨b1, 3, none⟩ = some (.int .i64 n10) ∧ ∃ s11, w'5.cell? ⟨b1, 4, none⟩ = some (.string s11) ∧ ∃ p12 n13 c14, w'5.cell? ⟨b1, 5, none⟩ = some (.slice p12 n13 c14) ∧ Calls Tryd.prog 18
 #[.slice cols_p cols_n cols_c, .agg #[.int .i64 n7, .string s8, .int .i64 n9, .int .i64 n10, .string s11, .slice p12 n13 c14]]
 w'5 fun e15 w16 ↦
 ∃ n17, ∃ n18, e15 = .returned (.tuple #[.int .i64 n17, .int .i64 n18]) ∧ (n18 ≠ 0 → (∃ u20, w16.cell? ⟨b4, 0, none⟩ = some u20) ∧ w16.frozen? ⟨b4, 0, none⟩ = false ∧ (∃ u21, w16.cell? ⟨b4, 1, none⟩ = some u21) ∧ w16.frozen? ⟨b4, 1, none⟩ = false ∧ (∃ u22, w16.cell? ⟨b4, 2, none⟩ = some u22) ∧ w16.frozen? ⟨b4, 2, none⟩ = false ∧ ∀ w'23, Put w16 b4 0 [.int .i64 0, .int .i64 0, .string ⟨#[]⟩] w'23 → ∃ n25, w'23.cell? ⟨b4, 0, none⟩ = some (.int .i64 n25) ∧ ∃ n26, w'23.cell? ⟨b4, 1, none⟩ = some (.int .i64 n26) ∧ ∃ s27, w'23.cell? ⟨b4, 2, none⟩ = some (.string s27) ∧ R (.returned (.tuple #[.agg #[.int .i64 n25, .int .i64 n26, .string s27], .int .i64 n18])) w'23) ∧ (n18 = 0 → Calls Tryd.prog 30 #[.slice cols_p cols_n cols_c, .slice row_p row_n row_c] w16 fun e29 w30 ↦
 ∃ b31, e29 = .returned (.bool b31) ∧ (b31 = false → (∃ u33, w30.cell? ⟨b4, 0, none⟩ = some u33) ∧ w30.frozen? ⟨b4, 0, none⟩ = false ∧ (∃ u34, w30.cell? ⟨b4, 1, none⟩ = some u34) ∧ w30.frozen? ⟨b4, 1, none⟩ = false ∧ (∃ u35, w30.cell? ⟨b4, 2, none⟩ = some u35) ∧ w30.frozen? ⟨b4, 2, none⟩ = false ∧ ∀ w'36, Put w30 b4 0 [.int .i64 0, .int .i64 0, .string ⟨#[]⟩] w'36 → ∃ n38, w'36.cell? ⟨b4, 0, none⟩ = some (.int .i64 n38) ∧ ∃ n39, w'36.cell? ⟨b4, 1, none⟩ = some (.int .i64 n39) ∧ ∃ s40, w'36.cell? ⟨b4, 2, none⟩ = some (.string s40) ∧ R (.returned (.tuple #[.agg #[.int .i64 n38, .int .i64 n39, .string s40], .int .i64 2])) w'36) ∧ (b31 = true → ∃ n42, w30.cell? ⟨b1, 0, none⟩ = some (.int .i64 n42) ∧ ∃ s43, w30.cell? ⟨b1, 1, none⟩ = some (.string s43) ∧ ∃ n44, w30.cell? ⟨b1, 2, none⟩ = some (.int .i64 n44) ∧ ∃ n45, w30.cell? ⟨b1, 3, none⟩ = some (.int .i64 n45) ∧ ∃ s46, w30.cell? ⟨b1, 4, none⟩ = some (.string s46) ∧ ∃ p47 n48 c49, w30.cell? ⟨b1, 5, none⟩ = some (.slice p47 n48 c49) ∧ Calls Tryd.prog 39
 #[.slice cols_p cols_n cols_c, .slice row_p row_n row_c, .agg #[.int .i64 n42, .string s43, .int .i64 n44, .int .i64 n45, .string s46, .slice p47 n48 c49]]
 w30 fun e50 w51 ↦
 ∃ n52, ∃ n53, ∃ s54, ∃ n55, e50 = .returned (.tuple #[.agg #[.int .i64 n52, .int .i64 n53, .string s54], .int .i64 n55]) ∧ (∃ u56, w51.cell? ⟨b4, 0, none⟩ = some u56) ∧ w51.frozen? ⟨b4, 0, none⟩ = false ∧ (∃ u57, w51.cell? ⟨b4, 1, none⟩ = some u57) ∧ w51.frozen? ⟨b4, 1, none⟩ = false ∧ (∃ u58, w51.cell? ⟨b4, 2, none⟩ = some u58) ∧ w51.frozen? ⟨b4, 2, none⟩ = false ∧ ∀ w'59, Put w51 b4 0 [.int .i64 n52, .int .i64 n53, .string s54] w'59 → ∃ n61, w'59.cell? ⟨b4, 0, none⟩ = some (.int .i64 n61) ∧ ∃ n62, w'59.cell? ⟨b4, 1, none⟩ = some (.int .i64 n62) ∧ ∃ s63, w'59.cell? ⟨b4, 2, none⟩ = some (.string s63) ∧ R (.returned (.tuple #[.agg #[.int .i64 n61, .int .i64 n62, .string s63], .int .i64 n55])) w'59))

set_option maxRecDepth 100000 in
theorem xEval_eq (cols_p : Option Addr) (cols_n : Nat) (cols_c : Nat) (row_p : Option Addr) (row_n : Nat) (row_c : Nat) (x0 : Int) (x1 : ByteArray) (x2 : Int) (x3 : Int) (x4 : ByteArray) (x5_p : Option Addr) (x5_n : Nat) (x5_c : Nat) (w : World) (R : Ending → World → Prop) : xEval_T cols_p cols_n cols_c row_p row_n row_c x0 x1 x2 x3 x4 x5_p x5_n x5_c w R = vcFn Tryd.prog [] [] Tryd.f19 [.slice cols_p cols_n cols_c, .slice row_p row_n row_c, Value.agg
 #[.int .i64 x0, .string x1, .int .i64 x2, .int .i64 x3, .string x4, .slice x5_p x5_n x5_c]] w R := by kernel_rfl

set_option maxRecDepth 100000 in
theorem xEval_vc (cols_p : Option Addr) (cols_n : Nat) (cols_c : Nat) (row_p : Option Addr) (row_n : Nat) (row_c : Nat) (x0 : Int) (x1 : ByteArray) (x2 : Int) (x3 : Int) (x4 : ByteArray) (x5_p : Option Addr) (x5_n : Nat) (x5_c : Nat) (w : World) (R : Ending → World → Prop) (hvc : xEval_T cols_p cols_n cols_c row_p row_n row_c x0 x1 x2 x3 x4 x5_p x5_n x5_c w R) : Calls Tryd.prog 19 #[.slice cols_p cols_n cols_c, .slice row_p row_n row_c, Value.agg
 #[.int .i64 x0, .string x1, .int .i64 x2, .int .i64 x3, .string x4, .slice x5_p x5_n x5_c]] w R :=
  calls_of_vc (args := [.slice cols_p cols_n cols_c, .slice row_p row_n row_c, Value.agg
 #[.int .i64 x0, .string x1, .int .i64 x2, .int .i64 x3, .string x4, .slice x5_p x5_n x5_c]]) [] [] Tryd.mixed Tryd.func19 (cast (xEval_eq _ _ _ _ _ _ _ _ _ _ _ _ _ _ w R) hvc)


end Go.Proofs.YtaccokhdmhomhaaDoor

/- The contracts of package expr: the walk over an expression's nodes. -/
namespace Go.Proofs.YtaccokhdmhomhaaDoor
open Go Go.Vc Go.RowKit
set_option maxRecDepth 20000

/-- What a caller of the walk promises: each node may be handed to it, whatever else is held. -/
def Rounds (L : List (Nat × Ex)) (l0 : Nat) (wc : World) (Q : Nat → List (Nat × Obj) → Prop) (S : List (Nat × Obj) → Prop) : Prop :=
  ∀ (k : Nat) (p : Nat × Ex) (ncs : List Value) (gs fs : List (Nat × Obj)) (W : World) (R : Bool → World → Prop), L[k]? = some p → ExAt wc p.2 ncs → Q k fs → Hold wc W (fs ++ gs) [] →
    (∀ fs' W', Q (k + 1) fs' → Hold wc W' (fs' ++ gs) [] → R true W') → (∀ fs' W', S fs' → Hold wc W' (fs' ++ gs) [] → R false W') → Yield Tryd.prog l0 #[.int .i64 (p.1 : Int), .agg ncs.toArray] W R

theorem nodes_ok (x : Ex) {cs : List Value} {w w0 : World} (h : ExAt w0 x cs) (d : Int) : Calls Tryd.prog 59 #[.agg cs.toArray, .int .i64 d] w fun e w' => ∃ b1 b4, e = .returned (.func (.func 78) #[] #[.pointer (some ⟨b4, 0, none⟩), .pointer (some ⟨b1, 0, none⟩)]) ∧
    ∀ fs ms w0, Hold w0 w fs ms → Hold w0 w' ((b4, .cells #[.int .i64 d] 3) :: (b1, .cells cs.toArray 29) :: fs) ms := by
  obtain ⟨p, n, c, rfl, _⟩ := h.six
  apply nodes_vc
  unfold nodes_T
  intro b1 w2 h1 b4 w5 h4
  exact ⟨b1, b4, rfl, fun fs ms w0 h => (h.new h1).new h4⟩

theorem perm3 {α : Type} (a b c : List α) : (a ++ (b ++ c)).Perm (b ++ (a ++ c)) := by
  rw [← List.append_assoc, ← List.append_assoc]
  exact List.perm_append_comm.append_right c
set_option maxHeartbeats 4000000 in
theorem nodes1_ok : ∀ (N : Nat) (x : Ex) (d l0 fv0 fv1 : Nat) (wc : World) (cs : List Value) (Q : Nat → List (Nat × Obj) → Prop) (S : List (Nat × Obj) → Prop) (gs fs : List (Nat × Obj)) (w : World) (M : Nat), depthT x ≤ N → d ≤ 41 → ExAt wc x cs →
    (∀ k fs, Q k fs → (∀ y ∈ fs, y.1 < M) ∧ (fv0, .cells #[.int .i64 (d : Int)] 3 (0, 0)) ∈ fs ∧ (fv1, .cells cs.toArray 29 (0, 0)) ∈ fs) → (∀ fs, S fs → ∀ y ∈ fs, y.1 < M) → M ≤ w.heap.size →
    Rounds (walkT x d) l0 wc Q S → Q 0 fs → Hold wc w (fs ++ gs) [] →
    Calls Tryd.prog 78 #[.func (.yield l0) #[] #[], .pointer (some ⟨fv0, 0, none⟩), .pointer (some ⟨fv1, 0, none⟩)] w fun e W' => e = .returned (.tuple #[]) ∧ ((∃ fs', Q (walkT x d).length fs' ∧ Hold wc W' (fs' ++ gs) []) ∨ ∃ fs', S fs' ∧ Hold wc W' (fs' ++ gs) []) := by
  intro N
  induction N with
  | zero => intro x d l0 fv0 fv1 wc cs Q S gs fs w M hd; cases x; unfold depthT at hd; omega
  | succ N ih =>
  intro x d l0 fv0 fv1 wc cs Q S gs fs w M hdep hd hx hQ hS hM hR q0 hH
  obtain ⟨p, n, c, rfl, hkl, hn, hkid⟩ := hx.six
  apply nodes1_vc
  unfold nodes1_T
  intro b1 w2 h1
  have hb1 : b1 = w.heap.size := h1.1
  have H2 := hH.new h1
  have gsM : ∀ y ∈ gs, y.1 < w.heap.size := fun y hy => hH.ltM (List.mem_append_right _ hy)
  obtain ⟨_, m0, m1⟩ := hQ 0 fs q0
  have B0 := H2.blkM (List.mem_cons_of_mem _ (List.mem_append_left gs m0))
  have B1 := H2.blkM (List.mem_cons_of_mem _ (List.mem_append_left gs m1))
  obtain ⟨c0, c1, c2, c3, c4, c5⟩ := B1.c6
  have hhead : (walkT x d)[0]? = some (d, x) := by cases x; rfl
  refine ⟨_, (H2.blk 0 rfl).one, _, B0.one, _, c0, _, c1, _, c2, _, c3, _, c4, _, _, _, c5, l0, rfl, ?_⟩
  refine hR 0 (d, x) _ ((b1, .cells #[.func (.yield l0) #[] #[]] 110 (0, 0)) :: gs) fs w2 _ hhead hx q0 (Hold.swap (a := [_]) H2) (fun fs' W' q H => ⟨fun h => (by cases h), fun _ => ?_⟩)
    (fun fs' W' s H => ⟨fun _ => ⟨rfl, .inr ⟨fs', s, H.sub ((List.Sublist.refl fs').append (List.sublist_cons_self _ _))⟩⟩, fun h => (by cases h)⟩)
  obtain ⟨_, m0, m1⟩ := hQ 1 fs' q
  have B0 := H.blkM (List.mem_append_left _ m0)
  have B1 := H.blkM (List.mem_append_left _ m1)
  obtain ⟨_, _, _, _, _, c5⟩ := B1.c6
  refine ⟨_, B0.one, fun hgt => ⟨rfl, .inl ⟨fs', ?_, H.sub ((List.Sublist.refl fs').append (List.sublist_cons_self _ _))⟩⟩, fun hle => ?_⟩
  · have : (walkT x d).length = 1 := by cases x; unfold walkT; rw [if_pos (by omega)]; rfl
    rw [this]; exact q
  have hL : walkT x d = (d, x) :: walkTs x.kids (d + 1) := by cases x; unfold walkT; rw [if_neg (by omega)]; rfl
  let Y : Nat × Obj := (b1, .cells #[.func (.yield l0) #[] #[]] 110 (0, 0))
  let off : Nat → Nat := fun j => 1 + (walkTs (x.kids.take j) (d + 1)).length
  have H' : Hold wc W' (Y :: (fs' ++ gs)) [] := H.perm List.perm_middle
  refine ⟨_, _, _, c5, fun i W => ∃ (j : Nat) (fs : List (Nat × Obj)), i = (j : Int) ∧ j ≤ n ∧ Q (off j) fs ∧ Hold wc W (Y :: (fs ++ gs)) [], fun i _ => n - i.toNat, w.heap.size, ⟨0, fs', rfl, Nat.zero_le _, by simpa [off, walkTs] using q, H'⟩, ⟨by simp, by simp⟩, ?_⟩
  clear H' H B0 B1 c5 q m0 m1 c0 c1 c2 c3 c4 hhead
  rintro i W ⟨j, fs, rfl, hj, q, H⟩ ds ho
  have hwc : wc.heap.size ≤ w.heap.size := hH.size
  have low : ∀ k fs, Q k fs → ∀ y ∈ fs ++ gs, y.1 < w.heap.size := fun k fs q y hy => by
    rcases List.mem_append.1 hy with hy | hy
    · have := (hQ k fs q).1 y hy; omega
    · exact gsM y hy
  have lowS : ∀ fs, S fs → ∀ y ∈ fs ++ gs, y.1 < w.heap.size := fun fs s y hy => by
    rcases List.mem_append.1 hy with hy | hy
    · have := hS fs s y hy; omega
    · exact gsM y hy
  refine ⟨fun hlt => ?_, fun hge => ?_⟩
  · have g : x.kids[j]? = some (x.kids[j]'(by omega)) := List.getElem?_eq_getElem _
    generalize x.kids[j]'(by omega) = k at g
    obtain ⟨kc, b, o, hk, hp, hc⟩ := hkid H.ext g
    obtain ⟨kp, kn, kcap, hkc, _⟩ := hk.six
    simp only [Int.toNat_natCast]
    have e0 := hc 0 _ (by rw [hkc]; rfl)
    have e1 := hc 1 _ (by rw [hkc]; rfl)
    have e2 := hc 2 _ (by rw [hkc]; rfl)
    have e3 := hc 3 _ (by rw [hkc]; rfl)
    have e4 := hc 4 _ (by rw [hkc]; rfl)
    have e5 := hc 5 _ (by rw [hkc]; rfl)
    have Ho : Hold wc W (dfs ds ++ (Y :: (fs ++ gs))) [] := H.addOpen ho hwc fun y hy => by
      rcases List.mem_cons.1 hy with rfl | hy
      · exact .inr (by simp [Y])
      · exact .inl (low _ _ q y hy)
    have Ho : Hold wc W (Y :: (fs ++ (dfs ds ++ gs))) [] := by
      refine Ho.perm ?_
      refine List.perm_middle.trans (List.Perm.cons _ ?_)
      rw [← List.append_assoc, ← List.append_assoc]
      exact List.perm_append_comm.append_right gs
    refine ⟨b, o, hp, by omega, by omega, _, e0, _, e1, _, e2, _, e3, _, e4, _, _, _, e5, fun b43 w44 h43 => ?_⟩
    have H44 := Ho.new h43
    refine (H44.blk 0 rfl).w6 fun w52 h52 => ?_
    have H52 := H44.put 0 rfl h52
    have Bk : Blk w52 b43 29 #[.int .i64 k.op, .string k.name, .int .i64 k.v.k, .int .i64 k.v.n, .string k.v.s, .slice kp kn kcap] := H52.blk 0 rfl
    obtain ⟨a0, a1, a2, a3, a4, a5⟩ := Bk.c6
    obtain ⟨_, m0, m1⟩ := hQ _ fs q
    have Bd := H52.blkM (List.mem_cons_of_mem _ (List.mem_cons_of_mem _ (List.mem_append_left (dfs ds ++ gs) m0)))
    refine ⟨_, a0, _, a1, _, a2, _, a3, _, a4, _, _, _, a5, _, Bd.one, ?_⟩
    rw [i64_next (by omega)]
    subst hkc
    refine (nodes_ok k hk ((d + 1 : Nat) : Int)).mono ?_
    rintro e w64 ⟨bx, bd, rfl, hH64⟩
    have H64 := hH64 _ _ _ H52
    refine ⟨_, rfl, _, _, rfl, by kernel_rfl, fun r d70 l71 w171 hB hY => ?_⟩
    have HB := H64.began hB
    have hd70 : w.heap.size ≤ d70 := by
      have h3 : b1 < w64.heap.size := H64.lt 3 rfl
      have := hB.sizes.1
      omega
    let own : Nat → List (Nat × Obj) := fun q => [(l71, .loop (r q)), (d70, .deferred (some [])), (bd, .cells #[.int .i64 ((d + 1 : Nat) : Int)] 3 (0, 0)),
      (bx, .cells #[.int .i64 k.op, .string k.name, .int .i64 k.v.k, .int .i64 k.v.n, .string k.v.s, .slice kp kn kcap] 29 (0, 0)),
      (b43, .cells #[.int .i64 k.op, .string k.name, .int .i64 k.v.k, .int .i64 k.v.n, .string k.v.s, .slice kp kn kcap] 29 (0, 0)), Y]
    have HB : Hold wc w171 ((own 0 ++ fs) ++ (dfs ds ++ gs)) [] := HB
    have ownM : ∀ q, ∀ y ∈ own q, y.1 < w171.heap.size := by
      intro q y hy
      have : ∀ y ∈ own 0, y.1 < w171.heap.size := fun y hy => HB.ltM (List.mem_append_left _ (List.mem_append_left _ hy))
      simp only [own, List.mem_cons, List.not_mem_nil, or_false] at hy this
      rcases hy with rfl | hy
      · exact this (l71, .loop (r 0)) (.inl rfl)
      · exact this y (.inr hy)
    have hMw : M ≤ w171.heap.size := by
      have := HB.ltM (x := Y) (by simp [own])
      have : b1 < w171.heap.size := this
      omega
    refine (ih k (d + 1) l71 bd bx wc _ (fun k' fs2 => ∃ fs, Q (off j + k') fs ∧ fs2 = own 0 ++ fs) (fun fs2 => ∃ fs, S fs ∧ fs2 = own 3 ++ fs) (dfs ds ++ gs) _ w171 w171.heap.size ?_ (by omega) hk ?_ ?_ (Nat.le_refl _) ?_ ⟨fs, q, rfl⟩ HB).mono ?_
    · have := depthTs_get g
      cases x
      unfold depthT at hdep
      simp only [Ex.kids] at this
      omega
    · rintro k' fs2 ⟨fs3, q3, rfl⟩
      refine ⟨fun y hy => ?_, by simp [own], by simp [own]⟩
      rcases List.mem_append.1 hy with hy | hy
      · exact ownM 0 y hy
      · have := (hQ _ _ q3).1 y hy; omega
    · rintro fs2 ⟨fs3, s3, rfl⟩ y hy
      rcases List.mem_append.1 hy with hy | hy
      · exact ownM 3 y hy
      · have := hS _ s3 y hy; omega
    · rintro k' pn ncs gs2 fs2 W2 R2 hLk hE ⟨fs3, q3, rfl⟩ H2 yes no
      obtain ⟨np, nn, ncap, rfl, _⟩ := hE.six
      refine hY _ _ _ _ _ _ _ _ _ W2 R2 (H2.loop 0 rfl) fun b85 w86 h86 => ?_
      have H86 := H2.new h86
      refine (H86.blk 0 rfl).w6 fun w94 h94 => ?_
      have H94 := H86.put 0 rfl h94
      refine ⟨H94.loop 1 rfl, ?_⟩
      rintro Wb rfl
      have H96 := H94.turn 1 1 rfl
      let nb : Nat × Obj := (b85, .cells #[.int .i64 pn.2.op, .string pn.2.name, .int .i64 pn.2.v.k, .int .i64 pn.2.v.n, .string pn.2.v.s, .slice np nn ncap] 29 (0, 0))
      have H96 : Hold wc (turn r l71 1 w94) (([nb] ++ own 1 ++ fs3) ++ gs2) [] := H96
      have Bn : Blk (turn r l71 1 w94) b85 29 #[.int .i64 pn.2.op, .string pn.2.name, .int .i64 pn.2.v.k, .int .i64 pn.2.v.n, .string pn.2.v.s, .slice np nn ncap] := H96.blk 0 rfl
      obtain ⟨a0, a1, a2, a3, a4, a5⟩ := Bn.c6
      refine ⟨_, (H96.blk 6 rfl).one, _, a0, _, a1, _, a2, _, a3, _, a4, _, _, _, a5, l0, rfl, ?_⟩
      have hLk' : (walkT x d)[off j + k']? = some pn := by
        rw [hL, show off j + k' = ((walkTs (x.kids.take j) (d + 1)).length + k') + 1 by simp only [off]; omega, List.getElem?_cons_succ]
        exact walkTs_at g hLk
      refine hR (off j + k') pn _ (([nb] ++ own 1) ++ gs2) fs3 _ _ hLk' hE q3 H96.swap (fun fs' W' q' H' => ⟨fun h => (by cases h), fun _ => ?_⟩) (fun fs' W' s' H' => ⟨fun _ => ?_, fun h => (by cases h)⟩)
      · have H' : Hold wc W' (([nb] ++ own 1) ++ (fs' ++ gs2)) [] := by
          rw [← List.append_assoc] at H'
          exact H'.swap
        refine ⟨H'.loop 1 rfl, yes _ _ ⟨fs', q', rfl⟩ ?_⟩
        exact (H'.turn 1 0 rfl).tail
      · have H' : Hold wc W' (([nb] ++ own 1) ++ (fs' ++ gs2)) [] := by
          rw [← List.append_assoc] at H'
          exact H'.swap
        refine ⟨H'.loop 1 rfl, no _ _ ⟨fs', s', rfl⟩ ?_⟩
        exact (H'.turn 1 3 rfl).tail
    · rintro e W3 ⟨rfl, hI | hS3⟩
      · obtain ⟨_, ⟨fs3, q3, rfl⟩, H3⟩ := hI
        refine ⟨⟨_, rfl⟩, .inl ⟨H3.loop 0 rfl, ?_⟩⟩
        have H4 := H3.turn 0 2 rfl
        have H4 : Hold wc (turn r l71 2 W3) ((own 2 ++ fs3) ++ (dfs ds ++ gs)) [] := H4
        have hop : Vc.Open w.heap.size (d70 :: ds) (turn r l71 2 W3) := by
          refine Hold.opened (w0 := wc) (fs := ((l71, Obj.loop (r 2)) :: ((own 2).drop 2 ++ fs3)) ++ gs) ?_ fun y hy => ?_
          · exact H4.perm ((List.Perm.swap _ _ _).trans (List.Perm.cons _ (perm3 ((l71, Obj.loop (r 2)) :: ((own 2).drop 2 ++ fs3)) (dfs ds) gs)))
          · rcases List.mem_cons.1 hy with rfl | hy
            · exact hd70
            · exact (ho.2 y hy).1
        refine ⟨hop, ⟨j + 1, fs3, by rw [i64_next (by omega)], by omega, ?_, ?_⟩, ?_⟩
        · have : off (j + 1) = off j + (walkT k (d + 1)).length := by
            simp only [off]; rw [walkTs_take _ g, List.length_append]; omega
          rw [this]; exact q3
        · exact H4.tail.tail.tail.tail.tail.sub (((List.Sublist.refl fs3).append (List.sublist_append_right _ _)).cons_cons Y)
        · rw [i64_next (by omega)]; simp only [Int.toNat_natCast]; omega
      · obtain ⟨_, ⟨fs3, s3, rfl⟩, H3⟩ := hS3
        refine ⟨⟨_, rfl⟩, .inr (.inl ⟨H3.loop 0 rfl, ?_⟩)⟩
        have H4 := H3.turn 0 4 rfl
        have H5 := H4.shut 1 rfl
        have H5 : Hold wc _ (((l71, .loop (r 4)) :: (d70, .deferred none) :: ((own 3).drop 2 ++ fs3)) ++ (dfs ds ++ gs)) [] := H5
        refine ⟨H4.dfr 1 rfl, unD_hold (w0 := wc) (fs := fs3 ++ gs) hwc (lowS _ s3) (fun W' H' => ⟨by trivial, .inr ⟨fs3, s3, H'⟩⟩) ds _ (Hold.opened (w0 := wc) (H5.perm (perm3 _ _ _)) fun y hy => (ho.2 y hy).1) ?_⟩
        exact H5.tail.tail.tail.tail.tail.tail.sub ((List.Sublist.refl fs3).append (List.sublist_append_right _ _))
  · have hjn : j = n := by omega
    refine unD_hold (w0 := wc) (fs := fs ++ gs) hwc (low _ _ q) (fun W' H' => ⟨rfl, .inl ⟨fs, ?_, H'⟩⟩) ds W ho H.tail
    have : (walkT x d).length = off j := by
      rw [hL, hjn, ← hkl]; simp [off]; omega
    rw [this]; exact q
end Go.Proofs.YtaccokhdmhomhaaDoor

/- The contracts of package expr: which expressions are well formed. -/
namespace Go.Proofs.YtaccokhdmhomhaaDoor
open Go Go.Vc Go.RowKit
set_option maxRecDepth 20000

/-- The table of shapes lies in memory. -/
def Tab (w : World) : Prop := CellsAt w 0 0 shapesA
theorem Tab.ext {w w' : World} (h : Tab w) (e : Ext w w') : Tab w' := fun k v hk => cell_ext (h k v hk) e
theorem Tab.at {w : World} (h : Tab w) {op : Int} (h1 : 0 ≤ op) (h2 : op < 17) : w.cell? ⟨0, 0 + op.toNat * 3, none⟩ = some (.int .i64 (manyOf op)) ∧ w.cell? ⟨0, 0 + op.toNat * 3 + 1, none⟩ = some (.int .i64 (wantOf op)) ∧
    w.cell? ⟨0, 0 + op.toNat * 3 + 2, none⟩ = some (.int .i64 (kindOf op)) := by
  obtain ⟨i, rfl⟩ := Int.eq_ofNat_of_zero_le h1
  obtain ⟨a, b, c⟩ := shapes_at (i := i) (by omega)
  rw [Int.toNat_natCast]
  exact ⟨h _ _ a, by rw [Nat.add_assoc]; exact h _ _ b, by rw [Nat.add_assoc]; exact h _ _ c⟩

set_option maxHeartbeats 4000000 in
theorem xformed_ok {w : World} (hT : Tab w) (x : Ex) {cs : List Value} (hx : ExAt w x cs) : Calls Tryd.prog 37 #[.agg cs.toArray] w fun e w' => e = .returned (.bool (formedB x)) ∧ Ext w w' := by
  obtain ⟨p, n, c, rfl, hkl, hn, hkid⟩ := hx.six
  apply xformed_vc
  unfold xformed_T
  intro b1 w2 h1 b4 w5 h4 b7 w8 h7
  have H8 := (((Hold.start (Ext.rfl (w := w))).new h1).new h4).new h7
  refine ⟨⟨_, (H8.blk 0 rfl).one⟩, (H8.blk 0 rfl).frozen 0, fun w11 h11 => ?_⟩
  have H11 := H8.box 0 rfl h11
  have B1 : Blk w11 b1 29 #[.int .i64 x.op, .string x.name, .int .i64 x.v.k, .int .i64 x.v.n, .string x.v.s, .slice p n c] := H11.blk 2 rfl
  obtain ⟨a0, a1, a2, a3, a4, a5⟩ := B1.c6
  refine ⟨_, a0, _, a1, _, a2, _, a3, _, a4, _, _, _, a5, (nodes_ok x hx 1).mono ?_⟩
  rintro e w22 ⟨bx, bd, rfl, hH⟩
  have H22 := hH _ _ _ H11
  refine ⟨_, rfl, _, _, rfl, by kernel_rfl, fun r d l w29 hB hY => ?_⟩
  have HB := H22.began hB
  let fs : Nat → Int → List (Nat × Obj) := fun q m => [(l, .loop (r q)), (d, .deferred (some [])), (bd, .cells #[.int .i64 1] 3 (0, 0)), (bx, .cells #[.int .i64 x.op, .string x.name, .int .i64 x.v.k, .int .i64 x.v.n, .string x.v.s, .slice p n c] 29 (0, 0)),
    (b7, .cells #[.int .i64 m] 3 (0, 0)), (b4, .cells #[.bool false] 4 (0, 0)), (b1, .cells #[.int .i64 x.op, .string x.name, .int .i64 x.v.k, .int .i64 x.v.n, .string x.v.s, .slice p n c] 29 (0, 0))]
  have HB : Hold w w29 (fs 0 0 ++ []) [] := HB
  have fsM : ∀ q m, ∀ y ∈ fs q m, y.1 < w29.heap.size := by
    intro q m y hy
    have : ∀ y ∈ fs 0 0, y.1 < w29.heap.size := fun y hy => HB.ltM (List.mem_append_left _ hy)
    simp only [fs, List.mem_cons, List.not_mem_nil, or_false] at hy this
    rcases hy with rfl | rfl | rfl | rfl | rfl | rfl | rfl
    · exact this (l, .loop (r 0)) (.inl rfl)
    · exact this _ (.inr (.inl rfl))
    · exact this _ (.inr (.inr (.inl rfl)))
    · exact this _ (.inr (.inr (.inr (.inl rfl))))
    · exact this (b7, .cells #[.int .i64 0] 3 (0, 0)) (.inr (.inr (.inr (.inr (.inl rfl)))))
    · exact this _ (.inr (.inr (.inr (.inr (.inr (.inl rfl))))))
    · exact this _ (.inr (.inr (.inr (.inr (.inr (.inr rfl))))))
  refine (nodes1_ok (depthT x) x 1 l bd bx w _ (fun k f => f = fs 0 (k : Int) ∧ k ≤ 400 ∧ goW ((walkT x 1).drop k) k = formedB x) (fun f => (∃ m, f = fs 3 m) ∧ formedB x = false) [] (fs 0 0) w29 w29.heap.size (Nat.le_refl _) (by omega) hx ?_ ?_ (Nat.le_refl _) ?_ ⟨rfl, by omega, goW_formed x⟩ HB).mono ?_
  · rintro k f ⟨rfl, _, _⟩
    exact ⟨fsM _ _, by simp [fs], by simp [fs]⟩
  · rintro f ⟨⟨m, rfl⟩, _⟩ y hy
    exact fsM _ _ y hy
  · rintro k pn ncs gs f W R hL hE ⟨rfl, hk, hg⟩ H yes no
    obtain ⟨np, nn, ncap, rfl, hkn, _⟩ := hE.six
    have hgd : goW ((walkT x 1).drop k) k = if 40 < pn.1 ∨ 400 < k + 1 ∨ ¬ NodeOk pn.2 then false else goW ((walkT x 1).drop (k + 1)) (k + 1) := by
      obtain ⟨hk', rfl⟩ := List.getElem?_eq_some_iff.1 hL
      rw [List.drop_eq_getElem_cons hk']; rfl
    refine hY _ _ _ _ _ _ _ _ _ W R (H.loop 0 rfl) fun b43 w44 h43 => ?_
    have H44 := H.new h43
    refine (H44.blk 0 rfl).w6 fun w52 h52 => ?_
    have H52 := H44.put 0 rfl h52
    refine ⟨H52.loop 1 rfl, ?_⟩
    rintro Wb rfl
    have H54 := H52.turn 1 1 rfl
    refine ⟨_, (H54.blk 5 rfl).one, ⟨_, (H54.blk 5 rfl).one⟩, (H54.blk 5 rfl).frozen 0, fun w58 h58 w60 h60 => ?_⟩
    have H60 := (H54.box 5 rfl h58).step h60.ext
    rw [i64_next (by omega)] at H60
    let nb : Nat × Obj := (b43, .cells #[.int .i64 pn.2.op, .string pn.2.name, .int .i64 pn.2.v.k, .int .i64 pn.2.v.n, .string pn.2.v.s, .slice np nn ncap] 29 (0, 0))
    have H60 : Hold w w60 (nb :: (fs 1 ((k + 1 : Nat) : Int) ++ gs)) [] := H60
    -- the walk is left
    have stop : ∀ W', Ext w60 W' → formedB x = false → (∃ u, W'.cell? ⟨b4, 0, none⟩ = some u) ∧ W'.frozen? ⟨b4, 0, none⟩ = false ∧ ∀ w64 : World, Put W' b4 0 [.bool false] w64 → Rec r l 1 w64 ∧ R false (turn r l 3 w64) := by
      intro W' e hf
      have HW := H60.step e
      refine ⟨⟨_, (HW.blk 6 rfl).one⟩, (HW.blk 6 rfl).frozen 0, fun w64 h64 => ?_⟩
      have H64 := HW.box 6 rfl h64
      exact ⟨H64.loop 1 rfl, no _ _ ⟨⟨_, rfl⟩, hf⟩ (H64.turn 1 3 rfl).tail⟩
    have go : ∀ W', Ext w60 W' → pn.1 ≤ 40 → k + 1 ≤ 400 → NodeOk pn.2 → Rec r l 1 W' ∧ R true (turn r l 0 W') := by
      intro W' e h1 h2 h3
      have HW := H60.step e
      refine ⟨HW.loop 1 rfl, yes _ _ ⟨rfl, h2, ?_⟩ (HW.turn 1 0 rfl).tail⟩
      rw [← hg, hgd, if_neg]
      rintro (h | h | h)
      · omega
      · omega
      · exact h h3
    have hf : (40 < pn.1 ∨ 400 < k + 1 ∨ ¬ NodeOk pn.2) → formedB x = false := fun h => by rw [← hg, hgd, if_pos h]
    have bad : ¬ NodeOk pn.2 → formedB x = false := fun h => hf (.inr (.inr h))
    have B : Blk w60 b43 29 #[.int .i64 pn.2.op, .string pn.2.name, .int .i64 pn.2.v.k, .int .i64 pn.2.v.n, .string pn.2.v.s, .slice np nn ncap] := H60.blk 0 rfl
    obtain ⟨a0, a1, a2, a3, a4, a5⟩ := B.c6
    have hT60 := hT.ext H60.ext
    refine ⟨fun hd => stop w60 .rfl (hf (.inl (by omega))), fun hd => ⟨_, (H60.blk 5 rfl).one, fun hm => stop w60 .rfl (hf (.inr (.inl (by omega)))), fun hm => ⟨_, a0, fun ho => stop w60 .rfl (bad ?_), fun ho => ⟨_, a0, fun ho' => stop w60 .rfl (bad ?_), fun ho' => ?_⟩⟩⟩⟩
    · rintro ⟨h, _⟩
      have := many_range (op := pn.2.op) (by omega)
      omega
    · rintro ⟨h, _⟩
      have := many_range (op := pn.2.op) (by omega)
      omega
    · obtain ⟨t0, _, _⟩ := hT60.at (op := pn.2.op) (by omega) ho'
      refine ⟨_, _, _, a5, _, a0, by omega, ho', _, t0, fun hne => stop w60 .rfl (bad ?_), fun he => ?_⟩
      · rintro ⟨h, _⟩; omega
      have vcall : ∀ (hnm : pn.2.op = 1 ∨ pn.2.name = ⟨#[]⟩) (hvv : pn.2.op = 2 ∨ pn.2.v = nullV), Calls Tryd.prog 60 #[.agg #[.int .i64 pn.2.v.k, .int .i64 pn.2.v.n, .string pn.2.v.s]] w60 fun (e : Ending) (w' : World) => ∃ b : Bool, e = .returned (.bool b) ∧
          (b = false → (∃ u, w'.cell? ⟨b4, 0, none⟩ = some u) ∧ w'.frozen? ⟨b4, 0, none⟩ = false ∧ ∀ w64 : World, Put w' b4 0 [.bool false] w64 → Rec r l 1 w64 ∧ R false (turn r l 3 w64)) ∧ (b = true → Rec r l 1 w' ∧ R true (turn r l 0 w')) := by
        intro hnm hvv
        refine (vright_ok pn.2.v w60).mono ?_
        rintro e w' ⟨rfl, e'⟩
        refine ⟨_, rfl, fun hb => stop w' e' (bad ?_), fun hb => go w' e' (by omega) (by omega) ⟨by omega, hnm, hvv, of_decide_eq_true hb⟩⟩
        rintro ⟨_, _, _, h⟩
        exact absurd h (of_decide_eq_false hb)
      have nullI : pn.2.v = nullV ↔ pn.2.v.k = 0 ∧ pn.2.v.n = 0 ∧ pn.2.v.s = ⟨#[]⟩ := Val.ext'
      refine ⟨_, a0, fun h1 => ⟨_, a1, fun hnm => stop w60 .rfl (bad ?_), fun hnm => ⟨_, a0, fun h2 => ⟨_, a2, _, a3, _, a4, fun hv => stop w60 .rfl (bad ?_), fun hv => ⟨_, a2, _, a3, _, a4, vcall (.inr hnm) (.inr (nullI.2 hv))⟩⟩, fun h2 => ⟨_, a2, _, a3, _, a4, vcall (.inr hnm) (.inl h2)⟩⟩⟩,
        fun h1 => ⟨_, a0, fun h2 => ⟨_, a2, _, a3, _, a4, fun hv => stop w60 .rfl (bad ?_), fun hv => ⟨_, a2, _, a3, _, a4, vcall (.inl h1) (.inr (nullI.2 hv))⟩⟩, fun h2 => ⟨_, a2, _, a3, _, a4, vcall (.inl h1) (.inl h2)⟩⟩⟩
      · rintro ⟨_, h, _⟩
        rcases h with h | h
        · exact h1 h
        · exact hnm h
      · rintro ⟨_, _, h, _⟩
        rcases h with h | h
        · exact h2 h
        · have := nullI.1 h
          rcases hv with hv | hv | hv
          · exact hv this.1
          · exact hv this.2.1
          · exact hv this.2.2
      · rintro ⟨_, _, h, _⟩
        rcases h with h | h
        · exact h2 h
        · have := nullI.1 h
          rcases hv with hv | hv | hv
          · exact hv this.1
          · exact hv this.2.1
          · exact hv this.2.2
  · rintro e W ⟨rfl, hI | hS⟩
    · obtain ⟨_, ⟨rfl, hk, hg⟩, H⟩ := hI
      refine ⟨⟨_, rfl⟩, .inl ⟨H.loop 0 rfl, ?_⟩⟩
      have H2 := H.turn 0 2 rfl
      refine ⟨⟨_, (H2.blk 5 rfl).one⟩, (H2.blk 5 rfl).frozen 0, fun w82 h82 => ?_⟩
      have H82 := H2.box 5 rfl h82
      have H83 := H82.shut 1 rfl
      refine ⟨H82.dfr 1 rfl, _, (H83.blk 5 rfl).one, ?_, H83.ext⟩
      rw [List.drop_length] at hg
      rw [← hg]; rfl
    · obtain ⟨_, ⟨⟨m, rfl⟩, hf⟩, H⟩ := hS
      refine ⟨⟨_, rfl⟩, .inr (.inl ⟨H.loop 0 rfl, ?_⟩)⟩
      have H2 := H.turn 0 4 rfl
      have H83 := H2.shut 1 rfl
      refine ⟨H2.dfr 1 rfl, _, (H83.blk 5 rfl).one, ?_, H83.ext⟩
      rw [hf]
end Go.Proofs.YtaccokhdmhomhaaDoor

/- The contracts of package expr: numbers, truths, one node. -/
namespace Go.Proofs.YtaccokhdmhomhaaDoor
open Go Go.Vc Go.RowKit
set_option maxRecDepth 20000

/-- The tables of and, or. -/
def Tab2 (w : World) : Prop := CellsAt w 1 0 (tabA andI) ∧ CellsAt w 2 0 (tabA orJ)
theorem Tab2.ext {w w' : World} (h : Tab2 w) (e : Ext w w') : Tab2 w' := ⟨fun k v hk => cell_ext (h.1 k v hk) e, fun k v hk => cell_ext (h.2 k v hk) e⟩

theorem xtruth_ok (b : Bool) (w : World) : Calls Tryd.prog 79 #[.bool b] w fun e w' => e = .returned (truthV b).agg ∧ Ext w w' := by
  apply xtruth_vc
  unfold xtruth_T
  intro b1 w2 h1
  have H := (Hold.start (Ext.rfl (w := w))).new h1
  obtain ⟨q0, q1, q2⟩ := (H.blk 0 rfl).c3
  refine ⟨fun hb => ⟨⟨_, q0⟩, (H.blk 0 rfl).frozen _, ⟨_, q1⟩, (H.blk 0 rfl).frozen _, ⟨_, q2⟩, (H.blk 0 rfl).frozen _, fun w8 h8 => ?_⟩, fun hb => ⟨⟨_, q0⟩, (H.blk 0 rfl).frozen _, ⟨_, q1⟩, (H.blk 0 rfl).frozen _, ⟨_, q2⟩, (H.blk 0 rfl).frozen _, fun w8 h8 => ?_⟩⟩
  · have H8 := H.put 0 rfl h8
    have B : Blk w8 b1 26 #[.int .i64 2, .int .i64 1, .string ⟨#[]⟩] := H8.blk 0 rfl
    obtain ⟨q0, q1, q2⟩ := B.c3
    exact ⟨_, q0, _, q1, _, q2, by rw [hb]; rfl, H8.ext⟩
  · have H8 := H.put 0 rfl h8
    have B : Blk w8 b1 26 #[.int .i64 2, .int .i64 0, .string ⟨#[]⟩] := H8.blk 0 rfl
    obtain ⟨q0, q1, q2⟩ := B.c3
    exact ⟨_, q0, _, q1, _, q2, by rw [hb]; rfl, H8.ext⟩

theorem times1_ok {n : Int} (h : fitI n) (w : World) : Calls Tryd.prog 108 #[.int .i64 n] w fun e w' => e = .returned (.int .u64 ((n.natAbs : Nat) : Int)) ∧ Ext w w' := by
  apply times1_vc
  unfold times1_T
  unfold fitI at h
  refine ⟨fun hn => ⟨?_, .rfl⟩, fun hn => ⟨?_, .rfl⟩⟩
  · rw [u64_wrap, u64_wrap, show (0 - n % 18446744073709551616) % 18446744073709551616 = ((n.natAbs : Nat) : Int) by omega]
  · rw [u64_wrap, show n % 18446744073709551616 = ((n.natAbs : Nat) : Int) by omega]
theorem mul64_ok {x y : Nat} (hx : x < 18446744073709551616) (hy : y < 18446744073709551616) (w : World) :
    Calls Tryd.prog 109 #[.int .u64 (x : Int), .int .u64 (y : Int)] w fun e w' => e = .returned (.tuple #[.int .u64 ((x * y / 18446744073709551616 : Nat) : Int), .int .u64 ((x * y % 18446744073709551616 : Nat) : Int)]) ∧ Ext w w' := by
  apply mul64_vc
  unfold mul64_T
  refine ⟨?_, .rfl⟩
  rw [mul64_hi hx hy, u64_wrap, ← Int.natCast_mul]
  rfl
theorem mul_abs (a b : Int) : (decide (a < 0) ≠ decide (b < 0) → a * b = -((a.natAbs * b.natAbs : Nat) : Int)) ∧ (decide (a < 0) = decide (b < 0) → a * b = ((a.natAbs * b.natAbs : Nat) : Int)) := by
  rw [Int.natCast_mul]
  rcases Int.lt_or_le a 0 with ha | ha <;> rcases Int.lt_or_le b 0 with hb | hb
  · rw [Int.ofNat_natAbs_of_nonpos (by omega), Int.ofNat_natAbs_of_nonpos (by omega), Int.neg_mul_neg]
    simp [ha, hb]
  · rw [Int.ofNat_natAbs_of_nonpos (by omega), Int.natAbs_of_nonneg hb, Int.neg_mul, Int.neg_neg]
    have : ¬ b < 0 := by omega
    simp [ha, this]
  · rw [Int.natAbs_of_nonneg ha, Int.ofNat_natAbs_of_nonpos (by omega), Int.mul_neg, Int.neg_neg]
    have : ¬ a < 0 := by omega
    simp [hb, this]
  · rw [Int.natAbs_of_nonneg ha, Int.natAbs_of_nonneg hb]
    simp [Int.not_lt.2 ha, Int.not_lt.2 hb]
theorem times_ok {a b : Int} (ha : fitI a) (hb : fitI b) (w : World) : Calls Tryd.prog 99 #[.int .i64 a, .int .i64 b] w fun e w' => ∃ n : Int, e = .returned (.tuple #[.int .i64 n, .bool (decide (fitI (a * b)))]) ∧ (fitI (a * b) → n = a * b) ∧ Ext w w' := by
  apply times_vc
  unfold times_T
  have ha' : a.natAbs ≤ 9223372036854775808 := by unfold fitI at ha; omega
  have hb' : b.natAbs ≤ 9223372036854775808 := by unfold fitI at hb; omega
  refine (times1_ok ha w).mono ?_
  rintro e w2 ⟨rfl, e2⟩
  refine ⟨_, rfl, (times1_ok hb w2).mono ?_⟩
  rintro e w5 ⟨rfl, e5⟩
  refine ⟨_, rfl, (mul64_ok (by omega) (by omega) w5).mono ?_⟩
  rintro e w8 ⟨rfl, e8⟩
  have hx := (e2.trans e5).trans e8
  obtain ⟨m1, m2⟩ := mul_abs a b
  generalize a.natAbs * b.natAbs = P at m1 m2
  refine ⟨_, _, rfl, fun hne => ⟨0, ?_, fun hf => ?_, hx⟩, fun h0 => ⟨fun hs => ⟨IntKind.i64.wrap (0 - IntKind.i64.wrap ((P % 18446744073709551616 : Nat) : Int)), ?_, fun hf => ?_, hx⟩, fun hs => ⟨IntKind.i64.wrap ((P % 18446744073709551616 : Nat) : Int), ?_, fun hf => ?_, hx⟩⟩⟩
  · have : ¬ fitI (a * b) := by
      unfold fitI
      by_cases hs : decide (a < 0) = decide (b < 0)
      · rw [m2 hs]; omega
      · rw [m1 hs]; omega
    rw [decide_eq_false this]
  · unfold fitI at hf
    exfalso
    by_cases hs : decide (a < 0) = decide (b < 0)
    · rw [m2 hs] at hf; omega
    · rw [m1 hs] at hf; omega
  · have hP : P % 18446744073709551616 = P := by omega
    have : decide (((P % 18446744073709551616 : Nat) : Int) ≤ 9223372036854775808) = decide (fitI (a * b)) := by
      rw [m1 hs, hP, decide_eq_decide]; unfold fitI; omega
    rw [this]
  · rw [m1 hs] at hf ⊢
    unfold fitI at hf
    rw [IntKind.wrap_i64, IntKind.wrap_i64]; omega
  · have hP : P % 18446744073709551616 = P := by omega
    have : decide (((P % 18446744073709551616 : Nat) : Int) < 9223372036854775808) = decide (fitI (a * b)) := by
      rw [m2 hs, hP, decide_eq_decide]; unfold fitI; omega
    rw [this]
  · rw [m2 hs] at hf ⊢
    unfold fitI at hf
    rw [IntKind.wrap_i64]; omega

theorem xarith_ok (op : Int) {a b : Int} (ha : fitI a) (hb : fitI b) (w : World) : Calls Tryd.prog 83 #[.int .i64 op, .int .i64 a, .int .i64 b] w fun e w' => e = .returned (.tuple #[.int .i64 (arithF op a b).1, .int .i64 (arithF op a b).2]) ∧ Ext w w' := by
  apply xarith_vc
  unfold xarith_T
  have ew : ∀ x, fitI x → IntKind.i64.wrap x = x := fun x hx => by unfold fitI at hx; exact i64_fit hx.1 hx.2
  refine ⟨fun h => ⟨?_, .rfl⟩, fun hz => ⟨fun h3 => ⟨fun h => ⟨?_, .rfl⟩, fun h => ⟨?_, .rfl⟩⟩, fun h3 => ⟨fun h4 => ⟨fun h => ⟨?_, .rfl⟩, fun h => ⟨?_, .rfl⟩⟩, fun h4 => ⟨fun h5 => (times_ok ha hb w).mono ?_, fun h5 => ⟨fun h6 => ⟨?_, fun h => ⟨?_, .rfl⟩, fun h => ⟨?_, .rfl⟩⟩, fun h6 => ⟨fun h7 => ⟨?_, ?_, .rfl⟩, fun h7 => ⟨?_, .rfl⟩⟩⟩⟩⟩⟩⟩
  · unfold arithF; rw [if_pos h]
  · have := (add_over ha hb).1 h
    unfold arithF overF; rw [if_neg (by omega), if_pos h3, if_neg this]
  · have : fitI (a + b) := Decidable.not_not.1 fun hn => by have := (add_over ha hb).2 hn; omega
    rw [ew _ this]
    unfold arithF overF; rw [if_neg (by omega), if_pos h3, if_pos this]
  · have := (sub_over ha hb).1 h
    unfold arithF overF; rw [if_neg (by omega), if_neg h3, if_pos h4, if_neg this]
  · have : fitI (a - b) := Decidable.not_not.1 fun hn => by have := (sub_over ha hb).2 hn; omega
    rw [ew _ this]
    unfold arithF overF; rw [if_neg (by omega), if_neg h3, if_pos h4, if_pos this]
  · rintro e w13 ⟨n, rfl, hn, e13⟩
    refine ⟨_, _, rfl, fun hf => ⟨?_, e13⟩, fun hf => ⟨?_, e13⟩⟩
    · unfold arithF overF; rw [if_neg (by omega), if_neg h3, if_neg h4, if_pos h5, if_neg (of_decide_eq_false hf)]
    · rw [hn (of_decide_eq_true hf)]
      unfold arithF overF; rw [if_neg (by omega), if_neg h3, if_neg h4, if_pos h5, if_pos (of_decide_eq_true hf)]
  · omega
  · have : ¬ fitI (a.tdiv b) := fun hf => ((tdiv_fit ha (by omega)).1 hf) h
    unfold arithF overF; rw [if_neg (by omega), if_neg h3, if_neg h4, if_neg h5, if_pos h6, if_neg this]
  · have : fitI (a.tdiv b) := (tdiv_fit ha (by omega)).2 (by omega)
    unfold quoI
    rw [ew _ this]
    unfold arithF overF; rw [if_neg (by omega), if_neg h3, if_neg h4, if_neg h5, if_pos h6, if_pos this]
  · omega
  · unfold arithF remI; rw [if_neg (by omega), if_neg h3, if_neg h4, if_neg h5, if_neg h6, if_pos h7]
  · unfold arithF; rw [if_neg (by omega), if_neg h3, if_neg h4, if_neg h5, if_neg h6, if_neg h7]

theorem third_ok (v : Val) (w : World) : Calls Tryd.prog 81 #[v.agg] w fun e w' => e = .returned (.int .i64 (thirdI v)) ∧ Ext w w' := by
  apply third_vc
  unfold third_T
  intro b1 w2 h1
  obtain ⟨q0, q1, q2⟩ := (Blk.new h1).c3
  refine ⟨_, q0, fun h => ⟨?_, h1.ext⟩, fun h => ⟨_, q1, ?_, h1.ext⟩⟩
  · unfold thirdI; rw [if_pos h]
  · unfold thirdI; rw [if_neg h]
theorem answer_ok (n : Int) (w : World) : Calls Tryd.prog 80 #[.int .i64 n] w fun e w' => e = .returned (answerV n).agg ∧ Ext w w' := by
  apply answer_vc
  unfold answer_T
  intro b1 w2 h1
  have H := (Hold.start (Ext.rfl (w := w))).new h1
  obtain ⟨q0, q1, q2⟩ := (H.blk 0 rfl).c3
  refine ⟨fun h => ⟨⟨_, q0⟩, (H.blk 0 rfl).frozen _, ⟨_, q1⟩, (H.blk 0 rfl).frozen _, ⟨_, q2⟩, (H.blk 0 rfl).frozen _, fun w8 h8 => ?_⟩, fun h => (xtruth_ok _ w2).mono ?_⟩
  · have H8 := H.put 0 rfl h8
    have B : Blk w8 b1 26 #[.int .i64 0, .int .i64 0, .string ⟨#[]⟩] := H8.blk 0 rfl
    obtain ⟨q0, q1, q2⟩ := B.c3
    exact ⟨_, q0, _, q1, _, q2, by unfold answerV; rw [if_pos h]; rfl, H8.ext⟩
  · rintro e w15 ⟨rfl, e15⟩
    have H15 := H.step e15
    obtain ⟨q0, q1, q2⟩ := (H15.blk 0 rfl).c3
    refine ⟨_, _, _, rfl, ⟨_, q0⟩, (H15.blk 0 rfl).frozen _, ⟨_, q1⟩, (H15.blk 0 rfl).frozen _, ⟨_, q2⟩, (H15.blk 0 rfl).frozen _, fun w22 h22 => ?_⟩
    have H22 := H15.put 0 rfl h22
    have B : Blk w22 b1 26 #[.int .i64 (truthV (decide (n = 1))).k, .int .i64 (truthV (decide (n = 1))).n, .string (truthV (decide (n = 1))).s] := H22.blk 0 rfl
    obtain ⟨q0, q1, q2⟩ := B.c3
    exact ⟨_, q0, _, q1, _, q2, by unfold answerV; rw [if_neg h]; rfl, H22.ext⟩
end Go.Proofs.YtaccokhdmhomhaaDoor

/- The contracts of package expr: a node of one kid, of two. -/
namespace Go.Proofs.YtaccokhdmhomhaaDoor
open Go Go.Vc Go.RowKit
set_option maxRecDepth 20000

def trio (i : Int) : Prop := 0 ≤ i ∧ i < 3
theorem Tab2.and {w : World} (h : Tab2 w) {i j : Int} (hi : trio i) (hj : trio j) : w.cell? ⟨1, 0 + i.toNat * 3 + j.toNat, none⟩ = some (.int .i64 (andI i j)) := by
  obtain ⟨a, rfl⟩ := Int.eq_ofNat_of_zero_le hi.1
  obtain ⟨b, rfl⟩ := Int.eq_ofNat_of_zero_le hj.1
  unfold trio at hi hj
  rw [Int.toNat_natCast, Int.toNat_natCast, Nat.add_assoc]
  exact h.1 _ _ (tabA_at andI (by omega) (by omega))
theorem Tab2.or {w : World} (h : Tab2 w) {i j : Int} (hi : trio i) (hj : trio j) : w.cell? ⟨2, 0 + i.toNat * 3 + j.toNat, none⟩ = some (.int .i64 (orJ i j)) := by
  obtain ⟨a, rfl⟩ := Int.eq_ofNat_of_zero_le hi.1
  obtain ⟨b, rfl⟩ := Int.eq_ofNat_of_zero_le hj.1
  unfold trio at hi hj
  rw [Int.toNat_natCast, Int.toNat_natCast, Nat.add_assoc]
  exact h.2 _ _ (tabA_at orJ (by omega) (by omega))

theorem xpair_ok (op : Int) (a b : Val) (w : World) (hT : Tab2 w) (ha : fitI a.n) (hb : fitI b.n) (ht : op = 12 ∨ op = 13 → trio (thirdI a) ∧ trio (thirdI b)) :
    Calls Tryd.prog 63 #[.int .i64 op, a.agg, b.agg] w fun e w' => e = .returned (.tuple #[(pairF op a b).1.agg, .int .i64 (pairF op a b).2]) ∧ Ext w w' := by
  apply xpair_vc
  unfold xpair_T
  intro ba w2 h1 bb w5 h4 br w8 h7
  have H8 := (((Hold.start (Ext.rfl (w := w))).new h1).new h4).new h7
  have hT8 := hT.ext H8.ext
  have Ba : Blk w8 ba 26 #[.int .i64 a.k, .int .i64 a.n, .string a.s] := H8.blk 2 rfl
  have Bb : Blk w8 bb 26 #[.int .i64 b.k, .int .i64 b.n, .string b.s] := H8.blk 1 rfl
  refine ⟨fun hop w11 h11 => ?_, fun h12 => ⟨fun hop w11 h11 => ?_, fun h13 => ?_⟩⟩
  · obtain ⟨t1, t2⟩ := ht (.inl hop)
    have H11 := H8.step h11.ext
    obtain ⟨a0, a1, a2⟩ := (Ba.ext h11.ext).c3
    obtain ⟨b0, b1, b2⟩ := (Bb.ext h11.ext).c3
    refine ⟨_, a0, _, a1, _, a2, _, b0, _, b1, _, b2, (third_ok a w11).mono ?_⟩
    rintro e w20 ⟨rfl, e20⟩
    refine ⟨_, rfl, e20.same, t1.1, t1.2, (third_ok b w20).mono ?_⟩
    rintro e w23 ⟨rfl, e23⟩
    have H23 := (H11.step e20).step e23
    refine ⟨_, rfl, t2.1, t2.2, _, (hT.ext H23.ext).and t1 t2, (answer_ok _ w23).mono ?_⟩
    rintro e w27 ⟨rfl, e27⟩
    refine ⟨_, _, _, rfl, (H23.step e27).ret3 0 rfl _ _ _ fun W' hx => ⟨?_, hx⟩⟩
    unfold pairF; rw [if_pos hop]; rfl
  · obtain ⟨t1, t2⟩ := ht (.inr hop)
    have H11 := H8.step h11.ext
    obtain ⟨a0, a1, a2⟩ := (Ba.ext h11.ext).c3
    obtain ⟨b0, b1, b2⟩ := (Bb.ext h11.ext).c3
    refine ⟨_, a0, _, a1, _, a2, _, b0, _, b1, _, b2, (third_ok a w11).mono ?_⟩
    rintro e w20 ⟨rfl, e20⟩
    refine ⟨_, rfl, e20.same, t1.1, t1.2, (third_ok b w20).mono ?_⟩
    rintro e w23 ⟨rfl, e23⟩
    have H23 := (H11.step e20).step e23
    refine ⟨_, rfl, t2.1, t2.2, _, (hT.ext H23.ext).or t1 t2, (answer_ok _ w23).mono ?_⟩
    rintro e w27 ⟨rfl, e27⟩
    refine ⟨_, _, _, rfl, (H23.step e27).ret3 0 rfl _ _ _ fun W' hx => ⟨?_, hx⟩⟩
    unfold pairF; rw [if_neg h12, if_pos hop]; rfl
  · obtain ⟨a0, a1, a2⟩ := Ba.c3
    obtain ⟨b0, b1, b2⟩ := Bb.c3
    refine ⟨_, a0, fun hz => H8.ret3 0 rfl _ _ _ fun W' hx => ⟨?_, hx⟩, fun hz => ⟨_, b0, fun hz' => H8.ret3 0 rfl _ _ _ fun W' hx => ⟨?_, hx⟩, fun hz' => ⟨_, a0, _, a1, _, a2, _, b0, _, b1, _, b2, (vcompare_ok a b w8).mono ?_⟩⟩⟩
    · unfold pairF; rw [if_neg h12, if_neg h13, if_pos (.inl hz)]; rfl
    · unfold pairF; rw [if_neg h12, if_neg h13, if_pos (.inr hz')]; rfl
    rintro e w99 ⟨rfl, e99⟩
    have H99 := H8.step e99
    have hz2 : ¬ (a.k = 0 ∨ b.k = 0) := by omega
    refine ⟨_, rfl, fun h9 => (xtruth_ok _ w99).mono ?_, fun h9 => ⟨fun h10 => (xtruth_ok _ w99).mono ?_, fun h10 => ⟨fun h11 => (xtruth_ok _ w99).mono ?_, fun h11 => ?_⟩⟩⟩
    · rintro e w103 ⟨rfl, e103⟩
      refine ⟨_, _, _, rfl, (H99.step e103).ret3 0 rfl _ _ _ fun W' hx => ⟨?_, hx⟩⟩
      unfold pairF; rw [if_neg h12, if_neg h13, if_neg hz2, if_pos h9]; rfl
    · rintro e w103 ⟨rfl, e103⟩
      refine ⟨_, _, _, rfl, (H99.step e103).ret3 0 rfl _ _ _ fun W' hx => ⟨?_, hx⟩⟩
      unfold pairF; rw [if_neg h12, if_neg h13, if_neg hz2, if_neg h9, if_pos h10]; rfl
    · rintro e w103 ⟨rfl, e103⟩
      refine ⟨_, _, _, rfl, (H99.step e103).ret3 0 rfl _ _ _ fun W' hx => ⟨?_, hx⟩⟩
      unfold pairF; rw [if_neg h12, if_neg h13, if_neg hz2, if_neg h9, if_neg h10, if_pos h11]; rfl
    · refine ⟨_, cell_ext a1 e99, _, cell_ext b1 e99, (xarith_ok op ha hb w99).mono ?_⟩
      rintro e w149 ⟨rfl, e149⟩
      refine ⟨_, _, rfl, fun hne => (H99.step e149).ret3 0 rfl _ _ _ fun W' hx => ⟨?_, hx⟩, fun he => (H99.step e149).ret3 0 rfl _ _ _ fun W' hx => ⟨?_, hx⟩⟩
      · unfold pairF; rw [if_neg h12, if_neg h13, if_neg hz2, if_neg h9, if_neg h10, if_neg h11, if_pos hne]; rfl
      · unfold pairF; rw [if_neg h12, if_neg h13, if_neg hz2, if_neg h9, if_neg h10, if_neg h11, if_neg (by simpa using he)]; rfl

theorem xsingle_ok (op : Int) (v : Val) (w : World) (hT : Tab2 w) (hv : fitI v.n) :
    Calls Tryd.prog 62 #[.int .i64 op, v.agg] w fun e w' => e = .returned (.tuple #[(singleF op v).1.agg, .int .i64 (singleF op v).2]) ∧ Ext w w' := by
  apply xsingle_vc
  unfold xsingle_T
  intro bv w2 h1 br w5 h4
  have H5 := ((Hold.start (Ext.rfl (w := w))).new h1).new h4
  have Bv : Blk w5 bv 26 #[.int .i64 v.k, .int .i64 v.n, .string v.s] := H5.blk 1 rfl
  obtain ⟨a0, a1, a2⟩ := Bv.c3
  refine ⟨fun h15 => ⟨_, a0, (xtruth_ok _ w5).mono ?_⟩, fun h15 => ⟨_, a0, fun hz => ⟨_, a0, _, a1, _, a2, H5.ret3 0 rfl _ _ _ fun W' hx => ⟨?_, hx⟩⟩, fun hz => ⟨fun h14 => ⟨_, a1, (xtruth_ok _ w5).mono ?_⟩, fun h14 => ⟨fun h16 => ⟨_, a2, H5.ret3 0 rfl _ _ _ fun W' hx => ⟨?_, hx⟩⟩,
    fun h16 => ⟨_, a0, _, a1, _, a2, (xpair_ok 4 (numV 0) v w5 (hT.ext H5.ext) (by decide) hv (fun h => by omega)).mono ?_⟩⟩⟩⟩⟩
  · rintro e w10 ⟨rfl, e10⟩
    refine ⟨_, _, _, rfl, (H5.step e10).ret3 0 rfl _ _ _ fun W' hx => ⟨?_, hx⟩⟩
    unfold singleF; rw [if_pos h15]; rfl
  · unfold singleF; rw [if_neg h15, if_pos hz]; rfl
  · rintro e w10 ⟨rfl, e10⟩
    refine ⟨_, _, _, rfl, (H5.step e10).ret3 0 rfl _ _ _ fun W' hx => ⟨?_, hx⟩⟩
    unfold singleF; rw [if_neg h15, if_neg hz, if_pos h14]; rfl
  · unfold singleF; rw [if_neg h15, if_neg hz, if_neg h14, if_pos h16]; rfl
  · rintro e w68 ⟨rfl, e68⟩
    refine ⟨_, _, _, _, rfl, (H5.step e68).ret3 0 rfl _ _ _ fun W' hx => ⟨?_, hx⟩⟩
    unfold singleF; rw [if_neg h15, if_neg hz, if_neg h14, if_neg h16]; rfl
end Go.Proofs.YtaccokhdmhomhaaDoor

/- The contracts of package expr: kinds. -/
namespace Go.Proofs.YtaccokhdmhomhaaDoor
open Go Go.Vc Go.RowKit
set_option maxRecDepth 20000

theorem many_le (op : Int) : manyOf op ≤ 2 := by
  unfold manyOf
  split
  · omega
  · split
    · omega
    · split <;> omega
theorem alike_ok (a b : Int) (w : World) : Calls Tryd.prog 61 #[.int .i64 a, .int .i64 b] w fun e w' => e = .returned (.bool (alikeB a b)) ∧ Ext w w' := by
  apply alike_vc
  unfold alike_T
  exact ⟨rfl, .rfl⟩

set_option maxHeartbeats 4000000 in
theorem xkind_ok : ∀ (N : Nat) (x : Ex) {w : World} {p : Option Addr} {n c : Nat} {cols : List Col} {cs : List Value}, depthT x ≤ N → (∀ y ∈ nodesT x, NodeOk y) → Tab w → Cols w p n c cols → ExAt w x cs →
    Calls Tryd.prog 38 #[.slice p n c, .agg cs.toArray] w fun e w' => e = .returned (.tuple #[.int .i64 (kindF cols x).1, .int .i64 (kindF cols x).2]) ∧ Ext w w' := by
  intro N
  induction N with
  | zero => intro x w p n c cols cs hd; cases x; unfold depthT at hd; omega
  | succ N ih =>
  intro x w p n c cols cs hd hno hT hc hx
  obtain ⟨xp, xn, xc, rfl, hkl, hxn, hkid⟩ := hx.six
  obtain ⟨hmany, _⟩ := hno x (self_node x)
  have h2 := many_le x.op
  have hop := many_range (op := x.op) (by omega)
  have hl := hc.len
  apply xkind_vc
  unfold xkind_T
  intro b1 w2 h1
  have H2 := (Hold.start (Ext.rfl (w := w))).new h1
  have B1 : Blk w2 b1 29 #[.int .i64 x.op, .string x.name, .int .i64 x.v.k, .int .i64 x.v.n, .string x.v.s, .slice xp xn xc] := H2.blk 0 rfl
  obtain ⟨a0, a1, a2, a3, a4, a5⟩ := B1.c6
  obtain ⟨t0, t1, t2⟩ := (hT.ext H2.ext).at (op := x.op) (by omega) (by omega)
  refine ⟨_, a0, by omega, by omega, _, t0, _, t1, _, t2, fun b8 w9 h8 => ?_⟩
  have H9 := H2.new h8
  obtain ⟨q0, q1, q2⟩ := (H9.blk 0 rfl).c3
  refine ⟨⟨_, q0⟩, (H9.blk 0 rfl).frozen _, ⟨_, q1⟩, (H9.blk 0 rfl).frozen _, ⟨_, q2⟩, (H9.blk 0 rfl).frozen _, fun w14 h14 b16 w17 h16 => ?_⟩
  have H17 := (H9.put 0 rfl h14).new h16
  let fs : List Int → List (Nat × Obj) := fun L => [(b16, .cells #[.int .i64 (L.getD 0 0), .int .i64 (L.getD 1 0)] 93 (0, 0)), (b8, .cells #[.int .i64 (manyOf x.op), .int .i64 (wantOf x.op), .int .i64 (kindOf x.op)] 90 (0, 0)),
    (b1, .cells #[.int .i64 x.op, .string x.name, .int .i64 x.v.k, .int .i64 x.v.n, .string x.v.s, .slice xp xn xc] 29 (0, 0))]
  have H17 : Hold w w17 (fs []) [] := H17
  have c5 : ∀ {L : List Int} {W : World}, Hold w W (fs L) [] → W.cell? ⟨b1, 5, none⟩ = some (.slice xp xn xc) := fun H => by rw [(H.blk 2 rfl).cell]; rfl
  refine ⟨_, _, _, c5 H17, fun i W => ∃ j : Nat, i = (j : Int) ∧ j ≤ xn ∧ (runL (kindF cols) (x.kids.take j)).2 = 0 ∧ Hold w W (fs (runL (kindF cols) (x.kids.take j)).1) [], fun i _ => xn - i.toNat, ⟨0, rfl, Nat.zero_le _, rfl, H17⟩, ?_⟩
  rintro i W ⟨j, rfl, hj, hrun, H⟩
  refine ⟨fun hlt => ?_, fun hge => ?_⟩
  · have g : x.kids[j]? = some (x.kids[j]'(by omega)) := List.getElem?_eq_getElem _
    generalize x.kids[j]'(by omega) = k at g
    obtain ⟨kc, b, o, hk, hp, hcell⟩ := hkid H.ext g
    obtain ⟨kp, kn, kcap, hkc, _⟩ := hk.six
    simp only [Int.toNat_natCast]
    have e0 := hcell 0 _ (by rw [hkc]; rfl)
    have e1 := hcell 1 _ (by rw [hkc]; rfl)
    have e2 := hcell 2 _ (by rw [hkc]; rfl)
    have e3 := hcell 3 _ (by rw [hkc]; rfl)
    have e4 := hcell 4 _ (by rw [hkc]; rfl)
    have e5 := hcell 5 _ (by rw [hkc]; rfl)
    refine ⟨b, o, hp, by omega, by omega, _, e0, _, e1, _, e2, _, e3, _, e4, _, _, _, e5, fun b38 w39 h38 => ?_⟩
    have H39 := H.new h38
    refine (H39.blk 0 rfl).w6 fun w47 h47 => ?_
    have H47 := H39.put 0 rfl h47
    have Bk : Blk w47 b38 29 #[.int .i64 k.op, .string k.name, .int .i64 k.v.k, .int .i64 k.v.n, .string k.v.s, .slice kp kn kcap] := H47.blk 0 rfl
    obtain ⟨a0, a1, a2, a3, a4, a5⟩ := Bk.c6
    subst hkc
    refine ⟨_, a0, _, a1, _, a2, _, a3, _, a4, _, _, _, a5, (ih k (by have := kid_depth g; omega) (fun y hy => hno y (kid_node g hy)) (hT.ext H47.ext) (hc.ext H47.ext) (hk.ext H47.ext)).mono ?_⟩
    rintro e w58 ⟨rfl, e58⟩
    have H58 := H47.step e58
    refine ⟨_, _, rfl, fun hne => ⟨?_, H58.ext⟩, fun he => ⟨by omega, by omega, ?_⟩⟩
    · rw [kindF_eq cols x, runL_stop g hrun hne, if_pos hne]
    · have H58 : Hold w w58 ((b38, _) :: fs (runL (kindF cols) (x.kids.take j)).1) [] := H58
      have hnx := runL_take (f := kindF cols) g hrun
      rw [if_neg (by simpa using he)] at hnx
      have hlen := runL_len hrun
      rw [List.length_take, Nat.min_eq_left (by omega)] at hlen
      have Bq := H58.blk 1 rfl
      have hcellj : ∃ u, w58.cell? ⟨b16, 0 + j, none⟩ = some u := by
        rcases (by omega : j = 0 ∨ j = 1) with rfl | rfl
        · exact ⟨_, by rw [Bq.cell]; rfl⟩
        · exact ⟨_, by rw [Bq.cell]; rfl⟩
      refine ⟨hcellj, Bq.frozen _, fun w64 h64 => ?_⟩
      have H64 := (H58.put 1 rfl h64).tail
      rw [i64_next (by omega)]
      refine ⟨⟨j + 1, rfl, by omega, by rw [hnx], ?_⟩, by simp only [Int.toNat_natCast]; omega⟩
      rw [hnx]
      generalize (runL (kindF cols) (x.kids.take j)).1 = L at hlen H64 ⊢
      rcases (by omega : j = 0 ∨ j = 1) with rfl | rfl
      · rw [List.length_eq_zero_iff] at hlen
        subst hlen
        exact H64
      · obtain ⟨g0, rfl⟩ := List.length_eq_one_iff.1 hlen
        exact H64
  · have hjn : j = xn := by omega
    subst hjn
    rw [List.take_of_length_le (by omega)] at hrun H
    have hlen := runL_len hrun
    generalize hL : (runL (kindF cols) x.kids).1 = L at hlen H
    have hkf : kindF cols x = kindN cols x.op x.name x.v L := by rw [kindF_eq, if_neg (by simpa using hrun), hL]
    refine ⟨_, _, _, c5 H, fun i W => ∃ k : Nat, i = (k : Int) ∧ k ≤ j ∧ (wantOf x.op ≠ 0 → ∀ g ∈ L.take k, alikeB g (wantOf x.op) = true) ∧ Hold w W (fs L) [], fun i _ => j - i.toNat, ⟨0, rfl, Nat.zero_le _, by simp, H⟩, ?_⟩
    clear H
    rintro i W ⟨k, rfl, hk, hal, H⟩
    refine ⟨fun hlt w76 h76 => ?_, fun hge => ?_⟩
    · have H76 := H.step h76.ext
      have Bs : Blk w76 b8 90 #[.int .i64 (manyOf x.op), .int .i64 (wantOf x.op), .int .i64 (kindOf x.op)] := H76.blk 1 rfl
      obtain ⟨s0, s1, s2⟩ := Bs.c3
      have g : L[k]? = some (L[k]'(by omega)) := List.getElem?_eq_getElem _
      generalize L[k]'(by omega) = gk at g
      have hck : w76.cell? ⟨b16, 0 + k, none⟩ = some (.int .i64 gk) := by
        have Bq := H76.blk 0 rfl
        rw [Bq.cell]
        rcases (by omega : k = 0 ∨ k = 1) with rfl | rfl
        · show some (Value.int .i64 (L.getD 0 0)) = _
          rw [List.getD_eq_getElem?_getD, g]; rfl
        · show some (Value.int .i64 (L.getD 1 0)) = _
          rw [List.getD_eq_getElem?_getD, g]; rfl
      have nxt : ∀ W', Ext w76 W' → (wantOf x.op ≠ 0 → alikeB gk (wantOf x.op) = true) → (∃ k' : Nat, IntKind.i64.wrap ((k : Int) + 1) = (k' : Int) ∧ k' ≤ j ∧ (wantOf x.op ≠ 0 → ∀ g ∈ L.take k', alikeB g (wantOf x.op) = true) ∧ Hold w W' (fs L) []) ∧
          j - (IntKind.i64.wrap ((k : Int) + 1)).toNat < j - k := by
        intro W' e hb
        rw [i64_next (by omega)]
        refine ⟨⟨k + 1, rfl, by omega, fun hw y hy => ?_, H76.step e⟩, by simp only [Int.toNat_natCast]; omega⟩
        rw [List.take_add_one, g] at hy
        rcases List.mem_append.1 hy with hy | hy
        · exact hal hw y hy
        · simp at hy; subst hy; exact hb hw
      simp only [Int.toNat_natCast]
      refine ⟨_, s1, fun hw => ⟨by omega, by omega, _, hck, _, s1, (alike_ok gk (wantOf x.op) w76).mono ?_⟩, fun hw => nxt w76 .rfl fun h => absurd hw h⟩
      rintro e w83 ⟨rfl, e83⟩
      refine ⟨_, rfl, fun hb => ⟨?_, (H76.step e83).ext⟩, fun hb => nxt w83 e83 fun _ => hb⟩
      rw [hkf]
      unfold kindN
      rw [if_pos ⟨hw, fun hall => by rw [hall gk (List.mem_of_getElem? g)] at hb; cases hb⟩]
    · have hkj : k = j := by omega
      rw [hkj, List.take_of_length_le (by omega)] at hal
      have hwant : ¬ (wantOf x.op ≠ 0 ∧ ¬ (∀ g ∈ L, alikeB g (wantOf x.op) = true)) := fun h => h.2 (hal h.1)
      have B1 : Blk W b1 29 #[.int .i64 x.op, .string x.name, .int .i64 x.v.k, .int .i64 x.v.n, .string x.v.s, .slice xp j xc] := H.blk 2 rfl
      obtain ⟨a0, a1, a2, a3, a4, a5⟩ := B1.c6
      have Bs : Blk W b8 90 #[.int .i64 (manyOf x.op), .int .i64 (wantOf x.op), .int .i64 (kindOf x.op)] := H.blk 1 rfl
      obtain ⟨s0, s1, s2⟩ := Bs.c3
      have Bq := H.blk 0 rfl
      have k0 : W.cell? ⟨b16, 0, none⟩ = some (.int .i64 (L.getD 0 0)) := by rw [Bq.cell]; rfl
      have k1 : W.cell? ⟨b16, 1, none⟩ = some (.int .i64 (L.getD 1 0)) := by rw [Bq.cell]; rfl
      have plain : x.op ≠ 1 → x.op ≠ 2 → ¬ ((x.op = 9 ∨ x.op = 10 ∨ x.op = 11) ∧ alikeB (L.getD 0 0) (L.getD 1 0) = false) → kindF cols x = (kindOf x.op, 0) := fun h1 h2 h9 => by
        rw [hkf]; unfold kindN; rw [if_neg hwant, if_neg h1, if_neg h2, if_neg h9]
      refine ⟨_, a0, fun h1 => ⟨_, a1, (sfind_ok (hc.ext H.ext) x.name).mono ?_⟩, fun h1 => ⟨fun h2 => ⟨_, a2, ?_, H.ext⟩, fun h2 => ?_⟩⟩
      · rintro e w93 ⟨rfl, e93⟩
        have hx93 := H.ext.trans e93
        refine ⟨_, rfl, fun hneg => ⟨?_, hx93⟩, fun hpos => ?_⟩
        · rw [hkf]; unfold kindN; rw [if_neg hwant, if_pos h1, if_pos hneg]
        · obtain ⟨y, hy, hyn⟩ := findC_get hpos
          obtain ⟨b, o, hp, d0, d1, d2⟩ := (hc.ext hx93).col hy
          have hrg := findC_range cols x.name
          refine ⟨b, o, hp, hpos, by omega, _, d1, ?_, hx93⟩
          rw [hkf]; unfold kindN; rw [if_neg hwant, if_pos h1, if_neg (by omega), hy]; rfl
      · rw [hkf]; unfold kindN; rw [if_neg hwant, if_neg h1, if_pos h2]
      · refine ⟨fun h9 => ⟨fun _ => ?_, fun h => absurd h9 h⟩, fun h9 => ⟨fun h10 => ⟨fun _ => ?_, fun h => absurd h10 h⟩, fun h10 => ⟨fun h11 => ?_, fun h11 => ⟨_, s2, ?_, H.ext⟩⟩⟩⟩
        rotate_left 3
        · rw [plain h1 h2 (by omega)]
        all_goals
          refine ⟨by omega, by omega, _, k0, by omega, by omega, _, k1, (alike_ok _ _ W).mono ?_⟩
          rintro e w109 ⟨rfl, e109⟩
          refine ⟨_, rfl, fun hb => ⟨?_, H.ext.trans e109⟩, fun hb => ⟨_, cell_ext s2 e109, ?_, H.ext.trans e109⟩⟩
          · rw [hkf]; unfold kindN; rw [if_neg hwant, if_neg h1, if_neg h2, if_pos ⟨by omega, hb⟩]
          · rw [plain h1 h2 (fun h => by rw [h.2] at hb; cases hb)]

theorem xtype_ok (x : Ex) {w : World} {p : Option Addr} {n c : Nat} {cols : List Col} {cs : List Value} (hT : Tab w) (hc : Cols w p n c cols) (hx : ExAt w x cs) :
    Calls Tryd.prog 18 #[.slice p n c, .agg cs.toArray] w fun e w' => e = .returned (.tuple #[.int .i64 (typeF cols x).1, .int .i64 (typeF cols x).2]) ∧ Ext w w' := by
  obtain ⟨xp, xn, xc, hcs, _⟩ := hx.six
  have hcs' := hcs
  subst hcs
  apply xtype_vc
  unfold xtype_T
  intro b1 w2 h1
  have H2 := (Hold.start (Ext.rfl (w := w))).new h1
  refine (sright_ok (hc.ext H2.ext)).mono ?_
  rintro e w5 ⟨rfl, e5⟩
  have H5 := H2.step e5
  refine ⟨_, rfl, fun hb => ⟨by unfold typeF; rw [if_pos hb], H5.ext⟩, fun hb => ?_⟩
  have B1 : Blk w5 b1 29 #[.int .i64 x.op, .string x.name, .int .i64 x.v.k, .int .i64 x.v.n, .string x.v.s, .slice xp xn xc] := H5.blk 0 rfl
  obtain ⟨a0, a1, a2, a3, a4, a5⟩ := B1.c6
  refine ⟨_, a0, _, a1, _, a2, _, a3, _, a4, _, _, _, a5, (xformed_ok (hT.ext H5.ext) x (hx.ext H5.ext)).mono ?_⟩
  rintro e w18 ⟨rfl, e18⟩
  have H18 := H5.step e18
  refine ⟨_, rfl, fun hf => ⟨by unfold typeF; rw [if_neg (by simp [hb]), if_pos hf], H18.ext⟩, fun hf => ?_⟩
  have hfp : FormedP x := of_decide_eq_true hf
  refine ⟨_, cell_ext a0 e18, _, cell_ext a1 e18, _, cell_ext a2 e18, _, cell_ext a3 e18, _, cell_ext a4 e18, _, _, _, cell_ext a5 e18, (xkind_ok _ x (Nat.le_refl _) hfp.1 (hT.ext H18.ext) (hc.ext H18.ext) (hx.ext H18.ext)).mono ?_⟩
  rintro e w31 ⟨rfl, e31⟩
  exact ⟨_, _, rfl, by unfold typeF; rw [if_neg (by simp [hb]), if_neg (by simp [hf])], (H18.step e31).ext⟩
end Go.Proofs.YtaccokhdmhomhaaDoor

/- The contracts of package expr: values. -/
namespace Go.Proofs.YtaccokhdmhomhaaDoor
open Go Go.Vc Go.RowKit
set_option maxRecDepth 20000

theorem GoodV.trio' {v : Val} (h : GoodV 2 v) : trio (thirdI v) := Go.Vc.GoodV.trio h
set_option maxHeartbeats 4000000 in
theorem xeval_ok : ∀ (N : Nat) (x : Ex) {w : World} {p rp : Option Addr} {n c rn rc : Nat} {cols : List Col} {row : List Val} {cs : List Value}, depthT x ≤ N → (∀ y ∈ nodesT x, NodeOk y ∧ fitI y.v.n) → (kindF cols x).2 = 0 → fitsL cols row = true → (∀ u ∈ row, fitI u.n) →
    Tab2 w → Cols w p n c cols → Vs w rp rn rc row → ExAt w x cs →
    Calls Tryd.prog 39 #[.slice p n c, .slice rp rn rc, .agg cs.toArray] w fun e w' => e = .returned (.tuple #[(valueF cols row x).1.agg, .int .i64 (valueF cols row x).2]) ∧ Ext w w' := by
  intro N
  induction N with
  | zero => intro x w p rp n c rn rc cols row cs hd; cases x; unfold depthT at hd; omega
  | succ N ih =>
  intro x w p rp n c rn rc cols row cs hd hno hkind hfits hfit hT hc hr hx
  obtain ⟨xp, xn, xc, rfl, hkl, hxn, hkid⟩ := hx.six
  obtain ⟨hxo, hxf⟩ := hno x (self_node x)
  have h2 := many_le x.op
  have hmany := hxo.1
  have hrl := hr.len
  obtain ⟨hk1, hk2⟩ := kids_kinds hkind
  have hgood : ∀ (i : Nat) k, x.kids[i]? = some k → Go.Vc.Good (kindF cols k).1 (valueF cols row k) := fun i k hi => typed hfits hfit _ k (Nat.le_refl _) (fun y hy => hno y (kid_node hi hy)) (runL_get hk1 hi).1
  apply xeval_vc
  unfold xeval_T
  intro b1 w2 h1 b4 w5 h4 b7 w8 h7
  have H8 := (((Hold.start (Ext.rfl (w := w))).new h1).new h4).new h7
  let fs : List Val → List (Nat × Obj) := fun L => [(b7, .cells #[.int .i64 (L.getD 0 nullV).k, .int .i64 (L.getD 0 nullV).n, .string (L.getD 0 nullV).s, .int .i64 (L.getD 1 nullV).k, .int .i64 (L.getD 1 nullV).n, .string (L.getD 1 nullV).s] 95 (0, 0)),
    (b4, .cells #[.int .i64 0, .int .i64 0, .string ⟨#[]⟩] 26 (0, 0)), (b1, .cells #[.int .i64 x.op, .string x.name, .int .i64 x.v.k, .int .i64 x.v.n, .string x.v.s, .slice xp xn xc] 29 (0, 0))]
  have H8 : Hold w w8 (fs []) [] := H8
  have c5 : ∀ {L : List Val} {W : World}, Hold w W (fs L) [] → W.cell? ⟨b1, 5, none⟩ = some (.slice xp xn xc) := fun H => by rw [(H.blk 2 rfl).cell]; rfl
  refine ⟨_, _, _, c5 H8, fun i W => ∃ j : Nat, i = (j : Int) ∧ j ≤ xn ∧ (runL (valueF cols row) (x.kids.take j)).2 = 0 ∧ Hold w W (fs (runL (valueF cols row) (x.kids.take j)).1) [], fun i _ => xn - i.toNat, ⟨0, rfl, Nat.zero_le _, rfl, H8⟩, ?_⟩
  rintro i W ⟨j, rfl, hj, hrun, H⟩
  refine ⟨fun hlt => ?_, fun hge => ?_⟩
  · have g : x.kids[j]? = some (x.kids[j]'(by omega)) := List.getElem?_eq_getElem _
    generalize x.kids[j]'(by omega) = k at g
    obtain ⟨kc, b, o, hk, hp, hcell⟩ := hkid H.ext g
    obtain ⟨kp, kn, kcap, hkc, _⟩ := hk.six
    simp only [Int.toNat_natCast]
    have e0 := hcell 0 _ (by rw [hkc]; rfl)
    have e1 := hcell 1 _ (by rw [hkc]; rfl)
    have e2 := hcell 2 _ (by rw [hkc]; rfl)
    have e3 := hcell 3 _ (by rw [hkc]; rfl)
    have e4 := hcell 4 _ (by rw [hkc]; rfl)
    have e5 := hcell 5 _ (by rw [hkc]; rfl)
    refine ⟨b, o, hp, by omega, by omega, _, e0, _, e1, _, e2, _, e3, _, e4, _, _, _, e5, fun b29 w30 h29 => ?_⟩
    have H30 := H.new h29
    refine (H30.blk 0 rfl).w6 fun w38 h38 => ?_
    have H38 := H30.put 0 rfl h38
    have Bk : Blk w38 b29 29 #[.int .i64 k.op, .string k.name, .int .i64 k.v.k, .int .i64 k.v.n, .string k.v.s, .slice kp kn kcap] := H38.blk 0 rfl
    obtain ⟨a0, a1, a2, a3, a4, a5⟩ := Bk.c6
    subst hkc
    refine ⟨_, a0, _, a1, _, a2, _, a3, _, a4, _, _, _, a5, (ih k (by have := kid_depth g; omega) (fun y hy => hno y (kid_node g hy)) (runL_get hk1 g).1 hfits hfit (hT.ext H38.ext) (hc.ext H38.ext) (hr.ext H38.ext) (hk.ext H38.ext)).mono ?_⟩
    rintro e w49 ⟨rfl, e49⟩
    have H49 := (H38.step e49).tail
    refine ⟨_, _, _, _, rfl, fun b54 w55 h54 => ?_⟩
    have H55 := H49.new h54
    obtain ⟨q0, q1, q2⟩ := (H55.blk 0 rfl).c3
    refine ⟨⟨_, q0⟩, (H55.blk 0 rfl).frozen _, ⟨_, q1⟩, (H55.blk 0 rfl).frozen _, ⟨_, q2⟩, (H55.blk 0 rfl).frozen _, fun w60 h60 => ?_⟩
    have H60 := H55.put 0 rfl h60
    have Bv : Blk w60 b54 26 #[.int .i64 (valueF cols row k).1.k, .int .i64 (valueF cols row k).1.n, .string (valueF cols row k).1.s] := H60.blk 0 rfl
    obtain ⟨v0, v1, v2⟩ := Bv.c3
    refine ⟨fun hne => H60.ret3 2 rfl _ _ _ fun W' hx => ⟨?_, hx⟩, fun he => ⟨_, v0, _, v1, _, v2, by omega, by omega, ?_⟩⟩
    · rw [valueF_eq cols row x, runL_stop g hrun hne, if_pos hne]; rfl
    · have H60 : Hold w w60 ((b54, _) :: fs (runL (valueF cols row) (x.kids.take j)).1) [] := H60
      have hnx := runL_take (f := valueF cols row) g hrun
      rw [if_neg (by simpa using he)] at hnx
      have hlen := runL_len hrun
      rw [List.length_take, Nat.min_eq_left (by omega)] at hlen
      have Bq := H60.blk 1 rfl
      have hcells : ∀ i, i < 3 → ∃ u, w60.cell? ⟨b7, 0 + j * 3 + i, none⟩ = some u := by
        intro i hi
        rw [Bq.cell]
        exact ⟨_, Array.getElem?_eq_getElem (by simp; omega)⟩
      refine ⟨hcells 0 (by decide), Bq.frozen _, hcells 1 (by decide), Bq.frozen _, hcells 2 (by decide), Bq.frozen _, fun w78 h78 => ?_⟩
      have H78 := (H60.put 1 rfl h78).tail
      rw [i64_next (by omega)]
      refine ⟨⟨j + 1, rfl, by omega, by rw [hnx], ?_⟩, by simp only [Int.toNat_natCast]; omega⟩
      rw [hnx]
      generalize (runL (valueF cols row) (x.kids.take j)).1 = L at hlen H78 ⊢
      rcases (by omega : j = 0 ∨ j = 1) with rfl | rfl
      · rw [List.length_eq_zero_iff] at hlen
        subst hlen
        exact H78
      · obtain ⟨g0, rfl⟩ := List.length_eq_one_iff.1 hlen
        exact H78
  · have hjn : j = xn := by omega
    subst hjn
    rw [List.take_of_length_le (by omega)] at hrun H
    have hlen := runL_len hrun
    have hlk := runL_len hk1
    have hrel : ∀ (i : Nat) g u, (runL (kindF cols) x.kids).1[i]? = some g → (runL (valueF cols row) x.kids).1[i]? = some u → GoodV g u := by
      intro i g u hg hu
      have hi : i < x.kids.length := by rw [← hlk]; exact (List.getElem?_eq_some_iff.1 hg).1
      have hki : x.kids[i]? = some x.kids[i] := List.getElem?_eq_getElem hi
      have e1 := runL_get hk1 hki
      have e2 := runL_get hrun hki
      rw [hg] at e1
      rw [hu] at e2
      have := hgood i _ hki
      cases e1.2
      cases e2.2
      rcases this with h | h
      · exact h.2
      · have := e2.1; omega
    obtain ⟨_, htrio, hcol⟩ := node_good (by rw [hlen]; exact hmany) (by omega) hxo.2.2.2 hxf hrel (by rw [← hk2]; exact hkind) hfits hfit
    have hfitL : ∀ (i : Nat) u, (runL (valueF cols row) x.kids).1[i]? = some u → GoodV u.k u := by
      intro i u hu
      have hi : i < (runL (kindF cols) x.kids).1.length := by rw [hlk, ← hlen]; exact (List.getElem?_eq_some_iff.1 hu).1
      obtain ⟨a, b, _⟩ := hrel i _ u (List.getElem?_eq_getElem hi) hu
      exact ⟨a, b, .inr rfl⟩
    generalize hL : (runL (valueF cols row) x.kids).1 = L at hlen H hfitL htrio
    have hvf : valueF cols row x = valueN cols row x.op x.name x.v L := by rw [valueF_eq, if_neg (by simpa using hrun), hL]
    have B1 : Blk W b1 29 #[.int .i64 x.op, .string x.name, .int .i64 x.v.k, .int .i64 x.v.n, .string x.v.s, .slice xp j xc] := H.blk 2 rfl
    obtain ⟨a0, a1, a2, a3, a4, a5⟩ := B1.c6
    have Bq : Blk W b7 95 #[.int .i64 (L.getD 0 nullV).k, .int .i64 (L.getD 0 nullV).n, .string (L.getD 0 nullV).s, .int .i64 (L.getD 1 nullV).k, .int .i64 (L.getD 1 nullV).n, .string (L.getD 1 nullV).s] := H.blk 0 rfl
    obtain ⟨s0, s1, s2, s3, s4, s5⟩ := Bq.c6
    refine ⟨_, a0, fun h1 => ⟨_, a1, (sfind_ok (hc.ext H.ext) x.name).mono ?_⟩, fun h1 => ⟨_, a0, fun h2 => ⟨_, a2, _, a3, _, a4, H.ret3 1 rfl _ _ _ fun W' hx => ⟨?_, hx⟩⟩, fun h2 => ⟨_, _, _, a5, fun hone => ?_, fun hone => ?_⟩⟩⟩
    · rintro e w85 ⟨rfl, e85⟩
      have H85 := H.step e85
      have hcol' := hcol h1
      have gu : row[(findC cols x.name).toNat]? = some (row[(findC cols x.name).toNat]'(by omega)) := List.getElem?_eq_getElem _
      generalize row[(findC cols x.name).toNat]'(by omega) = u at gu
      obtain ⟨b, o, hp, d0, d1, d2⟩ := (hr.ext H85.ext).val gu
      refine ⟨_, rfl, b, o, hp, hcol'.1, by omega, _, d0, _, d1, _, d2, H85.ret3 1 rfl _ _ _ fun W' hx => ⟨?_, hx⟩⟩
      rw [hvf]; unfold valueN; rw [if_pos h1, gu]; rfl
    · rw [hvf]; unfold valueN; rw [if_neg h1, if_pos h2]; rfl
    · have hl1 : L.length = 1 := by omega
      have g0 : L[0]? = some (L.getD 0 nullV) := by rw [List.getD_eq_getElem?_getD, List.getElem?_eq_getElem (by omega : 0 < L.length)]; rfl
      refine ⟨_, a0, by omega, by omega, _, s0, _, s1, _, s2, (xsingle_ok x.op (L.getD 0 nullV) W (hT.ext H.ext) (hfitL _ _ g0).2.1).mono ?_⟩
      rintro e w124 ⟨rfl, e124⟩
      refine ⟨_, _, _, _, rfl, (H.step e124).ret3 1 rfl _ _ _ fun W' hx => ⟨?_, hx⟩⟩
      rw [hvf]; unfold valueN; rw [if_neg h1, if_neg h2, if_pos hl1]; rfl
    · have hl2 : L.length = 2 := by
        have : manyOf x.op ≠ 0 := by unfold manyOf; rw [if_neg (by omega)]; split
                                     · omega
                                     · split <;> omega
        omega
      have g0 : L[0]? = some (L.getD 0 nullV) := by rw [List.getD_eq_getElem?_getD, List.getElem?_eq_getElem (by omega : 0 < L.length)]; rfl
      have g1 : L[1]? = some (L.getD 1 nullV) := by rw [List.getD_eq_getElem?_getD, List.getElem?_eq_getElem (by omega : 1 < L.length)]; rfl
      refine ⟨_, a0, by omega, by omega, _, s0, _, s1, _, s2, by omega, by omega, _, s3, _, s4, _, s5, (xpair_ok x.op (L.getD 0 nullV) (L.getD 1 nullV) W (hT.ext H.ext) (hfitL _ _ g0).2.1 (hfitL _ _ g1).2.1 (fun h => ⟨GoodV.trio' (htrio h _ (List.mem_of_getElem? g0)), GoodV.trio' (htrio h _ (List.mem_of_getElem? g1))⟩)).mono ?_⟩
      rintro e w146 ⟨rfl, e146⟩
      refine ⟨_, _, _, _, rfl, (H.step e146).ret3 1 rfl _ _ _ fun W' hx => ⟨?_, hx⟩⟩
      rw [hvf]; unfold valueN; rw [if_neg h1, if_neg h2, if_neg (by omega)]; rfl

theorem xEval_ok (x : Ex) {w : World} {p rp : Option Addr} {n c rn rc : Nat} {cols : List Col} {row : List Val} {cs : List Value} (hT : Tab w) (hT2 : Tab2 w) (hc : Cols w p n c cols) (hr : Vs w rp rn rc row) (hx : ExAt w x cs) (hfit : ∀ u ∈ row, fitI u.n) (hxf : ∀ y ∈ nodesT x, fitI y.v.n) :
    Calls Tryd.prog 19 #[.slice p n c, .slice rp rn rc, .agg cs.toArray] w fun e w' => e = .returned (.tuple #[(evalF cols row x).1.agg, .int .i64 (evalF cols row x).2]) ∧ Ext w w' := by
  obtain ⟨xp, xn, xc, hcs, _⟩ := hx.six
  subst hcs
  apply xEval_vc
  unfold xEval_T
  intro b1 w2 h1 b4 w5 h4
  have H5 := ((Hold.start (Ext.rfl (w := w))).new h1).new h4
  have B1 : Blk w5 b1 29 #[.int .i64 x.op, .string x.name, .int .i64 x.v.k, .int .i64 x.v.n, .string x.v.s, .slice xp xn xc] := H5.blk 1 rfl
  obtain ⟨a0, a1, a2, a3, a4, a5⟩ := B1.c6
  refine ⟨_, a0, _, a1, _, a2, _, a3, _, a4, _, _, _, a5, (xtype_ok x (hT.ext H5.ext) (hc.ext H5.ext) (hx.ext H5.ext)).mono ?_⟩
  rintro e w16 ⟨rfl, e16⟩
  have H16 := H5.step e16
  refine ⟨_, _, rfl, fun hne => H16.ret3 0 rfl _ _ _ fun W' hx => ⟨?_, hx⟩, fun he => (sfits_ok (hc.ext H16.ext) (hr.ext H16.ext)).mono ?_⟩
  · unfold evalF; rw [if_pos hne]; rfl
  · rintro e w30 ⟨rfl, e30⟩
    have H30 := H16.step e30
    have e130 := e16.trans e30
    refine ⟨_, rfl, fun hb => H30.ret3 0 rfl _ _ _ fun W' hx => ⟨?_, hx⟩, fun hb => ?_⟩
    · unfold evalF; rw [if_neg (by simpa using he), if_pos hb]; rfl
    · have hform : formedB x = true := by
        unfold typeF at he
        split at he
        · exact absurd he (by decide)
        · split at he
          · exact absurd he (by decide)
          · simpa using ‹¬ formedB x = false›
      have hk : (kindF cols x).2 = 0 := by
        unfold typeF at he
        split at he
        · exact absurd he (by decide)
        · rwa [if_neg (by simp [hform])] at he
      have hfits : fitsL cols row = true := by
        unfold fitsC at hb
        rw [Bool.and_eq_true] at hb
        exact hb.2
      have hfp : FormedP x := of_decide_eq_true hform
      refine ⟨_, cell_ext a0 e130, _, cell_ext a1 e130, _, cell_ext a2 e130, _, cell_ext a3 e130, _, cell_ext a4 e130, _, _, _, cell_ext a5 e130,
        (xeval_ok _ x (Nat.le_refl _) (fun y hy => ⟨hfp.1 y hy, hxf y hy⟩) hk hfits hfit (hT2.ext H30.ext) (hc.ext H30.ext) (hr.ext H30.ext) (hx.ext H30.ext)).mono ?_⟩
      rintro e w51 ⟨rfl, e51⟩
      refine ⟨_, _, _, _, rfl, (H30.step e51).ret3 0 rfl _ _ _ fun W' hx => ⟨?_, hx⟩⟩
      unfold evalF; rw [if_neg (by simpa using he), if_neg (by simp [hb])]; rfl
end Go.Proofs.YtaccokhdmhomhaaDoor

/- The contracts of the document's answer for expressions: which are well formed. -/
namespace Go.Proofs.YtaccokhdmhomhaaDoor
open Go Go.Vc Go.RowKit
set_option maxRecDepth 20000

theorem many_ok (op : Int) (w : World) : Calls Tryd.prog 84 #[.int .i64 op] w fun e w' => e = .returned (.int .i64 (manyOf op)) ∧ Ext w w' := by
  apply many_vc
  unfold many_T
  have m0 : op = 1 ∨ op = 2 → manyOf op = 0 := fun h => by unfold manyOf; rw [if_pos h]
  have m1 : op = 8 ∨ op = 14 ∨ op = 15 ∨ op = 16 → manyOf op = 1 := fun h => by unfold manyOf; rw [if_neg (by omega), if_pos h]
  have m2 : 3 ≤ op ∧ op ≤ 7 ∨ 9 ≤ op ∧ op ≤ 13 → manyOf op = 2 := fun h => by unfold manyOf; rw [if_neg (by omega), if_neg (by omega), if_pos (by omega)]
  have m3 : ¬ (1 ≤ op ∧ op ≤ 16) → manyOf op = -1 := fun h => by unfold manyOf; rw [if_neg (by omega), if_neg (by omega), if_neg (by omega)]
  have good : ∀ v : Int, v = manyOf op → Ending.returned (.int .i64 v) = Ending.returned (.int .i64 (manyOf op)) ∧ Ext w w := fun v h => ⟨by rw [h], .rfl⟩
  generalize manyOf op = m at m0 m1 m2 m3 good ⊢
  repeat' first
    | exact good _ (by omega)
    | omega
    | intro _
    | refine And.intro ?_ ?_
theorem wants_ok (op : Int) (w : World) : Calls Tryd.prog 70 #[.int .i64 op] w fun e w' => e = .returned (.int .i64 (wantOf op)) ∧ Ext w w' := by
  apply wants_vc
  unfold wants_T
  have m0 : 3 ≤ op ∧ op ≤ 8 → wantOf op = 1 := fun h => by unfold wantOf; rw [if_pos h]
  have m1 : 12 ≤ op ∧ op ≤ 14 → wantOf op = 2 := fun h => by unfold wantOf; rw [if_neg (by omega), if_pos h]
  have m2 : op = 16 → wantOf op = 3 := fun h => by unfold wantOf; rw [if_neg (by omega), if_neg (by omega), if_pos h]
  have m3 : ¬ (3 ≤ op ∧ op ≤ 8 ∨ 12 ≤ op ∧ op ≤ 14 ∨ op = 16) → wantOf op = 0 := fun h => by unfold wantOf; rw [if_neg (by omega), if_neg (by omega), if_neg (by omega)]
  have good : ∀ v : Int, v = wantOf op → Ending.returned (.int .i64 v) = Ending.returned (.int .i64 (wantOf op)) ∧ Ext w w := fun v h => ⟨by rw [h], .rfl⟩
  generalize wantOf op = m at m0 m1 m2 m3 good ⊢
  repeat' first
    | exact good _ (by omega)
    | omega
    | intro _
    | refine And.intro ?_ ?_

theorem refFs_neg {l : List Ex} {d left : Int} (h : left < 0) : refFs l d left = left := by
  cases l with
  | nil => rw [refFs]
  | cons k r => rw [refFs, if_pos h]
set_option maxHeartbeats 4000000 in
theorem rformed_ok : ∀ (N : Nat) (x : Ex) {w : World} {cs : List Value} (d left : Int), depthT x ≤ N → -100 ≤ d → d ≤ 100 → 0 ≤ left → left ≤ 400 → ExAt w x cs →
    Calls Tryd.prog 69 #[.agg cs.toArray, .int .i64 d, .int .i64 left] w fun e w' => e = .returned (.int .i64 (refF x d left)) ∧ Ext w w' := by
  intro N
  induction N with
  | zero => intro x w cs d left hd; cases x; unfold depthT at hd; omega
  | succ N ih =>
  intro x w cs d left hdep hd0 hd1 hl0 hl1 hx
  obtain ⟨xp, xn, xc, rfl, hkl, hxn, hkid⟩ := hx.six
  apply rformed_vc
  unfold rformed_T
  intro b1 w2 h1
  have H2 := (Hold.start (Ext.rfl (w := w))).new h1
  have B1 : Blk w2 b1 29 #[.int .i64 x.op, .string x.name, .int .i64 x.v.k, .int .i64 x.v.n, .string x.v.s, .slice xp xn xc] := H2.blk 0 rfl
  obtain ⟨a0, a1, a2, a3, a4, a5⟩ := B1.c6
  have hrf : refF x d left = if d < 1 ∨ left < 1 ∨ ¬ NodeOk x then -1 else refFs x.kids (d - 1) (left - 1) := by cases x; rw [refF]; rfl
  refine ⟨_, a2, _, a3, _, a4, (rvright_ok x.v w2).mono ?_⟩
  rintro e w8 ⟨rfl, e8⟩
  refine ⟨_, rfl, fun w10 h10 => ?_⟩
  have H10 := (H2.step e8).step h10.ext
  have B1 : Blk w10 b1 29 #[.int .i64 x.op, .string x.name, .int .i64 x.v.k, .int .i64 x.v.n, .string x.v.s, .slice xp xn xc] := H10.blk 0 rfl
  obtain ⟨a0, a1, a2, a3, a4, a5⟩ := B1.c6
  refine ⟨fun hb => ⟨Ext.rfl.same, ?_, H10.ext⟩, fun hg => ⟨_, _, _, a5, _, a0, (many_ok x.op w10).mono ?_⟩⟩
  · rw [hrf, if_pos (by omega)]
  rintro e w19 ⟨rfl, e19⟩
  have H19 := H10.step e19
  have bad : ¬ NodeOk x → Ending.returned (Value.int .i64 (-1)) = Ending.returned (Value.int .i64 (refF x d left)) ∧ Ext w w19 := fun h => ⟨by rw [hrf, if_pos (.inr (.inr h))], H19.ext⟩
  have nullI : x.v = nullV ↔ x.v.k = 0 ∧ x.v.n = 0 ∧ x.v.s = ⟨#[]⟩ := Val.ext'
  have b0 := cell_ext a0 e19
  have b1' := cell_ext a1 e19
  have b2 := cell_ext a2 e19
  have b3 := cell_ext a3 e19
  have b4 := cell_ext a4 e19
  refine ⟨_, rfl, e19.same, fun hb => bad ?_, fun ⟨hm, hv⟩ => ?_⟩
  · rintro ⟨h, _, _, ho⟩
    rcases hb with hb | hb
    · omega
    · exact absurd ho (of_decide_eq_false hb)
  have hvo : x.v.Ok := of_decide_eq_true hv
  have I0 : ∀ (hok : NodeOk x), ∃ j : Nat, (0 : Int) = (j : Int) ∧ j ≤ xn ∧ refFs (x.kids.drop j) (d - 1) (IntKind.i64.wrap (left - 1)) = refF x d left ∧ IntKind.i64.wrap (left - 1) ≤ 400 ∧
      Hold w w19 [(b1, .cells #[.int .i64 x.op, .string x.name, .int .i64 x.v.k, .int .i64 x.v.n, .string x.v.s, .slice xp xn xc] 29 (0, 0))] [] := by
    intro hok
    rw [i64_fit (by omega) (by omega)]
    refine ⟨0, rfl, Nat.zero_le _, ?_, by omega, H19⟩
    rw [hrf, if_neg]
    · rfl
    · rintro (h | h | h)
      · omega
      · omega
      · exact h hok
  refine ⟨_, b0, fun h1 => ⟨_, b1', fun hn => bad ?_, fun hn => ⟨_, b0, fun h2 => ⟨_, b2, _, b3, _, b4, fun hz => bad ?_, fun hz => ?_⟩, fun h2 => ?_⟩⟩, fun h1 => ⟨_, b0, fun h2 => ⟨_, b2, _, b3, _, b4, fun hz => bad ?_, fun hz => ?_⟩, fun h2 => ?_⟩⟩
  · rintro ⟨_, h, _⟩
    rcases h with h | h
    · exact h1 h
    · exact hn h
  · rintro ⟨_, _, h, _⟩
    rcases h with h | h
    · exact h2 h
    · have := nullI.1 h
      rcases hz with hz | hz | hz
      · exact hz this.1
      · exact hz this.2.1
      · exact hz this.2.2
  rotate_left 2
  · rintro ⟨_, _, h, _⟩
    rcases h with h | h
    · exact h2 h
    · have := nullI.1 h
      rcases hz with hz | hz | hz
      · exact hz this.1
      · exact hz this.2.1
      · exact hz this.2.2
  all_goals
    have hok : NodeOk x := ⟨by omega, by first | exact .inl h1 | exact .inr hn, by first | exact .inl h2 | exact .inr (nullI.2 hz), hvo⟩
    refine ⟨fun lf i W => ∃ j : Nat, i = (j : Int) ∧ j ≤ xn ∧ refFs (x.kids.drop j) (d - 1) lf = refF x d left ∧ lf ≤ 400 ∧ Hold w W [(b1, .cells #[.int .i64 x.op, .string x.name, .int .i64 x.v.k, .int .i64 x.v.n, .string x.v.s, .slice xp xn xc] 29 (0, 0))] [],
      fun _ i _ => xn - i.toNat, I0 hok, ?_⟩
    rintro lf i W ⟨j, rfl, hj, hrun, hlf, H⟩
    have B1 : Blk W b1 29 #[.int .i64 x.op, .string x.name, .int .i64 x.v.k, .int .i64 x.v.n, .string x.v.s, .slice xp xn xc] := H.blk 0 rfl
    obtain ⟨_, _, _, _, _, a5⟩ := B1.c6
    refine ⟨_, _, _, a5, fun ⟨hlt, hpos⟩ => ?_, fun hex => ⟨?_, H.ext⟩⟩
    · have g : x.kids[j]? = some (x.kids[j]'(by omega)) := List.getElem?_eq_getElem _
      have hdrop : x.kids.drop j = x.kids[j]'(by omega) :: x.kids.drop (j + 1) := List.drop_eq_getElem_cons _
      generalize x.kids[j]'(by omega) = k at g hdrop
      obtain ⟨kc, b, o, hk, hp, hcell⟩ := hkid H.ext g
      obtain ⟨kp, kn, kcap, hkc, _⟩ := hk.six
      simp only [Int.toNat_natCast]
      have e0 := hcell 0 _ (by rw [hkc]; rfl)
      have e1 := hcell 1 _ (by rw [hkc]; rfl)
      have e2 := hcell 2 _ (by rw [hkc]; rfl)
      have e3 := hcell 3 _ (by rw [hkc]; rfl)
      have e4 := hcell 4 _ (by rw [hkc]; rfl)
      have e5 := hcell 5 _ (by rw [hkc]; rfl)
      subst hkc
      rw [i64_fit (n := d - 1) (by omega) (by omega)]
      refine ⟨_, _, _, a5, b, o, hp, by omega, by omega, _, e0, _, e1, _, e2, _, e3, _, e4, _, _, _, e5, (ih k (d - 1) lf (by have := kid_depth g; omega) (by omega) (by omega) hpos hlf (hk.ext H.ext)).mono ?_⟩
      rintro e w59 ⟨rfl, e59⟩
      rw [i64_next (by omega)]
      refine ⟨_, rfl, ⟨j + 1, rfl, by omega, ?_, ?_, H.step e59⟩, by simp only [Int.toNat_natCast]; omega⟩
      · rw [← hrun, hdrop, refFs, if_neg (by omega)]
      · have := (refF_spec k (d - 1) lf).2
        omega
    · rcases (by omega : j = xn ∨ lf < 0) with h | h
      · rw [← hrun, List.drop_eq_nil_of_le (by omega), refFs]
      · rw [← hrun, refFs_neg h]
theorem rFormed_ok (x : Ex) {w : World} {cs : List Value} (hx : ExAt w x cs) : Calls Tryd.prog 48 #[.agg cs.toArray] w fun e w' => e = .returned (.bool (formedB x)) ∧ Ext w w' := by
  obtain ⟨xp, xn, xc, hcs, _⟩ := hx.six
  subst hcs
  apply rFormed_vc
  unfold rFormed_T
  intro b1 w2 h1
  have H2 := (Hold.start (Ext.rfl (w := w))).new h1
  have B1 : Blk w2 b1 29 #[.int .i64 x.op, .string x.name, .int .i64 x.v.k, .int .i64 x.v.n, .string x.v.s, .slice xp xn xc] := H2.blk 0 rfl
  obtain ⟨a0, a1, a2, a3, a4, a5⟩ := B1.c6
  refine ⟨_, a0, _, a1, _, a2, _, a3, _, a4, _, _, _, a5, (rformed_ok _ x 40 400 (Nat.le_refl _) (by omega) (by omega) (by omega) (by omega) (hx.ext H2.ext)).mono ?_⟩
  rintro e w5 ⟨rfl, e5⟩
  exact ⟨_, rfl, by rw [← refF_formed], (H2.step e5).ext⟩
end Go.Proofs.YtaccokhdmhomhaaDoor
