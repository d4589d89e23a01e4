/- Texts of the proof, one behind the other. -/
import Derived.Test.YtiojkfckaalooaaDoorMb
import Derived.Lib.Bytealg
import Derived.Shelf.Strings.OnBuilder
import Derived.Shelf.Strings.Split
import Derived.Shelf.Strings.Cut
import Derived.Test.YtiojkfckaalooaaDoorProg
import Derived.Lib.LaidTab
import Derived.Test.YtiojkfckaalooaaDoorRows
import Derived.JoinedOf
set_option linter.unusedVariables false
set_option linter.unusedSimpArgs false
/- The verification conditions of the functions, evaluated: printed by program. -/
namespace Go.Proofs.YtiojkfckaalooaaDoor
open Go Go.Vc
set_option maxRecDepth 20000

set_option maxRecDepth 100000 in
def sflag_T (b : Bool) (w : World) (R : Ending → World → Prop) : Prop :=
  (b = true → R (.returned (.int .u8 1)) w) ∧ (b = false → R (.returned (.int .u8 0)) w)

set_option maxRecDepth 100000 in
theorem sflag_eq (b : Bool) (w : World) (R : Ending → World → Prop) : sflag_T b w R = vcFn Tryd.prog [] [] Tryd.f36 [.bool b] w R := by kernel_rfl

set_option maxRecDepth 100000 in
theorem sflag_vc (b : Bool) (w : World) (R : Ending → World → Prop) (hvc : sflag_T b w R) : Calls Tryd.prog 36 #[.bool b] w R :=
  calls_of_vc (args := [.bool b]) [] [] Tryd.mixed Tryd.func36 (cast (sflag_eq _ w R) hvc)

set_option maxRecDepth 100000 in
def slay_T (b_p : Option Addr) (b_n : Nat) (b_c : Nat) (cols_p : Option Addr) (cols_n : Nat) (cols_c : Nat) (w : World) (R : Ending → World → Prop) : Prop :=
  Calls Tryd.prog 11 #[.slice cols_p cols_n cols_c] w fun e1 w2 ↦
 ∃ b3, e1 = .returned (.bool b3) ∧ (b3 = false → R (.returned (.tuple #[.slice none 0 0, .int .i64 50])) w2) ∧ (b3 = true → Calls Tryd.prog 34 #[.slice b_p b_n b_c, .int .u64 (IntKind.u64.wrap (↑cols_n : Int))] w2 fun e6 w7 ↦
 ∃ p8 n9 c10, e6 = .returned (.slice p8 n9 c10) ∧ ∃ (I11 : Option Addr → Nat → Nat → Int → World → Prop), ∃ (M12 : Option Addr → Nat → Nat → Int → World → Nat), I11 p8 n9 c10 0 w7 ∧ ∀ (p13 : Option Addr) (n14 c15 : Nat) (n16 : Int) (w'17 : World), I11 p13 n14 c15 n16 w'17 → (n16 < (↑cols_n : Int) → ∃ b20, ∃ o21, cols_p = some ⟨b20, o21, none⟩ ∧ 0 ≤ n16 ∧ n16 < (↑cols_n : Int) ∧ ∃ s22, w'17.cell? ⟨b20, (o21 + n16.toNat * 3), none⟩ = some (.string s22) ∧ ∃ n23, w'17.cell? ⟨b20, (o21 + n16.toNat * 3 + 1), none⟩ = some (.int .i64 n23) ∧ ∃ b24, w'17.cell? ⟨b20, (o21 + n16.toNat * 3 + 2), none⟩ = some (.bool b24) ∧ ∀ b25 w'26, New w'17 (Obj.cells #[.string ⟨#[]⟩, .int .i64 0, .bool false] 53) b25 w'26 → (∃ u28, w'26.cell? ⟨b25, 0, none⟩ = some u28) ∧ w'26.frozen? ⟨b25, 0, none⟩ = false ∧ (∃ u29, w'26.cell? ⟨b25, 1, none⟩ = some u29) ∧ w'26.frozen? ⟨b25, 1, none⟩ = false ∧ (∃ u30, w'26.cell? ⟨b25, 2, none⟩ = some u30) ∧ w'26.frozen? ⟨b25, 2, none⟩ = false ∧ ∀ w'31, Put w'26 b25 0 [.string s22, .int .i64 n23, .bool b24] w'31 → ∃ s33, w'31.cell? ⟨b25, 0, none⟩ = some (.string s33) ∧ Calls Tryd.prog 35 #[.slice p13 n14 c15, .string s33] w'31 fun e34 w35 ↦
 ∃ p36 n37 c38, ∃ n39, e34 = .returned (.tuple #[.slice p36 n37 c38, .int .i64 n39]) ∧ ∀ w'40, Drew w35 w'40 → ∃ n42, w'40.cell? ⟨b25, 1, none⟩ = some (.int .i64 n42) ∧ ∃ b43, w'40.cell? ⟨b25, 2, none⟩ = some (.bool b43) ∧ Calls Tryd.prog 36 #[.bool b43] w'40 fun e44 w45 ↦
 ∃ n46, e44 = .returned (.int .u8 n46) ∧ SameTo none w'40 w'40 w45 ∧ ∀ b47 w'48, New w45 (Obj.cells #[.int .u8 (IntKind.u8.wrap n42), .int .u8 n46] 5) b47 w'48 → ∃ p50 n51 c52, ∃ (w'53 : World), Sem.run Tryd.prog (Builtin.append_ #[28, 28] 28 #[.slice p36 n37 c38, .slice (some ⟨b47, 0, none⟩) 2 2]) w'48 = Result.ok (.slice p50 n51 c52) w'53 ∧ I11 p50 n51 c52 (IntKind.i64.wrap (n16 + 1)) w'53 ∧ M12 p50 n51 c52 (IntKind.i64.wrap (n16 + 1)) w'53 < M12 p13 n14 c15 n16 w'17) ∧ ((↑cols_n : Int) ≤ n16 → R (.returned (.tuple #[.slice p13 n14 c15, .int .i64 0])) w'17))

set_option maxRecDepth 100000 in
theorem slay_eq (b_p : Option Addr) (b_n : Nat) (b_c : Nat) (cols_p : Option Addr) (cols_n : Nat) (cols_c : Nat) (w : World) (R : Ending → World → Prop) : slay_T b_p b_n b_c cols_p cols_n cols_c w R = vcFn Tryd.prog [] [(8, [2, 4, 6, 8, 10, 12, 15, 16, 18, 20, 0])] Tryd.f13 [.slice b_p b_n b_c, .slice cols_p cols_n cols_c] w R := by kernel_rfl

set_option maxRecDepth 100000 in
theorem slay_vc (b_p : Option Addr) (b_n : Nat) (b_c : Nat) (cols_p : Option Addr) (cols_n : Nat) (cols_c : Nat) (w : World) (R : Ending → World → Prop) (hvc : slay_T b_p b_n b_c cols_p cols_n cols_c w R) : Calls Tryd.prog 13 #[.slice b_p b_n b_c, .slice cols_p cols_n cols_c] w R :=
  calls_of_vc (args := [.slice b_p b_n b_c, .slice cols_p cols_n cols_c]) [] [(8, [2, 4, 6, 8, 10, 12, 15, 16, 18, 20, 0])] Tryd.mixed Tryd.func13 (cast (slay_eq _ _ _ _ _ _ w R) hvc)

set_option maxRecDepth 100000 in
def stake_T (b_p : Option Addr) (b_n : Nat) (b_c : Nat) (at_ : Int) (w : World) (R : Ending → World → Prop) : Prop :=
  Calls Tryd.prog 39 #[.slice b_p b_n b_c, .int .i64 at_] w fun e1 w2 ↦
 ∃ n3, ∃ n4, ∃ n5, e1 = .returned (.tuple #[.int .u64 n3, .int .i64 n4, .int .i64 n5]) ∧ (n5 ≠ 0 ∨ 16 < n3 → R (.returned (.tuple #[.slice none 0 0, .int .i64 0, .int .i64 52])) w2) ∧ (n5 = 0 ∧ n3 ≤ 16 → ∃ (I8 : Option Addr → Nat → Nat → Int → Int → World → Prop), ∃ (M9 : Option Addr → Nat → Nat → Int → Int → World → Nat), I8 none 0 0 n4 0 w2 ∧ ∀ (p10 : Option Addr) (n11 c12 : Nat) (n13 n14 : Int) (w'15 : World), I8 p10 n11 c12 n13 n14 w'15 → (n14 < n3 → Calls Tryd.prog 40 #[.slice b_p b_n b_c, .int .i64 n13, .int .i64 24] w'15 fun e18 w19 ↦
 ∃ s20, ∃ n21, ∃ n22, e18 = .returned (.tuple #[.string s20, .int .i64 n21, .int .i64 n22]) ∧ (n22 ≠ 0 ∨ IntKind.i64.wrap ((↑b_n : Int) - n21) < 2 → R (.returned (.tuple #[.slice none 0 0, .int .i64 0, .int .i64 52])) w19) ∧ (n22 = 0 ∧ 2 ≤ IntKind.i64.wrap ((↑b_n : Int) - n21) → ∃ b25, ∃ o26, b_p = some ⟨b25, o26, none⟩ ∧ 0 ≤ IntKind.i64.wrap (n21 + 1) ∧ IntKind.i64.wrap (n21 + 1) < (↑b_n : Int) ∧ ∃ n27, w19.cell? ⟨b25, (o26 + (IntKind.i64.wrap (n21 + 1)).toNat), none⟩ = some (.int .u8 n27) ∧ (1 < n27 → R (.returned (.tuple #[.slice none 0 0, .int .i64 0, .int .i64 52])) w19) ∧ (n27 ≤ 1 → ∀ w'30, Drew w19 w'30 → ∃ b32, ∃ o33, b_p = some ⟨b32, o33, none⟩ ∧ 0 ≤ n21 ∧ n21 < (↑b_n : Int) ∧ ∃ n34, w'30.cell? ⟨b32, (o33 + n21.toNat), none⟩ = some (.int .u8 n34) ∧ ∃ b35, ∃ o36, b_p = some ⟨b35, o36, none⟩ ∧ 0 ≤ IntKind.i64.wrap (n21 + 1) ∧ IntKind.i64.wrap (n21 + 1) < (↑b_n : Int) ∧ ∃ n37, w'30.cell? ⟨b35, (o36 + (IntKind.i64.wrap (n21 + 1)).toNat), none⟩ = some (.int .u8 n37) ∧ ∀ b38 w'39, New w'30 (Obj.cells #[.string s20, .int .i64 (IntKind.i64.wrap n34), .bool (decide (n37 = Int.ofNat 1))] 53) b38 w'39 → ∃ p41 n42 c43, ∃ (w'44 : World), Sem.run Tryd.prog (Builtin.append_ #[22, 22] 22 #[.slice p10 n11 c12, .slice (some ⟨b38, 0, none⟩) 1 1]) w'39 = Result.ok (.slice p41 n42 c43) w'44 ∧ I8 p41 n42 c43 (IntKind.i64.wrap (n21 + 2)) (IntKind.u64.wrap (n14 + 1)) w'44 ∧ M9 p41 n42 c43 (IntKind.i64.wrap (n21 + 2)) (IntKind.u64.wrap (n14 + 1)) w'44 < M9 p10 n11 c12 n13 n14 w'15))) ∧ (n3 ≤ n14 → Calls Tryd.prog 11 #[.slice p10 n11 c12] w'15 fun e46 w47 ↦
 ∃ b48, e46 = .returned (.bool b48) ∧ (b48 = false → R (.returned (.tuple #[.slice none 0 0, .int .i64 0, .int .i64 52])) w47) ∧ (b48 = true → R (.returned (.tuple #[.slice p10 n11 c12, .int .i64 n13, .int .i64 0])) w47)))

set_option maxRecDepth 100000 in
theorem stake_eq (b_p : Option Addr) (b_n : Nat) (b_c : Nat) (at_ : Int) (w : World) (R : Ending → World → Prop) : stake_T b_p b_n b_c at_ w R = vcFn Tryd.prog [] [(10, [2, 4, 6, 8, 10, 12, 14, 16, 18, 20, 22, 24, 26, 28, 30, 32, 34, 0])] Tryd.f15 [.slice b_p b_n b_c, .int .i64 at_] w R := by kernel_rfl

set_option maxRecDepth 100000 in
theorem stake_vc (b_p : Option Addr) (b_n : Nat) (b_c : Nat) (at_ : Int) (w : World) (R : Ending → World → Prop) (hvc : stake_T b_p b_n b_c at_ w R) : Calls Tryd.prog 15 #[.slice b_p b_n b_c, .int .i64 at_] w R :=
  calls_of_vc (args := [.slice b_p b_n b_c, .int .i64 at_]) [] [(10, [2, 4, 6, 8, 10, 12, 14, 16, 18, 20, 22, 24, 26, 28, 30, 32, 34, 0])] Tryd.mixed Tryd.func15 (cast (stake_eq _ _ _ _ w R) hvc)

set_option maxRecDepth 100000 in
def sshow_T (cols_p : Option Addr) (cols_n : Nat) (cols_c : Nat) (w : World) (R : Ending → World → Prop) : Prop :=
  Calls Tryd.prog 11 #[.slice cols_p cols_n cols_c] w fun e1 w2 ↦
 ∃ b3, e1 = .returned (.bool b3) ∧ (b3 = false → R (.returned (.tuple #[.string ⟨#[]⟩, .int .i64 50])) w2) ∧ (b3 = true → ∃ (I6 : Option Addr → Nat → Nat → Int → World → Prop), ∃ (M7 : Option Addr → Nat → Nat → Int → World → Nat), I6 none 0 0 0 w2 ∧ ∀ (p8 : Option Addr) (n9 c10 : Nat) (n11 : Int) (w'12 : World), I6 p8 n9 c10 n11 w'12 → (n11 < (↑cols_n : Int) → ∃ b15, ∃ o16, cols_p = some ⟨b15, o16, none⟩ ∧ 0 ≤ n11 ∧ n11 < (↑cols_n : Int) ∧ ∃ s17, w'12.cell? ⟨b15, (o16 + n11.toNat * 3), none⟩ = some (.string s17) ∧ ∃ n18, w'12.cell? ⟨b15, (o16 + n11.toNat * 3 + 1), none⟩ = some (.int .i64 n18) ∧ ∃ b19, w'12.cell? ⟨b15, (o16 + n11.toNat * 3 + 2), none⟩ = some (.bool b19) ∧ ∀ b20 w'21, New w'12 (Obj.cells #[.string ⟨#[]⟩, .int .i64 0, .bool false] 53) b20 w'21 → (∃ u23, w'21.cell? ⟨b20, 0, none⟩ = some u23) ∧ w'21.frozen? ⟨b20, 0, none⟩ = false ∧ (∃ u24, w'21.cell? ⟨b20, 1, none⟩ = some u24) ∧ w'21.frozen? ⟨b20, 1, none⟩ = false ∧ (∃ u25, w'21.cell? ⟨b20, 2, none⟩ = some u25) ∧ w'21.frozen? ⟨b20, 2, none⟩ = false ∧ ∀ w'26, Put w'21 b20 0 [.string s17, .int .i64 n18, .bool b19] w'26 → ∀ w'28, Drew w'26 w'28 → ∃ s30, w'28.cell? ⟨b20, 0, none⟩ = some (.string s30) ∧ s30.size + 1 ≤ 9223372036854775807 ∧ ∃ n31, w'28.cell? ⟨b20, 1, none⟩ = some (.int .i64 n31) ∧ 0 ≤ n31 ∧ n31 < 4 ∧ ∃ s32, w'28.cell? ⟨0, (0 + n31.toNat), none⟩ = some (.string s32) ∧ (ByteArray.instAppend.1 s30 (ByteArray.mk #[32])).size + s32.size ≤ 9223372036854775807 ∧ ∃ b33, w'28.cell? ⟨b20, 2, none⟩ = some (.bool b33) ∧ (b33 = true → (ByteArray.instAppend.1 (ByteArray.instAppend.1 s30 (ByteArray.mk #[32])) s32).size + 5 ≤ 9223372036854775807 ∧ ∀ b35 w'36, New w'28
 (Obj.cells
 #[.string (ByteArray.instAppend.1 (ByteArray.instAppend.1 (ByteArray.instAppend.1 s30 (ByteArray.mk #[32])) s32) (ByteArray.mk #[32, 110, 117, 108, 108]))] 9)
 b35 w'36 → ∃ p38 n39 c40, ∃ (w'41 : World), Sem.run Tryd.prog (Builtin.append_ #[76, 76] 76 #[.slice p8 n9 c10, .slice (some ⟨b35, 0, none⟩) 1 1]) w'36 = Result.ok (.slice p38 n39 c40) w'41 ∧ I6 p38 n39 c40 (IntKind.i64.wrap (n11 + 1)) w'41 ∧ M7 p38 n39 c40 (IntKind.i64.wrap (n11 + 1)) w'41 < M7 p8 n9 c10 n11 w'12) ∧ (b33 = false → ∀ b43 w'44, New w'28 (Obj.cells #[.string (ByteArray.instAppend.1 (ByteArray.instAppend.1 s30 (ByteArray.mk #[32])) s32)] 9) b43 w'44 → ∃ p46 n47 c48, ∃ (w'49 : World), Sem.run Tryd.prog (Builtin.append_ #[76, 76] 76 #[.slice p8 n9 c10, .slice (some ⟨b43, 0, none⟩) 1 1]) w'44 = Result.ok (.slice p46 n47 c48) w'49 ∧ I6 p46 n47 c48 (IntKind.i64.wrap (n11 + 1)) w'49 ∧ M7 p46 n47 c48 (IntKind.i64.wrap (n11 + 1)) w'49 < M7 p8 n9 c10 n11 w'12)) ∧ ((↑cols_n : Int) ≤ n11 → Calls Tryd.prog 54 #[.slice p8 n9 c10, .string (ByteArray.mk #[44, 32])] w'12 fun e51 w52 ↦
 ∃ s53, e51 = .returned (.string s53) ∧ R (.returned (.tuple #[.string s53, .int .i64 0])) w52))

set_option maxRecDepth 100000 in
theorem sshow_eq (cols_p : Option Addr) (cols_n : Nat) (cols_c : Nat) (w : World) (R : Ending → World → Prop) : sshow_T cols_p cols_n cols_c w R = vcFn Tryd.prog [] [(7, [2, 4, 6, 8, 10, 12, 14, 16, 18, 0])] Tryd.f29 [.slice cols_p cols_n cols_c] w R := by kernel_rfl

set_option maxRecDepth 100000 in
theorem sshow_vc (cols_p : Option Addr) (cols_n : Nat) (cols_c : Nat) (w : World) (R : Ending → World → Prop) (hvc : sshow_T cols_p cols_n cols_c w R) : Calls Tryd.prog 29 #[.slice cols_p cols_n cols_c] w R :=
  calls_of_vc (args := [.slice cols_p cols_n cols_c]) [] [(7, [2, 4, 6, 8, 10, 12, 14, 16, 18, 0])] Tryd.mixed Tryd.func29 (cast (sshow_eq _ _ _ w R) hvc)

set_option maxRecDepth 100000 in
def r5lay_T (b_p : Option Addr) (b_n : Nat) (b_c : Nat) (cols_p : Option Addr) (cols_n : Nat) (cols_c : Nat) (w : World) (R : Ending → World → Prop) : Prop :=
  Calls Tryd.prog 18 #[.slice cols_p cols_n cols_c] w fun e1 w2 ↦
 ∃ b3, e1 = .returned (.bool b3) ∧ (b3 = false → R (.returned (.tuple #[.slice none 0 0, .int .i64 50])) w2) ∧ (b3 = true → Calls Tryd.prog 37 #[.slice b_p b_n b_c, .int .u64 (IntKind.u64.wrap (↑cols_n : Int))] w2 fun e6 w7 ↦
 ∃ p8 n9 c10, e6 = .returned (.slice p8 n9 c10) ∧ ∃ (I11 : Option Addr → Nat → Nat → Int → World → Prop), ∃ (M12 : Option Addr → Nat → Nat → Int → World → Nat), I11 p8 n9 c10 0 w7 ∧ ∀ (p13 : Option Addr) (n14 c15 : Nat) (n16 : Int) (w'17 : World), I11 p13 n14 c15 n16 w'17 → (n16 < (↑cols_n : Int) → ∃ b20, ∃ o21, cols_p = some ⟨b20, o21, none⟩ ∧ 0 ≤ n16 ∧ n16 < (↑cols_n : Int) ∧ ∃ s22, w'17.cell? ⟨b20, (o21 + n16.toNat * 3), none⟩ = some (.string s22) ∧ Calls Tryd.prog 38 #[.slice p13 n14 c15, .string s22] w'17 fun e23 w24 ↦
 ∃ p25 n26 c27, ∃ n28, e23 = .returned (.tuple #[.slice p25 n26 c27, .int .i64 n28]) ∧ ∃ b29, ∃ o30, cols_p = some ⟨b29, o30, none⟩ ∧ 0 ≤ n16 ∧ n16 < (↑cols_n : Int) ∧ ∃ b31, w24.cell? ⟨b29, (o30 + n16.toNat * 3 + 2), none⟩ = some (.bool b31) ∧ (b31 = true → ∃ b33, ∃ o34, cols_p = some ⟨b33, o34, none⟩ ∧ 0 ≤ n16 ∧ n16 < (↑cols_n : Int) ∧ ∃ n35, w24.cell? ⟨b33, (o34 + n16.toNat * 3 + 1), none⟩ = some (.int .i64 n35) ∧ ∀ b36 w'37, New w24 (Obj.cells #[.int .u8 (IntKind.u8.wrap n35), .int .u8 1] 5) b36 w'37 → ∃ p39 n40 c41, ∃ (w'42 : World), Sem.run Tryd.prog (Builtin.append_ #[28, 28] 28 #[.slice p25 n26 c27, .slice (some ⟨b36, 0, none⟩) 2 2]) w'37 = Result.ok (.slice p39 n40 c41) w'42 ∧ I11 p39 n40 c41 (IntKind.i64.wrap (n16 + 1)) w'42 ∧ M12 p39 n40 c41 (IntKind.i64.wrap (n16 + 1)) w'42 < M12 p13 n14 c15 n16 w'17) ∧ (b31 = false → ∃ b44, ∃ o45, cols_p = some ⟨b44, o45, none⟩ ∧ 0 ≤ n16 ∧ n16 < (↑cols_n : Int) ∧ ∃ n46, w24.cell? ⟨b44, (o45 + n16.toNat * 3 + 1), none⟩ = some (.int .i64 n46) ∧ ∀ b47 w'48, New w24 (Obj.cells #[.int .u8 (IntKind.u8.wrap n46), .int .u8 0] 5) b47 w'48 → ∃ p50 n51 c52, ∃ (w'53 : World), Sem.run Tryd.prog (Builtin.append_ #[28, 28] 28 #[.slice p25 n26 c27, .slice (some ⟨b47, 0, none⟩) 2 2]) w'48 = Result.ok (.slice p50 n51 c52) w'53 ∧ I11 p50 n51 c52 (IntKind.i64.wrap (n16 + 1)) w'53 ∧ M12 p50 n51 c52 (IntKind.i64.wrap (n16 + 1)) w'53 < M12 p13 n14 c15 n16 w'17)) ∧ ((↑cols_n : Int) ≤ n16 → R (.returned (.tuple #[.slice p13 n14 c15, .int .i64 0])) w'17))

set_option maxRecDepth 100000 in
theorem r5lay_eq (b_p : Option Addr) (b_n : Nat) (b_c : Nat) (cols_p : Option Addr) (cols_n : Nat) (cols_c : Nat) (w : World) (R : Ending → World → Prop) : r5lay_T b_p b_n b_c cols_p cols_n cols_c w R = vcFn Tryd.prog [] [] Tryd.f14 [.slice b_p b_n b_c, .slice cols_p cols_n cols_c] w R := by kernel_rfl

set_option maxRecDepth 100000 in
theorem r5lay_vc (b_p : Option Addr) (b_n : Nat) (b_c : Nat) (cols_p : Option Addr) (cols_n : Nat) (cols_c : Nat) (w : World) (R : Ending → World → Prop) (hvc : r5lay_T b_p b_n b_c cols_p cols_n cols_c w R) : Calls Tryd.prog 14 #[.slice b_p b_n b_c, .slice cols_p cols_n cols_c] w R :=
  calls_of_vc (args := [.slice b_p b_n b_c, .slice cols_p cols_n cols_c]) [] [] Tryd.mixed Tryd.func14 (cast (r5lay_eq _ _ _ _ _ _ w R) hvc)

set_option maxRecDepth 100000 in
def r5take_T (b_p : Option Addr) (b_n : Nat) (b_c : Nat) (at_ : Int) (w : World) (R : Ending → World → Prop) : Prop :=
  Calls Tryd.prog 41 #[.slice b_p b_n b_c, .int .i64 at_] w fun e1 w2 ↦
 ∃ n3, ∃ n4, ∃ n5, e1 = .returned (.tuple #[.int .u64 n3, .int .i64 n4, .int .i64 n5]) ∧ (n5 ≠ 0 ∨ 16 < n3 → R (.returned (.tuple #[.slice none 0 0, .int .i64 0, .int .i64 52])) w2) ∧ (n5 = 0 ∧ n3 ≤ 16 → ∃ (I8 : Option Addr → Nat → Nat → Int → Int → World → Prop), ∃ (M9 : Option Addr → Nat → Nat → Int → Int → World → Nat), I8 none 0 0 n4 0 w2 ∧ ∀ (p10 : Option Addr) (n11 c12 : Nat) (n13 n14 : Int) (w'15 : World), I8 p10 n11 c12 n13 n14 w'15 → (n14 < IntKind.i64.wrap n3 → Calls Tryd.prog 42 #[.slice b_p b_n b_c, .int .i64 n13, .int .i64 24] w'15 fun e18 w19 ↦
 ∃ s20, ∃ n21, ∃ n22, e18 = .returned (.tuple #[.string s20, .int .i64 n21, .int .i64 n22]) ∧ (n22 ≠ 0 ∨ IntKind.i64.wrap ((↑b_n : Int) - n21) < 2 → R (.returned (.tuple #[.slice none 0 0, .int .i64 0, .int .i64 52])) w19) ∧ (n22 = 0 ∧ 2 ≤ IntKind.i64.wrap ((↑b_n : Int) - n21) → ∃ b25, ∃ o26, b_p = some ⟨b25, o26, none⟩ ∧ 0 ≤ IntKind.i64.wrap (n21 + 1) ∧ IntKind.i64.wrap (n21 + 1) < (↑b_n : Int) ∧ ∃ n27, w19.cell? ⟨b25, (o26 + (IntKind.i64.wrap (n21 + 1)).toNat), none⟩ = some (.int .u8 n27) ∧ (1 < n27 → R (.returned (.tuple #[.slice none 0 0, .int .i64 0, .int .i64 52])) w19) ∧ (n27 ≤ 1 → ∀ w'30, Drew w19 w'30 → ∃ b32, ∃ o33, b_p = some ⟨b32, o33, none⟩ ∧ 0 ≤ n21 ∧ n21 < (↑b_n : Int) ∧ ∃ n34, w'30.cell? ⟨b32, (o33 + n21.toNat), none⟩ = some (.int .u8 n34) ∧ ∃ b35, ∃ o36, b_p = some ⟨b35, o36, none⟩ ∧ 0 ≤ IntKind.i64.wrap (n21 + 1) ∧ IntKind.i64.wrap (n21 + 1) < (↑b_n : Int) ∧ ∃ n37, w'30.cell? ⟨b35, (o36 + (IntKind.i64.wrap (n21 + 1)).toNat), none⟩ = some (.int .u8 n37) ∧ ∀ b38 w'39, New w'30 (Obj.cells #[.string s20, .int .i64 (IntKind.i64.wrap n34), .bool (decide (n37 = Int.ofNat 1))] 53) b38 w'39 → ∃ p41 n42 c43, ∃ (w'44 : World), Sem.run Tryd.prog (Builtin.append_ #[22, 22] 22 #[.slice p10 n11 c12, .slice (some ⟨b38, 0, none⟩) 1 1]) w'39 = Result.ok (.slice p41 n42 c43) w'44 ∧ I8 p41 n42 c43 (IntKind.i64.wrap (n21 + 2)) (IntKind.i64.wrap (n14 + 1)) w'44 ∧ M9 p41 n42 c43 (IntKind.i64.wrap (n21 + 2)) (IntKind.i64.wrap (n14 + 1)) w'44 < M9 p10 n11 c12 n13 n14 w'15))) ∧ (IntKind.i64.wrap n3 ≤ n14 → Calls Tryd.prog 18 #[.slice p10 n11 c12] w'15 fun e46 w47 ↦
 ∃ b48, e46 = .returned (.bool b48) ∧ (b48 = false → R (.returned (.tuple #[.slice none 0 0, .int .i64 0, .int .i64 52])) w47) ∧ (b48 = true → R (.returned (.tuple #[.slice p10 n11 c12, .int .i64 n13, .int .i64 0])) w47)))

set_option maxRecDepth 100000 in
theorem r5take_eq (b_p : Option Addr) (b_n : Nat) (b_c : Nat) (at_ : Int) (w : World) (R : Ending → World → Prop) : r5take_T b_p b_n b_c at_ w R = vcFn Tryd.prog [] [(11, [2, 4, 6, 8, 10, 12, 14, 16, 18, 20, 22, 24, 26, 28, 30, 32, 34, 0])] Tryd.f16 [.slice b_p b_n b_c, .int .i64 at_] w R := by kernel_rfl

set_option maxRecDepth 100000 in
theorem r5take_vc (b_p : Option Addr) (b_n : Nat) (b_c : Nat) (at_ : Int) (w : World) (R : Ending → World → Prop) (hvc : r5take_T b_p b_n b_c at_ w R) : Calls Tryd.prog 16 #[.slice b_p b_n b_c, .int .i64 at_] w R :=
  calls_of_vc (args := [.slice b_p b_n b_c, .int .i64 at_]) [] [(11, [2, 4, 6, 8, 10, 12, 14, 16, 18, 20, 22, 24, 26, 28, 30, 32, 34, 0])] Tryd.mixed Tryd.func16 (cast (r5take_eq _ _ _ _ w R) hvc)

set_option maxRecDepth 100000 in
def r5same_T (a_p : Option Addr) (a_n : Nat) (a_c : Nat) (b_p : Option Addr) (b_n : Nat) (b_c : Nat) (w : World) (R : Ending → World → Prop) : Prop :=
  ((↑a_n : Int) ≠ (↑b_n : Int) → R (.returned (.bool false)) w) ∧ ((↑a_n : Int) = (↑b_n : Int) → ∃ (I3 : Int → World → Prop), ∃ (M4 : Int → World → Nat), I3 0 w ∧ ∀ (n5 : Int) (w'6 : World), I3 n5 w'6 → (n5 < (↑a_n : Int) → ∀ w'9, Drew w'6 w'9 → ∃ b11, ∃ o12, a_p = some ⟨b11, o12, none⟩ ∧ 0 ≤ n5 ∧ n5 < (↑a_n : Int) ∧ ∃ s13, w'9.cell? ⟨b11, (o12 + n5.toNat * 3), none⟩ = some (.string s13) ∧ ∃ n14, w'9.cell? ⟨b11, (o12 + n5.toNat * 3 + 1), none⟩ = some (.int .i64 n14) ∧ ∃ b15, w'9.cell? ⟨b11, (o12 + n5.toNat * 3 + 2), none⟩ = some (.bool b15) ∧ ∃ b16, ∃ o17, b_p = some ⟨b16, o17, none⟩ ∧ 0 ≤ n5 ∧ n5 < (↑b_n : Int) ∧ ∃ s18, w'9.cell? ⟨b16, (o17 + n5.toNat * 3), none⟩ = some (.string s18) ∧ ∃ n19, w'9.cell? ⟨b16, (o17 + n5.toNat * 3 + 1), none⟩ = some (.int .i64 n19) ∧ ∃ b20, w'9.cell? ⟨b16, (o17 + n5.toNat * 3 + 2), none⟩ = some (.bool b20) ∧ (s13 ≠ s18 ∨ n14 ≠ n19 ∨ b15 ≠ b20 → R (.returned (.bool false)) w'9) ∧ (s13 = s18 ∧ n14 = n19 ∧ b15 = b20 → I3 (IntKind.i64.wrap (n5 + 1)) w'9 ∧ M4 (IntKind.i64.wrap (n5 + 1)) w'9 < M4 n5 w'6)) ∧ ((↑a_n : Int) ≤ n5 → R (.returned (.bool true)) w'6))

set_option maxRecDepth 100000 in
theorem r5same_eq (a_p : Option Addr) (a_n : Nat) (a_c : Nat) (b_p : Option Addr) (b_n : Nat) (b_c : Nat) (w : World) (R : Ending → World → Prop) : r5same_T a_p a_n a_c b_p b_n b_c w R = vcFn Tryd.prog [] [(6, [2, 4, 6, 8, 10, 12, 14, 16, 18, 0])] Tryd.f17 [.slice a_p a_n a_c, .slice b_p b_n b_c] w R := by kernel_rfl

set_option maxRecDepth 100000 in
theorem r5same_vc (a_p : Option Addr) (a_n : Nat) (a_c : Nat) (b_p : Option Addr) (b_n : Nat) (b_c : Nat) (w : World) (R : Ending → World → Prop) (hvc : r5same_T a_p a_n a_c b_p b_n b_c w R) : Calls Tryd.prog 17 #[.slice a_p a_n a_c, .slice b_p b_n b_c] w R :=
  calls_of_vc (args := [.slice a_p a_n a_c, .slice b_p b_n b_c]) [] [(6, [2, 4, 6, 8, 10, 12, 14, 16, 18, 0])] Tryd.mixed Tryd.func17 (cast (r5same_eq _ _ _ _ _ _ w R) hvc)

set_option maxRecDepth 100000 in
def shown05_T (w : World) (R : Ending → World → Prop) : Prop :=
  ∀ b1 w'2, New w
 (Obj.cells #[.string (ByteArray.mk #[97]), .int .i64 1, .bool false, .string (ByteArray.mk #[98]), .int .i64 3, .bool true]
 53)
 b1 w'2 → Calls Tryd.prog 29 #[.slice (some ⟨b1, 0, none⟩) 2 2] w'2 fun e4 w5 ↦
 ∃ s6, ∃ n7, e4 = .returned (.tuple #[.string s6, .int .i64 n7]) ∧ (0 : Int) ≤ 1 ∧ (1 : Int) ≤ 2 ∧ Calls Tryd.prog 13 #[.slice none 0 0, .slice (some ⟨b1, 0, none⟩) 1 2] w5 fun e8 w9 ↦
 ∃ p10 n11 c12, ∃ n13, e8 = .returned (.tuple #[.slice p10 n11 c12, .int .i64 n13]) ∧ ((n7 = 0 ∧ s6 = ByteArray.mk #[97, 32, 105, 110, 116, 44, 32, 98, 32, 116, 101, 120, 116, 32, 110, 117, 108, 108]) ∧ n13 = 0 → ∃ (l15 : List UInt8), BytesAt w9 p10 n11 l15 ∧ R (.returned (.bool (sEq (ByteArray.mk (Array.mk l15)) (ByteArray.mk #[1, 1, 97, 1, 0])))) w9) ∧ ((n7 ≠ 0 ∨ s6 ≠ ByteArray.mk #[97, 32, 105, 110, 116, 44, 32, 98, 32, 116, 101, 120, 116, 32, 110, 117, 108, 108]) ∨ n13 ≠ 0 → R (.returned (.bool false)) w9)

set_option maxRecDepth 100000 in
theorem shown05_eq (w : World) (R : Ending → World → Prop) : shown05_T w R = vcFn Tryd.prog [] [] Tryd.f10 [] w R := by kernel_rfl

set_option maxRecDepth 100000 in
theorem shown05_vc (w : World) (R : Ending → World → Prop) (hvc : shown05_T w R) : Calls Tryd.prog 10 #[] w R :=
  calls_of_vc (args := []) [] [] Tryd.mixed Tryd.func10 (cast (shown05_eq w R) hvc)

set_option maxRecDepth 100000 in
def lawLays_T (b_p : Option Addr) (b_n : Nat) (b_c : Nat) (cols_p : Option Addr) (cols_n : Nat) (cols_c : Nat) (at_ : Int) (w : World) (R : Ending → World → Prop) : Prop :=
  Calls Tryd.prog 10 #[] w fun e1 w2 ↦
 ∃ b3, e1 = .returned (.bool b3) ∧ Calls Tryd.prog 13 #[.slice b_p b_n b_c, .slice cols_p cols_n cols_c] w2 fun e4 w5 ↦
 ∃ p6 n7 c8, ∃ n9, e4 = .returned (.tuple #[.slice p6 n7 c8, .int .i64 n9]) ∧ Calls Tryd.prog 14 #[.slice b_p b_n b_c, .slice cols_p cols_n cols_c] w5 fun e10 w11 ↦
 ∃ p12 n13 c14, ∃ n15, e10 = .returned (.tuple #[.slice p12 n13 c14, .int .i64 n15]) ∧ Calls Tryd.prog 15 #[.slice b_p b_n b_c, .int .i64 at_] w11 fun e16 w17 ↦
 ∃ p18 n19 c20, ∃ n21, ∃ n22, e16 = .returned (.tuple #[.slice p18 n19 c20, .int .i64 n21, .int .i64 n22]) ∧ Calls Tryd.prog 16 #[.slice b_p b_n b_c, .int .i64 at_] w17 fun e23 w24 ↦
 ∃ p25 n26 c27, ∃ n28, ∃ n29, e23 = .returned (.tuple #[.slice p25 n26 c27, .int .i64 n28, .int .i64 n29]) ∧ (b3 = true → ∃ (l31 : List UInt8), BytesAt w24 p6 n7 l31 ∧ ∃ (l32 : List UInt8), BytesAt w24 p12 n13 l32 ∧ (ByteArray.mk (Array.mk l31) = ByteArray.mk (Array.mk l32) ∧ n9 = n15 → Calls Tryd.prog 17 #[.slice p18 n19 c20, .slice p25 n26 c27] w24 fun e34 w35 ↦
 ∃ b36, e34 = .returned (.bool b36) ∧ R (.returned (.bool (b36 && decide (n21 = n28) && decide (n22 = n29)))) w35) ∧ (ByteArray.mk (Array.mk l31) ≠ ByteArray.mk (Array.mk l32) ∨ n9 ≠ n15 → R (.returned (.bool false)) w24)) ∧ (b3 = false → R (.returned (.bool false)) w24)

set_option maxRecDepth 100000 in
theorem lawLays_eq (b_p : Option Addr) (b_n : Nat) (b_c : Nat) (cols_p : Option Addr) (cols_n : Nat) (cols_c : Nat) (at_ : Int) (w : World) (R : Ending → World → Prop) : lawLays_T b_p b_n b_c cols_p cols_n cols_c at_ w R = vcFn Tryd.prog [] [] Tryd.f4 [.slice b_p b_n b_c, .slice cols_p cols_n cols_c, .int .i64 at_] w R := by kernel_rfl

set_option maxRecDepth 100000 in
theorem lawLays_vc (b_p : Option Addr) (b_n : Nat) (b_c : Nat) (cols_p : Option Addr) (cols_n : Nat) (cols_c : Nat) (at_ : Int) (w : World) (R : Ending → World → Prop) (hvc : lawLays_T b_p b_n b_c cols_p cols_n cols_c at_ w R) : Calls Tryd.prog 4 #[.slice b_p b_n b_c, .slice cols_p cols_n cols_c, .int .i64 at_] w R :=
  calls_of_vc (args := [.slice b_p b_n b_c, .slice cols_p cols_n cols_c, .int .i64 at_]) [] [] Tryd.mixed Tryd.func4 (cast (lawLays_eq _ _ _ _ _ _ _ w R) hvc)

end Go.Proofs.YtiojkfckaalooaaDoor

/- The frame, its blocks in any order; blocks for deferred calls that are not known one by one. -/
namespace Go.Vc
open Go Go.RowKit

section
variable {w0 W W' : World} {fs fs' gs : List (Nat × Obj)} {B d : Nat} {ds : List Nat} {ms : List Row}

theorem Hold.mem (h : Hold w0 W fs ms) {x : Nat × Obj} (hx : x ∈ fs) : W.heap[x.1]? = some x.2 := by
  obtain ⟨i, hi⟩ := List.mem_iff_getElem?.1 hx
  exact h.holds i x hi
theorem Hold.ltM (h : Hold w0 W fs ms) {x : Nat × Obj} (hx : x ∈ fs) : x.1 < W.heap.size := (Array.getElem?_eq_some_iff.1 (h.mem hx)).1
theorem Hold.nodup (h : Hold w0 W fs ms) : (fs.map (·.1)).Nodup := by
  rw [List.Nodup, List.pairwise_iff_getElem]
  intro i j hi hj hij
  simp only [List.getElem_map]
  simp only [List.length_map] at hi hj
  exact h.keys i j _ _ (List.getElem?_eq_getElem hi) (List.getElem?_eq_getElem hj) (by omega)
theorem Hold.make (e : Ext w0 W) (h : ∀ x ∈ fs, w0.heap.size ≤ x.1 ∧ W.heap[x.1]? = some x.2) (hn : (fs.map (·.1)).Nodup) : Hold w0 W fs [] := by
  refine ⟨e, fun x hx => (h x hx).1, fun i x hx => (h x (List.mem_of_getElem? hx)).2, fun i j x y hx hy hij => ?_, by simp, by simp, by simp⟩
  rw [List.Nodup, List.pairwise_iff_getElem] at hn
  obtain ⟨hi, rfl⟩ := List.getElem?_eq_some_iff.1 hx
  obtain ⟨hj, rfl⟩ := List.getElem?_eq_some_iff.1 hy
  rcases Nat.lt_or_ge i j with hlt | hge
  · have := hn i j (by simpa) (by simpa) hlt
    rwa [List.getElem_map, List.getElem_map] at this
  · have := hn j i (by simpa) (by simpa) (by omega)
    rw [List.getElem_map, List.getElem_map] at this
    exact this.symm
theorem Hold.perm (h : Hold w0 W fs []) (hp : fs.Perm fs') : Hold w0 W fs' [] :=
  Hold.make h.ext (fun x hx => ⟨h.ge x (hp.mem_iff.2 hx), h.mem (hp.mem_iff.2 hx)⟩) ((hp.map _).nodup_iff.1 h.nodup)
theorem Hold.sub (h : Hold w0 W fs []) (hp : fs'.Sublist fs) : Hold w0 W fs' [] :=
  Hold.make h.ext (fun x hx => ⟨h.ge x (hp.subset hx), h.mem (hp.subset hx)⟩) (h.nodup.sublist (hp.map _))
theorem Hold.swap {a b c : List (Nat × Obj)} (h : Hold w0 W ((a ++ b) ++ c) []) : Hold w0 W (b ++ (a ++ c)) [] := by
  rw [← List.append_assoc]
  exact h.perm (List.perm_append_comm.append_right c)
theorem Hold.left {a b : List (Nat × Obj)} (h : Hold w0 W (a ++ b) []) : Hold w0 W a [] := h.sub (List.sublist_append_left _ _)
theorem Hold.right {a b : List (Nat × Obj)} (h : Hold w0 W (a ++ b) []) : Hold w0 W b [] := h.sub (List.sublist_append_right _ _)
theorem Hold.but {b : Nat} (h : Hold w0 W fs []) (e : But b W W') (hb : w0.heap.size ≤ b) (hf : ∀ x ∈ fs, x.1 ≠ b) : Hold w0 W' fs [] :=
  Hold.make (h.ext.below.but e hb h.size) (fun x hx => ⟨h.ge x hx, (e.block _ (h.ltM hx) (hf x hx)).trans (h.mem hx)⟩) h.nodup

/-- Open blocks as held ones. -/
def dfs (ds : List Nat) : List (Nat × Obj) := ds.map fun d => (d, .deferred (some []))
theorem Hold.opened (h : Hold w0 W (dfs ds ++ fs) []) (hB : ∀ d ∈ ds, B ≤ d) : Go.Vc.Open B ds W := by
  constructor
  · have := h.left.nodup
    have e : (dfs ds).map (·.1) = ds := by unfold dfs; rw [List.map_map]; exact List.map_id _
    rwa [e] at this
  · intro d hd
    exact ⟨hB d hd, h.mem (x := (d, .deferred (some []))) (List.mem_append_left _ (List.mem_map.2 ⟨d, hd, rfl⟩))⟩
end

theorem Blk.c6 {w : World} {b : Nat} {t : TypeId} {x y z u v q : Value} (h : Blk w b t #[x, y, z, u, v, q]) : w.cell? ⟨b, 0, none⟩ = some x ∧ w.cell? ⟨b, 1, none⟩ = some y ∧ w.cell? ⟨b, 2, none⟩ = some z ∧
    w.cell? ⟨b, 3, none⟩ = some u ∧ w.cell? ⟨b, 4, none⟩ = some v ∧ w.cell? ⟨b, 5, none⟩ = some q := by
  refine ⟨?_, ?_, ?_, ?_, ?_, ?_⟩ <;> (rw [h.cell]; rfl)
/-- A block of six cells can be written. -/
theorem Blk.w6 {w : World} {b : Nat} {t : TypeId} {x y z u v q : Value} (h : Blk w b t #[x, y, z, u, v, q]) {X : Prop} (hX : X) : (∃ u, w.cell? ⟨b, 0, none⟩ = some u) ∧ w.frozen? ⟨b, 0, none⟩ = false ∧ (∃ u, w.cell? ⟨b, 1, none⟩ = some u) ∧ w.frozen? ⟨b, 1, none⟩ = false ∧
    (∃ u, w.cell? ⟨b, 2, none⟩ = some u) ∧ w.frozen? ⟨b, 2, none⟩ = false ∧ (∃ u, w.cell? ⟨b, 3, none⟩ = some u) ∧ w.frozen? ⟨b, 3, none⟩ = false ∧ (∃ u, w.cell? ⟨b, 4, none⟩ = some u) ∧ w.frozen? ⟨b, 4, none⟩ = false ∧
    (∃ u, w.cell? ⟨b, 5, none⟩ = some u) ∧ w.frozen? ⟨b, 5, none⟩ = false ∧ X := by
  obtain ⟨a0, a1, a2, a3, a4, a5⟩ := h.c6
  exact ⟨⟨_, a0⟩, h.frozen _, ⟨_, a1⟩, h.frozen _, ⟨_, a2⟩, h.frozen _, ⟨_, a3⟩, h.frozen _, ⟨_, a4⟩, h.frozen _, ⟨_, a5⟩, h.frozen _, hX⟩
end Go.Vc
namespace Go.Vc
open Go Go.RowKit
end Go.Vc

/- Cells out of the frame, one by one: what the printed steps of a walk use. -/
namespace Go.Vc
open Go Go.RowKit

section
variable {w0 W W' : World} {fs : List (Nat × Obj)} {ms : List Row} {b k : Nat} {t : TypeId} {cs : Array Value} {v : Value}
theorem Hold.get (h : Hold w0 W fs ms) (i : Nat) (hi : fs[i]? = some (b, .cells cs t (0, 0))) (hk : cs[k]? = some v) : W.cell? ⟨b, k, none⟩ = some v := by
  rw [(h.blk i hi).cell]; exact hk
theorem Hold.frz (h : Hold w0 W fs ms) (i : Nat) (hi : fs[i]? = some (b, .cells cs t (0, 0))) : W.frozen? ⟨b, k, none⟩ = false := (h.blk i hi).frozen k
end
end Go.Vc

/- The contracts of package value's bytes, and of the document's answer for them. -/
namespace Go.Proofs.YtiojkfckaalooaaDoor
open Go Go.Vc Go.RowKit
set_option maxRecDepth 20000
attribute [local irreducible] Calls Put Drew New

def takeVV (l : List UInt8) (pos : Int) : Value :=
  match takeVal l pos with
  | some (v, k) => .tuple #[v.agg, .int .i64 (k : Int), .int .i64 0]
  | none => .tuple #[nullV.agg, .int .i64 0, .int .i64 20]
def layV (l : List UInt8) (v : Val) : List UInt8 × Int := if v.right then (l ++ valB v, 0) else ([], 2)
theorem In.byte {w : World} {p : Option Addr} {n c : Nat} {l : List UInt8} (h : In w p n c l) {i : Nat} (hi : i < n) : ∃ b o, p = some ⟨b, o, none⟩ ∧ w.cell? ⟨b, o + i, none⟩ = some (.int .u8 ((by_ l i : Nat) : Int)) := by
  have hl := h.len
  obtain ⟨b, o, hp, hc⟩ := h.lies.getB (i := i) (by omega)
  refine ⟨b, o, hp, ?_⟩
  rw [hc]
  unfold by_
  rw [List.getD_eq_getElem?_getD, List.getElem?_eq_getElem (by omega)]; rfl
theorem by_lt (l : List UInt8) (i : Nat) : by_ l i < 256 := UInt8.toNat_lt _
end Go.Proofs.YtiojkfckaalooaaDoor

/- The contracts of the document's answer for value's bytes; laying. Printed by mkvb2.py. -/
namespace Go.Proofs.YtiojkfckaalooaaDoor
open Go Go.Vc Go.RowKit
set_option maxRecDepth 20000
attribute [local irreducible] Calls Put Drew New

/-! ### Laying -/
theorem undB : Tryd.prog.underlying 28 = some (.slice 5) := by kernel_rfl
theorem tyB : tyOf Tryd.prog 5 = some { agg := false, ls := [.int .u8], zero := .int .u8 0, bytes := 1, big := false, n := 1 } := by kernel_rfl
theorem hold_in {w0 W : World} {fs : List (Nat × Obj)} {ms : List Row} (H : Hold w0 W fs ms) (i : Nat) {p : Option Addr} {n c : Nat} {l : List UInt8} (hi : ms[i]? = some ⟨5, 1, p, n, c, vB l⟩) (hl : l.length = n) : In W p n c l :=
  ⟨hl, (H.row i hi).cap, (H.row i hi).at, (H.row i hi).isNil⟩
theorem hold_out {w0 W : World} {fs : List (Nat × Obj)} {ms : List Row} (H : Hold w0 W fs ms) (i : Nat) {p : Option Addr} {n c : Nat} {l : List UInt8} (hi : ms[i]? = some ⟨5, 1, p, n, c, vB l⟩) (hl : l.length = n) : Out w0.heap.size W p n c l := ⟨hl, H.row i hi⟩

end Go.Proofs.YtiojkfckaalooaaDoor

/- The verification conditions of the functions, evaluated: printed by program. -/
namespace Go.Proofs.YtiojkfckaalooaaDoor
open Go Go.Vc
set_option maxRecDepth 20000

set_option maxRecDepth 100000 in
def sisname_T (s : ByteArray) (w : World) (R : Ending → World → Prop) : Prop :=
  (s ≠ ByteArray.mk #[] ∧ (↑s.size : Int) ≤ 24 → (0 : Int) ≤ 0 ∧ 0 < (↑s.size : Int) ∧ Calls Tryd.prog 46
 #[.string (ByteArray.mk #[97, 98, 99, 100, 101, 102, 103, 104, 105, 106, 107, 108, 109, 110, 111, 112, 113, 114, 115, 116, 117, 118, 119, 120, 121, 122]), .int .u8 (bAt s 0)]
 w fun e2 w3 ↦
 ∃ n4, e2 = .returned (.int .i64 n4) ∧ (0 ≤ n4 → Calls Tryd.prog 47
 #[.string s, Value.string
 (ByteArray.mk
 #[97, 98, 99, 100, 101, 102, 103, 104, 105, 106, 107, 108, 109, 110, 111, 112, 113, 114, 115, 116, 117, 118, 119, 120, 121, 122, 48, 49, 50, 51, 52, 53, 54, 55, 56, 57, 95])]
 w3 fun e6 w7 ↦ ∃ s8, e6 = .returned (.string s8) ∧ R (.returned (.bool (sEq s8 ⟨#[]⟩))) w7) ∧ (n4 < 0 → R (.returned (.bool false)) w3)) ∧ (s = ByteArray.mk #[] ∨ 24 < (↑s.size : Int) → R (.returned (.bool false)) w)

set_option maxRecDepth 100000 in
theorem sisname_eq (s : ByteArray) (w : World) (R : Ending → World → Prop) : sisname_T s w R = vcFn Tryd.prog [] [] Tryd.f22 [.string s] w R := by kernel_rfl

set_option maxRecDepth 100000 in
theorem sisname_vc (s : ByteArray) (w : World) (R : Ending → World → Prop) (hvc : sisname_T s w R) : Calls Tryd.prog 22 #[.string s] w R :=
  calls_of_vc (args := [.string s]) [] [] Tryd.mixed Tryd.func22 (cast (sisname_eq _ w R) hvc)

set_option maxRecDepth 100000 in
def sidxb_T (s : ByteArray) (c : Int) (w : World) (R : Ending → World → Prop) : Prop :=
  Calls Tryd.prog 64 #[.string s, .int .u8 c] w fun e1 w2 ↦
 ∃ n3, e1 = .returned (.int .i64 n3) ∧ R (.returned (.int .i64 n3)) w2

set_option maxRecDepth 100000 in
theorem sidxb_eq (s : ByteArray) (c : Int) (w : World) (R : Ending → World → Prop) : sidxb_T s c w R = vcFn Tryd.prog [] [] Tryd.f46 [.string s, .int .u8 c] w R := by kernel_rfl

set_option maxRecDepth 100000 in
theorem sidxb_vc (s : ByteArray) (c : Int) (w : World) (R : Ending → World → Prop) (hvc : sidxb_T s c w R) : Calls Tryd.prog 46 #[.string s, .int .u8 c] w R :=
  calls_of_vc (args := [.string s, .int .u8 c]) [] [] Tryd.mixed Tryd.func46 (cast (sidxb_eq _ _ w R) hvc)

set_option maxRecDepth 100000 in
def slidxb_T (s : ByteArray) (c : Int) (w : World) (R : Ending → World → Prop) : Prop :=
  ∃ n1, ∃ (w'2 : World), Sem.run Tryd.prog (callFunc 84 #[.string s, .int .u8 c]) w = Result.ok (Next.value (.int .i64 n1)) w'2 ∧ R (.returned (.int .i64 n1)) w'2

set_option maxRecDepth 100000 in
theorem slidxb_eq (s : ByteArray) (c : Int) (w : World) (R : Ending → World → Prop) : slidxb_T s c w R = vcFn Tryd.prog [] [] Tryd.f64 [.string s, .int .u8 c] w R := by kernel_rfl

set_option maxRecDepth 100000 in
theorem slidxb_vc (s : ByteArray) (c : Int) (w : World) (R : Ending → World → Prop) (hvc : slidxb_T s c w R) : Calls Tryd.prog 64 #[.string s, .int .u8 c] w R :=
  calls_of_vc (args := [.string s, .int .u8 c]) [] [] Tryd.mixed Tryd.func64 (cast (slidxb_eq _ _ w R) hvc)

set_option maxRecDepth 100000 in
def strim_T (s : ByteArray) (cutset : ByteArray) (w : World) (R : Ending → World → Prop) : Prop :=
  (s = ByteArray.mk #[] ∨ cutset = ByteArray.mk #[] → R (.returned (.string s)) w) ∧ (s ≠ ByteArray.mk #[] ∧ cutset ≠ ByteArray.mk #[] → ((↑cutset.size : Int) = 1 → (0 : Int) ≤ 0 ∧ 0 < (↑cutset.size : Int) ∧ (bAt cutset 0 < 128 → ∀ w'5, Drew w w'5 → (0 : Int) ≤ 0 ∧ 0 < (↑cutset.size : Int) ∧ (0 : Int) ≤ 0 ∧ 0 < (↑cutset.size : Int) ∧ Calls Tryd.prog 66 #[.string s, .int .u8 (bAt cutset 0)] w'5 fun e7 w8 ↦
 ∃ s9, e7 = .returned (.string s9) ∧ Calls Tryd.prog 65 #[.string s9, .int .u8 (bAt cutset 0)] w8 fun e10 w11 ↦
 ∃ s12, e10 = .returned (.string s12) ∧ R (.returned (.string s12)) w11) ∧ (128 ≤ bAt cutset 0 → Calls Tryd.prog 67 #[.string cutset] w fun e14 w15 ↦
 ∃ (vs16 : Array Value), vs16.size = 256 ∧ ∃ b17, e14 = .returned (.tuple #[.agg vs16, .bool b17]) ∧ ∀ b18 w'19, New w15 (Obj.cells (zeroA Tryd.prog 93) 93) b18 w'19 → vs16.size = 256 ∧ CanPut w'19 b18 0 vs16 ∧ ∀ w'21, Put w'19 b18 0 vs16.1 w'21 → (b17 = true → Calls Tryd.prog 69 #[.string s, .pointer (some ⟨b18, 0, none⟩)] w'21 fun e24 w25 ↦
 ∃ s26, e24 = .returned (.string s26) ∧ Calls Tryd.prog 68 #[.string s26, .pointer (some ⟨b18, 0, none⟩)] w25 fun e27 w28 ↦
 ∃ s29, e27 = .returned (.string s29) ∧ R (.returned (.string s29)) w28) ∧ (b17 = false → Calls Tryd.prog 71 #[.string s, .string cutset] w'21 fun e31 w32 ↦
 ∃ s33, e31 = .returned (.string s33) ∧ Calls Tryd.prog 70 #[.string s33, .string cutset] w32 fun e34 w35 ↦
 ∃ s36, e34 = .returned (.string s36) ∧ R (.returned (.string s36)) w35))) ∧ ((↑cutset.size : Int) ≠ 1 → Calls Tryd.prog 67 #[.string cutset] w fun e38 w39 ↦
 ∃ (vs40 : Array Value), vs40.size = 256 ∧ ∃ b41, e38 = .returned (.tuple #[.agg vs40, .bool b41]) ∧ ∀ b42 w'43, New w39 (Obj.cells (zeroA Tryd.prog 93) 93) b42 w'43 → vs40.size = 256 ∧ CanPut w'43 b42 0 vs40 ∧ ∀ w'45, Put w'43 b42 0 vs40.1 w'45 → (b41 = true → Calls Tryd.prog 69 #[.string s, .pointer (some ⟨b42, 0, none⟩)] w'45 fun e48 w49 ↦
 ∃ s50, e48 = .returned (.string s50) ∧ Calls Tryd.prog 68 #[.string s50, .pointer (some ⟨b42, 0, none⟩)] w49 fun e51 w52 ↦
 ∃ s53, e51 = .returned (.string s53) ∧ R (.returned (.string s53)) w52) ∧ (b41 = false → Calls Tryd.prog 71 #[.string s, .string cutset] w'45 fun e55 w56 ↦
 ∃ s57, e55 = .returned (.string s57) ∧ Calls Tryd.prog 70 #[.string s57, .string cutset] w56 fun e58 w59 ↦
 ∃ s60, e58 = .returned (.string s60) ∧ R (.returned (.string s60)) w59)))

set_option maxRecDepth 100000 in
theorem strim_eq (s : ByteArray) (cutset : ByteArray) (w : World) (R : Ending → World → Prop) : strim_T s cutset w R = vcFn Tryd.prog [] [(4, [2, 4, 6, 10, 12, 8, 14, 16, 0])] Tryd.f47 [.string s, .string cutset] w R := by kernel_rfl

set_option maxRecDepth 100000 in
theorem strim_vc (s : ByteArray) (cutset : ByteArray) (w : World) (R : Ending → World → Prop) (hvc : strim_T s cutset w R) : Calls Tryd.prog 47 #[.string s, .string cutset] w R :=
  calls_of_vc (args := [.string s, .string cutset]) [] [(4, [2, 4, 6, 10, 12, 8, 14, 16, 0])] Tryd.mixed Tryd.func47 (cast (strim_eq _ _ w R) hvc)

set_option maxRecDepth 100000 in
def mkascii_T (chars : ByteArray) (w : World) (R : Ending → World → Prop) : Prop :=
  ∀ b1 w'2, New w (Obj.cells (zeroA Tryd.prog 93) 93) b1 w'2 → ∃ (I4 : Int → World → Prop), ∃ (M5 : Int → World → Nat), I4 0 w'2 ∧ ∀ (n6 : Int) (w'7 : World), I4 n6 w'7 → (n6 < (↑chars.size : Int) → 0 ≤ n6 ∧ n6 < (↑chars.size : Int) ∧ (128 ≤ bAt chars n6.toNat → ∃ (vs11 : Array Value), vs11.size = 256 ∧ CellsAt w'7 b1 0 vs11 ∧ vs11.size = 256 ∧ CanPut w'7 b1 0 vs11 ∧ ∀ w'12, Put w'7 b1 0 vs11.1 w'12 → ∃ (vs14 : Array Value), vs14.size = 256 ∧ CellsAt w'12 b1 0 vs14 ∧ R (.returned (.tuple #[.agg vs14, .bool false])) w'12) ∧ (bAt chars n6.toNat < 128 → 0 ≤ bAt chars n6.toNat ∧ bAt chars n6.toNat < 256 ∧ (∃ u16, w'7.cell? ⟨b1, (0 + (bAt chars n6.toNat).toNat), none⟩ = some u16) ∧ w'7.frozen? ⟨b1, (0 + (bAt chars n6.toNat).toNat), none⟩ = false ∧ ∀ w'17, Put w'7 b1 (0 + (bAt chars n6.toNat).toNat) [.bool true] w'17 → I4 (IntKind.i64.wrap (n6 + 1)) w'17 ∧ M5 (IntKind.i64.wrap (n6 + 1)) w'17 < M5 n6 w'7)) ∧ ((↑chars.size : Int) ≤ n6 → ∃ (vs20 : Array Value), vs20.size = 256 ∧ CellsAt w'7 b1 0 vs20 ∧ vs20.size = 256 ∧ CanPut w'7 b1 0 vs20 ∧ ∀ w'21, Put w'7 b1 0 vs20.1 w'21 → ∃ (vs23 : Array Value), vs23.size = 256 ∧ CellsAt w'21 b1 0 vs23 ∧ R (.returned (.tuple #[.agg vs23, .bool true])) w'21)

set_option maxRecDepth 100000 in
theorem mkascii_eq (chars : ByteArray) (w : World) (R : Ending → World → Prop) : mkascii_T chars w R = vcFn Tryd.prog [] [] Tryd.f67 [.string chars] w R := by kernel_rfl

set_option maxRecDepth 100000 in
theorem mkascii_vc (chars : ByteArray) (w : World) (R : Ending → World → Prop) (hvc : mkascii_T chars w R) : Calls Tryd.prog 67 #[.string chars] w R :=
  calls_of_vc (args := [.string chars]) [] [] Tryd.mixed Tryd.func67 (cast (mkascii_eq _ w R) hvc)

set_option maxRecDepth 100000 in
def trimla_T (s : ByteArray) («as» : Option Addr) (w : World) (R : Ending → World → Prop) : Prop :=
  ∃ (I1 : ByteArray → World → Prop), ∃ (M2 : ByteArray → World → Nat), I1 s w ∧ ∀ (s3 : ByteArray) (w'4 : World), I1 s3 w'4 → (0 < (↑s3.size : Int) → (0 : Int) ≤ 0 ∧ 0 < (↑s3.size : Int) ∧ Calls Tryd.prog 85 #[.pointer «as», .int .u8 (bAt s3 0)] w'4 fun e7 w8 ↦
 ∃ b9, e7 = .returned (.bool b9) ∧ (b9 = false → R (.returned (.string s3)) w8) ∧ (b9 = true → (0 : Int) ≤ 1 ∧ 1 ≤ (↑s3.size : Int) ∧ I1 (s3.extract 1 s3.size) w8 ∧ M2 (s3.extract 1 s3.size) w8 < M2 s3 w'4)) ∧ ((↑s3.size : Int) ≤ 0 → R (.returned (.string s3)) w'4)

set_option maxRecDepth 100000 in
theorem trimla_eq (s : ByteArray) («as» : Option Addr) (w : World) (R : Ending → World → Prop) : trimla_T s «as» w R = vcFn Tryd.prog [] [] Tryd.f68 [.string s, .pointer «as»] w R := by kernel_rfl

set_option maxRecDepth 100000 in
theorem trimla_vc (s : ByteArray) («as» : Option Addr) (w : World) (R : Ending → World → Prop) (hvc : trimla_T s «as» w R) : Calls Tryd.prog 68 #[.string s, .pointer «as»] w R :=
  calls_of_vc (args := [.string s, .pointer «as»]) [] [] Tryd.mixed Tryd.func68 (cast (trimla_eq _ _ w R) hvc)

set_option maxRecDepth 100000 in
def trimra_T (s : ByteArray) («as» : Option Addr) (w : World) (R : Ending → World → Prop) : Prop :=
  ∃ (I1 : ByteArray → World → Prop), ∃ (M2 : ByteArray → World → Nat), I1 s w ∧ ∀ (s3 : ByteArray) (w'4 : World), I1 s3 w'4 → (0 < (↑s3.size : Int) → 0 ≤ IntKind.i64.wrap ((↑s3.size : Int) - 1) ∧ IntKind.i64.wrap ((↑s3.size : Int) - 1) < (↑s3.size : Int) ∧ Calls Tryd.prog 85 #[.pointer «as», .int .u8 (bAt s3 (IntKind.i64.wrap ((↑s3.size : Int) - 1)).toNat)] w'4 fun e7 w8 ↦
 ∃ b9, e7 = .returned (.bool b9) ∧ (b9 = false → R (.returned (.string s3)) w8) ∧ (b9 = true → 0 ≤ IntKind.i64.wrap ((↑s3.size : Int) - 1) ∧ IntKind.i64.wrap ((↑s3.size : Int) - 1) ≤ (↑s3.size : Int) ∧ I1 (s3.extract 0 (IntKind.i64.wrap ((↑s3.size : Int) - 1)).toNat) w8 ∧ M2 (s3.extract 0 (IntKind.i64.wrap ((↑s3.size : Int) - 1)).toNat) w8 < M2 s3 w'4)) ∧ ((↑s3.size : Int) ≤ 0 → R (.returned (.string s3)) w'4)

set_option maxRecDepth 100000 in
theorem trimra_eq (s : ByteArray) («as» : Option Addr) (w : World) (R : Ending → World → Prop) : trimra_T s «as» w R = vcFn Tryd.prog [] [] Tryd.f69 [.string s, .pointer «as»] w R := by kernel_rfl

set_option maxRecDepth 100000 in
theorem trimra_vc (s : ByteArray) («as» : Option Addr) (w : World) (R : Ending → World → Prop) (hvc : trimra_T s «as» w R) : Calls Tryd.prog 69 #[.string s, .pointer «as»] w R :=
  calls_of_vc (args := [.string s, .pointer «as»]) [] [] Tryd.mixed Tryd.func69 (cast (trimra_eq _ _ w R) hvc)

set_option maxRecDepth 100000 in
def ascont_T («as» : Option Addr) (c : Int) (w : World) (R : Ending → World → Prop) : Prop :=
  ∃ b1, ∃ o2, «as» = some ⟨b1, o2, none⟩ ∧ 0 ≤ c ∧ c < 256 ∧ ∃ b3, w.cell? ⟨b1, (o2 + c.toNat), none⟩ = some (.bool b3) ∧ R (.returned (.bool b3)) w

set_option maxRecDepth 100000 in
theorem ascont_eq («as» : Option Addr) (c : Int) (w : World) (R : Ending → World → Prop) : ascont_T «as» c w R = vcFn Tryd.prog [] [] Tryd.f85 [.pointer «as», .int .u8 c] w R := by kernel_rfl

set_option maxRecDepth 100000 in
theorem ascont_vc («as» : Option Addr) (c : Int) (w : World) (R : Ending → World → Prop) (hvc : ascont_T «as» c w R) : Calls Tryd.prog 85 #[.pointer «as», .int .u8 c] w R :=
  calls_of_vc (args := [.pointer «as», .int .u8 c]) [] [] Tryd.mixed Tryd.func85 (cast (ascont_eq _ _ w R) hvc)

set_option maxRecDepth 100000 in
def sright_T (cols_p : Option Addr) (cols_n : Nat) (cols_c : Nat) (w : World) (R : Ending → World → Prop) : Prop :=
  ∀ b1 w'2, New w (Obj.map #[] 0) b1 w'2 → ∃ (I4 : Int → World → Prop), ∃ (M5 : Int → World → Nat), I4 0 w'2 ∧ ∀ (n6 : Int) (w'7 : World), I4 n6 w'7 → (n6 < (↑cols_n : Int) → ∃ b10, ∃ o11, cols_p = some ⟨b10, o11, none⟩ ∧ 0 ≤ n6 ∧ n6 < (↑cols_n : Int) ∧ ∃ s12, w'7.cell? ⟨b10, (o11 + n6.toNat * 3), none⟩ = some (.string s12) ∧ ∃ n13, w'7.cell? ⟨b10, (o11 + n6.toNat * 3 + 1), none⟩ = some (.int .i64 n13) ∧ ∃ b14, w'7.cell? ⟨b10, (o11 + n6.toNat * 3 + 2), none⟩ = some (.bool b14) ∧ ∀ b15 w'16, New w'7 (Obj.cells #[.string ⟨#[]⟩, .int .i64 0, .bool false] 53) b15 w'16 → (∃ u18, w'16.cell? ⟨b15, 0, none⟩ = some u18) ∧ w'16.frozen? ⟨b15, 0, none⟩ = false ∧ (∃ u19, w'16.cell? ⟨b15, 1, none⟩ = some u19) ∧ w'16.frozen? ⟨b15, 1, none⟩ = false ∧ (∃ u20, w'16.cell? ⟨b15, 2, none⟩ = some u20) ∧ w'16.frozen? ⟨b15, 2, none⟩ = false ∧ ∀ w'21, Put w'16 b15 0 [.string s12, .int .i64 n13, .bool b14] w'21 → ∃ s23, w'21.cell? ⟨b15, 0, none⟩ = some (.string s23) ∧ Calls Tryd.prog 22 #[.string s23] w'21 fun e24 w25 ↦
 ∃ b26, e24 = .returned (.bool b26) ∧ (b26 = false → R (.returned (.bool false)) w25) ∧ (b26 = true → ∃ s29, w25.cell? ⟨b15, 0, none⟩ = some (.string s29) ∧ ∃ b30, (∀ (w131 : World), Same w25 w131 → Sem.run Tryd.prog (Instr.lookup 54 (.map (some b1)) (.string s29) false) w131 = Result.ok (.bool b30) w131) ∧ (b30 = true → R (.returned (.bool false)) w25) ∧ (b30 = false → ∃ n35, w25.cell? ⟨b15, 1, none⟩ = some (.int .i64 n35) ∧ (n35 < 1 → R (.returned (.bool false)) w25) ∧ (1 ≤ n35 → ∃ n38, w25.cell? ⟨b15, 1, none⟩ = some (.int .i64 n38) ∧ (3 < n38 → R (.returned (.bool false)) w25) ∧ (n38 ≤ 3 → ∃ s41, w25.cell? ⟨b15, 0, none⟩ = some (.string s41) ∧ ∃ (w'42 : World), Sem.run Tryd.prog (Instr.mapUpdate 54 (.map (some b1)) (.string s41) (.bool true)) w25 = Result.ok () w'42 ∧ I4 (IntKind.i64.wrap (n6 + 1)) w'42 ∧ M5 (IntKind.i64.wrap (n6 + 1)) w'42 < M5 n6 w'7))))) ∧ ((↑cols_n : Int) ≤ n6 → R (.returned (.bool (decide (0 < (↑cols_n : Int)) && decide ((↑cols_n : Int) ≤ 16)))) w'7)

set_option maxRecDepth 100000 in
theorem sright_eq (cols_p : Option Addr) (cols_n : Nat) (cols_c : Nat) (w : World) (R : Ending → World → Prop) : sright_T cols_p cols_n cols_c w R = vcFn Tryd.prog [] [] Tryd.f11 [.slice cols_p cols_n cols_c] w R := by kernel_rfl

set_option maxRecDepth 100000 in
theorem sright_vc (cols_p : Option Addr) (cols_n : Nat) (cols_c : Nat) (w : World) (R : Ending → World → Prop) (hvc : sright_T cols_p cols_n cols_c w R) : Calls Tryd.prog 11 #[.slice cols_p cols_n cols_c] w R :=
  calls_of_vc (args := [.slice cols_p cols_n cols_c]) [] [] Tryd.mixed Tryd.func11 (cast (sright_eq _ _ _ w R) hvc)

set_option maxRecDepth 100000 in
def r5isname_T (s : ByteArray) (w : World) (R : Ending → World → Prop) : Prop :=
  ∃ (I1 : Int → World → Prop), ∃ (M2 : Int → World → Nat), I1 0 w ∧ ∀ (n3 : Int) (w'4 : World), I1 n3 w'4 → (n3 < (↑s.size : Int) → 0 ≤ n3 ∧ n3 < (↑s.size : Int) ∧ (97 ≤ bAt s n3.toNat → 0 ≤ n3 ∧ n3 < (↑s.size : Int) ∧ 0 ≤ n3 ∧ n3 < (↑s.size : Int) ∧ (48 ≤ bAt s n3.toNat → 0 ≤ n3 ∧ n3 < (↑s.size : Int) ∧ (bAt s n3.toNat ≤ 57 → (122 < bAt s n3.toNat → (n3 = 0 → R (.returned (.bool false)) w'4) ∧ (n3 ≠ 0 → I1 (IntKind.i64.wrap (n3 + 1)) w'4 ∧ M2 (IntKind.i64.wrap (n3 + 1)) w'4 < M2 n3 w'4)) ∧ (bAt s n3.toNat ≤ 122 → I1 (IntKind.i64.wrap (n3 + 1)) w'4 ∧ M2 (IntKind.i64.wrap (n3 + 1)) w'4 < M2 n3 w'4)) ∧ (57 < bAt s n3.toNat → 0 ≤ n3 ∧ n3 < (↑s.size : Int) ∧ (122 < bAt s n3.toNat → (bAt s n3.toNat ≠ 95 ∨ n3 = 0 → R (.returned (.bool false)) w'4) ∧ (bAt s n3.toNat = 95 ∧ n3 ≠ 0 → I1 (IntKind.i64.wrap (n3 + 1)) w'4 ∧ M2 (IntKind.i64.wrap (n3 + 1)) w'4 < M2 n3 w'4)) ∧ (bAt s n3.toNat ≤ 122 → I1 (IntKind.i64.wrap (n3 + 1)) w'4 ∧ M2 (IntKind.i64.wrap (n3 + 1)) w'4 < M2 n3 w'4))) ∧ (bAt s n3.toNat < 48 → 0 ≤ n3 ∧ n3 < (↑s.size : Int) ∧ (122 < bAt s n3.toNat → (bAt s n3.toNat ≠ 95 ∨ n3 = 0 → R (.returned (.bool false)) w'4) ∧ (bAt s n3.toNat = 95 ∧ n3 ≠ 0 → I1 (IntKind.i64.wrap (n3 + 1)) w'4 ∧ M2 (IntKind.i64.wrap (n3 + 1)) w'4 < M2 n3 w'4)) ∧ (bAt s n3.toNat ≤ 122 → I1 (IntKind.i64.wrap (n3 + 1)) w'4 ∧ M2 (IntKind.i64.wrap (n3 + 1)) w'4 < M2 n3 w'4))) ∧ (bAt s n3.toNat < 97 → 0 ≤ n3 ∧ n3 < (↑s.size : Int) ∧ (48 ≤ bAt s n3.toNat → 0 ≤ n3 ∧ n3 < (↑s.size : Int) ∧ (bAt s n3.toNat ≤ 57 → (n3 = 0 → R (.returned (.bool false)) w'4) ∧ (n3 ≠ 0 → I1 (IntKind.i64.wrap (n3 + 1)) w'4 ∧ M2 (IntKind.i64.wrap (n3 + 1)) w'4 < M2 n3 w'4)) ∧ (57 < bAt s n3.toNat → 0 ≤ n3 ∧ n3 < (↑s.size : Int) ∧ (bAt s n3.toNat ≠ 95 ∨ n3 = 0 → R (.returned (.bool false)) w'4) ∧ (bAt s n3.toNat = 95 ∧ n3 ≠ 0 → I1 (IntKind.i64.wrap (n3 + 1)) w'4 ∧ M2 (IntKind.i64.wrap (n3 + 1)) w'4 < M2 n3 w'4))) ∧ (bAt s n3.toNat < 48 → 0 ≤ n3 ∧ n3 < (↑s.size : Int) ∧ (bAt s n3.toNat ≠ 95 ∨ n3 = 0 → R (.returned (.bool false)) w'4) ∧ (bAt s n3.toNat = 95 ∧ n3 ≠ 0 → I1 (IntKind.i64.wrap (n3 + 1)) w'4 ∧ M2 (IntKind.i64.wrap (n3 + 1)) w'4 < M2 n3 w'4)))) ∧ ((↑s.size : Int) ≤ n3 → R (.returned (.bool (decide (1 ≤ (↑s.size : Int)) && decide ((↑s.size : Int) ≤ 24)))) w'4)

set_option maxRecDepth 100000 in
theorem r5isname_eq (s : ByteArray) (w : World) (R : Ending → World → Prop) : r5isname_T s w R = vcFn Tryd.prog [] [] Tryd.f23 [.string s] w R := by kernel_rfl

set_option maxRecDepth 100000 in
theorem r5isname_vc (s : ByteArray) (w : World) (R : Ending → World → Prop) (hvc : r5isname_T s w R) : Calls Tryd.prog 23 #[.string s] w R :=
  calls_of_vc (args := [.string s]) [] [] Tryd.mixed Tryd.func23 (cast (r5isname_eq _ w R) hvc)

set_option maxRecDepth 100000 in
def r5find_T (cols_p : Option Addr) (cols_n : Nat) (cols_c : Nat) (name : ByteArray) (w : World) (R : Ending → World → Prop) : Prop :=
  ∃ (I1 : Int → World → Prop), ∃ (M2 : Int → World → Nat), I1 0 w ∧ ∀ (n3 : Int) (w'4 : World), I1 n3 w'4 → (n3 < (↑cols_n : Int) → ∃ b7, ∃ o8, cols_p = some ⟨b7, o8, none⟩ ∧ 0 ≤ n3 ∧ n3 < (↑cols_n : Int) ∧ ∃ s9, w'4.cell? ⟨b7, (o8 + n3.toNat * 3), none⟩ = some (.string s9) ∧ (s9 = name → R (.returned (.int .i64 n3)) w'4) ∧ (s9 ≠ name → I1 (IntKind.i64.wrap (n3 + 1)) w'4 ∧ M2 (IntKind.i64.wrap (n3 + 1)) w'4 < M2 n3 w'4)) ∧ ((↑cols_n : Int) ≤ n3 → R (.returned (.int .i64 (-1))) w'4)

set_option maxRecDepth 100000 in
theorem r5find_eq (cols_p : Option Addr) (cols_n : Nat) (cols_c : Nat) (name : ByteArray) (w : World) (R : Ending → World → Prop) : r5find_T cols_p cols_n cols_c name w R = vcFn Tryd.prog [] [] Tryd.f21 [.slice cols_p cols_n cols_c, .string name] w R := by kernel_rfl

set_option maxRecDepth 100000 in
theorem r5find_vc (cols_p : Option Addr) (cols_n : Nat) (cols_c : Nat) (name : ByteArray) (w : World) (R : Ending → World → Prop) (hvc : r5find_T cols_p cols_n cols_c name w R) : Calls Tryd.prog 21 #[.slice cols_p cols_n cols_c, .string name] w R :=
  calls_of_vc (args := [.slice cols_p cols_n cols_c, .string name]) [] [] Tryd.mixed Tryd.func21 (cast (r5find_eq _ _ _ _ w R) hvc)

set_option maxRecDepth 100000 in
def r5right_T (cols_p : Option Addr) (cols_n : Nat) (cols_c : Nat) (w : World) (R : Ending → World → Prop) : Prop :=
  ((↑cols_n : Int) < 1 ∨ 16 < (↑cols_n : Int) → R (.returned (.bool false)) w) ∧ (1 ≤ (↑cols_n : Int) ∧ (↑cols_n : Int) ≤ 16 → ∃ (I3 : Int → World → Prop), ∃ (M4 : Int → World → Nat), I3 0 w ∧ ∀ (n5 : Int) (w'6 : World), I3 n5 w'6 → (n5 < (↑cols_n : Int) → ∃ b9, ∃ o10, cols_p = some ⟨b9, o10, none⟩ ∧ 0 ≤ n5 ∧ n5 < (↑cols_n : Int) ∧ ∃ s11, w'6.cell? ⟨b9, (o10 + n5.toNat * 3), none⟩ = some (.string s11) ∧ Calls Tryd.prog 23 #[.string s11] w'6 fun e12 w13 ↦
 ∃ b14, e12 = .returned (.bool b14) ∧ (b14 = false → R (.returned (.bool false)) w13) ∧ (b14 = true → ∃ b17, ∃ o18, cols_p = some ⟨b17, o18, none⟩ ∧ 0 ≤ n5 ∧ n5 < (↑cols_n : Int) ∧ ∃ s19, w13.cell? ⟨b17, (o18 + n5.toNat * 3), none⟩ = some (.string s19) ∧ Calls Tryd.prog 21 #[.slice cols_p cols_n cols_c, .string s19] w13 fun e20 w21 ↦
 ∃ n22, e20 = .returned (.int .i64 n22) ∧ (n22 ≠ n5 → R (.returned (.bool false)) w21) ∧ (n22 = n5 → ∃ b25, ∃ o26, cols_p = some ⟨b25, o26, none⟩ ∧ 0 ≤ n5 ∧ n5 < (↑cols_n : Int) ∧ ∃ n27, w21.cell? ⟨b25, (o26 + n5.toNat * 3 + 1), none⟩ = some (.int .i64 n27) ∧ (n27 < 1 → R (.returned (.bool false)) w21) ∧ (1 ≤ n27 → ∃ b30, ∃ o31, cols_p = some ⟨b30, o31, none⟩ ∧ 0 ≤ n5 ∧ n5 < (↑cols_n : Int) ∧ ∃ n32, w21.cell? ⟨b30, (o31 + n5.toNat * 3 + 1), none⟩ = some (.int .i64 n32) ∧ (3 < n32 → R (.returned (.bool false)) w21) ∧ (n32 ≤ 3 → I3 (IntKind.i64.wrap (n5 + 1)) w21 ∧ M4 (IntKind.i64.wrap (n5 + 1)) w21 < M4 n5 w'6))))) ∧ ((↑cols_n : Int) ≤ n5 → R (.returned (.bool true)) w'6))

set_option maxRecDepth 100000 in
theorem r5right_eq (cols_p : Option Addr) (cols_n : Nat) (cols_c : Nat) (w : World) (R : Ending → World → Prop) : r5right_T cols_p cols_n cols_c w R = vcFn Tryd.prog [] [] Tryd.f18 [.slice cols_p cols_n cols_c] w R := by kernel_rfl

set_option maxRecDepth 100000 in
theorem r5right_vc (cols_p : Option Addr) (cols_n : Nat) (cols_c : Nat) (w : World) (R : Ending → World → Prop) (hvc : r5right_T cols_p cols_n cols_c w R) : Calls Tryd.prog 18 #[.slice cols_p cols_n cols_c] w R :=
  calls_of_vc (args := [.slice cols_p cols_n cols_c]) [] [] Tryd.mixed Tryd.func18 (cast (r5right_eq _ _ _ w R) hvc)

end Go.Proofs.YtiojkfckaalooaaDoor

/- Big arrays in memory, told as one. -/
namespace Go.Vc
open Go Go.RowKit

theorem setA_get : ∀ (vs : List Value) (cs : Array Value) (o i : Nat), (setA cs o vs)[i]? = if o ≤ i ∧ i < o + vs.length ∧ i < cs.size then vs[i - o]? else cs[i]?
  | [], cs, o, i => by unfold setA; simp; omega
  | v :: vs, cs, o, i => by
    unfold setA
    rw [setA_get vs, Array.getElem?_setIfInBounds, Array.size_setIfInBounds]
    simp only [List.length_cons]
    by_cases h : o = i
    · subst h
      rw [if_neg (by omega), if_pos rfl]
      split
      · rw [if_pos (by omega)]; simp
      · rw [if_neg (by omega), Array.getElem?_eq_none (by omega)]
    · rw [if_neg h]
      by_cases h2 : o ≤ i ∧ i < o + (vs.length + 1) ∧ i < cs.size
      · rw [if_pos (by omega), if_pos h2, show i - o = (i - (o + 1)) + 1 by omega, List.getElem?_cons_succ]
      · rw [if_neg (by omega), if_neg h2]
theorem setA_size : ∀ (vs : List Value) (cs : Array Value) (o : Nat), (setA cs o vs).size = cs.size
  | [], _, _ => rfl
  | v :: vs, cs, o => by unfold setA; rw [setA_size vs]; simp
/-- All cells are stored anew. -/
theorem setA_all {cs vs : Array Value} (h : vs.size = cs.size) : setA cs 0 vs.toList = vs := by
  apply Array.ext_getElem?
  intro i
  rw [setA_get]
  by_cases hi : i < cs.size
  · rw [if_pos (by simp; omega)]; simp
  · rw [if_neg (by omega), Array.getElem?_eq_none (by omega), Array.getElem?_eq_none (by omega)]
section
variable {w w' w0 W W' : World} {b : Nat} {t : TypeId} {cs vs : Array Value} {fs : List (Nat × Obj)} {ms : List Row}
theorem Blk.cellsAt (h : Blk w b t cs) : CellsAt w b 0 cs := fun k v hk => by rw [Nat.zero_add, h.cell]; exact hk
theorem Blk.canPut (h : Blk w b t cs) (hs : vs.size = cs.size) (h1 : ∀ (k : Nat) v, vs[k]? = some v → v.oneCell' = true) : CanPut w b 0 vs := fun k v hk => by
  have hk' := (Array.getElem?_eq_some_iff.1 hk).1
  exact ⟨h1 k v hk, ⟨cs[k]'(by omega), by rw [Nat.zero_add, h.cell]; exact Array.getElem?_eq_getElem _⟩, h.frozen _⟩
theorem Hold.putAll (h : Hold w0 W fs ms) (i : Nat) (hi : fs[i]? = some (b, .cells cs t (0, 0))) (hs : vs.size = cs.size) (e : Put W b 0 vs.toList W') : Hold w0 W' (fs.set i (b, .cells vs t (0, 0))) ms := by
  have := h.put i hi e
  rwa [setA_all hs] at this
end

end Go.Vc

/- The contracts of package schema: names. -/
namespace Go.Proofs.YtiojkfckaalooaaDoor
open Go Go.Vc Go.RowKit
set_option maxRecDepth 20000

theorem idxbyte_ok (s : ByteArray) (c : Int) (w : World) : Calls Tryd.prog 46 #[.string s, .int .u8 c] w fun e w' => e = .returned (.int .i64 (Lib.indexByte (tB s) c.toNat.toUInt8)) ∧ w' = w := by
  apply sidxb_vc
  unfold sidxb_T
  apply slidxb_vc
  unfold slidxb_T
  refine ⟨_, _, ?_, _, rfl, rfl, rfl⟩
  rw [run_callFunc_extern Tryd.func84 (by kernel_rfl) (by kernel_rfl) (by kernel_rfl) (e := Extern.BytealgIndexByte.indexByte) (by kernel_rfl), Lib.run_indexByteString]
  rfl

theorem zero_set : zeroA Tryd.prog 93 = Array.replicate 256 (.bool false) := by kernel_rfl
/-- The cells of a set of bytes. -/
def SetC (cs : Array Value) (f : UInt8 → Bool) : Prop := cs.size = 256 ∧ ∀ x : UInt8, cs[x.toNat]? = some (.bool (f x))
theorem SetC.one {cs : Array Value} {f : UInt8 → Bool} (h : SetC cs f) (k : Nat) (v : Value) (hk : cs[k]? = some v) : v.oneCell' = true := by
  have hlt := (Array.getElem?_eq_some_iff.1 hk).1
  have := h.2 (UInt8.ofNat k)
  rw [h.1] at hlt
  rw [UInt8.toNat_ofNat', Nat.mod_eq_of_lt (by omega), hk] at this
  cases this; rfl
theorem bAt_u8 (s : ByteArray) {i : Nat} (h : i < s.size) : ∃ x : UInt8, (tB s)[i]? = some x ∧ bAt s i = (x.toNat : Int) :=
  ⟨(tB s)[i]'(by rw [tB_length]; exact h), List.getElem?_eq_getElem _, bAt_eq s i h⟩

theorem mkascii_ok (s : ByteArray) (w : World) (hs : s.size < 9223372036854775807) (ha : ∀ x ∈ tB s, x.toNat < 128) :
    Calls Tryd.prog 67 #[.string s] w fun e w' => ∃ cs, e = .returned (.tuple #[.agg cs, .bool true]) ∧ SetC cs (fun x => (tB s).contains x) ∧ Ext w w' := by
  apply mkascii_vc
  unfold mkascii_T
  intro b1 w2 h1
  rw [zero_set] at h1
  have H1 := (Hold.start (Ext.rfl (w := w))).new h1
  refine ⟨fun i w' => ∃ (k : Nat) (cs : Array Value), i = (k : Int) ∧ k ≤ s.size ∧ SetC cs (fun x => ((tB s).take k).contains x) ∧ Hold w w' [(b1, .cells cs 93 (0, 0))] [], fun i _ => s.size - i.toNat, ⟨0, _, rfl, Nat.zero_le _, ⟨by simp, fun x => ?_⟩, H1⟩, ?_⟩
  · have := x.toNat_lt
    rw [Array.getElem?_eq_getElem (by simp; omega)]; simp
  rintro i w7 ⟨k, cs, rfl, hk, hc, H⟩
  have B := H.blk 0 rfl
  simp only [Int.toNat_natCast, Nat.zero_add]
  refine ⟨fun hlt => ?_, fun hge => ?_⟩
  · obtain ⟨x, hx, hb⟩ := bAt_u8 s (i := k) (by omega)
    have hx8 := ha x (List.mem_of_getElem? hx)
    rw [hb]
    refine ⟨by omega, by omega, fun h => by omega, fun _ => ⟨by omega, by omega, ⟨_, by rw [Int.toNat_natCast, B.cell]; exact hc.2 x⟩, B.frozen _, fun w17 h17 => ?_⟩⟩
    rw [Int.toNat_natCast] at h17
    have H17 := H.put 0 rfl h17
    rw [i64_next (by omega)]
    refine ⟨⟨k + 1, _, rfl, by omega, ⟨by rw [setA_size]; exact hc.1, fun y => ?_⟩, H17⟩, by simp only [Int.toNat_natCast]; omega⟩
    have htk : (tB s).take (k + 1) = (tB s).take k ++ [x] := by
      rw [List.take_add_one, hx]; rfl
    show _ = some (Value.bool (((tB s).take (k + 1)).contains y))
    rw [setA_get, hc.1, htk]
    have hy := y.toNat_lt
    by_cases hxy : x = y
    · subst hxy
      rw [if_pos (by simp; omega)]
      simp
    · have hn : x.toNat ≠ y.toNat := fun e => hxy (UInt8.toNat_inj.1 e)
      rw [if_neg (by simp; omega), hc.2 y]
      simp [Ne.symm hxy]
  · refine ⟨cs, hc.1, B.cellsAt, hc.1, B.canPut rfl hc.one, fun w21 h21 => ?_⟩
    have H21 := H.putAll 0 rfl rfl h21
    have B21 : Blk w21 b1 93 cs := H21.blk 0 rfl
    refine ⟨cs, hc.1, B21.cellsAt, cs, rfl, ?_, H21.ext⟩
    have : (tB s).take k = tB s := List.take_of_length_le (by rw [tB_length]; omega)
    rw [this] at hc
    exact hc

section
variable {w : World} {b : Nat} {cs : Array Value} {f : UInt8 → Bool}
theorem ascont_ok (h : Blk w b 93 cs) (hc : SetC cs f) (x : UInt8) : Calls Tryd.prog 85 #[.pointer (some ⟨b, 0, none⟩), .int .u8 (x.toNat : Int)] w fun e w' => e = .returned (.bool (f x)) ∧ Ext w w' := by
  apply ascont_vc
  unfold ascont_T
  have hx := x.toNat_lt
  exact ⟨b, 0, rfl, by omega, by omega, _, by rw [Int.toNat_natCast, Nat.zero_add, h.cell]; exact hc.2 x, rfl, .rfl⟩
theorem trimra_ok (s : ByteArray) (hs : s.size ≤ 9223372036854775807) (h : Blk w b 93 cs) (hc : SetC cs f) :
    Calls Tryd.prog 69 #[.string s, .pointer (some ⟨b, 0, none⟩)] w fun e w' => ∃ r, e = .returned (.string r) ∧ r.size ≤ s.size ∧ (tB r).all f = (tB s).all f ∧ Ext w w' := by
  apply trimra_vc
  unfold trimra_T
  refine ⟨fun r w' => r.size ≤ s.size ∧ (tB r).all f = (tB s).all f ∧ Ext w w', fun r _ => r.size, ⟨Nat.le_refl _, rfl, .rfl⟩, ?_⟩
  rintro r w4 ⟨hr, ha, hx⟩
  refine ⟨fun h0 => ?_, fun _ => ⟨r, rfl, hr, ha, hx⟩⟩
  rw [i64_fit (by omega) (by omega)]
  have e1 : ((r.size : Int) - 1) = ((r.size - 1 : Nat) : Int) := by omega
  rw [e1]
  simp only [Int.toNat_natCast]
  obtain ⟨x, hx', hb⟩ := bAt_u8 r (i := r.size - 1) (by omega)
  rw [hb]
  refine ⟨by omega, by omega, (ascont_ok (h.ext hx) hc x).mono ?_⟩
  rintro e w8 ⟨rfl, e8⟩
  have hx8 := hx.trans e8
  refine ⟨_, rfl, fun _ => ⟨r, rfl, hr, ha, hx8⟩, fun hf => ⟨by omega, by omega, ⟨?_, ?_, hx8⟩, ?_⟩⟩
  · rw [← tB_length, tB_extract]; simp; omega
  · rw [tB_extract, List.drop_zero, ← ha]
    have : tB r = (tB r).take (r.size - 1) ++ [x] := by
      have := List.take_add_one (l := tB r) (i := r.size - 1)
      rw [hx', List.take_of_length_le (by rw [tB_length]; omega)] at this
      exact this
    conv => rhs; rw [this, List.all_append]
    simp [hf]
  · rw [← tB_length, tB_extract]; simp [tB_length]; omega
theorem trimla_ok (s : ByteArray) (hs : s.size ≤ 9223372036854775807) (h : Blk w b 93 cs) (hc : SetC cs f) :
    Calls Tryd.prog 68 #[.string s, .pointer (some ⟨b, 0, none⟩)] w fun e w' => ∃ r, e = .returned (.string r) ∧ (tB r = [] ↔ (tB s).all f = true) ∧ Ext w w' := by
  apply trimla_vc
  unfold trimla_T
  refine ⟨fun r w' => (tB r).all f = (tB s).all f ∧ Ext w w', fun r _ => r.size, ⟨rfl, .rfl⟩, ?_⟩
  rintro r w4 ⟨ha, hx⟩
  refine ⟨fun h0 => ?_, fun h0 => ⟨r, rfl, ?_, hx⟩⟩
  · obtain ⟨x, hx', hb⟩ := bAt_u8 r (i := 0) (by omega)
    rw [hb]
    refine ⟨by omega, by omega, (ascont_ok (h.ext hx) hc x).mono ?_⟩
    rintro e w8 ⟨rfl, e8⟩
    have hx8 := hx.trans e8
    cases hr : tB r with
    | nil => rw [hr] at hx'; simp at hx'
    | cons y l =>
      rw [hr] at hx'
      cases hx'
      refine ⟨_, rfl, fun hf => ⟨r, rfl, ?_, hx8⟩, fun hf => ⟨by omega, by omega, ⟨?_, hx8⟩, ?_⟩⟩
      · rw [hr, ← ha, hr]; simp [hf]
      · rw [tB_extract, List.take_of_length_le (by rw [tB_length]; omega), ← ha, hr]; simp [hf]
      · show (r.extract 1 r.size).size < r.size
        rw [← tB_length, tB_extract]; simp [tB_length]; omega
  · have : tB r = [] := List.length_eq_zero_iff.1 (by rw [tB_length]; omega)
    rw [← ha, this]; simp
end

theorem ba_nil {s : ByteArray} : s = ⟨#[]⟩ ↔ tB s = [] := by rw [← tB_inj]; rfl
theorem trim_ok (s : ByteArray) (hs : s.size ≤ 9223372036854775807) {c : ByteArray} (hc : 2 ≤ c.size) (hc' : c.size < 9223372036854775807) (ha : ∀ x ∈ tB c, x.toNat < 128) (w : World) :
    Calls Tryd.prog 47 #[.string s, .string c] w fun e w' => ∃ r, e = .returned (.string r) ∧ (r = ⟨#[]⟩ ↔ (tB s).all (fun x => (tB c).contains x) = true) ∧ Ext w w' := by
  apply strim_vc
  unfold strim_T
  refine ⟨fun h => ?_, fun _ => ⟨fun h => by omega, fun _ => (mkascii_ok c w hc' ha).mono ?_⟩⟩
  · rcases h with h | h
    · exact ⟨s, rfl, by rw [h]; simp [tB], .rfl⟩
    · rw [h] at hc; cases hc
  · rintro e w39 ⟨cs, rfl, hs', e39⟩
    refine ⟨cs, hs'.1, true, rfl, fun b42 w43 h43 => ?_⟩
    rw [zero_set] at h43
    have H43 := (Hold.start e39).new h43
    have B43 := H43.blk 0 rfl
    refine ⟨hs'.1, B43.canPut (by rw [hs'.1]; simp) hs'.one, fun w45 h45 => ⟨fun _ => ?_, fun h => by cases h⟩⟩
    have H45 := H43.putAll 0 rfl (by rw [hs'.1]; simp) h45
    have B45 : Blk w45 b42 93 cs := H45.blk 0 rfl
    refine (trimra_ok s hs B45 hs').mono ?_
    rintro e w49 ⟨r, rfl, hrs, hr, e49⟩
    refine ⟨r, rfl, (trimla_ok r (by omega) (B45.ext e49) hs').mono ?_⟩
    rintro e w52 ⟨q, rfl, hq, e52⟩
    exact ⟨q, rfl, q, rfl, by rw [ba_nil, hq, hr], (H45.step (e49.trans e52)).ext⟩

def letC : ByteArray := ⟨#[97, 98, 99, 100, 101, 102, 103, 104, 105, 106, 107, 108, 109, 110, 111, 112, 113, 114, 115, 116, 117, 118, 119, 120, 121, 122]⟩
def othC : ByteArray := ⟨#[97, 98, 99, 100, 101, 102, 103, 104, 105, 106, 107, 108, 109, 110, 111, 112, 113, 114, 115, 116, 117, 118, 119, 120, 121, 122, 48, 49, 50, 51, 52, 53, 54, 55, 56, 57, 95]⟩
theorem let_all : ∀ i : Fin 256, decide (0 ≤ Lib.indexByte (tB letC) (UInt8.ofNat i.1)) = letterB (UInt8.ofNat i.1) := by decide +kernel
theorem oth_all : ∀ i : Fin 256, (tB othC).contains (UInt8.ofNat i.1) = otherB (UInt8.ofNat i.1) := by decide +kernel
theorem let_eq (x : UInt8) : 0 ≤ Lib.indexByte (tB letC) x ↔ letterB x = true := by
  have := let_all ⟨x.toNat, x.toNat_lt⟩
  rw [UInt8.ofNat_toNat] at this
  rw [← this, decide_eq_true_eq]
theorem oth_eq (x : UInt8) : (tB othC).contains x = otherB x := by
  have := oth_all ⟨x.toNat, x.toNat_lt⟩
  rwa [UInt8.ofNat_toNat] at this
theorem oth_ascii : ∀ x ∈ tB othC, x.toNat < 128 := by decide +kernel

theorem sisname_ok (s : ByteArray) (w : World) : Calls Tryd.prog 22 #[.string s] w fun e w' => e = .returned (.bool (isName s)) ∧ Ext w w' := by
  apply sisname_vc
  unfold sisname_T
  refine ⟨fun ⟨hne, hle⟩ => ?_, fun h => ⟨?_, .rfl⟩⟩
  · have h0 : 0 < s.size := by
      rcases Nat.eq_zero_or_pos s.size with h | h
      · exact absurd (ba_nil.2 (List.length_eq_zero_iff.1 (by rw [tB_length]; exact h))) hne
      · exact h
    obtain ⟨x, hx, hb⟩ := bAt_u8 s h0
    refine ⟨by omega, by omega, ?_⟩
    rw [hb]
    refine (idxbyte_ok letC (x.toNat : Int) w).mono ?_
    rintro e w3 ⟨rfl, rfl⟩
    have hxx : ((x.toNat : Int)).toNat.toUInt8 = x := by simp
    rw [hxx]
    cases hl : tB s with
    | nil => rw [hl] at hx; simp at hx
    | cons y l =>
      rw [hl] at hx
      cases hx
      have hlen : l.length + 1 ≤ 24 := by have := tB_length s; rw [hl] at this; simp at this; omega
      refine ⟨_, rfl, fun hge => ?_, fun hlt => ⟨?_, .rfl⟩⟩
      · refine (trim_ok s (by omega) (c := othC) (by decide) (by decide) oth_ascii _).mono ?_
        rintro e w7 ⟨r, rfl, hr, e7⟩
        refine ⟨r, rfl, ?_, e7⟩
        have : sEq r ⟨#[]⟩ = isName s := by
          rw [Bool.eq_iff_iff, sEq_iff, hr, hl]
          unfold isName isNameL
          rw [hl]
          have hx1 := (let_eq x).1 hge
          have hx2 : otherB x = true := by unfold otherB; rw [hx1]; rfl
          simp only [List.all_cons, oth_eq, hx1, hx2, Bool.true_and, List.length_cons, Bool.and_eq_true, decide_eq_true_eq]
          exact ⟨fun h => ⟨h, hlen⟩, fun h => h.1⟩
        rw [this]
      · have : isName s = false := by
          unfold isName isNameL
          rw [hl]
          have : letterB x = false := by
            rw [← Bool.not_eq_true, ← let_eq]; omega
          simp [this]
        rw [this]
  · have : isName s = false := by
      unfold isName isNameL
      rcases h with h | h
      · rw [h]; rfl
      · cases hl : tB s with
        | nil => rfl
        | cons y l =>
          have := tB_length s
          rw [hl] at this
          have hb : ¬ ((y :: l).length ≤ 24) := by omega
          simp only [hb, decide_false, Bool.and_false]
    rw [this]
end Go.Proofs.YtiojkfckaalooaaDoor

/- The contracts of package schema: schemas, and columns by name; the document's answer for them. -/
namespace Go.Proofs.YtiojkfckaalooaaDoor
open Go Go.Vc Go.RowKit
set_option maxRecDepth 20000

/-- What is asked of byte k of a name. -/
def nameB (k : Nat) (x : UInt8) : Bool := if k = 0 then letterB x else otherB x
theorem nameB_iff {k : Nat} {x : UInt8} : nameB k x = true ↔ (97 ≤ x.toNat ∧ x.toNat ≤ 122) ∨ (k ≠ 0 ∧ ((48 ≤ x.toNat ∧ x.toNat ≤ 57) ∨ x.toNat = 95)) := by
  unfold nameB otherB letterB
  split
  · simp only [decide_eq_true_eq]; omega
  · simp only [Bool.or_eq_true, decide_eq_true_eq]; omega
theorem isName_iff (s : ByteArray) : isName s = true ↔ 1 ≤ s.size ∧ s.size ≤ 24 ∧ ∀ (j : Nat) x, (tB s)[j]? = some x → nameB j x = true := by
  have hlen := tB_length s
  unfold isName
  cases hl : tB s with
  | nil => rw [hl] at hlen; simp at hlen; simp [isNameL]; omega
  | cons y l =>
    rw [hl] at hlen
    simp only [List.length_cons] at hlen
    unfold isNameL
    simp only [List.length_cons, Bool.and_eq_true, decide_eq_true_eq, List.all_eq_true]
    constructor
    · rintro ⟨⟨h1, h2⟩, h3⟩
      refine ⟨by omega, by omega, fun j x hj => ?_⟩
      cases j with
      | zero => cases hj; simpa [nameB] using h1
      | succ j => have := h2 x (List.mem_of_getElem? (show l[j]? = some x by simpa using hj)); simpa [nameB] using this
    · rintro ⟨h1, h2, h3⟩
      refine ⟨⟨by simpa [nameB] using h3 0 y rfl, fun z hz => ?_⟩, by omega⟩
      obtain ⟨j, hj⟩ := List.mem_iff_getElem?.1 hz
      simpa [nameB] using h3 (j + 1) z (by simpa using hj)

section
variable {w : World} {p rp : Option Addr} {n c rn rc : Nat} {cols : List Col} {row : List Val}

theorem r5isname_ok (s : ByteArray) (hs : s.size ≤ 9223372036854775807) (w : World) : Calls Tryd.prog 23 #[.string s] w fun e w' => e = .returned (.bool (isName s)) ∧ Ext w w' := by
  apply r5isname_vc
  unfold r5isname_T
  refine ⟨fun i w' => ∃ k : Nat, i = (k : Int) ∧ k ≤ s.size ∧ (∀ (j : Nat) x, j < k → (tB s)[j]? = some x → nameB j x = true) ∧ Ext w w', fun i _ => s.size - i.toNat, ⟨0, rfl, Nat.zero_le _, fun j x h => by omega, .rfl⟩, ?_⟩
  rintro i w4 ⟨k, rfl, hk, hg, hx⟩
  refine ⟨fun hlt => ?_, fun hge => ⟨?_, hx⟩⟩
  · obtain ⟨x, hx', hb⟩ := bAt_u8 s (i := k) (by omega)
    simp only [Int.toNat_natCast]
    rw [hb]
    have bad : ¬ ((97 ≤ x.toNat ∧ x.toNat ≤ 122) ∨ (k ≠ 0 ∧ ((48 ≤ x.toNat ∧ x.toNat ≤ 57) ∨ x.toNat = 95))) → Ending.returned (Value.bool false) = Ending.returned (Value.bool (isName s)) ∧ Ext w w4 := by
      intro h
      refine ⟨?_, hx⟩
      have : isName s = false := by
        rw [← Bool.not_eq_true, isName_iff]
        rintro ⟨_, _, h3⟩
        exact h (nameB_iff.1 (h3 k x hx'))
      rw [this]
    have good : ((97 ≤ x.toNat ∧ x.toNat ≤ 122) ∨ (k ≠ 0 ∧ ((48 ≤ x.toNat ∧ x.toNat ≤ 57) ∨ x.toNat = 95))) → (∃ k' : Nat, IntKind.i64.wrap ((k : Int) + 1) = (k' : Int) ∧ k' ≤ s.size ∧ (∀ (j : Nat) x, j < k' → (tB s)[j]? = some x → nameB j x = true) ∧ Ext w w4) ∧
        s.size - (IntKind.i64.wrap ((k : Int) + 1)).toNat < s.size - k := by
      intro h
      rw [i64_next (by omega)]
      refine ⟨⟨k + 1, rfl, by omega, fun j y hj hy => ?_, hx⟩, by simp only [Int.toNat_natCast]; omega⟩
      by_cases hjk : j = k
      · subst hjk
        rw [hx'] at hy
        cases hy
        exact nameB_iff.2 h
      · exact hg j y (by omega) hy
    clear hg
    repeat' first
      | exact good (by omega)
      | exact bad (by omega)
      | omega
      | intro _
      | refine And.intro ?_ ?_
  · have hk' : k = s.size := by omega
    have : (decide ((1 : Int) ≤ (s.size : Int)) && decide ((s.size : Int) ≤ 24)) = isName s := by
      rw [Bool.eq_iff_iff, isName_iff, Bool.and_eq_true, decide_eq_true_eq, decide_eq_true_eq]
      refine ⟨fun h => ⟨by omega, by omega, fun j x hj => hg j x ?_ hj⟩, fun h => by omega⟩
      have := (List.getElem?_eq_some_iff.1 hj).1
      rw [tB_length] at this
      omega
    rw [this]

/-! ### Find -/
theorem r5find_ok (h : Cols w p n c cols) (name : ByteArray) : Calls Tryd.prog 21 #[.slice p n c, .string name] w fun e w' => e = .returned (.int .i64 (findC cols name)) ∧ Ext w w' := by
  apply r5find_vc
  unfold r5find_T
  have hl := h.len
  have hm : n ≤ 9223372036854775807 := h.le
  refine ⟨fun i w' => ∃ k : Nat, i = (k : Int) ∧ k ≤ n ∧ (∀ (j : Nat) y, j < k → cols[j]? = some y → y.name ≠ name) ∧ Ext w w', fun i _ => n - i.toNat, ⟨0, rfl, Nat.zero_le _, fun j y hj => by omega, .rfl⟩, ?_⟩
  rintro i w4 ⟨k, rfl, hk, hb, hx⟩
  refine ⟨fun hlt => ?_, fun hge => ⟨?_, hx⟩⟩
  · have g : cols[k]? = some (cols[k]'(by omega)) := List.getElem?_eq_getElem _
    generalize cols[k]'(by omega) = x at g
    obtain ⟨b, o, hp, c0, c1, c2⟩ := (h.ext hx).col g
    simp only [Int.toNat_natCast]
    refine ⟨b, o, hp, by omega, by omega, _, c0, fun hd => ⟨?_, hx⟩, fun hd => ?_⟩
    · rw [findC_at g hd hb]
    · rw [i64_next (by omega)]
      refine ⟨⟨k + 1, rfl, by omega, fun j y hj hy => ?_, hx⟩, by simp only [Int.toNat_natCast]; omega⟩
      by_cases hjk : j = k
      · subst hjk; rw [g] at hy; cases hy; exact hd
      · exact hb j y (by omega) hy
  · rw [findC_none fun x hx => ?_]
    obtain ⟨j, hj⟩ := List.mem_iff_getElem?.1 hx
    exact hb j x (by have := (List.getElem?_eq_some_iff.1 hj).1; omega) hj

/-! ### Right -/
/-- The map of names that were met. -/
def metL (l : List Col) : List (ByteArray × Value) := l.foldl (fun m x => setS m x.name (.bool true)) []
theorem metL_snoc (l : List Col) (x : Col) : metL (l ++ [x]) = setS (metL l) x.name (.bool true) := by simp [metL]
theorem metL_look (l : List Col) (s : ByteArray) : (lookS (metL l) s).getD (.bool false) = .bool ((l.map Col.name).contains s) := by
  have key : ∀ (l : List Col) (m : List (ByteArray × Value)), lookS (l.foldl (fun m x => setS m x.name (.bool true)) m) s = if (l.map Col.name).contains s then some (.bool true) else lookS m s := by
    intro l
    induction l with
    | nil => intro m; simp
    | cons x l ih =>
      intro m
      rw [List.foldl_cons, ih, lookS_setS, List.map_cons]
      by_cases hx : x.name = s
      · subst hx; simp
      · simp [hx, Ne.symm hx]
  unfold metL
  rw [key]
  cases (l.map Col.name).contains s <;> rfl
theorem sright_ok (h : Cols w p n c cols) : Calls Tryd.prog 11 #[.slice p n c] w fun e w' => e = .returned (.bool (rightC cols)) ∧ Ext w w' := by
  apply sright_vc
  unfold sright_T
  intro b1 w2 h1
  have hl := h.len
  have hm : n ≤ 9223372036854775807 := h.le
  have H1 := (Hold.start (Ext.rfl (w := w))).new h1
  refine ⟨fun i w' => ∃ (k : Nat) (es : Array MapEntry) (clock : Nat), i = (k : Int) ∧ k ≤ n ∧ colsOk [] (cols.take k) = true ∧ MapL es (metL (cols.take k)) ∧ Hold w w' [(b1, .map es clock)] [], fun i _ => n - i.toNat, ⟨0, _, _, rfl, Nat.zero_le _, by simp [colsOk], by simp [metL, MapL], H1⟩, ?_⟩
  rintro i w7 ⟨k, es, clock, rfl, hk, hok, hmap, H⟩
  refine ⟨fun hlt => ?_, fun hge => ⟨?_, H.ext⟩⟩
  · have g : cols[k]? = some (cols[k]'(by omega)) := List.getElem?_eq_getElem _
    generalize cols[k]'(by omega) = x at g
    obtain ⟨b, o, hp, c0, c1, c2⟩ := (h.ext H.ext).col g
    have hdec : colOk ((cols.take k).map Col.name) x = false → rightC cols = false := by
      intro hv
      unfold rightC
      have hc : cols = cols.take k ++ x :: cols.drop (k + 1) := by
        obtain ⟨hk', rfl⟩ := List.getElem?_eq_some_iff.1 g
        rw [← List.drop_eq_getElem_cons hk', List.take_append_drop]
      have : colsOk [] cols = false := by
        conv => lhs; rw [hc, colsOk_append]
        rw [hok, List.nil_append]
        unfold colsOk
        rw [hv]; rfl
      rw [this, Bool.and_false]
    simp only [Int.toNat_natCast]
    refine ⟨b, o, hp, by omega, by omega, _, c0, _, c1, _, c2, fun b15 w16 h16 => ?_⟩
    have H16 := H.new h16
    obtain ⟨q0, q1, q2⟩ := (H16.blk 0 rfl).c3
    refine ⟨⟨_, q0⟩, (H16.blk 0 rfl).frozen _, ⟨_, q1⟩, (H16.blk 0 rfl).frozen _, ⟨_, q2⟩, (H16.blk 0 rfl).frozen _, fun w21 h21 => ?_⟩
    have H21 := H16.put 0 rfl h21
    have B : Blk w21 b15 53 #[.string x.name, .int .i64 x.kind, .bool x.null] := H21.blk 0 rfl
    obtain ⟨q0, q1, q2⟩ := B.c3
    refine ⟨_, q0, (sisname_ok x.name w21).mono ?_⟩
    rintro e w25 ⟨rfl, e25⟩
    have H25 := H21.step e25
    have B25 := B.ext e25
    obtain ⟨q0, q1, q2⟩ := B25.c3
    have hM : w25.heap[b1]? = some (.map es clock) := H25.holds 1 _ rfl
    refine ⟨_, rfl, fun hn => ⟨?_, H25.ext⟩, fun hn => ⟨_, q0, ((cols.take k).map Col.name).contains x.name, fun w1 hs => ?_, fun hin => ⟨?_, H25.ext⟩, fun hin => ⟨_, q1, fun hlow => ⟨?_, H25.ext⟩, fun hge => ⟨_, q1, fun hhi => ⟨?_, H25.ext⟩, fun hle => ⟨_, q0, ?_⟩⟩⟩⟩⟩
    · rw [hdec (by unfold colOk; rw [hn]; rfl)]
    · rw [← metL_look]
      exact map_look (kt := 9) (e := 4) (by kernel_rfl) (by kernel_rfl) (run_zeroOf (by kernel_rfl) w1) ((hs b1 (H25.lt 1 rfl)).trans hM) hmap
    · rw [hdec (by unfold colOk; rw [hn, hin]; rfl)]
    · rw [hdec (by unfold colOk; rw [hn, hin, decide_eq_false (by omega)]; rfl)]
    · rw [hdec (by unfold colOk; rw [hn, hin, decide_eq_false (by omega)]; rfl)]
    · obtain ⟨w42, es', clock', hrun, hobj, hmap', hbut, hsz⟩ := map_set (P := Tryd.prog) (t := 54) (kt := 9) (e := 4) (s := x.name) (by kernel_rfl) (by kernel_rfl) hM hmap (.bool true)
      refine ⟨w42, hrun, ?_⟩
      rw [i64_next (by omega)]
      have htk : cols.take (k + 1) = cols.take k ++ [x] := by rw [List.take_add_one, g]; rfl
      refine ⟨⟨k + 1, es', clock', rfl, by omega, ?_, ?_, (H25.upd 1 rfl hbut hobj).tail⟩, by simp only [Int.toNat_natCast]; omega⟩
      · rw [htk, colsOk_append, hok, List.nil_append]
        unfold colsOk colOk
        rw [hn, hin, decide_eq_true (by omega)]; rfl
      · rw [htk, metL_snoc]; exact hmap'
  · have hk' : k = n := by omega
    subst hk'
    rw [List.take_of_length_le (by omega)] at hok
    have : (decide ((0 : Int) < (k : Int)) && decide ((k : Int) ≤ 16)) = rightC cols := by
      unfold rightC
      rw [hok, Bool.and_true, Bool.eq_iff_iff, Bool.and_eq_true, decide_eq_true_eq, decide_eq_true_eq, decide_eq_true_eq]
      omega
    rw [this]
end
end Go.Proofs.YtiojkfckaalooaaDoor

/- The contracts of package schema: rows that fit; the document's answer for them. -/
namespace Go.Proofs.YtiojkfckaalooaaDoor
open Go Go.Vc Go.RowKit
set_option maxRecDepth 20000

section
variable {w : World} {p rp : Option Addr} {n c rn rc : Nat} {cols : List Col} {row : List Val}

theorem r5right_ok (h : Cols w p n c cols) (hs : ∀ x ∈ cols, x.name.size ≤ 9223372036854775807) : Calls Tryd.prog 18 #[.slice p n c] w fun e w' => e = .returned (.bool (rightC cols)) ∧ Ext w w' := by
  apply r5right_vc
  unfold r5right_T
  have hl := h.len
  have hm : n ≤ 9223372036854775807 := h.le
  refine ⟨fun hb => ⟨?_, .rfl⟩, fun hg => ?_⟩
  · have : rightC cols = false := by
      unfold rightC
      rw [decide_eq_false (by omega)]; rfl
    rw [this]
  refine ⟨fun i w' => ∃ k : Nat, i = (k : Int) ∧ k ≤ n ∧ colsOk [] (cols.take k) = true ∧ Ext w w', fun i _ => n - i.toNat, ⟨0, rfl, Nat.zero_le _, by simp [colsOk], .rfl⟩, ?_⟩
  rintro i w6 ⟨k, rfl, hk, hok, hx⟩
  refine ⟨fun hlt => ?_, fun hge => ⟨?_, hx⟩⟩
  · have g : cols[k]? = some (cols[k]'(by omega)) := List.getElem?_eq_getElem _
    generalize cols[k]'(by omega) = x at g
    obtain ⟨b, o, hp, c0, c1, c2⟩ := (h.ext hx).col g
    have hdec : colRef cols k x = false → rightC cols = false := by
      intro hv
      rw [colRef_eq g] at hv
      unfold rightC
      have hc : cols = cols.take k ++ x :: cols.drop (k + 1) := by
        obtain ⟨hk', rfl⟩ := List.getElem?_eq_some_iff.1 g
        rw [← List.drop_eq_getElem_cons hk', List.take_append_drop]
      have : colsOk [] cols = false := by
        conv => lhs; rw [hc, colsOk_append]
        rw [hok, List.nil_append]
        unfold colsOk
        rw [hv]; rfl
      rw [this, Bool.and_false]
    simp only [Int.toNat_natCast]
    refine ⟨b, o, hp, by omega, by omega, _, c0, (r5isname_ok x.name (hs x (List.mem_of_getElem? g)) w6).mono ?_⟩
    rintro e w13 ⟨rfl, e13⟩
    have hx13 := hx.trans e13
    refine ⟨_, rfl, fun hn => ⟨by rw [hdec (by unfold colRef; rw [hn]; rfl)], hx13⟩, fun hn => ?_⟩
    refine ⟨b, o, hp, by omega, by omega, _, cell_ext c0 e13, (r5find_ok (h.ext hx13) x.name).mono ?_⟩
    rintro e w21 ⟨rfl, e21⟩
    have hx21 := hx13.trans e21
    refine ⟨_, rfl, fun hne => ⟨by rw [hdec (by unfold colRef; rw [decide_eq_false hne, Bool.and_false]; rfl)], hx21⟩, fun he => ?_⟩
    have c1' := cell_ext (cell_ext c1 e13) e21
    refine ⟨b, o, hp, by omega, by omega, _, c1', fun hlow => ⟨by rw [hdec (by unfold colRef; rw [decide_eq_false (by omega : ¬ (1 ≤ x.kind ∧ x.kind ≤ 3)), Bool.and_false])], hx21⟩, fun hge => ?_⟩
    refine ⟨b, o, hp, by omega, by omega, _, c1', fun hhi => ⟨by rw [hdec (by unfold colRef; rw [decide_eq_false (by omega : ¬ (1 ≤ x.kind ∧ x.kind ≤ 3)), Bool.and_false])], hx21⟩, fun hle => ?_⟩
    rw [i64_next (by omega)]
    refine ⟨⟨k + 1, rfl, by omega, ?_, hx21⟩, by simp only [Int.toNat_natCast]; omega⟩
    have htk : cols.take (k + 1) = cols.take k ++ [x] := by rw [List.take_add_one, g]; rfl
    rw [htk, colsOk_append, hok, List.nil_append]
    unfold colsOk
    rw [← colRef_eq g]
    unfold colRef
    rw [hn, decide_eq_true he, decide_eq_true (by omega)]; rfl
  · have hk' : k = n := by omega
    subst hk'
    rw [List.take_of_length_le (by omega)] at hok
    unfold rightC
    rw [hok, decide_eq_true (by omega)]; rfl

/-! ### Rows that fit -/
end
end Go.Proofs.YtiojkfckaalooaaDoor

/- The contracts of schemas' bytes: laying, by the program and by the document. -/
namespace Go.Vc
open Go Go.RowKit
theorem colsOk_all : ∀ {met : List ByteArray} {cols : List Col}, colsOk met cols = true → ∀ c ∈ cols, isName c.name = true ∧ 1 ≤ c.kind ∧ c.kind ≤ 3
  | _, [], _, c, hc => by cases hc
  | met, x :: r, h, c, hc => by
    unfold colsOk at h
    rw [Bool.and_eq_true] at h
    rcases List.mem_cons.1 hc with rfl | hc
    · have := h.1
      unfold colOk at this
      simp only [Bool.and_eq_true, decide_eq_true_eq] at this
      exact ⟨this.1.1, this.2⟩
    · exact colsOk_all h.2 c hc
theorem name_size {s : ByteArray} (h : isName s = true) : s.size ≤ 24 := by
  unfold isName at h
  rw [← tB_length]
  cases ht : tB s with
  | nil => simp
  | cons x r =>
    rw [ht] at h
    unfold isNameL at h
    simp only [Bool.and_eq_true, decide_eq_true_eq] at h
    exact h.2
theorem right_all {cols : List Col} (h : rightC cols = true) : 1 ≤ cols.length ∧ cols.length ≤ 16 ∧ ∀ c ∈ cols, c.name.size ≤ 24 ∧ 1 ≤ c.kind ∧ c.kind ≤ 3 := by
  unfold rightC at h
  rw [Bool.and_eq_true, decide_eq_true_eq] at h
  refine ⟨h.1.1, h.1.2, fun c hc => ?_⟩
  obtain ⟨h1, h2, h3⟩ := colsOk_all h.2 c hc
  exact ⟨name_size h1, h2, h3⟩
theorem colB_len {c : Col} (h : c.name.size ≤ 24) : (colB c).length ≤ 36 := by
  have := uvar_len10 (n := c.name.size) (by omega)
  unfold colB
  simp [tB_length]; omega
theorem cols_len {cols : List Col} (h : ∀ c ∈ cols, c.name.size ≤ 24) : (cols.flatMap colB).length ≤ 36 * cols.length := by
  induction cols with
  | nil => simp
  | cons c r ih =>
    have h1 := colB_len (h c (by simp))
    have h2 := ih fun x hx => h x (by simp [hx])
    rw [List.flatMap_cons, List.length_append, List.length_cons]; omega
def layS (l : List UInt8) (cols : List Col) : List UInt8 × Int := if rightC cols then (l ++ schB cols, 0) else ([], 50)
/-- What is laid once j columns were. -/
def partS (l : List UInt8) (cols : List Col) (j : Nat) : List UInt8 := (l ++ uvar cols.length) ++ (cols.take j).flatMap colB
theorem partS_all (l : List UInt8) (cols : List Col) : partS l cols cols.length = l ++ schB cols := by
  unfold partS schB; rw [List.take_of_length_le (Nat.le_refl _), List.append_assoc]
theorem partS_step {l : List UInt8} {cols : List Col} {j : Nat} {c : Col} (h : cols[j]? = some c) : partS l cols (j + 1) = partS l cols j ++ (uvar c.name.size ++ tB c.name) ++ [UInt8.ofNat c.kind.toNat, if c.null then 1 else 0] := by
  unfold partS
  rw [take_snoc h, List.flatMap_append]
  simp [colB]
theorem partS_len {l : List UInt8} {cols : List Col} (h : rightC cols = true) (j : Nat) : (partS l cols j).length ≤ l.length + 600 := by
  obtain ⟨h1, h2, h3⟩ := right_all h
  have a1 := uvar_len10 (n := cols.length) (by omega)
  have a2 := cols_len (cols := cols.take j) fun c hc => (h3 c (List.mem_of_mem_take hc)).1
  have a3 : (cols.take j).length ≤ 16 := by rw [List.length_take]; omega
  unfold partS
  simp only [List.length_append]; omega
end Go.Vc
namespace Go.Proofs.YtiojkfckaalooaaDoor
open Go Go.Vc Go.RowKit
set_option maxRecDepth 20000
attribute [local irreducible] Calls Put Drew New

theorem kindB {k : Int} (h : 1 ≤ k ∧ k ≤ 3) : IntKind.u8.wrap k = (((UInt8.ofNat k.toNat).toNat : Nat) : Int) := by
  rcases (by omega : k = 1 ∨ k = 2 ∨ k = 3) with e | e | e <;> rw [e] <;> rfl
theorem sflag_ok (b : Bool) (w : World) : Calls Tryd.prog 36 #[.bool b] w fun e w' => e = .returned (.int .u8 (((if b then (1 : UInt8) else 0).toNat : Nat) : Int)) ∧ Ext w w' := by
  apply sflag_vc
  unfold sflag_T
  cases b with
  | true => exact ⟨fun _ => ⟨rfl, Ext.rfl⟩, fun h => by cases h⟩
  | false => exact ⟨fun h => (by cases h), fun _ => ⟨rfl, Ext.rfl⟩⟩
set_option maxHeartbeats 4000000 in
theorem slay_ok (w : World) {p cp : Option Addr} {n c cn cc : Nat} {l : List UInt8} {cols : List Col} (h : In w p n c l) (hc : Cols w cp cn cc cols) (hroom : n + 2002000 ≤ 211106232532992) :
    Calls Tryd.prog 13 #[.slice p n c, .slice cp cn cc] w fun e w' => ∃ p' n' c', e = .returned (.tuple #[.slice p' n' c', .int .i64 (layS l cols).2]) ∧ Out w.heap.size w' p' n' c' (layS l cols).1 ∧ Ext w w' := by
  have hl := h.len
  have hcl := hc.len
  apply slay_vc
  unfold slay_T
  refine (sright_ok hc).mono ?_
  rintro e w2 ⟨rfl, e1⟩
  refine ⟨_, rfl, fun hf => ?_, fun ht => ?_⟩
  · have hL : layS l cols = ([], 50) := by unfold layS; rw [hf]; rfl
    refine ⟨none, 0, 0, by rw [hL], ?_, e1⟩
    rw [hL]
    exact ⟨rfl, Mine.nil _ _ _ _⟩
  obtain ⟨r1, r2, r3⟩ := right_all ht
  have hL : layS l cols = (l ++ schB cols, 0) := by unfold layS; rw [if_pos ht]
  rw [u64_nat (by omega)]
  refine (number_out w2 (h.ext e1) (by omega) (by omega)).mono ?_
  rintro e w7 ⟨p2, n2, c2, rfl, ho, e2⟩
  have H0 := (Hold.start e1).addRow e2 ho.2
  refine ⟨_, _, _, rfl, ?_⟩
  refine ⟨fun q k d i W => ∃ j : Nat, i = (j : Int) ∧ j ≤ cn ∧ k = (partS l cols j).length ∧ Hold w W [] [⟨5, 1, q, k, d, vB (partS l cols j)⟩], fun _ _ _ i _ => cn - i.toNat, ⟨0, rfl, Nat.zero_le _, ?_, ?_⟩, ?_⟩
  · rw [← ho.1]; unfold partS; rw [hcl]; simp
  · have : partS l cols 0 = l ++ uvar cn := by unfold partS; rw [hcl]; simp
    rw [this]; exact H0
  clear H0 ho
  rintro q k d i W ⟨j, rfl, hj, rfl, H⟩
  have hlen := partS_len (l := l) ht j
  refine ⟨fun hlt => ?_, fun hge => ?_⟩
  · have gx : cols[j]? = some (cols[j]'(by omega)) := List.getElem?_eq_getElem _
    generalize cols[j]'(by omega) = x at gx
    obtain ⟨x1, x2⟩ := r3 x (List.mem_of_getElem? gx)
    obtain ⟨b, o, hp, c0, c1, c3⟩ := (hc.ext H.ext).col gx
    simp only [Int.toNat_natCast]
    refine ⟨b, o, hp, by omega, hlt, _, c0, _, c1, _, c3, ?_⟩
    repeat (first
      | (intro _ _ hS; replace H := H.new hS; clear hS)
      | (intro _ hS; (first | replace H := H.put 0 rfl hS | replace H := H.put 1 rfl hS | replace H := H.put 2 rfl hS | replace H := H.put 3 rfl hS | replace H := H.put 4 rfl hS | replace H := H.put 5 rfl hS | replace H := H.put 6 rfl hS | replace H := H.put 7 rfl hS); clear hS; try simp only [setA, List.setIfInBounds_toArray, List.set_cons_zero, List.set_cons_succ, Nat.zero_add, Nat.reduceAdd] at H)
      | (intro _ hS; replace H := H.step (Drew.ext hS); clear hS)
      | (first | refine ⟨⟨_, H.get 0 rfl rfl⟩, ?_⟩ | refine ⟨⟨_, H.get 1 rfl rfl⟩, ?_⟩ | refine ⟨⟨_, H.get 2 rfl rfl⟩, ?_⟩ | refine ⟨⟨_, H.get 3 rfl rfl⟩, ?_⟩ | refine ⟨⟨_, H.get 4 rfl rfl⟩, ?_⟩ | refine ⟨⟨_, H.get 5 rfl rfl⟩, ?_⟩ | refine ⟨⟨_, H.get 6 rfl rfl⟩, ?_⟩ | refine ⟨⟨_, H.get 7 rfl rfl⟩, ?_⟩)
      | (first | refine ⟨H.frz 0 rfl, ?_⟩ | refine ⟨H.frz 1 rfl, ?_⟩ | refine ⟨H.frz 2 rfl, ?_⟩ | refine ⟨H.frz 3 rfl, ?_⟩ | refine ⟨H.frz 4 rfl, ?_⟩ | refine ⟨H.frz 5 rfl, ?_⟩ | refine ⟨H.frz 6 rfl, ?_⟩ | refine ⟨H.frz 7 rfl, ?_⟩)
      | (first | refine ⟨_, H.get 0 rfl rfl, ?_⟩ | refine ⟨_, H.get 1 rfl rfl, ?_⟩ | refine ⟨_, H.get 2 rfl rfl, ?_⟩ | refine ⟨_, H.get 3 rfl rfl, ?_⟩ | refine ⟨_, H.get 4 rfl rfl, ?_⟩ | refine ⟨_, H.get 5 rfl rfl, ?_⟩ | refine ⟨_, H.get 6 rfl rfl, ?_⟩ | refine ⟨_, H.get 7 rfl rfl, ?_⟩)
      | (first | refine ⟨_, _, _, H.get 0 rfl rfl, ?_⟩ | refine ⟨_, _, _, H.get 1 rfl rfl, ?_⟩ | refine ⟨_, _, _, H.get 2 rfl rfl, ?_⟩ | refine ⟨_, _, _, H.get 3 rfl rfl, ?_⟩ | refine ⟨_, _, _, H.get 4 rfl rfl, ?_⟩ | refine ⟨_, _, _, H.get 5 rfl rfl, ?_⟩ | refine ⟨_, _, _, H.get 6 rfl rfl, ?_⟩ | refine ⟨_, _, _, H.get 7 rfl rfl, ?_⟩))
    refine (text_out _ (hold_in H 0 rfl rfl) (by omega)).mono ?_
    rintro e W2 ⟨p3, n3, c3', rfl, ho, eS⟩
    have et : textL (partS l cols j) (tB x.name) = (partS l cols j ++ (uvar x.name.size ++ tB x.name), 0) := by
      unfold textL
      rw [tB_length, if_pos (by omega)]
    rw [et] at ho ⊢
    have hn3 := ho.1
    have hlen2 := partS_len (l := l) ht (j + 1)
    have hst := partS_step (l := l) gx
    have hn3b : n3 + 2 = (partS l cols (j + 1)).length := by rw [hst, List.length_append, hn3]; rfl
    replace H := H.noRow.addRow eS ho.2
    refine ⟨_, _, _, _, rfl, ?_⟩
    repeat (first
      | (intro _ _ hS; replace H := H.new hS; clear hS)
      | (intro _ hS; (first | replace H := H.put 0 rfl hS | replace H := H.put 1 rfl hS | replace H := H.put 2 rfl hS | replace H := H.put 3 rfl hS | replace H := H.put 4 rfl hS | replace H := H.put 5 rfl hS | replace H := H.put 6 rfl hS | replace H := H.put 7 rfl hS); clear hS; try simp only [setA, List.setIfInBounds_toArray, List.set_cons_zero, List.set_cons_succ, Nat.zero_add, Nat.reduceAdd] at H)
      | (intro _ hS; replace H := H.step (Drew.ext hS); clear hS)
      | (first | refine ⟨⟨_, H.get 0 rfl rfl⟩, ?_⟩ | refine ⟨⟨_, H.get 1 rfl rfl⟩, ?_⟩ | refine ⟨⟨_, H.get 2 rfl rfl⟩, ?_⟩ | refine ⟨⟨_, H.get 3 rfl rfl⟩, ?_⟩ | refine ⟨⟨_, H.get 4 rfl rfl⟩, ?_⟩ | refine ⟨⟨_, H.get 5 rfl rfl⟩, ?_⟩ | refine ⟨⟨_, H.get 6 rfl rfl⟩, ?_⟩ | refine ⟨⟨_, H.get 7 rfl rfl⟩, ?_⟩)
      | (first | refine ⟨H.frz 0 rfl, ?_⟩ | refine ⟨H.frz 1 rfl, ?_⟩ | refine ⟨H.frz 2 rfl, ?_⟩ | refine ⟨H.frz 3 rfl, ?_⟩ | refine ⟨H.frz 4 rfl, ?_⟩ | refine ⟨H.frz 5 rfl, ?_⟩ | refine ⟨H.frz 6 rfl, ?_⟩ | refine ⟨H.frz 7 rfl, ?_⟩)
      | (first | refine ⟨_, H.get 0 rfl rfl, ?_⟩ | refine ⟨_, H.get 1 rfl rfl, ?_⟩ | refine ⟨_, H.get 2 rfl rfl, ?_⟩ | refine ⟨_, H.get 3 rfl rfl, ?_⟩ | refine ⟨_, H.get 4 rfl rfl, ?_⟩ | refine ⟨_, H.get 5 rfl rfl, ?_⟩ | refine ⟨_, H.get 6 rfl rfl, ?_⟩ | refine ⟨_, H.get 7 rfl rfl, ?_⟩)
      | (first | refine ⟨_, _, _, H.get 0 rfl rfl, ?_⟩ | refine ⟨_, _, _, H.get 1 rfl rfl, ?_⟩ | refine ⟨_, _, _, H.get 2 rfl rfl, ?_⟩ | refine ⟨_, _, _, H.get 3 rfl rfl, ?_⟩ | refine ⟨_, _, _, H.get 4 rfl rfl, ?_⟩ | refine ⟨_, _, _, H.get 5 rfl rfl, ?_⟩ | refine ⟨_, _, _, H.get 6 rfl rfl, ?_⟩ | refine ⟨_, _, _, H.get 7 rfl rfl, ?_⟩))
    refine (sflag_ok _ _).mono ?_
    rintro e W3 ⟨rfl, eT⟩
    refine ⟨_, rfl, eT.same, ?_⟩
    replace H := H.step eT
    rw [kindB x2]
    repeat (first
      | (intro _ _ hS; replace H := H.new hS; clear hS)
      | (intro _ hS; (first | replace H := H.put 0 rfl hS | replace H := H.put 1 rfl hS | replace H := H.put 2 rfl hS | replace H := H.put 3 rfl hS | replace H := H.put 4 rfl hS | replace H := H.put 5 rfl hS | replace H := H.put 6 rfl hS | replace H := H.put 7 rfl hS); clear hS; try simp only [setA, List.setIfInBounds_toArray, List.set_cons_zero, List.set_cons_succ, Nat.zero_add, Nat.reduceAdd] at H)
      | (intro _ hS; replace H := H.step (Drew.ext hS); clear hS)
      | (first | refine ⟨⟨_, H.get 0 rfl rfl⟩, ?_⟩ | refine ⟨⟨_, H.get 1 rfl rfl⟩, ?_⟩ | refine ⟨⟨_, H.get 2 rfl rfl⟩, ?_⟩ | refine ⟨⟨_, H.get 3 rfl rfl⟩, ?_⟩ | refine ⟨⟨_, H.get 4 rfl rfl⟩, ?_⟩ | refine ⟨⟨_, H.get 5 rfl rfl⟩, ?_⟩ | refine ⟨⟨_, H.get 6 rfl rfl⟩, ?_⟩ | refine ⟨⟨_, H.get 7 rfl rfl⟩, ?_⟩)
      | (first | refine ⟨H.frz 0 rfl, ?_⟩ | refine ⟨H.frz 1 rfl, ?_⟩ | refine ⟨H.frz 2 rfl, ?_⟩ | refine ⟨H.frz 3 rfl, ?_⟩ | refine ⟨H.frz 4 rfl, ?_⟩ | refine ⟨H.frz 5 rfl, ?_⟩ | refine ⟨H.frz 6 rfl, ?_⟩ | refine ⟨H.frz 7 rfl, ?_⟩)
      | (first | refine ⟨_, H.get 0 rfl rfl, ?_⟩ | refine ⟨_, H.get 1 rfl rfl, ?_⟩ | refine ⟨_, H.get 2 rfl rfl, ?_⟩ | refine ⟨_, H.get 3 rfl rfl, ?_⟩ | refine ⟨_, H.get 4 rfl rfl, ?_⟩ | refine ⟨_, H.get 5 rfl rfl, ?_⟩ | refine ⟨_, H.get 6 rfl rfl, ?_⟩ | refine ⟨_, H.get 7 rfl rfl, ?_⟩)
      | (first | refine ⟨_, _, _, H.get 0 rfl rfl, ?_⟩ | refine ⟨_, _, _, H.get 1 rfl rfl, ?_⟩ | refine ⟨_, _, _, H.get 2 rfl rfl, ?_⟩ | refine ⟨_, _, _, H.get 3 rfl rfl, ?_⟩ | refine ⟨_, _, _, H.get 4 rfl rfl, ?_⟩ | refine ⟨_, _, _, H.get 5 rfl rfl, ?_⟩ | refine ⟨_, _, _, H.get 6 rfl rfl, ?_⟩ | refine ⟨_, _, _, H.get 7 rfl rfl, ?_⟩))
    obtain ⟨p4, c4, w53, hrun, H1⟩ := H.append (ty := 28) (P := Tryd.prog) (q := some ⟨_, 0, none⟩) (m := 2) (d' := 2) (news := vB [UInt8.ofNat x.kind.toNat, if x.null then 1 else 0]) 0 rfl undB tyB rfl (by decide) (H.blk 0 rfl).at rfl (fun e => by cases e) vB_one (by dsimp only; omega) (by unfold maxLen; omega)
    refine ⟨_, _, _, _, hrun, ?_⟩
    rw [i64_next (by omega)]
    refine ⟨⟨j + 1, rfl, by omega, ?_, ?_⟩, by simp only [Int.toNat_natCast]; omega⟩
    · rw [hst, List.length_append, hn3]; rfl
    · rw [hst, vB_append]
      exact H1.tail.tail
  · have : j = cols.length := by omega
    subst this
    rw [partS_all] at H ⊢
    refine ⟨_, _, _, by rw [hL], ?_, H.ext⟩
    rw [hL]
    exact hold_out H 0 rfl rfl
set_option maxHeartbeats 4000000 in
theorem r5lay_ok (w : World) {p cp : Option Addr} {n c cn cc : Nat} {l : List UInt8} {cols : List Col} (h : In w p n c l) (hc : Cols w cp cn cc cols) (hs : ∀ x ∈ cols, x.name.size ≤ 9223372036854775807) (hroom : n + 2002000 ≤ 211106232532992) :
    Calls Tryd.prog 14 #[.slice p n c, .slice cp cn cc] w fun e w' => ∃ p' n' c', e = .returned (.tuple #[.slice p' n' c', .int .i64 (layS l cols).2]) ∧ Out w.heap.size w' p' n' c' (layS l cols).1 ∧ Ext w w' := by
  have hl := h.len
  have hcl := hc.len
  apply r5lay_vc
  unfold r5lay_T
  refine (r5right_ok hc hs).mono ?_
  rintro e w2 ⟨rfl, e1⟩
  refine ⟨_, rfl, fun hf => ?_, fun ht => ?_⟩
  · have hL : layS l cols = ([], 50) := by unfold layS; rw [hf]; rfl
    refine ⟨none, 0, 0, by rw [hL], ?_, e1⟩
    rw [hL]
    exact ⟨rfl, Mine.nil _ _ _ _⟩
  obtain ⟨r1, r2, r3⟩ := right_all ht
  have hL : layS l cols = (l ++ schB cols, 0) := by unfold layS; rw [if_pos ht]
  rw [u64_nat (by omega)]
  refine (refNumber_out w2 (h.ext e1) (by omega) (by omega)).mono ?_
  rintro e w7 ⟨p2, n2, c2, rfl, ho, e2⟩
  have H0 := (Hold.start e1).addRow e2 ho.2
  refine ⟨_, _, _, rfl, ?_⟩
  refine ⟨fun q k d i W => ∃ j : Nat, i = (j : Int) ∧ j ≤ cn ∧ k = (partS l cols j).length ∧ Hold w W [] [⟨5, 1, q, k, d, vB (partS l cols j)⟩], fun _ _ _ i _ => cn - i.toNat, ⟨0, rfl, Nat.zero_le _, ?_, ?_⟩, ?_⟩
  · rw [← ho.1]; unfold partS; rw [hcl]; simp
  · have : partS l cols 0 = l ++ uvar cn := by unfold partS; rw [hcl]; simp
    rw [this]; exact H0
  clear H0 ho
  rintro q k d i W ⟨j, rfl, hj, rfl, H⟩
  have hlen := partS_len (l := l) ht j
  refine ⟨fun hlt => ?_, fun hge => ?_⟩
  · have gx : cols[j]? = some (cols[j]'(by omega)) := List.getElem?_eq_getElem _
    generalize cols[j]'(by omega) = x at gx
    obtain ⟨x1, x2⟩ := r3 x (List.mem_of_getElem? gx)
    obtain ⟨b, o, hp, c0, c1, c3⟩ := (hc.ext H.ext).col gx
    simp only [Int.toNat_natCast]
    refine ⟨b, o, hp, by omega, hlt, _, c0, ?_⟩
    refine (refText_out _ (hold_in H 0 rfl rfl) (by omega)).mono ?_
    rintro e W2 ⟨p3, n3, c3', rfl, ho, eS⟩
    have et : textL (partS l cols j) (tB x.name) = (partS l cols j ++ (uvar x.name.size ++ tB x.name), 0) := by
      unfold textL
      rw [tB_length, if_pos (by omega)]
    rw [et] at ho ⊢
    have hn3 := ho.1
    have hlen2 := partS_len (l := l) ht (j + 1)
    have hst := partS_step (l := l) gx
    have hn3b : n3 + 2 = (partS l cols (j + 1)).length := by rw [hst, List.length_append, hn3]; rfl
    replace H := H.noRow.addRow eS ho.2
    refine ⟨_, _, _, _, rfl, ?_⟩
    have key : ∀ f : UInt8, (if x.null then 1 else 0) = f → True := fun _ _ => trivial
    clear key
    refine ⟨b, o, hp, by omega, hlt, _, cell_ext c3 eS, fun hb => ?_, fun hb => ?_⟩
    · refine ⟨b, o, hp, by omega, hlt, _, cell_ext c1 eS, ?_⟩
      rw [kindB x2]
      have hfl : (if x.null then (1 : UInt8) else 0) = 1 := by rw [hb]; rfl
      rw [hfl] at hst
      intro b36 w37 h36
      replace H := H.new h36
      obtain ⟨p4, c4, w53, hrun, H1⟩ := H.append (ty := 28) (P := Tryd.prog) (q := some ⟨_, 0, none⟩) (m := 2) (d' := 2) (news := vB [UInt8.ofNat x.kind.toNat, 1]) 0 rfl undB tyB rfl (by decide) (H.blk 0 rfl).at rfl (fun e => by cases e) vB_one (by dsimp only; omega) (by unfold maxLen; omega)
      refine ⟨_, _, _, _, hrun, ?_⟩
      rw [i64_next (by omega)]
      refine ⟨⟨j + 1, rfl, by omega, ?_, ?_⟩, by simp only [Int.toNat_natCast]; omega⟩
      · rw [hst, List.length_append, hn3]; rfl
      · rw [hst, vB_append]
        exact H1.tail
    · refine ⟨b, o, hp, by omega, hlt, _, cell_ext c1 eS, ?_⟩
      rw [kindB x2]
      have hfl : (if x.null then (1 : UInt8) else 0) = 0 := by rw [hb]; rfl
      rw [hfl] at hst
      intro b36 w37 h36
      replace H := H.new h36
      obtain ⟨p4, c4, w53, hrun, H1⟩ := H.append (ty := 28) (P := Tryd.prog) (q := some ⟨_, 0, none⟩) (m := 2) (d' := 2) (news := vB [UInt8.ofNat x.kind.toNat, 0]) 0 rfl undB tyB rfl (by decide) (H.blk 0 rfl).at rfl (fun e => by cases e) vB_one (by dsimp only; omega) (by unfold maxLen; omega)
      refine ⟨_, _, _, _, hrun, ?_⟩
      rw [i64_next (by omega)]
      refine ⟨⟨j + 1, rfl, by omega, ?_, ?_⟩, by simp only [Int.toNat_natCast]; omega⟩
      · rw [hst, List.length_append, hn3]; rfl
      · rw [hst, vB_append]
        exact H1.tail
  · have : j = cols.length := by omega
    subst this
    rw [partS_all] at H ⊢
    refine ⟨_, _, _, by rw [hL], ?_, H.ext⟩
    rw [hL]
    exact hold_out H 0 rfl rfl
end Go.Proofs.YtiojkfckaalooaaDoor

/- The contracts of schemas' bytes: taking, by the program and by the document. Printed by mksl2.py. -/
namespace Go.Vc
open Go Go.RowKit
def takeSV (l : List UInt8) (pos : Int) : List Col × Int × Int :=
  match takeSch l pos with
  | some (cs, k) => (cs, (k : Int), 0)
  | none => ([], 0, 52)
theorem takeT_tx {l : List UInt8} {pos : Int} {m : Nat} (hm : m ≤ 1048576) : takeT l pos (m : Int) = (match takeTx l pos m with
    | some (s, k) => .tuple #[.string s, .int .i64 (k : Int), .int .i64 0]
    | none => .tuple #[.string ⟨#[]⟩, .int .i64 0, .int .i64 20]) := by
  unfold takeT takeTx
  cases takeN l pos with
  | none => rfl
  | some r =>
    obtain ⟨v, k⟩ := r
    simp only [Option.bind_some]
    by_cases h : v ≤ m ∧ v ≤ l.length - k
    · rw [if_pos h, if_pos ⟨by omega, by omega, h.2⟩]; rfl
    · rw [if_neg h, if_neg (by omega)]
end Go.Vc
namespace Go.Proofs.YtiojkfckaalooaaDoor
open Go Go.Vc Go.RowKit
set_option maxRecDepth 20000
attribute [local irreducible] Calls Put Drew New

theorem undCols : Tryd.prog.underlying 22 = some (.slice 53) := by kernel_rfl
theorem tyCol : tyOf Tryd.prog 53 = some { agg := true, ls := [.str, .int .i64, .bool], zero := .agg #[.string ⟨#[]⟩, .int .i64 0, .bool false], bytes := 32, big := false, n := 3 } := by kernel_rfl
/-- Columns of our own, as they come in. -/
theorem hold_cols {w0 W : World} {fs : List (Nat × Obj)} {ms : List Row} (H : Hold w0 W fs ms) (i : Nat) {p : Option Addr} {n c : Nat} {cs : List Col} (hi : ms[i]? = some ⟨53, 3, p, n, c, cs.flatMap Col.cs⟩) (hl : cs.length = n) : Cols W p n c cs :=
  ⟨hl, (H.row i hi).cap, (H.row i hi).at, (H.row i hi).isNil⟩

set_option maxHeartbeats 4000000 in
theorem stake_ok (w : World) {p : Option Addr} {n c : Nat} {l : List UInt8} (h : In w p n c l) {pos : Int} (hpos : pos ≤ 9223372036854775807) :
    Calls Tryd.prog 15 #[.slice p n c, .int .i64 pos] w fun e w' => ∃ p' n' c', e = .returned (.tuple #[.slice p' n' c', .int .i64 (takeSV l pos).2.1, .int .i64 (takeSV l pos).2.2]) ∧ Cols w' p' n' c' (takeSV l pos).1 ∧ Ext w w' := by
  have hl := h.len
  have hn : n ≤ 9223372036854775807 := h.le
  have hcap := h.cap.1
  have bad : ∀ {W : World}, Ext w W → takeSch l pos = none → ∃ p' n' c', Ending.returned (Value.tuple #[.slice none 0 0, .int .i64 0, .int .i64 52]) = .returned (.tuple #[.slice p' n' c', .int .i64 (takeSV l pos).2.1, .int .i64 (takeSV l pos).2.2]) ∧ Cols W p' n' c' (takeSV l pos).1 ∧ Ext w W := by
    intro W hx hn
    have e : takeSV l pos = ([], 0, 52) := by unfold takeSV; rw [hn]
    rw [e]
    exact ⟨none, 0, 0, rfl, Ls.nothing _ _, hx⟩
  apply stake_vc
  unfold stake_T
  refine (takeNumber_ok w p n c l pos h.len h.cap.1 h.le h.lies).mono ?_
  rintro e w2 ⟨rfl, e1⟩
  unfold takeV
  cases hN : takeN l pos with
  | none => exact ⟨0, 0, 20, rfl, fun _ => bad e1 (by unfold takeSch; rw [hN]; rfl), fun hx => absurd hx.1 (by decide)⟩
  | some r =>
    obtain ⟨N, k⟩ := r
    obtain ⟨_, hN64, _, hkl, _⟩ := takeN_spec hN
    have hS : takeSch l pos = if N ≤ 16 then (takeCols l N k).bind fun q => if rightC q.1 then some q else none else none := by unfold takeSch; rw [hN]; rfl
    refine ⟨_, _, _, rfl, fun hx => bad e1 (by rw [hS, if_neg (by omega)]), fun hx => ?_⟩
    have hN16 : N ≤ 16 := by omega
    rw [if_pos hN16] at hS
    refine ⟨fun q m d pos i W => ∃ (j z : Nat) (done : List Col), i = (j : Int) ∧ pos = (z : Int) ∧ j ≤ N ∧ m = done.length ∧ takeCols l j k = some (done, z) ∧ Hold w W [] [⟨53, 3, q, m, d, done.flatMap Col.cs⟩], fun _ _ _ _ i _ => N - i.toNat, ⟨0, k, [], rfl, rfl, Nat.zero_le _, rfl, rfl, (Hold.start e1).nilRow _ _⟩, ?_⟩
    rintro q m d pos' i W ⟨j, z, done, rfl, rfl, hj, rfl, hdone, H⟩
    obtain ⟨d1, d2, d3, d4, d5⟩ := takeCols_spec hdone hkl
    refine ⟨fun hlt => ?_, fun hge => ?_⟩
    · have hsnoc := takeCols_snoc (l := l) (n := j) (p := k)
      rw [hdone] at hsnoc
      simp only [Option.bind_some] at hsnoc
      have hno : takeCol l z = none → takeSch l pos = none := by
        intro hc
        rw [hS, takeCols_fail (n := j + 1) (by rw [hsnoc, hc]; rfl) (by omega)]; rfl
      refine (takeText_ok _ (h.ext H.ext) (pos := (z : Int)) (most := 24) (by decide)).mono ?_
      rintro e W2 ⟨rfl, eS⟩
      replace H := H.step eS
      rw [show (24 : Int) = ((24 : Nat) : Int) from rfl, takeT_tx (by decide)]
      cases hx : takeTx l (z : Int) 24 with
      | none => exact ⟨⟨#[]⟩, 0, 20, rfl, fun _ => bad H.ext (hno (by unfold takeCol; rw [hx]; rfl)), fun hx => absurd hx.1 (by decide)⟩
      | some r =>
        obtain ⟨s, y⟩ := r
        obtain ⟨_, hs24, _, hyl, _⟩ := takeTx_spec hx
        have hcol : takeCol l z = if 2 ≤ l.length - y ∧ by_ l (y + 1) ≤ 1 then some (⟨s, (by_ l y : Int), decide (by_ l (y + 1) = 1)⟩, y + 2) else none := by unfold takeCol; rw [hx]; rfl
        have ew : IntKind.i64.wrap ((n : Int) - (y : Int)) = ((n - y : Nat) : Int) := by rw [i64_fit (by omega) (by omega)]; omega
        refine ⟨_, _, _, rfl, fun hx => bad H.ext (hno (by rw [ew] at hx; rw [hcol, if_neg (by omega)])), fun hx => ?_⟩
        rw [ew] at hx
        have hy2 : y + 2 ≤ n := by omega
        have e1' : IntKind.i64.wrap ((y : Int) + 1) = ((y + 1 : Nat) : Int) := i64_fit (by omega) (by omega)
        have e2' : IntKind.i64.wrap ((y : Int) + 2) = ((y + 2 : Nat) : Int) := i64_fit (by omega) (by omega)
        rw [e1', e2']
        simp only [Int.toNat_natCast]
        obtain ⟨b, o, hb, hc1⟩ := h.byte (i := y + 1) (by omega)
        obtain ⟨b', o', hb', hc0⟩ := h.byte (i := y) (by omega)
        have t1 := by_lt l (y + 1)
        have t0 := by_lt l y
        refine ⟨b, o, hb, by omega, by omega, _, cell_ext hc1 H.ext, fun hx => bad H.ext (hno (by rw [hcol, if_neg (by omega)])), fun hx => ?_⟩
        intro w30 hD
        replace H := H.step (Drew.ext hD)
        refine ⟨b', o', hb', by omega, by omega, _, cell_ext hc0 H.ext, b, o, hb, by omega, by omega, _, cell_ext hc1 H.ext, ?_⟩
        have e8 : IntKind.i64.wrap ((by_ l y : Nat) : Int) = ((by_ l y : Nat) : Int) := i64_fit (by omega) (by omega)
        have e9 : decide (((by_ l (y + 1) : Nat) : Int) = Int.ofNat 1) = decide (by_ l (y + 1) = 1) := decide_eq_decide.2 ⟨fun h => by have h : ((by_ l (y + 1) : Nat) : Int) = 1 := h; omega, fun h => by rw [h]; rfl⟩
        rw [e8, e9]
        intro b38 w39 h38
        replace H := H.new h38
        rw [if_pos (by omega)] at hcol
        rw [hcol] at hsnoc
        simp only [Option.map_some] at hsnoc
        obtain ⟨p', c', w44, hrun, H1⟩ := H.append (ty := 22) (P := Tryd.prog) (q := some ⟨b38, 0, none⟩) (m := 1) (d' := 1) (news := Col.cs ⟨s, ((by_ l y : Nat) : Int), decide (by_ l (y + 1) = 1)⟩) 0 rfl undCols tyCol rfl (by decide) (H.blk 0 rfl).at rfl (fun e => by cases e) (Col.cs_one _) (by show ((done.length + 1) + (done.length + 1) / 4 + 192) * 32 ≤ 281474976710656; omega) (by unfold maxLen; omega)
        refine ⟨_, _, _, _, hrun, ?_⟩
        have ei : IntKind.u64.wrap ((j : Int) + 1) = ((j + 1 : Nat) : Int) := by rw [show (j : Int) + 1 = ((j + 1 : Nat) : Int) by omega, u64_nat (by omega)]
        rw [ei]
        refine ⟨⟨j + 1, y + 2, _, rfl, rfl, by omega, by rw [List.length_append]; rfl, hsnoc, ?_⟩, by simp only [Int.toNat_natCast]; omega⟩
        rw [List.flatMap_append]
        have := H1.tail
        simpa using this
    · have hjN : j = N := by omega
      subst hjN
      rw [hdone] at hS
      simp only [Option.bind_some] at hS
      have hcols := hold_cols H 0 rfl rfl
      refine (sright_ok hcols).mono ?_
      rintro e W2 ⟨rfl, eS⟩
      refine ⟨_, rfl, fun hf => bad (H.ext.trans eS) (by rw [hS, hf]; rfl), fun ht => ?_⟩
      have e : takeSV l pos = (done, (z : Int), 0) := by unfold takeSV; rw [hS, if_pos ht]
      rw [e]
      exact ⟨_, _, _, rfl, hcols.ext eS, H.ext.trans eS⟩

set_option maxHeartbeats 4000000 in
theorem r5take_ok (w : World) {p : Option Addr} {n c : Nat} {l : List UInt8} (h : In w p n c l) {pos : Int} (hpos : pos ≤ 9223372036854775807) :
    Calls Tryd.prog 16 #[.slice p n c, .int .i64 pos] w fun e w' => ∃ p' n' c', e = .returned (.tuple #[.slice p' n' c', .int .i64 (takeSV l pos).2.1, .int .i64 (takeSV l pos).2.2]) ∧ Cols w' p' n' c' (takeSV l pos).1 ∧ Ext w w' := by
  have hl := h.len
  have hn : n ≤ 9223372036854775807 := h.le
  have hcap := h.cap.1
  have bad : ∀ {W : World}, Ext w W → takeSch l pos = none → ∃ p' n' c', Ending.returned (Value.tuple #[.slice none 0 0, .int .i64 0, .int .i64 52]) = .returned (.tuple #[.slice p' n' c', .int .i64 (takeSV l pos).2.1, .int .i64 (takeSV l pos).2.2]) ∧ Cols W p' n' c' (takeSV l pos).1 ∧ Ext w W := by
    intro W hx hn
    have e : takeSV l pos = ([], 0, 52) := by unfold takeSV; rw [hn]
    rw [e]
    exact ⟨none, 0, 0, rfl, Ls.nothing _ _, hx⟩
  apply r5take_vc
  unfold r5take_T
  refine (refTakeNumber_ok w p n c l pos hpos h.len h.le h.lies).mono ?_
  rintro e w2 ⟨rfl, e1⟩
  unfold takeV
  cases hN : takeN l pos with
  | none => exact ⟨0, 0, 20, rfl, fun _ => bad e1 (by unfold takeSch; rw [hN]; rfl), fun hx => absurd hx.1 (by decide)⟩
  | some r =>
    obtain ⟨N, k⟩ := r
    obtain ⟨_, hN64, _, hkl, _⟩ := takeN_spec hN
    have hS : takeSch l pos = if N ≤ 16 then (takeCols l N k).bind fun q => if rightC q.1 then some q else none else none := by unfold takeSch; rw [hN]; rfl
    refine ⟨_, _, _, rfl, fun hx => bad e1 (by rw [hS, if_neg (by omega)]), fun hx => ?_⟩
    have hN16 : N ≤ 16 := by omega
    rw [if_pos hN16] at hS
    have eN : IntKind.i64.wrap ((N : Nat) : Int) = ((N : Nat) : Int) := i64_fit (by omega) (by omega)
    rw [eN]
    refine ⟨fun q m d pos i W => ∃ (j z : Nat) (done : List Col), i = (j : Int) ∧ pos = (z : Int) ∧ j ≤ N ∧ m = done.length ∧ takeCols l j k = some (done, z) ∧ Hold w W [] [⟨53, 3, q, m, d, done.flatMap Col.cs⟩], fun _ _ _ _ i _ => N - i.toNat, ⟨0, k, [], rfl, rfl, Nat.zero_le _, rfl, rfl, (Hold.start e1).nilRow _ _⟩, ?_⟩
    rintro q m d pos' i W ⟨j, z, done, rfl, rfl, hj, rfl, hdone, H⟩
    obtain ⟨d1, d2, d3, d4, d5⟩ := takeCols_spec hdone hkl
    refine ⟨fun hlt => ?_, fun hge => ?_⟩
    · have hsnoc := takeCols_snoc (l := l) (n := j) (p := k)
      rw [hdone] at hsnoc
      simp only [Option.bind_some] at hsnoc
      have hno : takeCol l z = none → takeSch l pos = none := by
        intro hc
        rw [hS, takeCols_fail (n := j + 1) (by rw [hsnoc, hc]; rfl) (by omega)]; rfl
      refine (refTakeText_ok _ (h.ext H.ext) (pos := (z : Int)) (most := 24) (by omega) (by decide)).mono ?_
      rintro e W2 ⟨rfl, eS⟩
      replace H := H.step eS
      rw [show (24 : Int) = ((24 : Nat) : Int) from rfl, takeT_tx (by decide)]
      cases hx : takeTx l (z : Int) 24 with
      | none => exact ⟨⟨#[]⟩, 0, 20, rfl, fun _ => bad H.ext (hno (by unfold takeCol; rw [hx]; rfl)), fun hx => absurd hx.1 (by decide)⟩
      | some r =>
        obtain ⟨s, y⟩ := r
        obtain ⟨_, hs24, _, hyl, _⟩ := takeTx_spec hx
        have hcol : takeCol l z = if 2 ≤ l.length - y ∧ by_ l (y + 1) ≤ 1 then some (⟨s, (by_ l y : Int), decide (by_ l (y + 1) = 1)⟩, y + 2) else none := by unfold takeCol; rw [hx]; rfl
        have ew : IntKind.i64.wrap ((n : Int) - (y : Int)) = ((n - y : Nat) : Int) := by rw [i64_fit (by omega) (by omega)]; omega
        refine ⟨_, _, _, rfl, fun hx => bad H.ext (hno (by rw [ew] at hx; rw [hcol, if_neg (by omega)])), fun hx => ?_⟩
        rw [ew] at hx
        have hy2 : y + 2 ≤ n := by omega
        have e1' : IntKind.i64.wrap ((y : Int) + 1) = ((y + 1 : Nat) : Int) := i64_fit (by omega) (by omega)
        have e2' : IntKind.i64.wrap ((y : Int) + 2) = ((y + 2 : Nat) : Int) := i64_fit (by omega) (by omega)
        rw [e1', e2']
        simp only [Int.toNat_natCast]
        obtain ⟨b, o, hb, hc1⟩ := h.byte (i := y + 1) (by omega)
        obtain ⟨b', o', hb', hc0⟩ := h.byte (i := y) (by omega)
        have t1 := by_lt l (y + 1)
        have t0 := by_lt l y
        refine ⟨b, o, hb, by omega, by omega, _, cell_ext hc1 H.ext, fun hx => bad H.ext (hno (by rw [hcol, if_neg (by omega)])), fun hx => ?_⟩
        intro w30 hD
        replace H := H.step (Drew.ext hD)
        refine ⟨b', o', hb', by omega, by omega, _, cell_ext hc0 H.ext, b, o, hb, by omega, by omega, _, cell_ext hc1 H.ext, ?_⟩
        have e8 : IntKind.i64.wrap ((by_ l y : Nat) : Int) = ((by_ l y : Nat) : Int) := i64_fit (by omega) (by omega)
        have e9 : decide (((by_ l (y + 1) : Nat) : Int) = Int.ofNat 1) = decide (by_ l (y + 1) = 1) := decide_eq_decide.2 ⟨fun h => by have h : ((by_ l (y + 1) : Nat) : Int) = 1 := h; omega, fun h => by rw [h]; rfl⟩
        rw [e8, e9]
        intro b38 w39 h38
        replace H := H.new h38
        rw [if_pos (by omega)] at hcol
        rw [hcol] at hsnoc
        simp only [Option.map_some] at hsnoc
        obtain ⟨p', c', w44, hrun, H1⟩ := H.append (ty := 22) (P := Tryd.prog) (q := some ⟨b38, 0, none⟩) (m := 1) (d' := 1) (news := Col.cs ⟨s, ((by_ l y : Nat) : Int), decide (by_ l (y + 1) = 1)⟩) 0 rfl undCols tyCol rfl (by decide) (H.blk 0 rfl).at rfl (fun e => by cases e) (Col.cs_one _) (by show ((done.length + 1) + (done.length + 1) / 4 + 192) * 32 ≤ 281474976710656; omega) (by unfold maxLen; omega)
        refine ⟨_, _, _, _, hrun, ?_⟩
        rw [i64_next (by omega)]
        refine ⟨⟨j + 1, y + 2, _, rfl, rfl, by omega, by rw [List.length_append]; rfl, hsnoc, ?_⟩, by simp only [Int.toNat_natCast]; omega⟩
        rw [List.flatMap_append]
        have := H1.tail
        simpa using this
    · have hjN : j = N := by omega
      subst hjN
      rw [hdone] at hS
      simp only [Option.bind_some] at hS
      have hcols := hold_cols H 0 rfl rfl
      refine (r5right_ok hcols (fun x hx => by have := d5 x hx; omega)).mono ?_
      rintro e W2 ⟨rfl, eS⟩
      refine ⟨_, rfl, fun hf => bad (H.ext.trans eS) (by rw [hS, hf]; rfl), fun ht => ?_⟩
      have e : takeSV l pos = (done, (z : Int), 0) := by unfold takeSV; rw [hS, if_pos ht]
      rw [e]
      exact ⟨_, _, _, rfl, hcols.ext eS, H.ext.trans eS⟩
end Go.Proofs.YtiojkfckaalooaaDoor

/- The shelf's tables of numbers for this program: as its command lays them, written out by a program of ours (lays.py). -/
namespace Go.Proofs.YtiojkfckaalooaaDoor
open Go Go.Shelf

def joinL_ren : Ren := ⟨fun | 156 => 54 | 165 => 77 | 166 => 78 | 169 => 79 | 240 => 90 | 241 => 91 | 276 => 100 | 277 => 101 | n => n, fun | 31 => 76 | 9 => 9 | 3 => 3 | 4 => 4 | 0 => 0 | 20 => 20 | 72 => 104 | 76 => 108 | 70 => 102 | 37 => 28 | 75 => 107 | 127 => 119 | 164 => 124 | 5 => 5 | 80 => 110 | n => n, fun | n => n⟩
theorem joinL : Lays.n156 Tryd.prog joinL_ren where
  mixed := by kernel_rfl
  f156 := Tryd.func54.trans (congrArg some (by kernel_rfl))
  f165 := Tryd.func77.trans (congrArg some (by kernel_rfl))
  f166 := Tryd.func78.trans (congrArg some (by kernel_rfl))
  f169 := Tryd.func79.trans (congrArg some (by kernel_rfl))
  f240 := Tryd.func90.trans (congrArg some (by kernel_rfl))
  f241 := Tryd.func91.trans (congrArg some (by kernel_rfl))
  f276 := Tryd.func100.trans (congrArg some (by kernel_rfl))
  f277 := Tryd.func101.trans (congrArg some (by kernel_rfl))
  t0 := Tryd.underlying0
  a0 := Tryd.isAgg0
  z0 := Tryd.sizeOf0
  v0 := Tryd.zeroValue0
  t3 := Tryd.underlying3
  a3 := Tryd.isAgg3
  z3 := Tryd.sizeOf3
  v3 := Tryd.zeroValue3
  t4 := Tryd.underlying4
  a4 := Tryd.isAgg4
  z4 := Tryd.sizeOf4
  v4 := Tryd.zeroValue4
  t9 := Tryd.underlying9
  a9 := Tryd.isAgg9
  z9 := Tryd.sizeOf9
  v9 := Tryd.zeroValue9
  t20 := Tryd.underlying20
  a20 := Tryd.isAgg20
  z20 := Tryd.sizeOf20
  v20 := Tryd.zeroValue20
  t31 := Tryd.underlying76
  a31 := Tryd.isAgg76
  z31 := Tryd.sizeOf76
  v31 := Tryd.zeroValue76
  t37 := Tryd.underlying28
  a37 := Tryd.isAgg28
  z37 := Tryd.sizeOf28
  v37 := Tryd.zeroValue28
  t70 := Tryd.underlying102
  a70 := Tryd.isAgg102
  z70 := Tryd.sizeOf102
  v70 := Tryd.zeroValue102
  t72 := Tryd.underlying104
  a72 := Tryd.isAgg104
  z72 := Tryd.sizeOf104
  v72 := Tryd.zeroValue104
  t75 := Tryd.underlying107
  a75 := Tryd.isAgg107
  z75 := Tryd.sizeOf107
  v75 := Tryd.zeroValue107
  t76 := Tryd.underlying108
  a76 := Tryd.isAgg108
  z76 := Tryd.sizeOf108
  v76 := Tryd.zeroValue108
  t127 := Tryd.underlying119
  a127 := Tryd.isAgg119
  z127 := Tryd.sizeOf119
  v127 := Tryd.zeroValue119
  t164 := Tryd.underlying124
  a164 := Tryd.isAgg124
  z164 := Tryd.sizeOf124
  v164 := Tryd.zeroValue124

def splitL_ren : Ren := ⟨fun | 146 => 56 | 221 => 80 | 268 => 92 | 138 => 93 | 143 => 94 | 195 => 102 | 197 => 86 | 218 => 103 | 219 => 96 | 260 => 97 | 217 => 64 | 225 => 104 | 224 => 105 | 267 => 106 | 266 => 84 | 314 => 108 | n => n, fun | 9 => 9 | 31 => 76 | 3 => 3 | 4 => 4 | 0 => 0 | 105 => 115 | 21 => 21 | 5 => 5 | 46 => 113 | 119 => 128 | 139 => 131 | 138 => 130 | 146 => 134 | 51 => 133 | n => n, fun | 1 => 1 | 3 => 2 | 4 => 3 | n => n⟩
def cutL_ren : Ren := ⟨fun | 145 => 58 | 220 => 82 | 219 => 96 | 217 => 64 | 225 => 104 | 224 => 105 | 267 => 106 | 266 => 84 | 314 => 108 | n => n, fun | 9 => 9 | 4 => 4 | 59 => 83 | 3 => 3 | 5 => 5 | 46 => 113 | 146 => 134 | 51 => 133 | n => n, fun | 1 => 1 | n => n⟩
end Go.Proofs.YtiojkfckaalooaaDoor

/- The contracts of schemas' texts: showing, by the program (strings.Join by the kit's shelf) and by the document. -/
namespace Go.Vc
open Go Go.RowKit
def bS (l : List UInt8) : ByteArray := ⟨l.toArray⟩
theorem bS_tB (s : ByteArray) : bS (tB s) = s := tB_inj.1 (tB_mk _)
theorem tB_bS (l : List UInt8) : tB (bS l) = l := tB_mk l
theorem bS_size (l : List UInt8) : (bS l).size = l.length := by
  show l.toArray.size = _
  simp
theorem cat_bS (a b : ByteArray) : ByteArray.instAppend.1 a b = bS (tB a ++ tB b) := by
  apply tB_inj.1
  rw [tB_bS]
  show (a ++ b).data.toList = _
  rw [ByteArray.data_append, Array.toList_append]; rfl
def txt (s : ByteArray) : List Value := [.string s]
theorem txt_len (s : ByteArray) : (txt s).length = 1 := rfl
theorem txt_one (s : ByteArray) : ∀ u ∈ txt s, u.oneCell' = true := by intro u hu; simp [txt] at hu; subst hu; rfl
def wordL (k : Int) : List UInt8 := if k = 1 then [105, 110, 116] else if k = 2 then [98, 111, 111, 108] else if k = 3 then [116, 101, 120, 116] else [110, 117, 108, 108]
def colT (c : Col) : List UInt8 := tB c.name ++ ([32] ++ (wordL c.kind ++ (if c.null then [32, 110, 117, 108, 108] else [])))
def sepL : List UInt8 := [44, 32]
def showL (cols : List Col) : List UInt8 := Lib.join (cols.map colT) sepL
def showS (cols : List Col) : ByteArray × Int := if rightC cols then (bS (showL cols), 0) else (⟨#[]⟩, 50)
theorem wordL_len (k : Int) : (wordL k).length ≤ 4 := by unfold wordL; repeat' split
                                                         all_goals decide
theorem colT_len {c : Col} (h : c.name.size ≤ 24) : (colT c).length ≤ 34 := by
  have := wordL_len c.kind
  have := tB_length c.name
  unfold colT
  cases c.null <;> simp <;> omega
theorem joinTail_len : ∀ (r : List (List UInt8)), (∀ x ∈ r, x.length ≤ 34) → (Lib.joinTail sepL r).length ≤ 36 * r.length
  | [], _ => by simp [Lib.joinTail]
  | x :: r, h => by
    have h1 := h x (by simp)
    have h2 := joinTail_len r fun y hy => h y (by simp [hy])
    have e : Lib.joinTail sepL (x :: r) = (sepL ++ x) ++ Lib.joinTail sepL r := by unfold Lib.joinTail; simp
    rw [e, List.length_append, List.length_append, List.length_cons]
    have : sepL.length = 2 := rfl
    omega
theorem showL_len {cols : List Col} (h : ∀ c ∈ cols, c.name.size ≤ 24) : (showL cols).length ≤ 36 * cols.length := by
  unfold showL
  cases cols with
  | nil => simp [Lib.join_nil]
  | cons c r =>
    rw [List.map_cons, Lib.join_cons, List.length_append, List.length_cons]
    have h1 := colT_len (h c (by simp))
    have h2 := joinTail_len (r.map colT) fun x hx => by
      obtain ⟨y, hy, rfl⟩ := List.mem_map.1 hx
      exact colT_len (h y (by simp [hy]))
    rw [List.length_map] at h2
    omega
end Go.Vc
namespace Go.Proofs.YtiojkfckaalooaaDoor
open Go Go.Vc Go.RowKit
set_option maxRecDepth 20000
attribute [local irreducible] Calls Put Drew New

/-- The table of words. -/
def wordsA : Array Value := #[.string (bS [110, 117, 108, 108]), .string (bS [105, 110, 116]), .string (bS [98, 111, 111, 108]), .string (bS [116, 101, 120, 116])]
def WTab (w : World) : Prop := CellsAt w 0 0 wordsA
theorem WTab.ext {w w' : World} (h : WTab w) (e : Ext w w') : WTab w' := fun k v hk => cell_ext (h k v hk) e
theorem WTab.at {w : World} (h : WTab w) {k : Int} (hk : 1 ≤ k ∧ k ≤ 3) : w.cell? ⟨0, 0 + k.toNat, none⟩ = some (.string (bS (wordL k))) := by
  rcases (by omega : k = 1 ∨ k = 2 ∨ k = 3) with e | e | e <;> subst e
  · exact h 1 _ rfl
  · exact h 2 _ rfl
  · exact h 3 _ rfl
theorem joinX : Builder.Extra Tryd.prog joinL_ren where
  sizeBuilder := by kernel_rfl
  liesBuilder := by kernel_rfl
  t5 := by kernel_rfl
  a5 := Tryd.isAgg5
  z5 := Tryd.sizeOf5
  v5 := Tryd.zeroValue5
  infoByte := by kernel_rfl
  cellsByte := by kernel_rfl
  sizeByte := by kernel_rfl
  neB5 := by decide
theorem join_ok {w : World} {p : Option Addr} {n c : Nat} {xs : List ByteArray} (h : Ls txt w p n c xs) (sep : ByteArray) (hn : n ≤ 1000) (hlen : (Lib.join (xs.map tB) (tB sep)).length ≤ 1000000) :
    Calls Tryd.prog 54 #[.slice p n c, .string sep] w fun e w' => e = .returned (.string (bS (Lib.join (xs.map tB) (tB sep)))) ∧ Ext w w' := by
  have hl := h.len
  rcases Nat.eq_zero_or_pos n with h0 | h0
  · subst h0
    have hx : xs = [] := List.eq_nil_of_length_eq_zero hl
    subst hx
    refine (Any.strings_Join_none joinL joinX p c sep w).mono ?_
    rintro e w' ⟨rfl, rfl⟩
    exact ⟨rfl, Ext.rfl⟩
  · obtain ⟨b, o, hp, h1⟩ := h.lies.things txt_len (by decide) (i := 0) (List.getElem?_eq_getElem (by omega))
    subst hp
    have hcells : ∀ (j : Nat) x, xs[j]? = some x → w.cell? ⟨b, o + j, none⟩ = some (.string x) := by
      intro j x hx
      obtain ⟨b', o', hp', h2⟩ := h.lies.things txt_len (by decide) hx
      cases hp'
      have := h2 0 _ rfl
      rwa [Nat.mul_one, Nat.add_zero] at this
    have hb := cell_lt (hcells 0 _ (List.getElem?_eq_getElem (by omega)))
    have := Any.strings_Join joinL joinX b o c xs sep w hcells hb (by omega) (by have := h.cap; omega) (by have : (Lib.join (xs.map (·.data.toList)) sep.data.toList).length ≤ 1000000 := hlen; omega)
    rw [hl] at this
    refine this.mono ?_
    rintro e w' ⟨rfl, hw⟩
    exact ⟨rfl, hw⟩
theorem undTx : Tryd.prog.underlying 76 = some (.slice 9) := by kernel_rfl
theorem tyStr : tyOf Tryd.prog 9 = some { agg := false, ls := [.str], zero := .string ⟨#[]⟩, bytes := 16, big := false, n := 1 } := by kernel_rfl
set_option maxHeartbeats 4000000 in
theorem sshow_ok {w : World} (hT : WTab w) {p : Option Addr} {n c : Nat} {cols : List Col} (h : Cols w p n c cols) :
    Calls Tryd.prog 29 #[.slice p n c] w fun e w' => e = .returned (.tuple #[.string (showS cols).1, .int .i64 (showS cols).2]) ∧ Ext w w' := by
  have hl := h.len
  apply sshow_vc
  unfold sshow_T
  refine (sright_ok h).mono ?_
  rintro e w2 ⟨rfl, e1⟩
  refine ⟨_, rfl, fun hf => ?_, fun ht => ?_⟩
  · have hS : showS cols = (⟨#[]⟩, 50) := by unfold showS; rw [hf]; rfl
    rw [hS]; exact ⟨rfl, e1⟩
  obtain ⟨r1, r2, r3⟩ := right_all ht
  have hS : showS cols = (bS (showL cols), 0) := by unfold showS; rw [if_pos ht]
  refine ⟨fun q m d i W => ∃ j : Nat, i = (j : Int) ∧ j ≤ n ∧ j = m ∧ Hold w W [] [⟨9, 1, q, m, d, ((cols.take j).map fun c => bS (colT c)).flatMap txt⟩], fun _ _ _ i _ => n - i.toNat, ⟨0, rfl, Nat.zero_le _, rfl, (Hold.start e1).nilRow _ _⟩, ?_⟩
  rintro q m d i W ⟨j, rfl, hj, rfl, H⟩
  refine ⟨fun hlt => ?_, fun hge => ?_⟩
  · have gx : cols[j]? = some (cols[j]'(by omega)) := List.getElem?_eq_getElem _
    generalize cols[j]'(by omega) = x at gx
    obtain ⟨x1, x2⟩ := r3 x (List.mem_of_getElem? gx)
    obtain ⟨b, o, hp, c0, c1, c3⟩ := (h.ext H.ext).col gx
    simp only [Int.toNat_natCast]
    refine ⟨b, o, hp, by omega, hlt, _, c0, _, c1, _, c3, ?_⟩
    repeat (first
      | (intro _ _ hS; replace H := H.new hS; clear hS)
      | (intro _ hS; (first | replace H := H.put 0 rfl hS | replace H := H.put 1 rfl hS | replace H := H.put 2 rfl hS | replace H := H.put 3 rfl hS | replace H := H.put 4 rfl hS | replace H := H.put 5 rfl hS | replace H := H.put 6 rfl hS | replace H := H.put 7 rfl hS); clear hS; try simp only [setA, List.setIfInBounds_toArray, List.set_cons_zero, List.set_cons_succ, Nat.zero_add, Nat.reduceAdd] at H)
      | (intro _ hS; replace H := H.step (Drew.ext hS); clear hS)
      | (first | refine ⟨⟨_, H.get 0 rfl rfl⟩, ?_⟩ | refine ⟨⟨_, H.get 1 rfl rfl⟩, ?_⟩ | refine ⟨⟨_, H.get 2 rfl rfl⟩, ?_⟩ | refine ⟨⟨_, H.get 3 rfl rfl⟩, ?_⟩ | refine ⟨⟨_, H.get 4 rfl rfl⟩, ?_⟩ | refine ⟨⟨_, H.get 5 rfl rfl⟩, ?_⟩ | refine ⟨⟨_, H.get 6 rfl rfl⟩, ?_⟩ | refine ⟨⟨_, H.get 7 rfl rfl⟩, ?_⟩)
      | (first | refine ⟨H.frz 0 rfl, ?_⟩ | refine ⟨H.frz 1 rfl, ?_⟩ | refine ⟨H.frz 2 rfl, ?_⟩ | refine ⟨H.frz 3 rfl, ?_⟩ | refine ⟨H.frz 4 rfl, ?_⟩ | refine ⟨H.frz 5 rfl, ?_⟩ | refine ⟨H.frz 6 rfl, ?_⟩ | refine ⟨H.frz 7 rfl, ?_⟩)
      | (first | refine ⟨_, H.get 0 rfl rfl, ?_⟩ | refine ⟨_, H.get 1 rfl rfl, ?_⟩ | refine ⟨_, H.get 2 rfl rfl, ?_⟩ | refine ⟨_, H.get 3 rfl rfl, ?_⟩ | refine ⟨_, H.get 4 rfl rfl, ?_⟩ | refine ⟨_, H.get 5 rfl rfl, ?_⟩ | refine ⟨_, H.get 6 rfl rfl, ?_⟩ | refine ⟨_, H.get 7 rfl rfl, ?_⟩)
      | (first | refine ⟨_, _, _, H.get 0 rfl rfl, ?_⟩ | refine ⟨_, _, _, H.get 1 rfl rfl, ?_⟩ | refine ⟨_, _, _, H.get 2 rfl rfl, ?_⟩ | refine ⟨_, _, _, H.get 3 rfl rfl, ?_⟩ | refine ⟨_, _, _, H.get 4 rfl rfl, ?_⟩ | refine ⟨_, _, _, H.get 5 rfl rfl, ?_⟩ | refine ⟨_, _, _, H.get 6 rfl rfl, ?_⟩ | refine ⟨_, _, _, H.get 7 rfl rfl, ?_⟩))
    refine ⟨by omega, ?_⟩
    repeat (first
      | (intro _ _ hS; replace H := H.new hS; clear hS)
      | (intro _ hS; (first | replace H := H.put 0 rfl hS | replace H := H.put 1 rfl hS | replace H := H.put 2 rfl hS | replace H := H.put 3 rfl hS | replace H := H.put 4 rfl hS | replace H := H.put 5 rfl hS | replace H := H.put 6 rfl hS | replace H := H.put 7 rfl hS); clear hS; try simp only [setA, List.setIfInBounds_toArray, List.set_cons_zero, List.set_cons_succ, Nat.zero_add, Nat.reduceAdd] at H)
      | (intro _ hS; replace H := H.step (Drew.ext hS); clear hS)
      | (first | refine ⟨⟨_, H.get 0 rfl rfl⟩, ?_⟩ | refine ⟨⟨_, H.get 1 rfl rfl⟩, ?_⟩ | refine ⟨⟨_, H.get 2 rfl rfl⟩, ?_⟩ | refine ⟨⟨_, H.get 3 rfl rfl⟩, ?_⟩ | refine ⟨⟨_, H.get 4 rfl rfl⟩, ?_⟩ | refine ⟨⟨_, H.get 5 rfl rfl⟩, ?_⟩ | refine ⟨⟨_, H.get 6 rfl rfl⟩, ?_⟩ | refine ⟨⟨_, H.get 7 rfl rfl⟩, ?_⟩)
      | (first | refine ⟨H.frz 0 rfl, ?_⟩ | refine ⟨H.frz 1 rfl, ?_⟩ | refine ⟨H.frz 2 rfl, ?_⟩ | refine ⟨H.frz 3 rfl, ?_⟩ | refine ⟨H.frz 4 rfl, ?_⟩ | refine ⟨H.frz 5 rfl, ?_⟩ | refine ⟨H.frz 6 rfl, ?_⟩ | refine ⟨H.frz 7 rfl, ?_⟩)
      | (first | refine ⟨_, H.get 0 rfl rfl, ?_⟩ | refine ⟨_, H.get 1 rfl rfl, ?_⟩ | refine ⟨_, H.get 2 rfl rfl, ?_⟩ | refine ⟨_, H.get 3 rfl rfl, ?_⟩ | refine ⟨_, H.get 4 rfl rfl, ?_⟩ | refine ⟨_, H.get 5 rfl rfl, ?_⟩ | refine ⟨_, H.get 6 rfl rfl, ?_⟩ | refine ⟨_, H.get 7 rfl rfl, ?_⟩)
      | (first | refine ⟨_, _, _, H.get 0 rfl rfl, ?_⟩ | refine ⟨_, _, _, H.get 1 rfl rfl, ?_⟩ | refine ⟨_, _, _, H.get 2 rfl rfl, ?_⟩ | refine ⟨_, _, _, H.get 3 rfl rfl, ?_⟩ | refine ⟨_, _, _, H.get 4 rfl rfl, ?_⟩ | refine ⟨_, _, _, H.get 5 rfl rfl, ?_⟩ | refine ⟨_, _, _, H.get 6 rfl rfl, ?_⟩ | refine ⟨_, _, _, H.get 7 rfl rfl, ?_⟩))
    have hw4 := wordL_len x.kind
    have hz := tB_length x.name
    refine ⟨by omega, by omega, _, (hT.ext H.ext).at x2, ?_⟩
    simp only [cat_bS, tB_bS, bS_size]
    have hone : tB (ByteArray.mk #[32]) = [32] := rfl
    have hnul : tB (ByteArray.mk #[32, 110, 117, 108, 108]) = [32, 110, 117, 108, 108] := rfl
    rw [hone, hnul]
    refine ⟨by simp; omega, ?_⟩
    repeat (first
      | (intro _ _ hS; replace H := H.new hS; clear hS)
      | (intro _ hS; (first | replace H := H.put 0 rfl hS | replace H := H.put 1 rfl hS | replace H := H.put 2 rfl hS | replace H := H.put 3 rfl hS | replace H := H.put 4 rfl hS | replace H := H.put 5 rfl hS | replace H := H.put 6 rfl hS | replace H := H.put 7 rfl hS); clear hS; try simp only [setA, List.setIfInBounds_toArray, List.set_cons_zero, List.set_cons_succ, Nat.zero_add, Nat.reduceAdd] at H)
      | (intro _ hS; replace H := H.step (Drew.ext hS); clear hS)
      | (first | refine ⟨⟨_, H.get 0 rfl rfl⟩, ?_⟩ | refine ⟨⟨_, H.get 1 rfl rfl⟩, ?_⟩ | refine ⟨⟨_, H.get 2 rfl rfl⟩, ?_⟩ | refine ⟨⟨_, H.get 3 rfl rfl⟩, ?_⟩ | refine ⟨⟨_, H.get 4 rfl rfl⟩, ?_⟩ | refine ⟨⟨_, H.get 5 rfl rfl⟩, ?_⟩ | refine ⟨⟨_, H.get 6 rfl rfl⟩, ?_⟩ | refine ⟨⟨_, H.get 7 rfl rfl⟩, ?_⟩)
      | (first | refine ⟨H.frz 0 rfl, ?_⟩ | refine ⟨H.frz 1 rfl, ?_⟩ | refine ⟨H.frz 2 rfl, ?_⟩ | refine ⟨H.frz 3 rfl, ?_⟩ | refine ⟨H.frz 4 rfl, ?_⟩ | refine ⟨H.frz 5 rfl, ?_⟩ | refine ⟨H.frz 6 rfl, ?_⟩ | refine ⟨H.frz 7 rfl, ?_⟩)
      | (first | refine ⟨_, H.get 0 rfl rfl, ?_⟩ | refine ⟨_, H.get 1 rfl rfl, ?_⟩ | refine ⟨_, H.get 2 rfl rfl, ?_⟩ | refine ⟨_, H.get 3 rfl rfl, ?_⟩ | refine ⟨_, H.get 4 rfl rfl, ?_⟩ | refine ⟨_, H.get 5 rfl rfl, ?_⟩ | refine ⟨_, H.get 6 rfl rfl, ?_⟩ | refine ⟨_, H.get 7 rfl rfl, ?_⟩)
      | (first | refine ⟨_, _, _, H.get 0 rfl rfl, ?_⟩ | refine ⟨_, _, _, H.get 1 rfl rfl, ?_⟩ | refine ⟨_, _, _, H.get 2 rfl rfl, ?_⟩ | refine ⟨_, _, _, H.get 3 rfl rfl, ?_⟩ | refine ⟨_, _, _, H.get 4 rfl rfl, ?_⟩ | refine ⟨_, _, _, H.get 5 rfl rfl, ?_⟩ | refine ⟨_, _, _, H.get 6 rfl rfl, ?_⟩ | refine ⟨_, _, _, H.get 7 rfl rfl, ?_⟩))
    refine ⟨fun hb => ⟨by simp; omega, ?_⟩, fun hb => ?_⟩
    · have ex : bS (tB x.name ++ [32] ++ wordL x.kind ++ [32, 110, 117, 108, 108]) = bS (colT x) := by unfold colT; rw [hb]; simp
      rw [ex]
      intro b35 w36 h35
      replace H := H.new h35
      obtain ⟨p', c', w41, hrun, H1⟩ := H.append (ty := 76) (P := Tryd.prog) (q := some ⟨b35, 0, none⟩) (m := 1) (d' := 1) (news := txt (bS (colT x))) 0 rfl undTx tyStr rfl (by decide) (H.blk 0 rfl).at rfl (fun e => by cases e) (txt_one _) (by show ((j + 1) + (j + 1) / 4 + 192) * 16 ≤ 281474976710656; omega) (by unfold maxLen; omega)
      refine ⟨_, _, _, _, hrun, ?_⟩
      rw [i64_next (by omega)]
      refine ⟨⟨j + 1, rfl, by omega, rfl, ?_⟩, by simp only [Int.toNat_natCast]; omega⟩
      rw [take_snoc gx, List.map_append, List.flatMap_append]
      have := H1.tail.tail
      simpa using this
    · have ex : bS (tB x.name ++ [32] ++ wordL x.kind) = bS (colT x) := by unfold colT; rw [hb]; simp
      rw [ex]
      intro b35 w36 h35
      replace H := H.new h35
      obtain ⟨p', c', w41, hrun, H1⟩ := H.append (ty := 76) (P := Tryd.prog) (q := some ⟨b35, 0, none⟩) (m := 1) (d' := 1) (news := txt (bS (colT x))) 0 rfl undTx tyStr rfl (by decide) (H.blk 0 rfl).at rfl (fun e => by cases e) (txt_one _) (by show ((j + 1) + (j + 1) / 4 + 192) * 16 ≤ 281474976710656; omega) (by unfold maxLen; omega)
      refine ⟨_, _, _, _, hrun, ?_⟩
      rw [i64_next (by omega)]
      refine ⟨⟨j + 1, rfl, by omega, rfl, ?_⟩, by simp only [Int.toNat_natCast]; omega⟩
      rw [take_snoc gx, List.map_append, List.flatMap_append]
      have := H1.tail.tail
      simpa using this
  · have hjn : j = n := by omega
    subst hjn
    rw [List.take_of_length_le (by omega)] at H
    have hls : Ls txt W q j d (cols.map fun c => bS (colT c)) := (H.row 0 rfl).ls txt_len (by decide)
    have hmap : (cols.map fun c => bS (colT c)).map tB = cols.map colT := by rw [List.map_map]; exact List.map_congr_left fun c _ => tB_bS _
    have hlen := showL_len (cols := cols) fun c hc => (r3 c hc).1
    refine (join_ok hls (ByteArray.mk #[44, 32]) (by omega) (by rw [hmap]; have : (Lib.join (cols.map colT) sepL).length ≤ 36 * cols.length := hlen; have e : tB (ByteArray.mk #[44, 32]) = sepL := rfl; rw [e]; omega)).mono ?_
    rintro e W2 ⟨rfl, eS⟩
    refine ⟨_, rfl, ?_, H.ext.trans eS⟩
    rw [hmap, hS]; rfl
end Go.Proofs.YtiojkfckaalooaaDoor

/- The contracts of schemas' texts, the document's; schemas held against one another; the known schema. Printed by mksw2.py. -/
namespace Go.Proofs.YtiojkfckaalooaaDoor
open Go Go.Vc Go.RowKit
set_option maxRecDepth 20000
attribute [local irreducible] Calls Put Drew New

set_option maxHeartbeats 2000000 in
theorem r5same_ok (w : World) {p q : Option Addr} {n c m d : Nat} {a b : List Col} (ha : Cols w p n c a) (hb : Cols w q m d b) :
    Calls Tryd.prog 17 #[.slice p n c, .slice q m d] w fun e w' => e = .returned (.bool (decide (a = b))) ∧ Ext w w' := by
  have hla := ha.len
  have hlb := hb.len
  have hn : n ≤ 9223372036854775807 := ha.le
  apply r5same_vc
  unfold r5same_T
  refine ⟨fun hne => ⟨?_, Ext.rfl⟩, fun heq => ?_⟩
  · rw [decide_eq_false]; intro e; rw [e] at hla; omega
  refine ⟨fun i W => ∃ j : Nat, i = (j : Int) ∧ j ≤ n ∧ a.take j = b.take j ∧ Ext w W, fun i _ => n - i.toNat, ⟨0, rfl, Nat.zero_le _, by simp, Ext.rfl⟩, ?_⟩
  rintro i W ⟨j, rfl, hj, htk, eW⟩
  refine ⟨fun hlt => ?_, fun hge => ⟨?_, eW⟩⟩
  · have ga : a[j]? = some (a[j]'(by omega)) := List.getElem?_eq_getElem _
    have gb : b[j]? = some (b[j]'(by omega)) := List.getElem?_eq_getElem _
    generalize a[j]'(by omega) = x at ga
    generalize b[j]'(by omega) = y at gb
    intro w9 hD
    have eD := eW.trans (Drew.ext hD)
    obtain ⟨b1, o1, hp1, a0, a1, a2⟩ := (ha.ext eD).col ga
    obtain ⟨b2, o2, hp2, c0, c1, c2⟩ := (hb.ext eD).col gb
    simp only [Int.toNat_natCast]
    refine ⟨b1, o1, hp1, by omega, hlt, _, a0, _, a1, _, a2, b2, o2, hp2, by omega, by omega, _, c0, _, c1, _, c2, fun hd => ⟨?_, eD⟩, fun he => ?_⟩
    · rw [decide_eq_false]
      intro e
      subst e
      rw [ga] at gb
      cases gb
      rcases hd with h | h | h <;> exact h rfl
    · rw [i64_next (by omega)]
      refine ⟨⟨j + 1, rfl, by omega, ?_, eD⟩, by simp only [Int.toNat_natCast]; omega⟩
      rw [take_snoc ga, take_snoc gb, htk, Col.ext'.2 he]
  · rw [List.take_of_length_le (by omega), List.take_of_length_le (by omega)] at htk
    rw [decide_eq_true htk]
def shownC : List Col := [⟨bS [97], 1, false⟩, ⟨bS [98], 3, true⟩]
theorem shownC_right : rightC shownC = true := by decide +kernel
theorem shownC_right1 : rightC (shownC.take 1) = true := by decide +kernel
theorem shownC_show : showL shownC = [97, 32, 105, 110, 116, 44, 32, 98, 32, 116, 101, 120, 116, 32, 110, 117, 108, 108] := by decide +kernel
theorem shownC_lay : schB (shownC.take 1) = [1, 1, 97, 1, 0] := by
  unfold schB
  show uvar 1 ++ (colB ⟨bS [97], 1, false⟩ ++ []) = _
  unfold colB
  show uvar 1 ++ ((uvar 1 ++ (tB (bS [97]) ++ _)) ++ []) = _
  rw [uvar_small (by decide)]; rfl
theorem shown05_ok {w : World} (hT : WTab w) : Calls Tryd.prog 10 #[] w fun e w' => e = .returned (.bool true) ∧ Ext w w' := by
  apply shown05_vc
  unfold shown05_T
  intro b1 w2 h1
  have h1' : New w (.cells (shownC.flatMap Col.cs).toArray 53) b1 w2 := h1
  have hC : Cols w2 (some ⟨b1, 0, none⟩) 2 2 shownC := ⟨rfl, ⟨Nat.le_refl _, by unfold maxLen; omega⟩, h1'.at, fun e => by cases e⟩
  have e1 := h1'.ext
  refine (sshow_ok (hT.ext e1) hC).mono ?_
  rintro e w5 ⟨rfl, e2⟩
  refine ⟨_, _, rfl, by decide, by decide, ?_⟩
  have hC1 : Cols w5 (some ⟨b1, 0, none⟩) 1 2 (shownC.take 1) := (hC.ext e2).take Col.cs_length (by decide)
  refine (slay_ok w5 (In.nothing _) hC1 (by decide)).mono ?_
  rintro e w9 ⟨p, n, c, rfl, ho, e3⟩
  have hS : showS shownC = (bS [97, 32, 105, 110, 116, 44, 32, 98, 32, 116, 101, 120, 116, 32, 110, 117, 108, 108], 0) := by unfold showS; rw [if_pos shownC_right, shownC_show]
  have hL : layS [] (shownC.take 1) = ([1, 1, 97, 1, 0], 0) := by unfold layS; rw [if_pos shownC_right1, shownC_lay]; rfl
  rw [hL] at ho ⊢
  rw [hS]
  refine ⟨_, _, _, _, rfl, fun _ => ⟨_, ho.bytes, ?_, (e1.trans e2).trans e3⟩, fun hx => ?_⟩
  · rw [show sEq ⟨([1, 1, 97, 1, 0] : List UInt8).toArray⟩ (ByteArray.mk #[1, 1, 97, 1, 0]) = true from sEq_self _]
  · exfalso
    rcases hx with (hx | hx) | hx
    · exact hx rfl
    · exact hx rfl
    · exact hx rfl
end Go.Proofs.YtiojkfckaalooaaDoor

/- A growing row of rows, all of our own. -/
namespace Go.Vc
open Go Go.RowKit

def Pts {β : Type} (te th : TypeId) (s : Nat) (en : β → List Value) (w0 W : World) (p : Option Addr) (n c : Nat) (bl : List β) : Prop :=
  ∃ (hs : List Sl) (rl : List Row), hs.length = n ∧ bl.length = n ∧ Hold w0 W [] (rl ++ [⟨th, 1, p, n, c, hs.flatMap Sl.cs⟩]) ∧ ∀ (i : Nat) x y, hs[i]? = some x → bl[i]? = some y → (⟨te, s, x.p, x.n, x.c, en y⟩ : Row) ∈ rl
section
variable {β : Type} {te th : TypeId} {s : Nat} {en : β → List Value} {w0 W W1 W2 : World} {p q : Option Addr} {n c m d b : Nat} {bl : List β} {y : β}
theorem Pts.ext (h : Pts te th s en w0 W p n c bl) : Ext w0 W := by
  obtain ⟨_, _, _, _, H, _⟩ := h
  exact H.ext
theorem Pts.step (h : Pts te th s en w0 W p n c bl) (e : Ext W W1) : Pts te th s en w0 W1 p n c bl := by
  obtain ⟨hs, rl, h1, h2, H, h3⟩ := h
  exact ⟨hs, rl, h1, h2, H.step e, h3⟩
theorem Pts.none (e : Ext w0 W) : Pts te th s en w0 W none 0 0 ([] : List β) := ⟨[], [], rfl, rfl, (Hold.start e).nilRow _ _, by simp⟩
/-- A literal of one row. -/
theorem Pts.one (e0 : Ext w0 W) (e : Ext W W1) (hm : Mine W.heap.size te s W1 q m d (en y)) (hn : New W1 (.cells #[.slice q m d] th) b W2) : Pts te th s en w0 W2 (some ⟨b, 0, Option.none⟩) 1 1 [y] := by
  have H := ((Hold.start e0).addRow e hm).litRow (s := 1) (cap := 1) hn (by unfold maxLen; omega) rfl
  have hsw : Hold w0 W2 [] ([(⟨te, s, q, m, d, en y⟩ : Row)] ++ [⟨th, 1, some ⟨b, 0, Option.none⟩, 1, 1, [(⟨q, m, d⟩ : Sl)].flatMap Sl.cs⟩]) := by
    refine ⟨H.ext, H.ge, H.holds, H.keys, fun i x hx => ?_, fun i j x k hx hk => by simp at hx, fun i j x k hx hk hij => ?_⟩
    · match i, hx with
      | 0, hx => exact H.own 1 x hx
      | 1, hx => exact H.own 0 x hx
      | i + 2, hx => simp at hx
    · match i, j, hx, hk with
      | 0, 0, hx, hk => exact absurd rfl hij
      | 0, 1, hx, hk => exact H.rows 1 0 x k hx hk (by decide)
      | 1, 0, hx, hk => exact H.rows 0 1 x k hx hk (by decide)
      | 1, 1, hx, hk => exact absurd rfl hij
      | i + 2, _, hx, _ => simp at hx
      | 0, j + 2, _, hk => simp at hk
      | 1, j + 2, _, hk => simp at hk
  refine ⟨[⟨q, m, d⟩], [⟨te, s, q, m, d, en y⟩], rfl, rfl, hsw, fun i x y' hx hy => ?_⟩
  cases i with
  | zero => cases hx; cases hy; simp
  | succ i => cases hx
theorem Pts.push {P : Program} {t' ty tb : TypeId} {z : Ty} (h : Pts te th s en w0 W p n c bl) (hu : P.underlying t' = some (.slice th)) (hz : tyOf P th = some z) (h1 : z.ls.length = 1) (hb : z.bytes = 24) (e : Ext W W1)
    (hm : Mine W.heap.size te s W1 q m d (en y)) (hn : New W1 (.cells #[.slice q m d] tb) b W2) (hlen : n ≤ 1000000) :
    ∃ p' c' W3, (Builtin.append_ #[t', t'] ty #[.slice p n c, .slice (some ⟨b, 0, Option.none⟩) 1 1]).run P W2 = .ok (.slice p' (n + 1) c') W3 ∧ Pts te th s en w0 W3 p' (n + 1) c' (bl ++ [y]) := by
  obtain ⟨hs, rl, hhs, hbl, H, hrows⟩ := h
  have H1 := H.addRow e hm
  have H2 := H1.step hn.ext
  have hidx : (⟨te, s, q, m, d, en y⟩ :: (rl ++ [(⟨th, 1, p, n, c, hs.flatMap Sl.cs⟩ : Row)]))[rl.length + 1]? = some ⟨th, 1, p, n, c, hs.flatMap Sl.cs⟩ := by simp
  obtain ⟨p', c', W3, hrn, H3⟩ := H2.append (ty := ty) (P := P) (s := 1) (q := some ⟨b, 0, Option.none⟩) (m := 1) (d' := 1) (news := [.slice q m d]) (rl.length + 1) hidx hu hz h1 (by decide) (Blk.new hn).at rfl (fun e => by cases e)
    (by intro u hu; simp at hu; subst hu; rfl) (by rw [hb]; omega) (by unfold maxLen; omega)
  refine ⟨p', c', W3, hrn, hs ++ [⟨q, m, d⟩], ⟨te, s, q, m, d, en y⟩ :: rl, by simp [hhs], by simp [hbl], ?_, ?_⟩
  · have e : (⟨te, s, q, m, d, en y⟩ :: (rl ++ [(⟨th, 1, p, n, c, hs.flatMap Sl.cs⟩ : Row)])).set (rl.length + 1) ⟨th, 1, p', n + 1, c', hs.flatMap Sl.cs ++ [.slice q m d]⟩
        = (⟨te, s, q, m, d, en y⟩ :: rl) ++ [⟨th, 1, p', n + 1, c', (hs ++ [(⟨q, m, d⟩ : Sl)]).flatMap Sl.cs⟩] := by
      simp [Sl.cs]
    rw [e] at H3
    exact H3
  · intro i x r' hx hr'
    rcases Nat.lt_or_ge i n with hi | hi
    · rw [List.getElem?_append_left (by omega)] at hx hr'
      exact List.mem_cons_of_mem _ (hrows i x r' hx hr')
    · have hlt := (List.getElem?_eq_some_iff.1 hx).1
      simp [hhs] at hlt
      have : i = n := by omega
      subst this
      rw [List.getElem?_append_right (by omega), show i - hs.length = 0 by omega] at hx
      rw [List.getElem?_append_right (by omega), show i - bl.length = 0 by omega] at hr'
      cases hr'
      cases hx
      exact List.mem_cons_self
/-- What lies there. -/
theorem Pts.heads (h : Pts te th s en w0 W p n c bl) : ∃ hs : List Sl, hs.length = n ∧ Mine w0.heap.size th 1 W p n c (hs.flatMap Sl.cs) ∧ bl.length = n ∧ ∀ (i : Nat) x y, hs[i]? = some x → bl[i]? = some y → Mine w0.heap.size te s W x.p x.n x.c (en y) := by
  obtain ⟨hs, rl, hhs, hbl, H, hrows⟩ := h
  refine ⟨hs, hhs, H.row rl.length (by simp), hbl, fun i x y hx hy => ?_⟩
  obtain ⟨k, hk⟩ := List.mem_iff_getElem?.1 (hrows i x y hx hy)
  have hkl := (List.getElem?_eq_some_iff.1 hk).1
  exact H.row k (by rw [List.getElem?_append_left hkl]; exact hk)
end
end Go.Vc

/- The contracts of rows' bytes: laying, by the program and by the document. -/
namespace Go.Vc
open Go Go.RowKit
def layR (l : List UInt8) (cols : List Col) (L : List (List Val)) : List UInt8 × Int := if rightC cols then (if L.length ≤ 1024 ∧ ∀ r ∈ L, fitsL cols r = true then (l ++ rowsB L, 0) else ([], 51)) else ([], 50)
/-- What is laid once j rows and k values of the next were. -/
def partR (l : List UInt8) (L : List (List Val)) (r : List Val) (j k : Nat) : List UInt8 := ((l ++ uvar L.length) ++ (L.take j).flatMap rowB) ++ rowB (r.take k)
def pieceR (l : List UInt8) (L : List (List Val)) (r : List Val) (j k : Nat) : List (List UInt8) := ((l ++ uvar L.length) :: (L.take j).flatten.map valB) ++ (r.take k).map valB
end Go.Vc
namespace Go.Proofs.YtiojkfckaalooaaDoor
open Go Go.Vc Go.RowKit
set_option maxRecDepth 20000
attribute [local irreducible] Calls Put Drew New

/-- What is known of rows that fit, so far. -/
structure Fit16 (cols : List Col) (L : List (List Val)) (j : Nat) : Prop where
  fits : ∀ r ∈ L.take j, fitsL cols r = true
theorem Fit16.next {cols : List Col} {L : List (List Val)} {j : Nat} {r : List Val} (h : Fit16 cols L j) (hr : L[j]? = some r) (hf : fitsL cols r = true) : Fit16 cols L (j + 1) := by
  refine ⟨fun x hx => ?_⟩
  rw [take_snoc hr] at hx
  rcases List.mem_append.1 hx with hx | hx
  · exact h.fits x hx
  · simp at hx; subst hx; exact hf
section
variable {cols : List Col} {L : List (List Val)} {r : List Val} {l : List UInt8} {j k : Nat}
end
end Go.Proofs.YtiojkfckaalooaaDoor

/- The contracts of rows' bytes: taking, by the program and by the document. Printed by mksl4.py. -/
namespace Go.Vc
open Go Go.RowKit
def takeRV (l : List UInt8) (cols : List Col) (pos : Int) : List (List Val) × Int × Int :=
  if rightC cols then (match takeRws l cols pos with
    | some (R, k) => (R, (k : Int), 0)
    | none => ([], 0, 52)) else ([], 0, 50)
def rowEn (r : List Val) : List Value := r.flatMap Val.cs
end Go.Vc
namespace Go.Proofs.YtiojkfckaalooaaDoor
open Go Go.Vc Go.RowKit
set_option maxRecDepth 20000
attribute [local irreducible] Calls Put Drew New

end Go.Proofs.YtiojkfckaalooaaDoor

/- The contracts of the words that hold rows against one another. -/
namespace Go.Proofs.YtiojkfckaalooaaDoor
open Go Go.Vc Go.RowKit
set_option maxRecDepth 20000

end Go.Proofs.YtiojkfckaalooaaDoor

/- The contracts of the words that hold rows against one another. -/
namespace Go.Proofs.YtiojkfckaalooaaDoor
open Go Go.Vc Go.RowKit
set_option maxRecDepth 20000

end Go.Proofs.YtiojkfckaalooaaDoor

/- The laws of schema: Fits, Parts, Lays, Rows, One. -/
namespace Go.Vc
open Go Go.RowKit
end Go.Vc
namespace Go.Proofs.YtiojkfckaalooaaDoor
open Go Go.Vc Go.RowKit
set_option maxRecDepth 20000
attribute [local irreducible] Calls Put Drew New

theorem lawLays_ok {w : World} (hT : WTab w) {p cp : Option Addr} {n c cn cc : Nat} {l : List UInt8} {cols : List Col} (h : In w p n c l) (hn : n ≤ 140737488351232) (hc : Cols w cp cn cc cols) (hcs : ∀ x ∈ cols, x.name.size ≤ 9223372036854775807) {pos : Int} (hpos : pos ≤ 9223372036854775807) :
    Calls Tryd.prog 4 #[.slice p n c, .slice cp cn cc, .int .i64 pos] w fun e w' => e = .returned (.bool true) ∧ Ext w w' := by
  apply lawLays_vc
  unfold lawLays_T
  refine (shown05_ok hT).mono ?_
  rintro e w2 ⟨rfl, e1⟩
  refine ⟨_, rfl, ?_⟩
  refine (slay_ok w2 (h.ext e1) (hc.ext e1) (by omega)).mono ?_
  rintro e w5 ⟨p6, n7, c8, rfl, ho, eS⟩
  replace e1 := e1.trans eS
  refine ⟨_, _, _, _, rfl, ?_⟩
  refine (r5lay_ok w5 (h.ext e1) (hc.ext e1) hcs (by omega)).mono ?_
  rintro e w11 ⟨p12, n13, c14, rfl, ho2, eT⟩
  replace e1 := e1.trans eT
  refine ⟨_, _, _, _, rfl, ?_⟩
  refine (stake_ok w11 (h.ext e1) hpos).mono ?_
  rintro e w17 ⟨p18, n19, c20, rfl, ht, eU⟩
  replace e1 := e1.trans eU
  refine ⟨_, _, _, _, _, rfl, ?_⟩
  refine (r5take_ok w17 (h.ext e1) hpos).mono ?_
  rintro e w24 ⟨p25, n26, c27, rfl, ht2, eV⟩
  replace e1 := e1.trans eV
  refine ⟨_, _, _, _, _, rfl, fun _ => ?_, fun hx => by cases hx⟩
  refine ⟨_, (((ho.ext eT).ext eU).ext eV).bytes, _, ((ho2.ext eU).ext eV).bytes, fun _ => ?_, fun hx => ?_⟩
  · refine (r5same_ok w24 (ht.ext eV) ht2).mono ?_
    rintro e w35 ⟨rfl, eW⟩
    refine ⟨_, rfl, ?_, e1.trans eW⟩
    simp
  · exfalso
    rcases hx with hx | hx <;> exact hx rfl
end Go.Proofs.YtiojkfckaalooaaDoor

/- Tables of tables: what a row's list says of their cells. -/
namespace Go.Vc
open Go

theorem cells_of_arr {H α : Type} {enc : TypeId × Value → H} {P : Program} {w : World} {base : Nat} {sp : Nat → Bool} {held : Bool} {fuel : Nat} {t e : TypeId} {n s : Nat} {cs : List Value} {zs : List α} {p : List MemPlace} {D : α → DataW H} {C : α → List Value}
    (ht : P.underlying t = some (.array n e)) (hce : P.cellsOf e = s) (hct : P.cellsOf t = n * s) (hs : ∀ z, (C z).length = s) (h0 : 0 < s)
    (inner : ∀ fuel cs z p, cs.length = s → DataW.trod enc P w base sp held fuel e cs = some (D z, p) → cs = C z)
    (h : DataW.trod enc P w base sp held fuel t cs = some (.agg (zs.map D), p)) : cs = zs.flatMap C := by
  cases fuel with
  | zero => simp [DataW.trod] at h
  | succ fuel =>
    simp only [DataW.trod, ht, hce, hct] at h
    split at h
    · rename_i hl
      obtain ⟨xs, hm, hx⟩ := Option.map_eq_some_iff.1 h
      have hxs : xs.map (·.1) = zs.map D := by
        have := congrArg Prod.fst hx
        simpa using this
      have hxl : xs.length = n := by simpa using Lib.mapM_length hm
      have hzl : zs.length = n := by
        have := congrArg List.length hxs
        simp at this
        omega
      have key : ∀ i, i < n → ∃ z, zs[i]? = some z ∧ (cs.drop (i * s)).take s = C z := by
        intro i hi
        obtain ⟨b, hb, hf⟩ := Lib.mapM_at hm i i (by simp [hi])
        have h2 : (xs.map (·.1))[i]? = some b.1 := by simp [hb]
        rw [hxs, List.getElem?_map] at h2
        obtain ⟨z, hz, he⟩ := Option.map_eq_some_iff.1 h2
        refine ⟨z, hz, inner fuel _ z b.2 ?_ ?_⟩
        · have hmul : (i + 1) * s ≤ n * s := Nat.mul_le_mul_right _ (by omega)
          have e1 : (i + 1) * s = i * s + s := Nat.succ_mul i s
          simp only [List.length_take, List.length_drop]
          omega
        · rw [hf, he]
      -- both lists, piece by piece
      have go : ∀ (m : Nat) (zs : List α) (cs : List Value), zs.length = m → cs.length = m * s → (∀ i, i < m → ∃ z, zs[i]? = some z ∧ (cs.drop (i * s)).take s = C z) → cs = zs.flatMap C := by
        intro m
        induction m with
        | zero =>
          intro zs cs hz hc _
          rw [List.length_eq_zero_iff] at hz
          rw [Nat.zero_mul, List.length_eq_zero_iff] at hc
          rw [hz, hc]; rfl
        | succ m ih =>
          intro zs cs hz hc hk
          match zs, hz with
          | z :: r, hz =>
            have hcm : (m + 1) * s = m * s + s := Nat.succ_mul m s
            obtain ⟨z', hz', h1⟩ := hk 0 (by omega)
            cases hz'
            rw [Nat.zero_mul, List.drop_zero] at h1
            have := ih r (cs.drop s) (by simpa using hz) (by rw [List.length_drop]; omega) (fun i hi => by
              obtain ⟨y, hy, h2⟩ := hk (i + 1) (by omega)
              refine ⟨y, by simpa using hy, ?_⟩
              rw [List.drop_drop, ← h2]
              congr 2
              rw [Nat.succ_mul]; omega)
            rw [List.flatMap_cons, ← h1, ← this, List.take_append_drop]
      exact go n zs cs hzl (by simpa using hl) key
    · cases h
end Go.Vc

/- A row's list of tables, looked up by name; rows of three numbers. -/
namespace Go.Vc
open Go

theorem laid_get {P : Program} {w : World} : ∀ {laid : List (String × DataW Unit)} {ps : List MemPlace}, DataW.LaidVars P w laid ps → ∀ {n : String} {d : DataW Unit}, (n, d) ∈ laid →
    ∃ g t cs fuel p, P.globalNamed n = some g ∧ (P.globals[g]?).map (·.type) = some t ∧ w.var? P n = some cs ∧ DataW.trod (fun _ => ()) P w 0 (fun _ => true) false fuel t cs.toList = some (d, p)
  | [], _, _, n, d, hm => by cases hm
  | (m, e) :: r, ps, h, n, d, hm => by
    obtain ⟨g, t, cs, fuel, p, q, h1, h2, h3, h4, h5, _⟩ := h
    rcases List.mem_cons.1 hm with hm | hm
    · cases hm; exact ⟨g, t, cs, fuel, p, h1, h2, h3, h4⟩
    · exact laid_get h5 hm
end Go.Vc

/- The tables, the arguments, the walks of law05's five laws. -/
namespace Go.Proofs.YtiojkfckaalooaaDoor
open Go Go.Vc Go.RowKit
set_option maxRecDepth 20000
attribute [local irreducible] Calls Put Drew New

theorem uStr : Tryd.prog.underlying 9 = some .string := by kernel_rfl
theorem uWords : Tryd.prog.underlying 77 = some (.array 4 9) := by kernel_rfl
def wordsL : List (List UInt8) := [[110, 117, 108, 108], [105, 110, 116], [98, 111, 111, 108], [116, 101, 120, 116]]
theorem laid_words : Rows.laid_stackyard_schema_words (H := Unit) = .agg (wordsL.map fun l => .lit (.string l)) := by kernel_rfl
theorem wtab_of {L : List (String × DataW Unit)} {W : World} (hm : ("stackyard/schema.words", Rows.laid_stackyard_schema_words) ∈ L) (h : laidMet Tryd.prog L W) : WTab W := by
  obtain ⟨ps, hl, _⟩ := h
  obtain ⟨g, t, cs, fuel, p, hg, ht, hv, hd⟩ := laid_get hl (n := "stackyard/schema.words") (d := Rows.laid_stackyard_schema_words) hm
  obtain rfl : g = 0 := Option.some.inj (hg.symm.trans (by kernel_rfl))
  obtain rfl : t = 77 := Option.some.inj (ht.symm.trans (by kernel_rfl))
  rw [laid_words] at hd
  have hc := cells_of_arr (C := fun l => txt (bS l)) (s := 1) uWords (by kernel_rfl) (by kernel_rfl) (fun _ => rfl) (by decide) (fun fuel cs z p hl h => by
    obtain ⟨s, rfl, hx, _⟩ := DataW.trod_string uStr h
    have h1 := congrArg Prod.fst hx
    simp only [DataW.lit.injEq, Lit.string.injEq] at h1
    rw [h1]
    show [Value.string s] = [Value.string (bS (tB s))]
    rw [bS_tB]) hd
  have hcs : cs = wordsA := by apply Array.ext'; rw [hc]; rfl
  intro k v hk
  rw [World.var?_cell hg hv, hcs, Nat.zero_add]; exact hk
theorem list3 {cs : List Value} (h : cs.length = 3) : ∃ a b d, cs = [a, b, d] := by
  match cs, h with
  | [a, b, d], _ => exact ⟨a, b, d, rfl⟩
theorem arg_col {w : World} {cs : List Value} (h : Arg Tryd.prog w 53 cs) : ∃ c : Col, cs = c.cs ∧ c.name.size ≤ 140737488351232 := by
  obtain ⟨hl, hf⟩ := Arg.fields (l := [(9, 0), (3, 1), (4, 2)]) (by kernel_rfl) h
  have h3 : Tryd.prog.cellsOf 53 = 3 := by kernel_rfl
  rw [h3] at hl
  obtain ⟨a, b, d, rfl⟩ := list3 hl
  have f1 := hf (9, 0) (by simp)
  have f2 := hf (3, 1) (by simp)
  have f3 := hf (4, 2) (by simp)
  have c1 : Tryd.prog.cellsOf 9 = 1 := by kernel_rfl
  have c2 : Tryd.prog.cellsOf 3 = 1 := by kernel_rfl
  have c3 : Tryd.prog.cellsOf 4 = 1 := by kernel_rfl
  simp only [c1, c2, c3] at f1 f2 f3
  obtain ⟨s, e1, hs⟩ := Arg.string (by kernel_rfl) f1
  obtain ⟨n, e2, _⟩ := Arg.int (k := .i64) (by kernel_rfl) f2
  obtain ⟨v, e3⟩ := Arg.bool (by kernel_rfl) f3
  simp at e1 e2 e3
  subst e1 e2 e3
  exact ⟨⟨s, n, v⟩, rfl, hs⟩
theorem arg_cols {w : World} {v : Value} (h : Arg Tryd.prog w 22 [v]) : ∃ p n c cols, v = .slice p n c ∧ Cols w p n c cols ∧ ∀ x ∈ cols, x.name.size ≤ 9223372036854775807 := by
  obtain ⟨p, n, c, l, e, h1, h2, _⟩ := arg_ls (e := 53) (enc := Col.cs) (Q := fun x => x.name.size ≤ 140737488351232) (by kernel_rfl) (by decide +kernel) (fun x hx => arg_col hx) (fun _ => by kernel_rfl) h
  exact ⟨p, n, c, l, e, h1, fun x hx => by have := h2 x hx; omega⟩
theorem u8u : Tryd.prog.underlying 5 = some (.int .u8) := by kernel_rfl
theorem arg_byte {w : World} {cs : List Value} (h : Arg Tryd.prog w 5 cs) : ∃ x : Nat, cs = [.int .u8 (x : Int)] ∧ x < 256 := by
  obtain ⟨n, rfl, hwf⟩ := Arg.int u8u h
  obtain ⟨a0, a1⟩ := wf_u8 hwf
  exact ⟨n.toNat, by rw [show ((n.toNat : Nat) : Int) = n by omega], by omega⟩
theorem arg_bytes {w : World} {v : Value} (h : Arg Tryd.prog w 28 [v]) : ∃ p n c l, v = .slice p n c ∧ In w p n c l ∧ n ≤ 140737488351232 := by
  obtain ⟨p, n, c, l, rfl, hl, hq, hb⟩ := arg_ls (e := 5) (enc := fun x : Nat => [.int .u8 (x : Int)]) (Q := fun x => x < 256) undB (by decide +kernel) (fun x hx => arg_byte hx) (fun _ => by kernel_rfl) h
  have hB : Tryd.prog.bytesOf 5 = 1 := by kernel_rfl
  rw [hB] at hb
  have hf : (l.flatMap fun x : Nat => [Value.int .u8 (x : Int)]) = vN .u8 l := by
    unfold vN
    clear hl hq
    induction l with
    | nil => rfl
    | cons x r ih => rw [List.flatMap_cons, ih]; rfl
  have hlies := hl.lies
  rw [hf, vN_bytes hq] at hlies
  have := hl.cap
  exact ⟨p, n, c, l.map UInt8.ofNat, rfl, ⟨by rw [List.length_map]; exact hl.len, hl.cap, hlies, hl.nil⟩, by omega⟩
theorem arg_int {w : World} {v : Value} (h : Arg Tryd.prog w 3 [v]) : ∃ n : Int, v = .int .i64 n ∧ n ≤ 9223372036854775807 := by
  obtain ⟨n, e, hwf⟩ := Arg.int (k := .i64) (by kernel_rfl) h
  cases e
  exact ⟨n, rfl, (wf_i64 hwf).2⟩

/-! ### The walks -/
theorem lays_walk (W : World) (hT : WTab W) (v0 v1 v2 : Value) (a0 : Arg Tryd.prog W 28 [v0]) (a1 : Arg Tryd.prog W 22 [v1]) (a2 : Arg Tryd.prog W 3 [v2]) :
    Calls Tryd.prog 4 #[v0, v1, v2] W fun e w' => e = .returned (.bool true) ∧ Ext W w' := by
  obtain ⟨p, n, c, l, rfl, h, hn⟩ := arg_bytes a0
  obtain ⟨cp, cn, cc, cols, rfl, hc, hs⟩ := arg_cols a1
  obtain ⟨pos, rfl, hp⟩ := arg_int a2
  exact lawLays_ok hT h hn hc hs hp
theorem tabs_lays {W : World} (h : laidMetH Tryd.prog Rows.schemaLaysRow.laid W) : WTab W := wtab_of (L := Rows.schemaLaysRow.laid) (by simp [Rows.schemaLaysRow]) h
end Go.Proofs.YtiojkfckaalooaaDoor

/- Three closed facts of the seat's program, asked once: they want much memory. -/
namespace Go.Proofs.YtiojkfckaalooaaDoor
set_option maxRecDepth 100000 in
theorem Tryd.entersB : (Tryd.prog.mayEnter && (false == Tryd.prog.liftsFinal) && (Tryd.prog.make == some .cut)) = true := by kernel_rfl
theorem Tryd.enters : Tryd.prog.mayEnter = true ∧ Tryd.prog.liftsFinal = false ∧ Tryd.prog.make = some .cut := by
  have h := Tryd.entersB
  simp only [Bool.and_eq_true, beq_iff_eq] at h
  exact ⟨h.1.1, h.1.2.symm, h.2⟩
end Go.Proofs.YtiojkfckaalooaaDoor
