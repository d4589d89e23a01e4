/- Texts of the proof, one behind the other. -/
import Derived.Test.YtiojkfckaalooaaDoorMb
import Derived.Lib.Bytealg
import Derived.Shelf.Strings.OnBuilder
import Derived.Shelf.Strings.Split
import Derived.Shelf.Strings.Cut
import Derived.Test.YtiojkfckaalooaaDoorProg
import Derived.Lib.LaidTab
import Derived.Test.YtiojkfckaalooaaDoorRows
import Derived.Lib.SplitLaws
import Derived.Lib.IndexMore
import Derived.Shelf.Vars
import Derived.JoinedOf
set_option linter.unusedVariables false
set_option linter.unusedSimpArgs false
/- The verification conditions of the functions, evaluated: printed by program. -/
namespace Go.Proofs.YtiojkfckaalooaaDoor
open Go Go.Vc
set_option maxRecDepth 20000

set_option maxRecDepth 100000 in
def sisname_T (s : ByteArray) (w : World) (R : Ending → World → Prop) : Prop :=
  (s ≠ ByteArray.mk #[] ∧ (↑s.size : Int) ≤ 24 → (0 : Int) ≤ 0 ∧ 0 < (↑s.size : Int) ∧ Calls Tryd.prog 46
 #[.string (ByteArray.mk #[97, 98, 99, 100, 101, 102, 103, 104, 105, 106, 107, 108, 109, 110, 111, 112, 113, 114, 115, 116, 117, 118, 119, 120, 121, 122]), .int .u8 (bAt s 0)]
 w fun e2 w3 ↦
 ∃ n4, e2 = .returned (.int .i64 n4) ∧ (0 ≤ n4 → Calls Tryd.prog 47
 #[.string s, Value.string
 (ByteArray.mk
 #[97, 98, 99, 100, 101, 102, 103, 104, 105, 106, 107, 108, 109, 110, 111, 112, 113, 114, 115, 116, 117, 118, 119, 120, 121, 122, 48, 49, 50, 51, 52, 53, 54, 55, 56, 57, 95])]
 w3 fun e6 w7 ↦ ∃ s8, e6 = .returned (.string s8) ∧ R (.returned (.bool (sEq s8 ⟨#[]⟩))) w7) ∧ (n4 < 0 → R (.returned (.bool false)) w3)) ∧ (s = ByteArray.mk #[] ∨ 24 < (↑s.size : Int) → R (.returned (.bool false)) w)

set_option maxRecDepth 100000 in
theorem sisname_eq (s : ByteArray) (w : World) (R : Ending → World → Prop) : sisname_T s w R = vcFn Tryd.prog [] [] Tryd.f22 [.string s] w R := by kernel_rfl

set_option maxRecDepth 100000 in
theorem sisname_vc (s : ByteArray) (w : World) (R : Ending → World → Prop) (hvc : sisname_T s w R) : Calls Tryd.prog 22 #[.string s] w R :=
  calls_of_vc (args := [.string s]) [] [] Tryd.mixed Tryd.func22 (cast (sisname_eq _ w R) hvc)

set_option maxRecDepth 100000 in
def sidxb_T (s : ByteArray) (c : Int) (w : World) (R : Ending → World → Prop) : Prop :=
  Calls Tryd.prog 64 #[.string s, .int .u8 c] w fun e1 w2 ↦
 ∃ n3, e1 = .returned (.int .i64 n3) ∧ R (.returned (.int .i64 n3)) w2

set_option maxRecDepth 100000 in
theorem sidxb_eq (s : ByteArray) (c : Int) (w : World) (R : Ending → World → Prop) : sidxb_T s c w R = vcFn Tryd.prog [] [] Tryd.f46 [.string s, .int .u8 c] w R := by kernel_rfl

set_option maxRecDepth 100000 in
theorem sidxb_vc (s : ByteArray) (c : Int) (w : World) (R : Ending → World → Prop) (hvc : sidxb_T s c w R) : Calls Tryd.prog 46 #[.string s, .int .u8 c] w R :=
  calls_of_vc (args := [.string s, .int .u8 c]) [] [] Tryd.mixed Tryd.func46 (cast (sidxb_eq _ _ w R) hvc)

set_option maxRecDepth 100000 in
def slidxb_T (s : ByteArray) (c : Int) (w : World) (R : Ending → World → Prop) : Prop :=
  ∃ n1, ∃ (w'2 : World), Sem.run Tryd.prog (callFunc 84 #[.string s, .int .u8 c]) w = Result.ok (Next.value (.int .i64 n1)) w'2 ∧ R (.returned (.int .i64 n1)) w'2

set_option maxRecDepth 100000 in
theorem slidxb_eq (s : ByteArray) (c : Int) (w : World) (R : Ending → World → Prop) : slidxb_T s c w R = vcFn Tryd.prog [] [] Tryd.f64 [.string s, .int .u8 c] w R := by kernel_rfl

set_option maxRecDepth 100000 in
theorem slidxb_vc (s : ByteArray) (c : Int) (w : World) (R : Ending → World → Prop) (hvc : slidxb_T s c w R) : Calls Tryd.prog 64 #[.string s, .int .u8 c] w R :=
  calls_of_vc (args := [.string s, .int .u8 c]) [] [] Tryd.mixed Tryd.func64 (cast (slidxb_eq _ _ w R) hvc)

set_option maxRecDepth 100000 in
def strim_T (s : ByteArray) (cutset : ByteArray) (w : World) (R : Ending → World → Prop) : Prop :=
  (s = ByteArray.mk #[] ∨ cutset = ByteArray.mk #[] → R (.returned (.string s)) w) ∧ (s ≠ ByteArray.mk #[] ∧ cutset ≠ ByteArray.mk #[] → ((↑cutset.size : Int) = 1 → (0 : Int) ≤ 0 ∧ 0 < (↑cutset.size : Int) ∧ (bAt cutset 0 < 128 → ∀ w'5, Drew w w'5 → (0 : Int) ≤ 0 ∧ 0 < (↑cutset.size : Int) ∧ (0 : Int) ≤ 0 ∧ 0 < (↑cutset.size : Int) ∧ Calls Tryd.prog 66 #[.string s, .int .u8 (bAt cutset 0)] w'5 fun e7 w8 ↦
 ∃ s9, e7 = .returned (.string s9) ∧ Calls Tryd.prog 65 #[.string s9, .int .u8 (bAt cutset 0)] w8 fun e10 w11 ↦
 ∃ s12, e10 = .returned (.string s12) ∧ R (.returned (.string s12)) w11) ∧ (128 ≤ bAt cutset 0 → Calls Tryd.prog 67 #[.string cutset] w fun e14 w15 ↦
 ∃ (vs16 : Array Value), vs16.size = 256 ∧ ∃ b17, e14 = .returned (.tuple #[.agg vs16, .bool b17]) ∧ ∀ b18 w'19, New w15 (Obj.cells (zeroA Tryd.prog 93) 93) b18 w'19 → vs16.size = 256 ∧ CanPut w'19 b18 0 vs16 ∧ ∀ w'21, Put w'19 b18 0 vs16.1 w'21 → (b17 = true → Calls Tryd.prog 69 #[.string s, .pointer (some ⟨b18, 0, none⟩)] w'21 fun e24 w25 ↦
 ∃ s26, e24 = .returned (.string s26) ∧ Calls Tryd.prog 68 #[.string s26, .pointer (some ⟨b18, 0, none⟩)] w25 fun e27 w28 ↦
 ∃ s29, e27 = .returned (.string s29) ∧ R (.returned (.string s29)) w28) ∧ (b17 = false → Calls Tryd.prog 71 #[.string s, .string cutset] w'21 fun e31 w32 ↦
 ∃ s33, e31 = .returned (.string s33) ∧ Calls Tryd.prog 70 #[.string s33, .string cutset] w32 fun e34 w35 ↦
 ∃ s36, e34 = .returned (.string s36) ∧ R (.returned (.string s36)) w35))) ∧ ((↑cutset.size : Int) ≠ 1 → Calls Tryd.prog 67 #[.string cutset] w fun e38 w39 ↦
 ∃ (vs40 : Array Value), vs40.size = 256 ∧ ∃ b41, e38 = .returned (.tuple #[.agg vs40, .bool b41]) ∧ ∀ b42 w'43, New w39 (Obj.cells (zeroA Tryd.prog 93) 93) b42 w'43 → vs40.size = 256 ∧ CanPut w'43 b42 0 vs40 ∧ ∀ w'45, Put w'43 b42 0 vs40.1 w'45 → (b41 = true → Calls Tryd.prog 69 #[.string s, .pointer (some ⟨b42, 0, none⟩)] w'45 fun e48 w49 ↦
 ∃ s50, e48 = .returned (.string s50) ∧ Calls Tryd.prog 68 #[.string s50, .pointer (some ⟨b42, 0, none⟩)] w49 fun e51 w52 ↦
 ∃ s53, e51 = .returned (.string s53) ∧ R (.returned (.string s53)) w52) ∧ (b41 = false → Calls Tryd.prog 71 #[.string s, .string cutset] w'45 fun e55 w56 ↦
 ∃ s57, e55 = .returned (.string s57) ∧ Calls Tryd.prog 70 #[.string s57, .string cutset] w56 fun e58 w59 ↦
 ∃ s60, e58 = .returned (.string s60) ∧ R (.returned (.string s60)) w59)))

set_option maxRecDepth 100000 in
theorem strim_eq (s : ByteArray) (cutset : ByteArray) (w : World) (R : Ending → World → Prop) : strim_T s cutset w R = vcFn Tryd.prog [] [(4, [2, 4, 6, 10, 12, 8, 14, 16, 0])] Tryd.f47 [.string s, .string cutset] w R := by kernel_rfl

set_option maxRecDepth 100000 in
theorem strim_vc (s : ByteArray) (cutset : ByteArray) (w : World) (R : Ending → World → Prop) (hvc : strim_T s cutset w R) : Calls Tryd.prog 47 #[.string s, .string cutset] w R :=
  calls_of_vc (args := [.string s, .string cutset]) [] [(4, [2, 4, 6, 10, 12, 8, 14, 16, 0])] Tryd.mixed Tryd.func47 (cast (strim_eq _ _ w R) hvc)

set_option maxRecDepth 100000 in
def mkascii_T (chars : ByteArray) (w : World) (R : Ending → World → Prop) : Prop :=
  ∀ b1 w'2, New w (Obj.cells (zeroA Tryd.prog 93) 93) b1 w'2 → ∃ (I4 : Int → World → Prop), ∃ (M5 : Int → World → Nat), I4 0 w'2 ∧ ∀ (n6 : Int) (w'7 : World), I4 n6 w'7 → (n6 < (↑chars.size : Int) → 0 ≤ n6 ∧ n6 < (↑chars.size : Int) ∧ (128 ≤ bAt chars n6.toNat → ∃ (vs11 : Array Value), vs11.size = 256 ∧ CellsAt w'7 b1 0 vs11 ∧ vs11.size = 256 ∧ CanPut w'7 b1 0 vs11 ∧ ∀ w'12, Put w'7 b1 0 vs11.1 w'12 → ∃ (vs14 : Array Value), vs14.size = 256 ∧ CellsAt w'12 b1 0 vs14 ∧ R (.returned (.tuple #[.agg vs14, .bool false])) w'12) ∧ (bAt chars n6.toNat < 128 → 0 ≤ bAt chars n6.toNat ∧ bAt chars n6.toNat < 256 ∧ (∃ u16, w'7.cell? ⟨b1, (0 + (bAt chars n6.toNat).toNat), none⟩ = some u16) ∧ w'7.frozen? ⟨b1, (0 + (bAt chars n6.toNat).toNat), none⟩ = false ∧ ∀ w'17, Put w'7 b1 (0 + (bAt chars n6.toNat).toNat) [.bool true] w'17 → I4 (IntKind.i64.wrap (n6 + 1)) w'17 ∧ M5 (IntKind.i64.wrap (n6 + 1)) w'17 < M5 n6 w'7)) ∧ ((↑chars.size : Int) ≤ n6 → ∃ (vs20 : Array Value), vs20.size = 256 ∧ CellsAt w'7 b1 0 vs20 ∧ vs20.size = 256 ∧ CanPut w'7 b1 0 vs20 ∧ ∀ w'21, Put w'7 b1 0 vs20.1 w'21 → ∃ (vs23 : Array Value), vs23.size = 256 ∧ CellsAt w'21 b1 0 vs23 ∧ R (.returned (.tuple #[.agg vs23, .bool true])) w'21)

set_option maxRecDepth 100000 in
theorem mkascii_eq (chars : ByteArray) (w : World) (R : Ending → World → Prop) : mkascii_T chars w R = vcFn Tryd.prog [] [] Tryd.f67 [.string chars] w R := by kernel_rfl

set_option maxRecDepth 100000 in
theorem mkascii_vc (chars : ByteArray) (w : World) (R : Ending → World → Prop) (hvc : mkascii_T chars w R) : Calls Tryd.prog 67 #[.string chars] w R :=
  calls_of_vc (args := [.string chars]) [] [] Tryd.mixed Tryd.func67 (cast (mkascii_eq _ w R) hvc)

set_option maxRecDepth 100000 in
def trimla_T (s : ByteArray) («as» : Option Addr) (w : World) (R : Ending → World → Prop) : Prop :=
  ∃ (I1 : ByteArray → World → Prop), ∃ (M2 : ByteArray → World → Nat), I1 s w ∧ ∀ (s3 : ByteArray) (w'4 : World), I1 s3 w'4 → (0 < (↑s3.size : Int) → (0 : Int) ≤ 0 ∧ 0 < (↑s3.size : Int) ∧ Calls Tryd.prog 85 #[.pointer «as», .int .u8 (bAt s3 0)] w'4 fun e7 w8 ↦
 ∃ b9, e7 = .returned (.bool b9) ∧ (b9 = false → R (.returned (.string s3)) w8) ∧ (b9 = true → (0 : Int) ≤ 1 ∧ 1 ≤ (↑s3.size : Int) ∧ I1 (s3.extract 1 s3.size) w8 ∧ M2 (s3.extract 1 s3.size) w8 < M2 s3 w'4)) ∧ ((↑s3.size : Int) ≤ 0 → R (.returned (.string s3)) w'4)

set_option maxRecDepth 100000 in
theorem trimla_eq (s : ByteArray) («as» : Option Addr) (w : World) (R : Ending → World → Prop) : trimla_T s «as» w R = vcFn Tryd.prog [] [] Tryd.f68 [.string s, .pointer «as»] w R := by kernel_rfl

set_option maxRecDepth 100000 in
theorem trimla_vc (s : ByteArray) («as» : Option Addr) (w : World) (R : Ending → World → Prop) (hvc : trimla_T s «as» w R) : Calls Tryd.prog 68 #[.string s, .pointer «as»] w R :=
  calls_of_vc (args := [.string s, .pointer «as»]) [] [] Tryd.mixed Tryd.func68 (cast (trimla_eq _ _ w R) hvc)

set_option maxRecDepth 100000 in
def trimra_T (s : ByteArray) («as» : Option Addr) (w : World) (R : Ending → World → Prop) : Prop :=
  ∃ (I1 : ByteArray → World → Prop), ∃ (M2 : ByteArray → World → Nat), I1 s w ∧ ∀ (s3 : ByteArray) (w'4 : World), I1 s3 w'4 → (0 < (↑s3.size : Int) → 0 ≤ IntKind.i64.wrap ((↑s3.size : Int) - 1) ∧ IntKind.i64.wrap ((↑s3.size : Int) - 1) < (↑s3.size : Int) ∧ Calls Tryd.prog 85 #[.pointer «as», .int .u8 (bAt s3 (IntKind.i64.wrap ((↑s3.size : Int) - 1)).toNat)] w'4 fun e7 w8 ↦
 ∃ b9, e7 = .returned (.bool b9) ∧ (b9 = false → R (.returned (.string s3)) w8) ∧ (b9 = true → 0 ≤ IntKind.i64.wrap ((↑s3.size : Int) - 1) ∧ IntKind.i64.wrap ((↑s3.size : Int) - 1) ≤ (↑s3.size : Int) ∧ I1 (s3.extract 0 (IntKind.i64.wrap ((↑s3.size : Int) - 1)).toNat) w8 ∧ M2 (s3.extract 0 (IntKind.i64.wrap ((↑s3.size : Int) - 1)).toNat) w8 < M2 s3 w'4)) ∧ ((↑s3.size : Int) ≤ 0 → R (.returned (.string s3)) w'4)

set_option maxRecDepth 100000 in
theorem trimra_eq (s : ByteArray) («as» : Option Addr) (w : World) (R : Ending → World → Prop) : trimra_T s «as» w R = vcFn Tryd.prog [] [] Tryd.f69 [.string s, .pointer «as»] w R := by kernel_rfl

set_option maxRecDepth 100000 in
theorem trimra_vc (s : ByteArray) («as» : Option Addr) (w : World) (R : Ending → World → Prop) (hvc : trimra_T s «as» w R) : Calls Tryd.prog 69 #[.string s, .pointer «as»] w R :=
  calls_of_vc (args := [.string s, .pointer «as»]) [] [] Tryd.mixed Tryd.func69 (cast (trimra_eq _ _ w R) hvc)

set_option maxRecDepth 100000 in
def ascont_T («as» : Option Addr) (c : Int) (w : World) (R : Ending → World → Prop) : Prop :=
  ∃ b1, ∃ o2, «as» = some ⟨b1, o2, none⟩ ∧ 0 ≤ c ∧ c < 256 ∧ ∃ b3, w.cell? ⟨b1, (o2 + c.toNat), none⟩ = some (.bool b3) ∧ R (.returned (.bool b3)) w

set_option maxRecDepth 100000 in
theorem ascont_eq («as» : Option Addr) (c : Int) (w : World) (R : Ending → World → Prop) : ascont_T «as» c w R = vcFn Tryd.prog [] [] Tryd.f85 [.pointer «as», .int .u8 c] w R := by kernel_rfl

set_option maxRecDepth 100000 in
theorem ascont_vc («as» : Option Addr) (c : Int) (w : World) (R : Ending → World → Prop) (hvc : ascont_T «as» c w R) : Calls Tryd.prog 85 #[.pointer «as», .int .u8 c] w R :=
  calls_of_vc (args := [.pointer «as», .int .u8 c]) [] [] Tryd.mixed Tryd.func85 (cast (ascont_eq _ _ w R) hvc)

set_option maxRecDepth 100000 in
def sright_T (cols_p : Option Addr) (cols_n : Nat) (cols_c : Nat) (w : World) (R : Ending → World → Prop) : Prop :=
  ∀ b1 w'2, New w (Obj.map #[] 0) b1 w'2 → ∃ (I4 : Int → World → Prop), ∃ (M5 : Int → World → Nat), I4 0 w'2 ∧ ∀ (n6 : Int) (w'7 : World), I4 n6 w'7 → (n6 < (↑cols_n : Int) → ∃ b10, ∃ o11, cols_p = some ⟨b10, o11, none⟩ ∧ 0 ≤ n6 ∧ n6 < (↑cols_n : Int) ∧ ∃ s12, w'7.cell? ⟨b10, (o11 + n6.toNat * 3), none⟩ = some (.string s12) ∧ ∃ n13, w'7.cell? ⟨b10, (o11 + n6.toNat * 3 + 1), none⟩ = some (.int .i64 n13) ∧ ∃ b14, w'7.cell? ⟨b10, (o11 + n6.toNat * 3 + 2), none⟩ = some (.bool b14) ∧ ∀ b15 w'16, New w'7 (Obj.cells #[.string ⟨#[]⟩, .int .i64 0, .bool false] 53) b15 w'16 → (∃ u18, w'16.cell? ⟨b15, 0, none⟩ = some u18) ∧ w'16.frozen? ⟨b15, 0, none⟩ = false ∧ (∃ u19, w'16.cell? ⟨b15, 1, none⟩ = some u19) ∧ w'16.frozen? ⟨b15, 1, none⟩ = false ∧ (∃ u20, w'16.cell? ⟨b15, 2, none⟩ = some u20) ∧ w'16.frozen? ⟨b15, 2, none⟩ = false ∧ ∀ w'21, Put w'16 b15 0 [.string s12, .int .i64 n13, .bool b14] w'21 → ∃ s23, w'21.cell? ⟨b15, 0, none⟩ = some (.string s23) ∧ Calls Tryd.prog 22 #[.string s23] w'21 fun e24 w25 ↦
 ∃ b26, e24 = .returned (.bool b26) ∧ (b26 = false → R (.returned (.bool false)) w25) ∧ (b26 = true → ∃ s29, w25.cell? ⟨b15, 0, none⟩ = some (.string s29) ∧ ∃ b30, (∀ (w131 : World), Same w25 w131 → Sem.run Tryd.prog (Instr.lookup 54 (.map (some b1)) (.string s29) false) w131 = Result.ok (.bool b30) w131) ∧ (b30 = true → R (.returned (.bool false)) w25) ∧ (b30 = false → ∃ n35, w25.cell? ⟨b15, 1, none⟩ = some (.int .i64 n35) ∧ (n35 < 1 → R (.returned (.bool false)) w25) ∧ (1 ≤ n35 → ∃ n38, w25.cell? ⟨b15, 1, none⟩ = some (.int .i64 n38) ∧ (3 < n38 → R (.returned (.bool false)) w25) ∧ (n38 ≤ 3 → ∃ s41, w25.cell? ⟨b15, 0, none⟩ = some (.string s41) ∧ ∃ (w'42 : World), Sem.run Tryd.prog (Instr.mapUpdate 54 (.map (some b1)) (.string s41) (.bool true)) w25 = Result.ok () w'42 ∧ I4 (IntKind.i64.wrap (n6 + 1)) w'42 ∧ M5 (IntKind.i64.wrap (n6 + 1)) w'42 < M5 n6 w'7))))) ∧ ((↑cols_n : Int) ≤ n6 → R (.returned (.bool (decide (0 < (↑cols_n : Int)) && decide ((↑cols_n : Int) ≤ 16)))) w'7)

set_option maxRecDepth 100000 in
theorem sright_eq (cols_p : Option Addr) (cols_n : Nat) (cols_c : Nat) (w : World) (R : Ending → World → Prop) : sright_T cols_p cols_n cols_c w R = vcFn Tryd.prog [] [] Tryd.f11 [.slice cols_p cols_n cols_c] w R := by kernel_rfl

set_option maxRecDepth 100000 in
theorem sright_vc (cols_p : Option Addr) (cols_n : Nat) (cols_c : Nat) (w : World) (R : Ending → World → Prop) (hvc : sright_T cols_p cols_n cols_c w R) : Calls Tryd.prog 11 #[.slice cols_p cols_n cols_c] w R :=
  calls_of_vc (args := [.slice cols_p cols_n cols_c]) [] [] Tryd.mixed Tryd.func11 (cast (sright_eq _ _ _ w R) hvc)

set_option maxRecDepth 100000 in
def r5isname_T (s : ByteArray) (w : World) (R : Ending → World → Prop) : Prop :=
  ∃ (I1 : Int → World → Prop), ∃ (M2 : Int → World → Nat), I1 0 w ∧ ∀ (n3 : Int) (w'4 : World), I1 n3 w'4 → (n3 < (↑s.size : Int) → 0 ≤ n3 ∧ n3 < (↑s.size : Int) ∧ (97 ≤ bAt s n3.toNat → 0 ≤ n3 ∧ n3 < (↑s.size : Int) ∧ 0 ≤ n3 ∧ n3 < (↑s.size : Int) ∧ (48 ≤ bAt s n3.toNat → 0 ≤ n3 ∧ n3 < (↑s.size : Int) ∧ (bAt s n3.toNat ≤ 57 → (122 < bAt s n3.toNat → (n3 = 0 → R (.returned (.bool false)) w'4) ∧ (n3 ≠ 0 → I1 (IntKind.i64.wrap (n3 + 1)) w'4 ∧ M2 (IntKind.i64.wrap (n3 + 1)) w'4 < M2 n3 w'4)) ∧ (bAt s n3.toNat ≤ 122 → I1 (IntKind.i64.wrap (n3 + 1)) w'4 ∧ M2 (IntKind.i64.wrap (n3 + 1)) w'4 < M2 n3 w'4)) ∧ (57 < bAt s n3.toNat → 0 ≤ n3 ∧ n3 < (↑s.size : Int) ∧ (122 < bAt s n3.toNat → (bAt s n3.toNat ≠ 95 ∨ n3 = 0 → R (.returned (.bool false)) w'4) ∧ (bAt s n3.toNat = 95 ∧ n3 ≠ 0 → I1 (IntKind.i64.wrap (n3 + 1)) w'4 ∧ M2 (IntKind.i64.wrap (n3 + 1)) w'4 < M2 n3 w'4)) ∧ (bAt s n3.toNat ≤ 122 → I1 (IntKind.i64.wrap (n3 + 1)) w'4 ∧ M2 (IntKind.i64.wrap (n3 + 1)) w'4 < M2 n3 w'4))) ∧ (bAt s n3.toNat < 48 → 0 ≤ n3 ∧ n3 < (↑s.size : Int) ∧ (122 < bAt s n3.toNat → (bAt s n3.toNat ≠ 95 ∨ n3 = 0 → R (.returned (.bool false)) w'4) ∧ (bAt s n3.toNat = 95 ∧ n3 ≠ 0 → I1 (IntKind.i64.wrap (n3 + 1)) w'4 ∧ M2 (IntKind.i64.wrap (n3 + 1)) w'4 < M2 n3 w'4)) ∧ (bAt s n3.toNat ≤ 122 → I1 (IntKind.i64.wrap (n3 + 1)) w'4 ∧ M2 (IntKind.i64.wrap (n3 + 1)) w'4 < M2 n3 w'4))) ∧ (bAt s n3.toNat < 97 → 0 ≤ n3 ∧ n3 < (↑s.size : Int) ∧ (48 ≤ bAt s n3.toNat → 0 ≤ n3 ∧ n3 < (↑s.size : Int) ∧ (bAt s n3.toNat ≤ 57 → (n3 = 0 → R (.returned (.bool false)) w'4) ∧ (n3 ≠ 0 → I1 (IntKind.i64.wrap (n3 + 1)) w'4 ∧ M2 (IntKind.i64.wrap (n3 + 1)) w'4 < M2 n3 w'4)) ∧ (57 < bAt s n3.toNat → 0 ≤ n3 ∧ n3 < (↑s.size : Int) ∧ (bAt s n3.toNat ≠ 95 ∨ n3 = 0 → R (.returned (.bool false)) w'4) ∧ (bAt s n3.toNat = 95 ∧ n3 ≠ 0 → I1 (IntKind.i64.wrap (n3 + 1)) w'4 ∧ M2 (IntKind.i64.wrap (n3 + 1)) w'4 < M2 n3 w'4))) ∧ (bAt s n3.toNat < 48 → 0 ≤ n3 ∧ n3 < (↑s.size : Int) ∧ (bAt s n3.toNat ≠ 95 ∨ n3 = 0 → R (.returned (.bool false)) w'4) ∧ (bAt s n3.toNat = 95 ∧ n3 ≠ 0 → I1 (IntKind.i64.wrap (n3 + 1)) w'4 ∧ M2 (IntKind.i64.wrap (n3 + 1)) w'4 < M2 n3 w'4)))) ∧ ((↑s.size : Int) ≤ n3 → R (.returned (.bool (decide (1 ≤ (↑s.size : Int)) && decide ((↑s.size : Int) ≤ 24)))) w'4)

set_option maxRecDepth 100000 in
theorem r5isname_eq (s : ByteArray) (w : World) (R : Ending → World → Prop) : r5isname_T s w R = vcFn Tryd.prog [] [] Tryd.f23 [.string s] w R := by kernel_rfl

set_option maxRecDepth 100000 in
theorem r5isname_vc (s : ByteArray) (w : World) (R : Ending → World → Prop) (hvc : r5isname_T s w R) : Calls Tryd.prog 23 #[.string s] w R :=
  calls_of_vc (args := [.string s]) [] [] Tryd.mixed Tryd.func23 (cast (r5isname_eq _ w R) hvc)

set_option maxRecDepth 100000 in
def r5find_T (cols_p : Option Addr) (cols_n : Nat) (cols_c : Nat) (name : ByteArray) (w : World) (R : Ending → World → Prop) : Prop :=
  ∃ (I1 : Int → World → Prop), ∃ (M2 : Int → World → Nat), I1 0 w ∧ ∀ (n3 : Int) (w'4 : World), I1 n3 w'4 → (n3 < (↑cols_n : Int) → ∃ b7, ∃ o8, cols_p = some ⟨b7, o8, none⟩ ∧ 0 ≤ n3 ∧ n3 < (↑cols_n : Int) ∧ ∃ s9, w'4.cell? ⟨b7, (o8 + n3.toNat * 3), none⟩ = some (.string s9) ∧ (s9 = name → R (.returned (.int .i64 n3)) w'4) ∧ (s9 ≠ name → I1 (IntKind.i64.wrap (n3 + 1)) w'4 ∧ M2 (IntKind.i64.wrap (n3 + 1)) w'4 < M2 n3 w'4)) ∧ ((↑cols_n : Int) ≤ n3 → R (.returned (.int .i64 (-1))) w'4)

set_option maxRecDepth 100000 in
theorem r5find_eq (cols_p : Option Addr) (cols_n : Nat) (cols_c : Nat) (name : ByteArray) (w : World) (R : Ending → World → Prop) : r5find_T cols_p cols_n cols_c name w R = vcFn Tryd.prog [] [] Tryd.f21 [.slice cols_p cols_n cols_c, .string name] w R := by kernel_rfl

set_option maxRecDepth 100000 in
theorem r5find_vc (cols_p : Option Addr) (cols_n : Nat) (cols_c : Nat) (name : ByteArray) (w : World) (R : Ending → World → Prop) (hvc : r5find_T cols_p cols_n cols_c name w R) : Calls Tryd.prog 21 #[.slice cols_p cols_n cols_c, .string name] w R :=
  calls_of_vc (args := [.slice cols_p cols_n cols_c, .string name]) [] [] Tryd.mixed Tryd.func21 (cast (r5find_eq _ _ _ _ w R) hvc)

set_option maxRecDepth 100000 in
def r5right_T (cols_p : Option Addr) (cols_n : Nat) (cols_c : Nat) (w : World) (R : Ending → World → Prop) : Prop :=
  ((↑cols_n : Int) < 1 ∨ 16 < (↑cols_n : Int) → R (.returned (.bool false)) w) ∧ (1 ≤ (↑cols_n : Int) ∧ (↑cols_n : Int) ≤ 16 → ∃ (I3 : Int → World → Prop), ∃ (M4 : Int → World → Nat), I3 0 w ∧ ∀ (n5 : Int) (w'6 : World), I3 n5 w'6 → (n5 < (↑cols_n : Int) → ∃ b9, ∃ o10, cols_p = some ⟨b9, o10, none⟩ ∧ 0 ≤ n5 ∧ n5 < (↑cols_n : Int) ∧ ∃ s11, w'6.cell? ⟨b9, (o10 + n5.toNat * 3), none⟩ = some (.string s11) ∧ Calls Tryd.prog 23 #[.string s11] w'6 fun e12 w13 ↦
 ∃ b14, e12 = .returned (.bool b14) ∧ (b14 = false → R (.returned (.bool false)) w13) ∧ (b14 = true → ∃ b17, ∃ o18, cols_p = some ⟨b17, o18, none⟩ ∧ 0 ≤ n5 ∧ n5 < (↑cols_n : Int) ∧ ∃ s19, w13.cell? ⟨b17, (o18 + n5.toNat * 3), none⟩ = some (.string s19) ∧ Calls Tryd.prog 21 #[.slice cols_p cols_n cols_c, .string s19] w13 fun e20 w21 ↦
 ∃ n22, e20 = .returned (.int .i64 n22) ∧ (n22 ≠ n5 → R (.returned (.bool false)) w21) ∧ (n22 = n5 → ∃ b25, ∃ o26, cols_p = some ⟨b25, o26, none⟩ ∧ 0 ≤ n5 ∧ n5 < (↑cols_n : Int) ∧ ∃ n27, w21.cell? ⟨b25, (o26 + n5.toNat * 3 + 1), none⟩ = some (.int .i64 n27) ∧ (n27 < 1 → R (.returned (.bool false)) w21) ∧ (1 ≤ n27 → ∃ b30, ∃ o31, cols_p = some ⟨b30, o31, none⟩ ∧ 0 ≤ n5 ∧ n5 < (↑cols_n : Int) ∧ ∃ n32, w21.cell? ⟨b30, (o31 + n5.toNat * 3 + 1), none⟩ = some (.int .i64 n32) ∧ (3 < n32 → R (.returned (.bool false)) w21) ∧ (n32 ≤ 3 → I3 (IntKind.i64.wrap (n5 + 1)) w21 ∧ M4 (IntKind.i64.wrap (n5 + 1)) w21 < M4 n5 w'6))))) ∧ ((↑cols_n : Int) ≤ n5 → R (.returned (.bool true)) w'6))

set_option maxRecDepth 100000 in
theorem r5right_eq (cols_p : Option Addr) (cols_n : Nat) (cols_c : Nat) (w : World) (R : Ending → World → Prop) : r5right_T cols_p cols_n cols_c w R = vcFn Tryd.prog [] [] Tryd.f18 [.slice cols_p cols_n cols_c] w R := by kernel_rfl

set_option maxRecDepth 100000 in
theorem r5right_vc (cols_p : Option Addr) (cols_n : Nat) (cols_c : Nat) (w : World) (R : Ending → World → Prop) (hvc : r5right_T cols_p cols_n cols_c w R) : Calls Tryd.prog 18 #[.slice cols_p cols_n cols_c] w R :=
  calls_of_vc (args := [.slice cols_p cols_n cols_c]) [] [] Tryd.mixed Tryd.func18 (cast (r5right_eq _ _ _ w R) hvc)

end Go.Proofs.YtiojkfckaalooaaDoor

/- Big arrays in memory, told as one. -/
namespace Go.Vc
open Go Go.RowKit

theorem setA_get : ∀ (vs : List Value) (cs : Array Value) (o i : Nat), (setA cs o vs)[i]? = if o ≤ i ∧ i < o + vs.length ∧ i < cs.size then vs[i - o]? else cs[i]?
  | [], cs, o, i => by unfold setA; simp; omega
  | v :: vs, cs, o, i => by
    unfold setA
    rw [setA_get vs, Array.getElem?_setIfInBounds, Array.size_setIfInBounds]
    simp only [List.length_cons]
    by_cases h : o = i
    · subst h
      rw [if_neg (by omega), if_pos rfl]
      split
      · rw [if_pos (by omega)]; simp
      · rw [if_neg (by omega), Array.getElem?_eq_none (by omega)]
    · rw [if_neg h]
      by_cases h2 : o ≤ i ∧ i < o + (vs.length + 1) ∧ i < cs.size
      · rw [if_pos (by omega), if_pos h2, show i - o = (i - (o + 1)) + 1 by omega, List.getElem?_cons_succ]
      · rw [if_neg (by omega), if_neg h2]
theorem setA_size : ∀ (vs : List Value) (cs : Array Value) (o : Nat), (setA cs o vs).size = cs.size
  | [], _, _ => rfl
  | v :: vs, cs, o => by unfold setA; rw [setA_size vs]; simp
/-- All cells are stored anew. -/
theorem setA_all {cs vs : Array Value} (h : vs.size = cs.size) : setA cs 0 vs.toList = vs := by
  apply Array.ext_getElem?
  intro i
  rw [setA_get]
  by_cases hi : i < cs.size
  · rw [if_pos (by simp; omega)]; simp
  · rw [if_neg (by omega), Array.getElem?_eq_none (by omega), Array.getElem?_eq_none (by omega)]
section
variable {w w' w0 W W' : World} {b : Nat} {t : TypeId} {cs vs : Array Value} {fs : List (Nat × Obj)} {ms : List Row}
theorem Blk.cellsAt (h : Blk w b t cs) : CellsAt w b 0 cs := fun k v hk => by rw [Nat.zero_add, h.cell]; exact hk
theorem Blk.canPut (h : Blk w b t cs) (hs : vs.size = cs.size) (h1 : ∀ (k : Nat) v, vs[k]? = some v → v.oneCell' = true) : CanPut w b 0 vs := fun k v hk => by
  have hk' := (Array.getElem?_eq_some_iff.1 hk).1
  exact ⟨h1 k v hk, ⟨cs[k]'(by omega), by rw [Nat.zero_add, h.cell]; exact Array.getElem?_eq_getElem _⟩, h.frozen _⟩
theorem Hold.putAll (h : Hold w0 W fs ms) (i : Nat) (hi : fs[i]? = some (b, .cells cs t (0, 0))) (hs : vs.size = cs.size) (e : Put W b 0 vs.toList W') : Hold w0 W' (fs.set i (b, .cells vs t (0, 0))) ms := by
  have := h.put i hi e
  rwa [setA_all hs] at this
end

end Go.Vc

/- The contracts of package schema: names. -/
namespace Go.Proofs.YtiojkfckaalooaaDoor
open Go Go.Vc Go.RowKit
set_option maxRecDepth 20000

theorem idxbyte_ok (s : ByteArray) (c : Int) (w : World) : Calls Tryd.prog 46 #[.string s, .int .u8 c] w fun e w' => e = .returned (.int .i64 (Lib.indexByte (tB s) c.toNat.toUInt8)) ∧ w' = w := by
  apply sidxb_vc
  unfold sidxb_T
  apply slidxb_vc
  unfold slidxb_T
  refine ⟨_, _, ?_, _, rfl, rfl, rfl⟩
  rw [run_callFunc_extern Tryd.func84 (by kernel_rfl) (by kernel_rfl) (by kernel_rfl) (e := Extern.BytealgIndexByte.indexByte) (by kernel_rfl), Lib.run_indexByteString]
  rfl

theorem zero_set : zeroA Tryd.prog 93 = Array.replicate 256 (.bool false) := by kernel_rfl
/-- The cells of a set of bytes. -/
def SetC (cs : Array Value) (f : UInt8 → Bool) : Prop := cs.size = 256 ∧ ∀ x : UInt8, cs[x.toNat]? = some (.bool (f x))
theorem SetC.one {cs : Array Value} {f : UInt8 → Bool} (h : SetC cs f) (k : Nat) (v : Value) (hk : cs[k]? = some v) : v.oneCell' = true := by
  have hlt := (Array.getElem?_eq_some_iff.1 hk).1
  have := h.2 (UInt8.ofNat k)
  rw [h.1] at hlt
  rw [UInt8.toNat_ofNat', Nat.mod_eq_of_lt (by omega), hk] at this
  cases this; rfl
theorem bAt_u8 (s : ByteArray) {i : Nat} (h : i < s.size) : ∃ x : UInt8, (tB s)[i]? = some x ∧ bAt s i = (x.toNat : Int) :=
  ⟨(tB s)[i]'(by rw [tB_length]; exact h), List.getElem?_eq_getElem _, bAt_eq s i h⟩

theorem mkascii_ok (s : ByteArray) (w : World) (hs : s.size < 9223372036854775807) (ha : ∀ x ∈ tB s, x.toNat < 128) :
    Calls Tryd.prog 67 #[.string s] w fun e w' => ∃ cs, e = .returned (.tuple #[.agg cs, .bool true]) ∧ SetC cs (fun x => (tB s).contains x) ∧ Ext w w' := by
  apply mkascii_vc
  unfold mkascii_T
  intro b1 w2 h1
  rw [zero_set] at h1
  have H1 := (Hold.start (Ext.rfl (w := w))).new h1
  refine ⟨fun i w' => ∃ (k : Nat) (cs : Array Value), i = (k : Int) ∧ k ≤ s.size ∧ SetC cs (fun x => ((tB s).take k).contains x) ∧ Hold w w' [(b1, .cells cs 93 (0, 0))] [], fun i _ => s.size - i.toNat, ⟨0, _, rfl, Nat.zero_le _, ⟨by simp, fun x => ?_⟩, H1⟩, ?_⟩
  · have := x.toNat_lt
    rw [Array.getElem?_eq_getElem (by simp; omega)]; simp
  rintro i w7 ⟨k, cs, rfl, hk, hc, H⟩
  have B := H.blk 0 rfl
  simp only [Int.toNat_natCast, Nat.zero_add]
  refine ⟨fun hlt => ?_, fun hge => ?_⟩
  · obtain ⟨x, hx, hb⟩ := bAt_u8 s (i := k) (by omega)
    have hx8 := ha x (List.mem_of_getElem? hx)
    rw [hb]
    refine ⟨by omega, by omega, fun h => by omega, fun _ => ⟨by omega, by omega, ⟨_, by rw [Int.toNat_natCast, B.cell]; exact hc.2 x⟩, B.frozen _, fun w17 h17 => ?_⟩⟩
    rw [Int.toNat_natCast] at h17
    have H17 := H.put 0 rfl h17
    rw [i64_next (by omega)]
    refine ⟨⟨k + 1, _, rfl, by omega, ⟨by rw [setA_size]; exact hc.1, fun y => ?_⟩, H17⟩, by simp only [Int.toNat_natCast]; omega⟩
    have htk : (tB s).take (k + 1) = (tB s).take k ++ [x] := by
      rw [List.take_add_one, hx]; rfl
    show _ = some (Value.bool (((tB s).take (k + 1)).contains y))
    rw [setA_get, hc.1, htk]
    have hy := y.toNat_lt
    by_cases hxy : x = y
    · subst hxy
      rw [if_pos (by simp; omega)]
      simp
    · have hn : x.toNat ≠ y.toNat := fun e => hxy (UInt8.toNat_inj.1 e)
      rw [if_neg (by simp; omega), hc.2 y]
      simp [Ne.symm hxy]
  · refine ⟨cs, hc.1, B.cellsAt, hc.1, B.canPut rfl hc.one, fun w21 h21 => ?_⟩
    have H21 := H.putAll 0 rfl rfl h21
    have B21 : Blk w21 b1 93 cs := H21.blk 0 rfl
    refine ⟨cs, hc.1, B21.cellsAt, cs, rfl, ?_, H21.ext⟩
    have : (tB s).take k = tB s := List.take_of_length_le (by rw [tB_length]; omega)
    rw [this] at hc
    exact hc

section
variable {w : World} {b : Nat} {cs : Array Value} {f : UInt8 → Bool}
theorem ascont_ok (h : Blk w b 93 cs) (hc : SetC cs f) (x : UInt8) : Calls Tryd.prog 85 #[.pointer (some ⟨b, 0, none⟩), .int .u8 (x.toNat : Int)] w fun e w' => e = .returned (.bool (f x)) ∧ Ext w w' := by
  apply ascont_vc
  unfold ascont_T
  have hx := x.toNat_lt
  exact ⟨b, 0, rfl, by omega, by omega, _, by rw [Int.toNat_natCast, Nat.zero_add, h.cell]; exact hc.2 x, rfl, .rfl⟩
theorem trimra_ok (s : ByteArray) (hs : s.size ≤ 9223372036854775807) (h : Blk w b 93 cs) (hc : SetC cs f) :
    Calls Tryd.prog 69 #[.string s, .pointer (some ⟨b, 0, none⟩)] w fun e w' => ∃ r, e = .returned (.string r) ∧ r.size ≤ s.size ∧ (tB r).all f = (tB s).all f ∧ Ext w w' := by
  apply trimra_vc
  unfold trimra_T
  refine ⟨fun r w' => r.size ≤ s.size ∧ (tB r).all f = (tB s).all f ∧ Ext w w', fun r _ => r.size, ⟨Nat.le_refl _, rfl, .rfl⟩, ?_⟩
  rintro r w4 ⟨hr, ha, hx⟩
  refine ⟨fun h0 => ?_, fun _ => ⟨r, rfl, hr, ha, hx⟩⟩
  rw [i64_fit (by omega) (by omega)]
  have e1 : ((r.size : Int) - 1) = ((r.size - 1 : Nat) : Int) := by omega
  rw [e1]
  simp only [Int.toNat_natCast]
  obtain ⟨x, hx', hb⟩ := bAt_u8 r (i := r.size - 1) (by omega)
  rw [hb]
  refine ⟨by omega, by omega, (ascont_ok (h.ext hx) hc x).mono ?_⟩
  rintro e w8 ⟨rfl, e8⟩
  have hx8 := hx.trans e8
  refine ⟨_, rfl, fun _ => ⟨r, rfl, hr, ha, hx8⟩, fun hf => ⟨by omega, by omega, ⟨?_, ?_, hx8⟩, ?_⟩⟩
  · rw [← tB_length, tB_extract]; simp; omega
  · rw [tB_extract, List.drop_zero, ← ha]
    have : tB r = (tB r).take (r.size - 1) ++ [x] := by
      have := List.take_add_one (l := tB r) (i := r.size - 1)
      rw [hx', List.take_of_length_le (by rw [tB_length]; omega)] at this
      exact this
    conv => rhs; rw [this, List.all_append]
    simp [hf]
  · rw [← tB_length, tB_extract]; simp [tB_length]; omega
theorem trimla_ok (s : ByteArray) (hs : s.size ≤ 9223372036854775807) (h : Blk w b 93 cs) (hc : SetC cs f) :
    Calls Tryd.prog 68 #[.string s, .pointer (some ⟨b, 0, none⟩)] w fun e w' => ∃ r, e = .returned (.string r) ∧ (tB r = [] ↔ (tB s).all f = true) ∧ Ext w w' := by
  apply trimla_vc
  unfold trimla_T
  refine ⟨fun r w' => (tB r).all f = (tB s).all f ∧ Ext w w', fun r _ => r.size, ⟨rfl, .rfl⟩, ?_⟩
  rintro r w4 ⟨ha, hx⟩
  refine ⟨fun h0 => ?_, fun h0 => ⟨r, rfl, ?_, hx⟩⟩
  · obtain ⟨x, hx', hb⟩ := bAt_u8 r (i := 0) (by omega)
    rw [hb]
    refine ⟨by omega, by omega, (ascont_ok (h.ext hx) hc x).mono ?_⟩
    rintro e w8 ⟨rfl, e8⟩
    have hx8 := hx.trans e8
    cases hr : tB r with
    | nil => rw [hr] at hx'; simp at hx'
    | cons y l =>
      rw [hr] at hx'
      cases hx'
      refine ⟨_, rfl, fun hf => ⟨r, rfl, ?_, hx8⟩, fun hf => ⟨by omega, by omega, ⟨?_, hx8⟩, ?_⟩⟩
      · rw [hr, ← ha, hr]; simp [hf]
      · rw [tB_extract, List.take_of_length_le (by rw [tB_length]; omega), ← ha, hr]; simp [hf]
      · show (r.extract 1 r.size).size < r.size
        rw [← tB_length, tB_extract]; simp [tB_length]; omega
  · have : tB r = [] := List.length_eq_zero_iff.1 (by rw [tB_length]; omega)
    rw [← ha, this]; simp
end

theorem ba_nil {s : ByteArray} : s = ⟨#[]⟩ ↔ tB s = [] := by rw [← tB_inj]; rfl
theorem trim_ok (s : ByteArray) (hs : s.size ≤ 9223372036854775807) {c : ByteArray} (hc : 2 ≤ c.size) (hc' : c.size < 9223372036854775807) (ha : ∀ x ∈ tB c, x.toNat < 128) (w : World) :
    Calls Tryd.prog 47 #[.string s, .string c] w fun e w' => ∃ r, e = .returned (.string r) ∧ (r = ⟨#[]⟩ ↔ (tB s).all (fun x => (tB c).contains x) = true) ∧ Ext w w' := by
  apply strim_vc
  unfold strim_T
  refine ⟨fun h => ?_, fun _ => ⟨fun h => by omega, fun _ => (mkascii_ok c w hc' ha).mono ?_⟩⟩
  · rcases h with h | h
    · exact ⟨s, rfl, by rw [h]; simp [tB], .rfl⟩
    · rw [h] at hc; cases hc
  · rintro e w39 ⟨cs, rfl, hs', e39⟩
    refine ⟨cs, hs'.1, true, rfl, fun b42 w43 h43 => ?_⟩
    rw [zero_set] at h43
    have H43 := (Hold.start e39).new h43
    have B43 := H43.blk 0 rfl
    refine ⟨hs'.1, B43.canPut (by rw [hs'.1]; simp) hs'.one, fun w45 h45 => ⟨fun _ => ?_, fun h => by cases h⟩⟩
    have H45 := H43.putAll 0 rfl (by rw [hs'.1]; simp) h45
    have B45 : Blk w45 b42 93 cs := H45.blk 0 rfl
    refine (trimra_ok s hs B45 hs').mono ?_
    rintro e w49 ⟨r, rfl, hrs, hr, e49⟩
    refine ⟨r, rfl, (trimla_ok r (by omega) (B45.ext e49) hs').mono ?_⟩
    rintro e w52 ⟨q, rfl, hq, e52⟩
    exact ⟨q, rfl, q, rfl, by rw [ba_nil, hq, hr], (H45.step (e49.trans e52)).ext⟩

def letC : ByteArray := ⟨#[97, 98, 99, 100, 101, 102, 103, 104, 105, 106, 107, 108, 109, 110, 111, 112, 113, 114, 115, 116, 117, 118, 119, 120, 121, 122]⟩
def othC : ByteArray := ⟨#[97, 98, 99, 100, 101, 102, 103, 104, 105, 106, 107, 108, 109, 110, 111, 112, 113, 114, 115, 116, 117, 118, 119, 120, 121, 122, 48, 49, 50, 51, 52, 53, 54, 55, 56, 57, 95]⟩
theorem let_all : ∀ i : Fin 256, decide (0 ≤ Lib.indexByte (tB letC) (UInt8.ofNat i.1)) = letterB (UInt8.ofNat i.1) := by decide +kernel
theorem oth_all : ∀ i : Fin 256, (tB othC).contains (UInt8.ofNat i.1) = otherB (UInt8.ofNat i.1) := by decide +kernel
theorem let_eq (x : UInt8) : 0 ≤ Lib.indexByte (tB letC) x ↔ letterB x = true := by
  have := let_all ⟨x.toNat, x.toNat_lt⟩
  rw [UInt8.ofNat_toNat] at this
  rw [← this, decide_eq_true_eq]
theorem oth_eq (x : UInt8) : (tB othC).contains x = otherB x := by
  have := oth_all ⟨x.toNat, x.toNat_lt⟩
  rwa [UInt8.ofNat_toNat] at this
theorem oth_ascii : ∀ x ∈ tB othC, x.toNat < 128 := by decide +kernel

theorem sisname_ok (s : ByteArray) (w : World) : Calls Tryd.prog 22 #[.string s] w fun e w' => e = .returned (.bool (isName s)) ∧ Ext w w' := by
  apply sisname_vc
  unfold sisname_T
  refine ⟨fun ⟨hne, hle⟩ => ?_, fun h => ⟨?_, .rfl⟩⟩
  · have h0 : 0 < s.size := by
      rcases Nat.eq_zero_or_pos s.size with h | h
      · exact absurd (ba_nil.2 (List.length_eq_zero_iff.1 (by rw [tB_length]; exact h))) hne
      · exact h
    obtain ⟨x, hx, hb⟩ := bAt_u8 s h0
    refine ⟨by omega, by omega, ?_⟩
    rw [hb]
    refine (idxbyte_ok letC (x.toNat : Int) w).mono ?_
    rintro e w3 ⟨rfl, rfl⟩
    have hxx : ((x.toNat : Int)).toNat.toUInt8 = x := by simp
    rw [hxx]
    cases hl : tB s with
    | nil => rw [hl] at hx; simp at hx
    | cons y l =>
      rw [hl] at hx
      cases hx
      have hlen : l.length + 1 ≤ 24 := by have := tB_length s; rw [hl] at this; simp at this; omega
      refine ⟨_, rfl, fun hge => ?_, fun hlt => ⟨?_, .rfl⟩⟩
      · refine (trim_ok s (by omega) (c := othC) (by decide) (by decide) oth_ascii _).mono ?_
        rintro e w7 ⟨r, rfl, hr, e7⟩
        refine ⟨r, rfl, ?_, e7⟩
        have : sEq r ⟨#[]⟩ = isName s := by
          rw [Bool.eq_iff_iff, sEq_iff, hr, hl]
          unfold isName isNameL
          rw [hl]
          have hx1 := (let_eq x).1 hge
          have hx2 : otherB x = true := by unfold otherB; rw [hx1]; rfl
          simp only [List.all_cons, oth_eq, hx1, hx2, Bool.true_and, List.length_cons, Bool.and_eq_true, decide_eq_true_eq]
          exact ⟨fun h => ⟨h, hlen⟩, fun h => h.1⟩
        rw [this]
      · have : isName s = false := by
          unfold isName isNameL
          rw [hl]
          have : letterB x = false := by
            rw [← Bool.not_eq_true, ← let_eq]; omega
          simp [this]
        rw [this]
  · have : isName s = false := by
      unfold isName isNameL
      rcases h with h | h
      · rw [h]; rfl
      · cases hl : tB s with
        | nil => rfl
        | cons y l =>
          have := tB_length s
          rw [hl] at this
          have hb : ¬ ((y :: l).length ≤ 24) := by omega
          simp only [hb, decide_false, Bool.and_false]
    rw [this]
end Go.Proofs.YtiojkfckaalooaaDoor

/- The contracts of package schema: schemas, and columns by name; the document's answer for them. -/
namespace Go.Proofs.YtiojkfckaalooaaDoor
open Go Go.Vc Go.RowKit
set_option maxRecDepth 20000

/-- What is asked of byte k of a name. -/
def nameB (k : Nat) (x : UInt8) : Bool := if k = 0 then letterB x else otherB x
theorem nameB_iff {k : Nat} {x : UInt8} : nameB k x = true ↔ (97 ≤ x.toNat ∧ x.toNat ≤ 122) ∨ (k ≠ 0 ∧ ((48 ≤ x.toNat ∧ x.toNat ≤ 57) ∨ x.toNat = 95)) := by
  unfold nameB otherB letterB
  split
  · simp only [decide_eq_true_eq]; omega
  · simp only [Bool.or_eq_true, decide_eq_true_eq]; omega
theorem isName_iff (s : ByteArray) : isName s = true ↔ 1 ≤ s.size ∧ s.size ≤ 24 ∧ ∀ (j : Nat) x, (tB s)[j]? = some x → nameB j x = true := by
  have hlen := tB_length s
  unfold isName
  cases hl : tB s with
  | nil => rw [hl] at hlen; simp at hlen; simp [isNameL]; omega
  | cons y l =>
    rw [hl] at hlen
    simp only [List.length_cons] at hlen
    unfold isNameL
    simp only [List.length_cons, Bool.and_eq_true, decide_eq_true_eq, List.all_eq_true]
    constructor
    · rintro ⟨⟨h1, h2⟩, h3⟩
      refine ⟨by omega, by omega, fun j x hj => ?_⟩
      cases j with
      | zero => cases hj; simpa [nameB] using h1
      | succ j => have := h2 x (List.mem_of_getElem? (show l[j]? = some x by simpa using hj)); simpa [nameB] using this
    · rintro ⟨h1, h2, h3⟩
      refine ⟨⟨by simpa [nameB] using h3 0 y rfl, fun z hz => ?_⟩, by omega⟩
      obtain ⟨j, hj⟩ := List.mem_iff_getElem?.1 hz
      simpa [nameB] using h3 (j + 1) z (by simpa using hj)

section
variable {w : World} {p rp : Option Addr} {n c rn rc : Nat} {cols : List Col} {row : List Val}

theorem r5isname_ok (s : ByteArray) (hs : s.size ≤ 9223372036854775807) (w : World) : Calls Tryd.prog 23 #[.string s] w fun e w' => e = .returned (.bool (isName s)) ∧ Ext w w' := by
  apply r5isname_vc
  unfold r5isname_T
  refine ⟨fun i w' => ∃ k : Nat, i = (k : Int) ∧ k ≤ s.size ∧ (∀ (j : Nat) x, j < k → (tB s)[j]? = some x → nameB j x = true) ∧ Ext w w', fun i _ => s.size - i.toNat, ⟨0, rfl, Nat.zero_le _, fun j x h => by omega, .rfl⟩, ?_⟩
  rintro i w4 ⟨k, rfl, hk, hg, hx⟩
  refine ⟨fun hlt => ?_, fun hge => ⟨?_, hx⟩⟩
  · obtain ⟨x, hx', hb⟩ := bAt_u8 s (i := k) (by omega)
    simp only [Int.toNat_natCast]
    rw [hb]
    have bad : ¬ ((97 ≤ x.toNat ∧ x.toNat ≤ 122) ∨ (k ≠ 0 ∧ ((48 ≤ x.toNat ∧ x.toNat ≤ 57) ∨ x.toNat = 95))) → Ending.returned (Value.bool false) = Ending.returned (Value.bool (isName s)) ∧ Ext w w4 := by
      intro h
      refine ⟨?_, hx⟩
      have : isName s = false := by
        rw [← Bool.not_eq_true, isName_iff]
        rintro ⟨_, _, h3⟩
        exact h (nameB_iff.1 (h3 k x hx'))
      rw [this]
    have good : ((97 ≤ x.toNat ∧ x.toNat ≤ 122) ∨ (k ≠ 0 ∧ ((48 ≤ x.toNat ∧ x.toNat ≤ 57) ∨ x.toNat = 95))) → (∃ k' : Nat, IntKind.i64.wrap ((k : Int) + 1) = (k' : Int) ∧ k' ≤ s.size ∧ (∀ (j : Nat) x, j < k' → (tB s)[j]? = some x → nameB j x = true) ∧ Ext w w4) ∧
        s.size - (IntKind.i64.wrap ((k : Int) + 1)).toNat < s.size - k := by
      intro h
      rw [i64_next (by omega)]
      refine ⟨⟨k + 1, rfl, by omega, fun j y hj hy => ?_, hx⟩, by simp only [Int.toNat_natCast]; omega⟩
      by_cases hjk : j = k
      · subst hjk
        rw [hx'] at hy
        cases hy
        exact nameB_iff.2 h
      · exact hg j y (by omega) hy
    clear hg
    repeat' first
      | exact good (by omega)
      | exact bad (by omega)
      | omega
      | intro _
      | refine And.intro ?_ ?_
  · have hk' : k = s.size := by omega
    have : (decide ((1 : Int) ≤ (s.size : Int)) && decide ((s.size : Int) ≤ 24)) = isName s := by
      rw [Bool.eq_iff_iff, isName_iff, Bool.and_eq_true, decide_eq_true_eq, decide_eq_true_eq]
      refine ⟨fun h => ⟨by omega, by omega, fun j x hj => hg j x ?_ hj⟩, fun h => by omega⟩
      have := (List.getElem?_eq_some_iff.1 hj).1
      rw [tB_length] at this
      omega
    rw [this]

/-! ### Find -/
theorem r5find_ok (h : Cols w p n c cols) (name : ByteArray) : Calls Tryd.prog 21 #[.slice p n c, .string name] w fun e w' => e = .returned (.int .i64 (findC cols name)) ∧ Ext w w' := by
  apply r5find_vc
  unfold r5find_T
  have hl := h.len
  have hm : n ≤ 9223372036854775807 := h.le
  refine ⟨fun i w' => ∃ k : Nat, i = (k : Int) ∧ k ≤ n ∧ (∀ (j : Nat) y, j < k → cols[j]? = some y → y.name ≠ name) ∧ Ext w w', fun i _ => n - i.toNat, ⟨0, rfl, Nat.zero_le _, fun j y hj => by omega, .rfl⟩, ?_⟩
  rintro i w4 ⟨k, rfl, hk, hb, hx⟩
  refine ⟨fun hlt => ?_, fun hge => ⟨?_, hx⟩⟩
  · have g : cols[k]? = some (cols[k]'(by omega)) := List.getElem?_eq_getElem _
    generalize cols[k]'(by omega) = x at g
    obtain ⟨b, o, hp, c0, c1, c2⟩ := (h.ext hx).col g
    simp only [Int.toNat_natCast]
    refine ⟨b, o, hp, by omega, by omega, _, c0, fun hd => ⟨?_, hx⟩, fun hd => ?_⟩
    · rw [findC_at g hd hb]
    · rw [i64_next (by omega)]
      refine ⟨⟨k + 1, rfl, by omega, fun j y hj hy => ?_, hx⟩, by simp only [Int.toNat_natCast]; omega⟩
      by_cases hjk : j = k
      · subst hjk; rw [g] at hy; cases hy; exact hd
      · exact hb j y (by omega) hy
  · rw [findC_none fun x hx => ?_]
    obtain ⟨j, hj⟩ := List.mem_iff_getElem?.1 hx
    exact hb j x (by have := (List.getElem?_eq_some_iff.1 hj).1; omega) hj

/-! ### Right -/
/-- The map of names that were met. -/
def metL (l : List Col) : List (ByteArray × Value) := l.foldl (fun m x => setS m x.name (.bool true)) []
theorem metL_snoc (l : List Col) (x : Col) : metL (l ++ [x]) = setS (metL l) x.name (.bool true) := by simp [metL]
theorem metL_look (l : List Col) (s : ByteArray) : (lookS (metL l) s).getD (.bool false) = .bool ((l.map Col.name).contains s) := by
  have key : ∀ (l : List Col) (m : List (ByteArray × Value)), lookS (l.foldl (fun m x => setS m x.name (.bool true)) m) s = if (l.map Col.name).contains s then some (.bool true) else lookS m s := by
    intro l
    induction l with
    | nil => intro m; simp
    | cons x l ih =>
      intro m
      rw [List.foldl_cons, ih, lookS_setS, List.map_cons]
      by_cases hx : x.name = s
      · subst hx; simp
      · simp [hx, Ne.symm hx]
  unfold metL
  rw [key]
  cases (l.map Col.name).contains s <;> rfl
theorem sright_ok (h : Cols w p n c cols) : Calls Tryd.prog 11 #[.slice p n c] w fun e w' => e = .returned (.bool (rightC cols)) ∧ Ext w w' := by
  apply sright_vc
  unfold sright_T
  intro b1 w2 h1
  have hl := h.len
  have hm : n ≤ 9223372036854775807 := h.le
  have H1 := (Hold.start (Ext.rfl (w := w))).new h1
  refine ⟨fun i w' => ∃ (k : Nat) (es : Array MapEntry) (clock : Nat), i = (k : Int) ∧ k ≤ n ∧ colsOk [] (cols.take k) = true ∧ MapL es (metL (cols.take k)) ∧ Hold w w' [(b1, .map es clock)] [], fun i _ => n - i.toNat, ⟨0, _, _, rfl, Nat.zero_le _, by simp [colsOk], by simp [metL, MapL], H1⟩, ?_⟩
  rintro i w7 ⟨k, es, clock, rfl, hk, hok, hmap, H⟩
  refine ⟨fun hlt => ?_, fun hge => ⟨?_, H.ext⟩⟩
  · have g : cols[k]? = some (cols[k]'(by omega)) := List.getElem?_eq_getElem _
    generalize cols[k]'(by omega) = x at g
    obtain ⟨b, o, hp, c0, c1, c2⟩ := (h.ext H.ext).col g
    have hdec : colOk ((cols.take k).map Col.name) x = false → rightC cols = false := by
      intro hv
      unfold rightC
      have hc : cols = cols.take k ++ x :: cols.drop (k + 1) := by
        obtain ⟨hk', rfl⟩ := List.getElem?_eq_some_iff.1 g
        rw [← List.drop_eq_getElem_cons hk', List.take_append_drop]
      have : colsOk [] cols = false := by
        conv => lhs; rw [hc, colsOk_append]
        rw [hok, List.nil_append]
        unfold colsOk
        rw [hv]; rfl
      rw [this, Bool.and_false]
    simp only [Int.toNat_natCast]
    refine ⟨b, o, hp, by omega, by omega, _, c0, _, c1, _, c2, fun b15 w16 h16 => ?_⟩
    have H16 := H.new h16
    obtain ⟨q0, q1, q2⟩ := (H16.blk 0 rfl).c3
    refine ⟨⟨_, q0⟩, (H16.blk 0 rfl).frozen _, ⟨_, q1⟩, (H16.blk 0 rfl).frozen _, ⟨_, q2⟩, (H16.blk 0 rfl).frozen _, fun w21 h21 => ?_⟩
    have H21 := H16.put 0 rfl h21
    have B : Blk w21 b15 53 #[.string x.name, .int .i64 x.kind, .bool x.null] := H21.blk 0 rfl
    obtain ⟨q0, q1, q2⟩ := B.c3
    refine ⟨_, q0, (sisname_ok x.name w21).mono ?_⟩
    rintro e w25 ⟨rfl, e25⟩
    have H25 := H21.step e25
    have B25 := B.ext e25
    obtain ⟨q0, q1, q2⟩ := B25.c3
    have hM : w25.heap[b1]? = some (.map es clock) := H25.holds 1 _ rfl
    refine ⟨_, rfl, fun hn => ⟨?_, H25.ext⟩, fun hn => ⟨_, q0, ((cols.take k).map Col.name).contains x.name, fun w1 hs => ?_, fun hin => ⟨?_, H25.ext⟩, fun hin => ⟨_, q1, fun hlow => ⟨?_, H25.ext⟩, fun hge => ⟨_, q1, fun hhi => ⟨?_, H25.ext⟩, fun hle => ⟨_, q0, ?_⟩⟩⟩⟩⟩
    · rw [hdec (by unfold colOk; rw [hn]; rfl)]
    · rw [← metL_look]
      exact map_look (kt := 9) (e := 4) (by kernel_rfl) (by kernel_rfl) (run_zeroOf (by kernel_rfl) w1) ((hs b1 (H25.lt 1 rfl)).trans hM) hmap
    · rw [hdec (by unfold colOk; rw [hn, hin]; rfl)]
    · rw [hdec (by unfold colOk; rw [hn, hin, decide_eq_false (by omega)]; rfl)]
    · rw [hdec (by unfold colOk; rw [hn, hin, decide_eq_false (by omega)]; rfl)]
    · obtain ⟨w42, es', clock', hrun, hobj, hmap', hbut, hsz⟩ := map_set (P := Tryd.prog) (t := 54) (kt := 9) (e := 4) (s := x.name) (by kernel_rfl) (by kernel_rfl) hM hmap (.bool true)
      refine ⟨w42, hrun, ?_⟩
      rw [i64_next (by omega)]
      have htk : cols.take (k + 1) = cols.take k ++ [x] := by rw [List.take_add_one, g]; rfl
      refine ⟨⟨k + 1, es', clock', rfl, by omega, ?_, ?_, (H25.upd 1 rfl hbut hobj).tail⟩, by simp only [Int.toNat_natCast]; omega⟩
      · rw [htk, colsOk_append, hok, List.nil_append]
        unfold colsOk colOk
        rw [hn, hin, decide_eq_true (by omega)]; rfl
      · rw [htk, metL_snoc]; exact hmap'
  · have hk' : k = n := by omega
    subst hk'
    rw [List.take_of_length_le (by omega)] at hok
    have : (decide ((0 : Int) < (k : Int)) && decide ((k : Int) ≤ 16)) = rightC cols := by
      unfold rightC
      rw [hok, Bool.and_true, Bool.eq_iff_iff, Bool.and_eq_true, decide_eq_true_eq, decide_eq_true_eq, decide_eq_true_eq]
      omega
    rw [this]
end
end Go.Proofs.YtiojkfckaalooaaDoor

/- The contracts of package schema: rows that fit; the document's answer for them. -/
namespace Go.Proofs.YtiojkfckaalooaaDoor
open Go Go.Vc Go.RowKit
set_option maxRecDepth 20000

section
variable {w : World} {p rp : Option Addr} {n c rn rc : Nat} {cols : List Col} {row : List Val}

theorem r5right_ok (h : Cols w p n c cols) (hs : ∀ x ∈ cols, x.name.size ≤ 9223372036854775807) : Calls Tryd.prog 18 #[.slice p n c] w fun e w' => e = .returned (.bool (rightC cols)) ∧ Ext w w' := by
  apply r5right_vc
  unfold r5right_T
  have hl := h.len
  have hm : n ≤ 9223372036854775807 := h.le
  refine ⟨fun hb => ⟨?_, .rfl⟩, fun hg => ?_⟩
  · have : rightC cols = false := by
      unfold rightC
      rw [decide_eq_false (by omega)]; rfl
    rw [this]
  refine ⟨fun i w' => ∃ k : Nat, i = (k : Int) ∧ k ≤ n ∧ colsOk [] (cols.take k) = true ∧ Ext w w', fun i _ => n - i.toNat, ⟨0, rfl, Nat.zero_le _, by simp [colsOk], .rfl⟩, ?_⟩
  rintro i w6 ⟨k, rfl, hk, hok, hx⟩
  refine ⟨fun hlt => ?_, fun hge => ⟨?_, hx⟩⟩
  · have g : cols[k]? = some (cols[k]'(by omega)) := List.getElem?_eq_getElem _
    generalize cols[k]'(by omega) = x at g
    obtain ⟨b, o, hp, c0, c1, c2⟩ := (h.ext hx).col g
    have hdec : colRef cols k x = false → rightC cols = false := by
      intro hv
      rw [colRef_eq g] at hv
      unfold rightC
      have hc : cols = cols.take k ++ x :: cols.drop (k + 1) := by
        obtain ⟨hk', rfl⟩ := List.getElem?_eq_some_iff.1 g
        rw [← List.drop_eq_getElem_cons hk', List.take_append_drop]
      have : colsOk [] cols = false := by
        conv => lhs; rw [hc, colsOk_append]
        rw [hok, List.nil_append]
        unfold colsOk
        rw [hv]; rfl
      rw [this, Bool.and_false]
    simp only [Int.toNat_natCast]
    refine ⟨b, o, hp, by omega, by omega, _, c0, (r5isname_ok x.name (hs x (List.mem_of_getElem? g)) w6).mono ?_⟩
    rintro e w13 ⟨rfl, e13⟩
    have hx13 := hx.trans e13
    refine ⟨_, rfl, fun hn => ⟨by rw [hdec (by unfold colRef; rw [hn]; rfl)], hx13⟩, fun hn => ?_⟩
    refine ⟨b, o, hp, by omega, by omega, _, cell_ext c0 e13, (r5find_ok (h.ext hx13) x.name).mono ?_⟩
    rintro e w21 ⟨rfl, e21⟩
    have hx21 := hx13.trans e21
    refine ⟨_, rfl, fun hne => ⟨by rw [hdec (by unfold colRef; rw [decide_eq_false hne, Bool.and_false]; rfl)], hx21⟩, fun he => ?_⟩
    have c1' := cell_ext (cell_ext c1 e13) e21
    refine ⟨b, o, hp, by omega, by omega, _, c1', fun hlow => ⟨by rw [hdec (by unfold colRef; rw [decide_eq_false (by omega : ¬ (1 ≤ x.kind ∧ x.kind ≤ 3)), Bool.and_false])], hx21⟩, fun hge => ?_⟩
    refine ⟨b, o, hp, by omega, by omega, _, c1', fun hhi => ⟨by rw [hdec (by unfold colRef; rw [decide_eq_false (by omega : ¬ (1 ≤ x.kind ∧ x.kind ≤ 3)), Bool.and_false])], hx21⟩, fun hle => ?_⟩
    rw [i64_next (by omega)]
    refine ⟨⟨k + 1, rfl, by omega, ?_, hx21⟩, by simp only [Int.toNat_natCast]; omega⟩
    have htk : cols.take (k + 1) = cols.take k ++ [x] := by rw [List.take_add_one, g]; rfl
    rw [htk, colsOk_append, hok, List.nil_append]
    unfold colsOk
    rw [← colRef_eq g]
    unfold colRef
    rw [hn, decide_eq_true he, decide_eq_true (by omega)]; rfl
  · have hk' : k = n := by omega
    subst hk'
    rw [List.take_of_length_le (by omega)] at hok
    unfold rightC
    rw [hok, decide_eq_true (by omega)]; rfl

/-! ### Rows that fit -/
end
end Go.Proofs.YtiojkfckaalooaaDoor

/- The contracts of schemas' bytes: laying, by the program and by the document. -/
namespace Go.Vc
open Go Go.RowKit
theorem colsOk_all : ∀ {met : List ByteArray} {cols : List Col}, colsOk met cols = true → ∀ c ∈ cols, isName c.name = true ∧ 1 ≤ c.kind ∧ c.kind ≤ 3
  | _, [], _, c, hc => by cases hc
  | met, x :: r, h, c, hc => by
    unfold colsOk at h
    rw [Bool.and_eq_true] at h
    rcases List.mem_cons.1 hc with rfl | hc
    · have := h.1
      unfold colOk at this
      simp only [Bool.and_eq_true, decide_eq_true_eq] at this
      exact ⟨this.1.1, this.2⟩
    · exact colsOk_all h.2 c hc
theorem name_size {s : ByteArray} (h : isName s = true) : s.size ≤ 24 := by
  unfold isName at h
  rw [← tB_length]
  cases ht : tB s with
  | nil => simp
  | cons x r =>
    rw [ht] at h
    unfold isNameL at h
    simp only [Bool.and_eq_true, decide_eq_true_eq] at h
    exact h.2
theorem right_all {cols : List Col} (h : rightC cols = true) : 1 ≤ cols.length ∧ cols.length ≤ 16 ∧ ∀ c ∈ cols, c.name.size ≤ 24 ∧ 1 ≤ c.kind ∧ c.kind ≤ 3 := by
  unfold rightC at h
  rw [Bool.and_eq_true, decide_eq_true_eq] at h
  refine ⟨h.1.1, h.1.2, fun c hc => ?_⟩
  obtain ⟨h1, h2, h3⟩ := colsOk_all h.2 c hc
  exact ⟨name_size h1, h2, h3⟩
theorem colB_len {c : Col} (h : c.name.size ≤ 24) : (colB c).length ≤ 36 := by
  have := uvar_len10 (n := c.name.size) (by omega)
  unfold colB
  simp [tB_length]; omega
theorem cols_len {cols : List Col} (h : ∀ c ∈ cols, c.name.size ≤ 24) : (cols.flatMap colB).length ≤ 36 * cols.length := by
  induction cols with
  | nil => simp
  | cons c r ih =>
    have h1 := colB_len (h c (by simp))
    have h2 := ih fun x hx => h x (by simp [hx])
    rw [List.flatMap_cons, List.length_append, List.length_cons]; omega
def layS (l : List UInt8) (cols : List Col) : List UInt8 × Int := if rightC cols then (l ++ schB cols, 0) else ([], 50)
/-- What is laid once j columns were. -/
def partS (l : List UInt8) (cols : List Col) (j : Nat) : List UInt8 := (l ++ uvar cols.length) ++ (cols.take j).flatMap colB
theorem partS_all (l : List UInt8) (cols : List Col) : partS l cols cols.length = l ++ schB cols := by
  unfold partS schB; rw [List.take_of_length_le (Nat.le_refl _), List.append_assoc]
theorem partS_step {l : List UInt8} {cols : List Col} {j : Nat} {c : Col} (h : cols[j]? = some c) : partS l cols (j + 1) = partS l cols j ++ (uvar c.name.size ++ tB c.name) ++ [UInt8.ofNat c.kind.toNat, if c.null then 1 else 0] := by
  unfold partS
  rw [take_snoc h, List.flatMap_append]
  simp [colB]
theorem partS_len {l : List UInt8} {cols : List Col} (h : rightC cols = true) (j : Nat) : (partS l cols j).length ≤ l.length + 600 := by
  obtain ⟨h1, h2, h3⟩ := right_all h
  have a1 := uvar_len10 (n := cols.length) (by omega)
  have a2 := cols_len (cols := cols.take j) fun c hc => (h3 c (List.mem_of_mem_take hc)).1
  have a3 : (cols.take j).length ≤ 16 := by rw [List.length_take]; omega
  unfold partS
  simp only [List.length_append]; omega
end Go.Vc
namespace Go.Proofs.YtiojkfckaalooaaDoor
open Go Go.Vc Go.RowKit
set_option maxRecDepth 20000
attribute [local irreducible] Calls Put Drew New

theorem kindB {k : Int} (h : 1 ≤ k ∧ k ≤ 3) : IntKind.u8.wrap k = (((UInt8.ofNat k.toNat).toNat : Nat) : Int) := by
  rcases (by omega : k = 1 ∨ k = 2 ∨ k = 3) with e | e | e <;> rw [e] <;> rfl
theorem sflag_ok (b : Bool) (w : World) : Calls Tryd.prog 36 #[.bool b] w fun e w' => e = .returned (.int .u8 (((if b then (1 : UInt8) else 0).toNat : Nat) : Int)) ∧ Ext w w' := by
  apply sflag_vc
  unfold sflag_T
  cases b with
  | true => exact ⟨fun _ => ⟨rfl, Ext.rfl⟩, fun h => by cases h⟩
  | false => exact ⟨fun h => (by cases h), fun _ => ⟨rfl, Ext.rfl⟩⟩
set_option maxHeartbeats 4000000 in
theorem slay_ok (w : World) {p cp : Option Addr} {n c cn cc : Nat} {l : List UInt8} {cols : List Col} (h : In w p n c l) (hc : Cols w cp cn cc cols) (hroom : n + 2002000 ≤ 211106232532992) :
    Calls Tryd.prog 13 #[.slice p n c, .slice cp cn cc] w fun e w' => ∃ p' n' c', e = .returned (.tuple #[.slice p' n' c', .int .i64 (layS l cols).2]) ∧ Out w.heap.size w' p' n' c' (layS l cols).1 ∧ Ext w w' := by
  have hl := h.len
  have hcl := hc.len
  apply slay_vc
  unfold slay_T
  refine (sright_ok hc).mono ?_
  rintro e w2 ⟨rfl, e1⟩
  refine ⟨_, rfl, fun hf => ?_, fun ht => ?_⟩
  · have hL : layS l cols = ([], 50) := by unfold layS; rw [hf]; rfl
    refine ⟨none, 0, 0, by rw [hL], ?_, e1⟩
    rw [hL]
    exact ⟨rfl, Mine.nil _ _ _ _⟩
  obtain ⟨r1, r2, r3⟩ := right_all ht
  have hL : layS l cols = (l ++ schB cols, 0) := by unfold layS; rw [if_pos ht]
  rw [u64_nat (by omega)]
  refine (number_out w2 (h.ext e1) (by omega) (by omega)).mono ?_
  rintro e w7 ⟨p2, n2, c2, rfl, ho, e2⟩
  have H0 := (Hold.start e1).addRow e2 ho.2
  refine ⟨_, _, _, rfl, ?_⟩
  refine ⟨fun q k d i W => ∃ j : Nat, i = (j : Int) ∧ j ≤ cn ∧ k = (partS l cols j).length ∧ Hold w W [] [⟨5, 1, q, k, d, vB (partS l cols j)⟩], fun _ _ _ i _ => cn - i.toNat, ⟨0, rfl, Nat.zero_le _, ?_, ?_⟩, ?_⟩
  · rw [← ho.1]; unfold partS; rw [hcl]; simp
  · have : partS l cols 0 = l ++ uvar cn := by unfold partS; rw [hcl]; simp
    rw [this]; exact H0
  clear H0 ho
  rintro q k d i W ⟨j, rfl, hj, rfl, H⟩
  have hlen := partS_len (l := l) ht j
  refine ⟨fun hlt => ?_, fun hge => ?_⟩
  · have gx : cols[j]? = some (cols[j]'(by omega)) := List.getElem?_eq_getElem _
    generalize cols[j]'(by omega) = x at gx
    obtain ⟨x1, x2⟩ := r3 x (List.mem_of_getElem? gx)
    obtain ⟨b, o, hp, c0, c1, c3⟩ := (hc.ext H.ext).col gx
    simp only [Int.toNat_natCast]
    refine ⟨b, o, hp, by omega, hlt, _, c0, _, c1, _, c3, ?_⟩
    repeat (first
      | (intro _ _ hS; replace H := H.new hS; clear hS)
      | (intro _ hS; (first | replace H := H.put 0 rfl hS | replace H := H.put 1 rfl hS | replace H := H.put 2 rfl hS | replace H := H.put 3 rfl hS | replace H := H.put 4 rfl hS | replace H := H.put 5 rfl hS | replace H := H.put 6 rfl hS | replace H := H.put 7 rfl hS); clear hS; try simp only [setA, List.setIfInBounds_toArray, List.set_cons_zero, List.set_cons_succ, Nat.zero_add, Nat.reduceAdd] at H)
      | (intro _ hS; replace H := H.step (Drew.ext hS); clear hS)
      | (first | refine ⟨⟨_, H.get 0 rfl rfl⟩, ?_⟩ | refine ⟨⟨_, H.get 1 rfl rfl⟩, ?_⟩ | refine ⟨⟨_, H.get 2 rfl rfl⟩, ?_⟩ | refine ⟨⟨_, H.get 3 rfl rfl⟩, ?_⟩ | refine ⟨⟨_, H.get 4 rfl rfl⟩, ?_⟩ | refine ⟨⟨_, H.get 5 rfl rfl⟩, ?_⟩ | refine ⟨⟨_, H.get 6 rfl rfl⟩, ?_⟩ | refine ⟨⟨_, H.get 7 rfl rfl⟩, ?_⟩)
      | (first | refine ⟨H.frz 0 rfl, ?_⟩ | refine ⟨H.frz 1 rfl, ?_⟩ | refine ⟨H.frz 2 rfl, ?_⟩ | refine ⟨H.frz 3 rfl, ?_⟩ | refine ⟨H.frz 4 rfl, ?_⟩ | refine ⟨H.frz 5 rfl, ?_⟩ | refine ⟨H.frz 6 rfl, ?_⟩ | refine ⟨H.frz 7 rfl, ?_⟩)
      | (first | refine ⟨_, H.get 0 rfl rfl, ?_⟩ | refine ⟨_, H.get 1 rfl rfl, ?_⟩ | refine ⟨_, H.get 2 rfl rfl, ?_⟩ | refine ⟨_, H.get 3 rfl rfl, ?_⟩ | refine ⟨_, H.get 4 rfl rfl, ?_⟩ | refine ⟨_, H.get 5 rfl rfl, ?_⟩ | refine ⟨_, H.get 6 rfl rfl, ?_⟩ | refine ⟨_, H.get 7 rfl rfl, ?_⟩)
      | (first | refine ⟨_, _, _, H.get 0 rfl rfl, ?_⟩ | refine ⟨_, _, _, H.get 1 rfl rfl, ?_⟩ | refine ⟨_, _, _, H.get 2 rfl rfl, ?_⟩ | refine ⟨_, _, _, H.get 3 rfl rfl, ?_⟩ | refine ⟨_, _, _, H.get 4 rfl rfl, ?_⟩ | refine ⟨_, _, _, H.get 5 rfl rfl, ?_⟩ | refine ⟨_, _, _, H.get 6 rfl rfl, ?_⟩ | refine ⟨_, _, _, H.get 7 rfl rfl, ?_⟩))
    refine (text_out _ (hold_in H 0 rfl rfl) (by omega)).mono ?_
    rintro e W2 ⟨p3, n3, c3', rfl, ho, eS⟩
    have et : textL (partS l cols j) (tB x.name) = (partS l cols j ++ (uvar x.name.size ++ tB x.name), 0) := by
      unfold textL
      rw [tB_length, if_pos (by omega)]
    rw [et] at ho ⊢
    have hn3 := ho.1
    have hlen2 := partS_len (l := l) ht (j + 1)
    have hst := partS_step (l := l) gx
    have hn3b : n3 + 2 = (partS l cols (j + 1)).length := by rw [hst, List.length_append, hn3]; rfl
    replace H := H.noRow.addRow eS ho.2
    refine ⟨_, _, _, _, rfl, ?_⟩
    repeat (first
      | (intro _ _ hS; replace H := H.new hS; clear hS)
      | (intro _ hS; (first | replace H := H.put 0 rfl hS | replace H := H.put 1 rfl hS | replace H := H.put 2 rfl hS | replace H := H.put 3 rfl hS | replace H := H.put 4 rfl hS | replace H := H.put 5 rfl hS | replace H := H.put 6 rfl hS | replace H := H.put 7 rfl hS); clear hS; try simp only [setA, List.setIfInBounds_toArray, List.set_cons_zero, List.set_cons_succ, Nat.zero_add, Nat.reduceAdd] at H)
      | (intro _ hS; replace H := H.step (Drew.ext hS); clear hS)
      | (first | refine ⟨⟨_, H.get 0 rfl rfl⟩, ?_⟩ | refine ⟨⟨_, H.get 1 rfl rfl⟩, ?_⟩ | refine ⟨⟨_, H.get 2 rfl rfl⟩, ?_⟩ | refine ⟨⟨_, H.get 3 rfl rfl⟩, ?_⟩ | refine ⟨⟨_, H.get 4 rfl rfl⟩, ?_⟩ | refine ⟨⟨_, H.get 5 rfl rfl⟩, ?_⟩ | refine ⟨⟨_, H.get 6 rfl rfl⟩, ?_⟩ | refine ⟨⟨_, H.get 7 rfl rfl⟩, ?_⟩)
      | (first | refine ⟨H.frz 0 rfl, ?_⟩ | refine ⟨H.frz 1 rfl, ?_⟩ | refine ⟨H.frz 2 rfl, ?_⟩ | refine ⟨H.frz 3 rfl, ?_⟩ | refine ⟨H.frz 4 rfl, ?_⟩ | refine ⟨H.frz 5 rfl, ?_⟩ | refine ⟨H.frz 6 rfl, ?_⟩ | refine ⟨H.frz 7 rfl, ?_⟩)
      | (first | refine ⟨_, H.get 0 rfl rfl, ?_⟩ | refine ⟨_, H.get 1 rfl rfl, ?_⟩ | refine ⟨_, H.get 2 rfl rfl, ?_⟩ | refine ⟨_, H.get 3 rfl rfl, ?_⟩ | refine ⟨_, H.get 4 rfl rfl, ?_⟩ | refine ⟨_, H.get 5 rfl rfl, ?_⟩ | refine ⟨_, H.get 6 rfl rfl, ?_⟩ | refine ⟨_, H.get 7 rfl rfl, ?_⟩)
      | (first | refine ⟨_, _, _, H.get 0 rfl rfl, ?_⟩ | refine ⟨_, _, _, H.get 1 rfl rfl, ?_⟩ | refine ⟨_, _, _, H.get 2 rfl rfl, ?_⟩ | refine ⟨_, _, _, H.get 3 rfl rfl, ?_⟩ | refine ⟨_, _, _, H.get 4 rfl rfl, ?_⟩ | refine ⟨_, _, _, H.get 5 rfl rfl, ?_⟩ | refine ⟨_, _, _, H.get 6 rfl rfl, ?_⟩ | refine ⟨_, _, _, H.get 7 rfl rfl, ?_⟩))
    refine (sflag_ok _ _).mono ?_
    rintro e W3 ⟨rfl, eT⟩
    refine ⟨_, rfl, eT.same, ?_⟩
    replace H := H.step eT
    rw [kindB x2]
    repeat (first
      | (intro _ _ hS; replace H := H.new hS; clear hS)
      | (intro _ hS; (first | replace H := H.put 0 rfl hS | replace H := H.put 1 rfl hS | replace H := H.put 2 rfl hS | replace H := H.put 3 rfl hS | replace H := H.put 4 rfl hS | replace H := H.put 5 rfl hS | replace H := H.put 6 rfl hS | replace H := H.put 7 rfl hS); clear hS; try simp only [setA, List.setIfInBounds_toArray, List.set_cons_zero, List.set_cons_succ, Nat.zero_add, Nat.reduceAdd] at H)
      | (intro _ hS; replace H := H.step (Drew.ext hS); clear hS)
      | (first | refine ⟨⟨_, H.get 0 rfl rfl⟩, ?_⟩ | refine ⟨⟨_, H.get 1 rfl rfl⟩, ?_⟩ | refine ⟨⟨_, H.get 2 rfl rfl⟩, ?_⟩ | refine ⟨⟨_, H.get 3 rfl rfl⟩, ?_⟩ | refine ⟨⟨_, H.get 4 rfl rfl⟩, ?_⟩ | refine ⟨⟨_, H.get 5 rfl rfl⟩, ?_⟩ | refine ⟨⟨_, H.get 6 rfl rfl⟩, ?_⟩ | refine ⟨⟨_, H.get 7 rfl rfl⟩, ?_⟩)
      | (first | refine ⟨H.frz 0 rfl, ?_⟩ | refine ⟨H.frz 1 rfl, ?_⟩ | refine ⟨H.frz 2 rfl, ?_⟩ | refine ⟨H.frz 3 rfl, ?_⟩ | refine ⟨H.frz 4 rfl, ?_⟩ | refine ⟨H.frz 5 rfl, ?_⟩ | refine ⟨H.frz 6 rfl, ?_⟩ | refine ⟨H.frz 7 rfl, ?_⟩)
      | (first | refine ⟨_, H.get 0 rfl rfl, ?_⟩ | refine ⟨_, H.get 1 rfl rfl, ?_⟩ | refine ⟨_, H.get 2 rfl rfl, ?_⟩ | refine ⟨_, H.get 3 rfl rfl, ?_⟩ | refine ⟨_, H.get 4 rfl rfl, ?_⟩ | refine ⟨_, H.get 5 rfl rfl, ?_⟩ | refine ⟨_, H.get 6 rfl rfl, ?_⟩ | refine ⟨_, H.get 7 rfl rfl, ?_⟩)
      | (first | refine ⟨_, _, _, H.get 0 rfl rfl, ?_⟩ | refine ⟨_, _, _, H.get 1 rfl rfl, ?_⟩ | refine ⟨_, _, _, H.get 2 rfl rfl, ?_⟩ | refine ⟨_, _, _, H.get 3 rfl rfl, ?_⟩ | refine ⟨_, _, _, H.get 4 rfl rfl, ?_⟩ | refine ⟨_, _, _, H.get 5 rfl rfl, ?_⟩ | refine ⟨_, _, _, H.get 6 rfl rfl, ?_⟩ | refine ⟨_, _, _, H.get 7 rfl rfl, ?_⟩))
    obtain ⟨p4, c4, w53, hrun, H1⟩ := H.append (ty := 28) (P := Tryd.prog) (q := some ⟨_, 0, none⟩) (m := 2) (d' := 2) (news := vB [UInt8.ofNat x.kind.toNat, if x.null then 1 else 0]) 0 rfl undB tyB rfl (by decide) (H.blk 0 rfl).at rfl (fun e => by cases e) vB_one (by dsimp only; omega) (by unfold maxLen; omega)
    refine ⟨_, _, _, _, hrun, ?_⟩
    rw [i64_next (by omega)]
    refine ⟨⟨j + 1, rfl, by omega, ?_, ?_⟩, by simp only [Int.toNat_natCast]; omega⟩
    · rw [hst, List.length_append, hn3]; rfl
    · rw [hst, vB_append]
      exact H1.tail.tail
  · have : j = cols.length := by omega
    subst this
    rw [partS_all] at H ⊢
    refine ⟨_, _, _, by rw [hL], ?_, H.ext⟩
    rw [hL]
    exact hold_out H 0 rfl rfl
end Go.Proofs.YtiojkfckaalooaaDoor

/- The contracts of schemas' bytes: taking, by the program and by the document. Printed by mksl2.py. -/
namespace Go.Vc
open Go Go.RowKit
def takeSV (l : List UInt8) (pos : Int) : List Col × Int × Int :=
  match takeSch l pos with
  | some (cs, k) => (cs, (k : Int), 0)
  | none => ([], 0, 52)
end Go.Vc
namespace Go.Proofs.YtiojkfckaalooaaDoor
open Go Go.Vc Go.RowKit
set_option maxRecDepth 20000
attribute [local irreducible] Calls Put Drew New

theorem undCols : Tryd.prog.underlying 22 = some (.slice 53) := by kernel_rfl
theorem tyCol : tyOf Tryd.prog 53 = some { agg := true, ls := [.str, .int .i64, .bool], zero := .agg #[.string ⟨#[]⟩, .int .i64 0, .bool false], bytes := 32, big := false, n := 3 } := by kernel_rfl
/-- Columns of our own, as they come in. -/
theorem hold_cols {w0 W : World} {fs : List (Nat × Obj)} {ms : List Row} (H : Hold w0 W fs ms) (i : Nat) {p : Option Addr} {n c : Nat} {cs : List Col} (hi : ms[i]? = some ⟨53, 3, p, n, c, cs.flatMap Col.cs⟩) (hl : cs.length = n) : Cols W p n c cs :=
  ⟨hl, (H.row i hi).cap, (H.row i hi).at, (H.row i hi).isNil⟩

end Go.Proofs.YtiojkfckaalooaaDoor

/- The shelf's tables of numbers for this program: as its command lays them, written out by a program of ours (lays.py). -/
namespace Go.Proofs.YtiojkfckaalooaaDoor
open Go Go.Shelf

def joinL_ren : Ren := ⟨fun | 156 => 54 | 165 => 77 | 166 => 78 | 169 => 79 | 240 => 90 | 241 => 91 | 276 => 100 | 277 => 101 | n => n, fun | 31 => 76 | 9 => 9 | 3 => 3 | 4 => 4 | 0 => 0 | 20 => 20 | 72 => 104 | 76 => 108 | 70 => 102 | 37 => 28 | 75 => 107 | 127 => 119 | 164 => 124 | 5 => 5 | 80 => 110 | n => n, fun | n => n⟩
theorem joinL : Lays.n156 Tryd.prog joinL_ren where
  mixed := by kernel_rfl
  f156 := Tryd.func54.trans (congrArg some (by kernel_rfl))
  f165 := Tryd.func77.trans (congrArg some (by kernel_rfl))
  f166 := Tryd.func78.trans (congrArg some (by kernel_rfl))
  f169 := Tryd.func79.trans (congrArg some (by kernel_rfl))
  f240 := Tryd.func90.trans (congrArg some (by kernel_rfl))
  f241 := Tryd.func91.trans (congrArg some (by kernel_rfl))
  f276 := Tryd.func100.trans (congrArg some (by kernel_rfl))
  f277 := Tryd.func101.trans (congrArg some (by kernel_rfl))
  t0 := Tryd.underlying0
  a0 := Tryd.isAgg0
  z0 := Tryd.sizeOf0
  v0 := Tryd.zeroValue0
  t3 := Tryd.underlying3
  a3 := Tryd.isAgg3
  z3 := Tryd.sizeOf3
  v3 := Tryd.zeroValue3
  t4 := Tryd.underlying4
  a4 := Tryd.isAgg4
  z4 := Tryd.sizeOf4
  v4 := Tryd.zeroValue4
  t9 := Tryd.underlying9
  a9 := Tryd.isAgg9
  z9 := Tryd.sizeOf9
  v9 := Tryd.zeroValue9
  t20 := Tryd.underlying20
  a20 := Tryd.isAgg20
  z20 := Tryd.sizeOf20
  v20 := Tryd.zeroValue20
  t31 := Tryd.underlying76
  a31 := Tryd.isAgg76
  z31 := Tryd.sizeOf76
  v31 := Tryd.zeroValue76
  t37 := Tryd.underlying28
  a37 := Tryd.isAgg28
  z37 := Tryd.sizeOf28
  v37 := Tryd.zeroValue28
  t70 := Tryd.underlying102
  a70 := Tryd.isAgg102
  z70 := Tryd.sizeOf102
  v70 := Tryd.zeroValue102
  t72 := Tryd.underlying104
  a72 := Tryd.isAgg104
  z72 := Tryd.sizeOf104
  v72 := Tryd.zeroValue104
  t75 := Tryd.underlying107
  a75 := Tryd.isAgg107
  z75 := Tryd.sizeOf107
  v75 := Tryd.zeroValue107
  t76 := Tryd.underlying108
  a76 := Tryd.isAgg108
  z76 := Tryd.sizeOf108
  v76 := Tryd.zeroValue108
  t127 := Tryd.underlying119
  a127 := Tryd.isAgg119
  z127 := Tryd.sizeOf119
  v127 := Tryd.zeroValue119
  t164 := Tryd.underlying124
  a164 := Tryd.isAgg124
  z164 := Tryd.sizeOf124
  v164 := Tryd.zeroValue124

def splitL_ren : Ren := ⟨fun | 146 => 56 | 221 => 80 | 268 => 92 | 138 => 93 | 143 => 94 | 195 => 102 | 197 => 86 | 218 => 103 | 219 => 96 | 260 => 97 | 217 => 64 | 225 => 104 | 224 => 105 | 267 => 106 | 266 => 84 | 314 => 108 | n => n, fun | 9 => 9 | 31 => 76 | 3 => 3 | 4 => 4 | 0 => 0 | 105 => 115 | 21 => 21 | 5 => 5 | 46 => 113 | 119 => 128 | 139 => 131 | 138 => 130 | 146 => 134 | 51 => 133 | n => n, fun | 1 => 1 | 3 => 2 | 4 => 3 | n => n⟩
theorem splitL : Lays.n146 Tryd.prog splitL_ren where
  mixed := by kernel_rfl
  f138 := Tryd.func93.trans (congrArg some (by kernel_rfl))
  f143 := Tryd.func94.trans (congrArg some (by kernel_rfl))
  f146 := Tryd.func56.trans (congrArg some (by kernel_rfl))
  f195 := Tryd.func102.trans (congrArg some (by kernel_rfl))
  f197 := Tryd.func86.trans (congrArg some (by kernel_rfl))
  f217 := Tryd.func64.trans (congrArg some (by kernel_rfl))
  f218 := Tryd.func103.trans (congrArg some (by kernel_rfl))
  f219 := Tryd.func96.trans (congrArg some (by kernel_rfl))
  f221 := Tryd.func80.trans (congrArg some (by kernel_rfl))
  f224 := Tryd.func105.trans (congrArg some (by kernel_rfl))
  f225 := Tryd.func104.trans (congrArg some (by kernel_rfl))
  f260 := Tryd.func97.trans (congrArg some (by kernel_rfl))
  f266 := Tryd.func84.trans (congrArg some (by kernel_rfl))
  f267 := Tryd.func106.trans (congrArg some (by kernel_rfl))
  f268 := Tryd.func92.trans (congrArg some (by kernel_rfl))
  f314 := Tryd.func108.trans (congrArg some (by kernel_rfl))
  t0 := Tryd.underlying0
  a0 := Tryd.isAgg0
  z0 := Tryd.sizeOf0
  v0 := Tryd.zeroValue0
  t3 := Tryd.underlying3
  a3 := Tryd.isAgg3
  z3 := Tryd.sizeOf3
  v3 := Tryd.zeroValue3
  t4 := Tryd.underlying4
  a4 := Tryd.isAgg4
  z4 := Tryd.sizeOf4
  v4 := Tryd.zeroValue4
  t5 := Tryd.underlying5
  a5 := Tryd.isAgg5
  z5 := Tryd.sizeOf5
  v5 := Tryd.zeroValue5
  t9 := Tryd.underlying9
  a9 := Tryd.isAgg9
  z9 := Tryd.sizeOf9
  v9 := Tryd.zeroValue9
  t21 := Tryd.underlying21
  a21 := Tryd.isAgg21
  z21 := Tryd.sizeOf21
  v21 := Tryd.zeroValue21
  t31 := Tryd.underlying76
  a31 := Tryd.isAgg76
  z31 := Tryd.sizeOf76
  v31 := Tryd.zeroValue76
  t46 := Tryd.underlying113
  a46 := Tryd.isAgg113
  z46 := Tryd.sizeOf113
  v46 := Tryd.zeroValue113
  t51 := Tryd.underlying133
  a51 := Tryd.isAgg133
  z51 := Tryd.sizeOf133
  v51 := Tryd.zeroValue133
  t105 := Tryd.underlying115
  a105 := Tryd.isAgg115
  z105 := Tryd.sizeOf115
  v105 := Tryd.zeroValue115
  t119 := Tryd.underlying128
  a119 := Tryd.isAgg128
  z119 := Tryd.sizeOf128
  t138 := Tryd.underlying130
  a138 := Tryd.isAgg130
  z138 := Tryd.sizeOf130
  v138 := Tryd.zeroValue130
  t139 := Tryd.underlying131
  a139 := Tryd.isAgg131
  z139 := Tryd.sizeOf131
  v139 := Tryd.zeroValue131
  t146 := Tryd.underlying134
  a146 := Tryd.isAgg134
  z146 := Tryd.sizeOf134
  v146 := Tryd.zeroValue134
  g1 := by kernel_rfl
  g3 := by kernel_rfl
  g4 := by kernel_rfl

def cutL_ren : Ren := ⟨fun | 145 => 58 | 220 => 82 | 219 => 96 | 217 => 64 | 225 => 104 | 224 => 105 | 267 => 106 | 266 => 84 | 314 => 108 | n => n, fun | 9 => 9 | 4 => 4 | 59 => 83 | 3 => 3 | 5 => 5 | 46 => 113 | 146 => 134 | 51 => 133 | n => n, fun | 1 => 1 | n => n⟩
theorem cutL : Lays.n145 Tryd.prog cutL_ren where
  mixed := by kernel_rfl
  f145 := Tryd.func58.trans (congrArg some (by kernel_rfl))
  f217 := Tryd.func64.trans (congrArg some (by kernel_rfl))
  f219 := Tryd.func96.trans (congrArg some (by kernel_rfl))
  f220 := Tryd.func82.trans (congrArg some (by kernel_rfl))
  f224 := Tryd.func105.trans (congrArg some (by kernel_rfl))
  f225 := Tryd.func104.trans (congrArg some (by kernel_rfl))
  f266 := Tryd.func84.trans (congrArg some (by kernel_rfl))
  f267 := Tryd.func106.trans (congrArg some (by kernel_rfl))
  f314 := Tryd.func108.trans (congrArg some (by kernel_rfl))
  t3 := Tryd.underlying3
  a3 := Tryd.isAgg3
  z3 := Tryd.sizeOf3
  v3 := Tryd.zeroValue3
  t4 := Tryd.underlying4
  a4 := Tryd.isAgg4
  z4 := Tryd.sizeOf4
  v4 := Tryd.zeroValue4
  t5 := Tryd.underlying5
  a5 := Tryd.isAgg5
  z5 := Tryd.sizeOf5
  v5 := Tryd.zeroValue5
  t9 := Tryd.underlying9
  a9 := Tryd.isAgg9
  z9 := Tryd.sizeOf9
  v9 := Tryd.zeroValue9
  t46 := Tryd.underlying113
  a46 := Tryd.isAgg113
  z46 := Tryd.sizeOf113
  v46 := Tryd.zeroValue113
  t51 := Tryd.underlying133
  a51 := Tryd.isAgg133
  z51 := Tryd.sizeOf133
  v51 := Tryd.zeroValue133
  t59 := Tryd.underlying83
  a59 := Tryd.isAgg83
  z59 := Tryd.sizeOf83
  v59 := Tryd.zeroValue83
  t146 := Tryd.underlying134
  a146 := Tryd.isAgg134
  z146 := Tryd.sizeOf134
  v146 := Tryd.zeroValue134
  g1 := by kernel_rfl

end Go.Proofs.YtiojkfckaalooaaDoor

/- The contracts of schemas' texts: showing, by the program (strings.Join by the kit's shelf) and by the document. -/
namespace Go.Vc
open Go Go.RowKit
def bS (l : List UInt8) : ByteArray := ⟨l.toArray⟩
theorem bS_tB (s : ByteArray) : bS (tB s) = s := tB_inj.1 (tB_mk _)
theorem tB_bS (l : List UInt8) : tB (bS l) = l := tB_mk l
theorem bS_size (l : List UInt8) : (bS l).size = l.length := by
  show l.toArray.size = _
  simp
theorem cat_bS (a b : ByteArray) : ByteArray.instAppend.1 a b = bS (tB a ++ tB b) := by
  apply tB_inj.1
  rw [tB_bS]
  show (a ++ b).data.toList = _
  rw [ByteArray.data_append, Array.toList_append]; rfl
def txt (s : ByteArray) : List Value := [.string s]
theorem txt_len (s : ByteArray) : (txt s).length = 1 := rfl
theorem txt_one (s : ByteArray) : ∀ u ∈ txt s, u.oneCell' = true := by intro u hu; simp [txt] at hu; subst hu; rfl
def wordL (k : Int) : List UInt8 := if k = 1 then [105, 110, 116] else if k = 2 then [98, 111, 111, 108] else if k = 3 then [116, 101, 120, 116] else [110, 117, 108, 108]
def colT (c : Col) : List UInt8 := tB c.name ++ ([32] ++ (wordL c.kind ++ (if c.null then [32, 110, 117, 108, 108] else [])))
def sepL : List UInt8 := [44, 32]
def showL (cols : List Col) : List UInt8 := Lib.join (cols.map colT) sepL
def showS (cols : List Col) : ByteArray × Int := if rightC cols then (bS (showL cols), 0) else (⟨#[]⟩, 50)
theorem wordL_len (k : Int) : (wordL k).length ≤ 4 := by unfold wordL; repeat' split
                                                         all_goals decide
theorem colT_len {c : Col} (h : c.name.size ≤ 24) : (colT c).length ≤ 34 := by
  have := wordL_len c.kind
  have := tB_length c.name
  unfold colT
  cases c.null <;> simp <;> omega
theorem joinTail_snoc (r : List (List UInt8)) (x : List UInt8) : Lib.joinTail sepL (r ++ [x]) = Lib.joinTail sepL r ++ (sepL ++ x) := by
  unfold Lib.joinTail; simp
theorem join_snoc {xs : List (List UInt8)} (h : xs ≠ []) (x : List UInt8) : Lib.join (xs ++ [x]) sepL = Lib.join xs sepL ++ (sepL ++ x) := by
  cases xs with
  | nil => exact absurd rfl h
  | cons y r => rw [List.cons_append, Lib.join_cons, Lib.join_cons, joinTail_snoc, List.append_assoc]
theorem joinTail_len : ∀ (r : List (List UInt8)), (∀ x ∈ r, x.length ≤ 34) → (Lib.joinTail sepL r).length ≤ 36 * r.length
  | [], _ => by simp [Lib.joinTail]
  | x :: r, h => by
    have h1 := h x (by simp)
    have h2 := joinTail_len r fun y hy => h y (by simp [hy])
    have e : Lib.joinTail sepL (x :: r) = (sepL ++ x) ++ Lib.joinTail sepL r := by unfold Lib.joinTail; simp
    rw [e, List.length_append, List.length_append, List.length_cons]
    have : sepL.length = 2 := rfl
    omega
theorem showL_len {cols : List Col} (h : ∀ c ∈ cols, c.name.size ≤ 24) : (showL cols).length ≤ 36 * cols.length := by
  unfold showL
  cases cols with
  | nil => simp [Lib.join_nil]
  | cons c r =>
    rw [List.map_cons, Lib.join_cons, List.length_append, List.length_cons]
    have h1 := colT_len (h c (by simp))
    have h2 := joinTail_len (r.map colT) fun x hx => by
      obtain ⟨y, hy, rfl⟩ := List.mem_map.1 hx
      exact colT_len (h y (by simp [hy]))
    rw [List.length_map] at h2
    omega
theorem showL_step {cols : List Col} {j : Nat} {c : Col} (h : cols[j]? = some c) : showL (cols.take (j + 1)) = if j = 0 then colT c else showL (cols.take j) ++ (sepL ++ colT c) := by
  have hlt := (List.getElem?_eq_some_iff.1 h).1
  unfold showL
  rw [take_snoc h, List.map_append]
  by_cases h0 : j = 0
  · subst h0
    rw [if_pos rfl]
    simp [Lib.join_one]
  · rw [if_neg h0]
    refine join_snoc ?_ _
    intro e
    have hz : ((cols.take j).map colT).length = 0 := by rw [e]; rfl
    rw [List.length_map, List.length_take] at hz
    omega
end Go.Vc
namespace Go.Proofs.YtiojkfckaalooaaDoor
open Go Go.Vc Go.RowKit
set_option maxRecDepth 20000
attribute [local irreducible] Calls Put Drew New

/-- The table of words. -/
def wordsA : Array Value := #[.string (bS [110, 117, 108, 108]), .string (bS [105, 110, 116]), .string (bS [98, 111, 111, 108]), .string (bS [116, 101, 120, 116])]
def WTab (w : World) : Prop := CellsAt w 0 0 wordsA
theorem WTab.ext {w w' : World} (h : WTab w) (e : Ext w w') : WTab w' := fun k v hk => cell_ext (h k v hk) e
theorem WTab.at {w : World} (h : WTab w) {k : Int} (hk : 1 ≤ k ∧ k ≤ 3) : w.cell? ⟨0, 0 + k.toNat, none⟩ = some (.string (bS (wordL k))) := by
  rcases (by omega : k = 1 ∨ k = 2 ∨ k = 3) with e | e | e <;> subst e
  · exact h 1 _ rfl
  · exact h 2 _ rfl
  · exact h 3 _ rfl
theorem joinX : Builder.Extra Tryd.prog joinL_ren where
  sizeBuilder := by kernel_rfl
  liesBuilder := by kernel_rfl
  t5 := by kernel_rfl
  a5 := Tryd.isAgg5
  z5 := Tryd.sizeOf5
  v5 := Tryd.zeroValue5
  infoByte := by kernel_rfl
  cellsByte := by kernel_rfl
  sizeByte := by kernel_rfl
  neB5 := by decide
theorem join_ok {w : World} {p : Option Addr} {n c : Nat} {xs : List ByteArray} (h : Ls txt w p n c xs) (sep : ByteArray) (hn : n ≤ 1000) (hlen : (Lib.join (xs.map tB) (tB sep)).length ≤ 1000000) :
    Calls Tryd.prog 54 #[.slice p n c, .string sep] w fun e w' => e = .returned (.string (bS (Lib.join (xs.map tB) (tB sep)))) ∧ Ext w w' := by
  have hl := h.len
  rcases Nat.eq_zero_or_pos n with h0 | h0
  · subst h0
    have hx : xs = [] := List.eq_nil_of_length_eq_zero hl
    subst hx
    refine (Any.strings_Join_none joinL joinX p c sep w).mono ?_
    rintro e w' ⟨rfl, rfl⟩
    exact ⟨rfl, Ext.rfl⟩
  · obtain ⟨b, o, hp, h1⟩ := h.lies.things txt_len (by decide) (i := 0) (List.getElem?_eq_getElem (by omega))
    subst hp
    have hcells : ∀ (j : Nat) x, xs[j]? = some x → w.cell? ⟨b, o + j, none⟩ = some (.string x) := by
      intro j x hx
      obtain ⟨b', o', hp', h2⟩ := h.lies.things txt_len (by decide) hx
      cases hp'
      have := h2 0 _ rfl
      rwa [Nat.mul_one, Nat.add_zero] at this
    have hb := cell_lt (hcells 0 _ (List.getElem?_eq_getElem (by omega)))
    have := Any.strings_Join joinL joinX b o c xs sep w hcells hb (by omega) (by have := h.cap; omega) (by have : (Lib.join (xs.map (·.data.toList)) sep.data.toList).length ≤ 1000000 := hlen; omega)
    rw [hl] at this
    refine this.mono ?_
    rintro e w' ⟨rfl, hw⟩
    exact ⟨rfl, hw⟩
theorem undTx : Tryd.prog.underlying 76 = some (.slice 9) := by kernel_rfl
theorem tyStr : tyOf Tryd.prog 9 = some { agg := false, ls := [.str], zero := .string ⟨#[]⟩, bytes := 16, big := false, n := 1 } := by kernel_rfl
set_option maxHeartbeats 4000000 in
theorem sshow_ok {w : World} (hT : WTab w) {p : Option Addr} {n c : Nat} {cols : List Col} (h : Cols w p n c cols) :
    Calls Tryd.prog 29 #[.slice p n c] w fun e w' => e = .returned (.tuple #[.string (showS cols).1, .int .i64 (showS cols).2]) ∧ Ext w w' := by
  have hl := h.len
  apply sshow_vc
  unfold sshow_T
  refine (sright_ok h).mono ?_
  rintro e w2 ⟨rfl, e1⟩
  refine ⟨_, rfl, fun hf => ?_, fun ht => ?_⟩
  · have hS : showS cols = (⟨#[]⟩, 50) := by unfold showS; rw [hf]; rfl
    rw [hS]; exact ⟨rfl, e1⟩
  obtain ⟨r1, r2, r3⟩ := right_all ht
  have hS : showS cols = (bS (showL cols), 0) := by unfold showS; rw [if_pos ht]
  refine ⟨fun q m d i W => ∃ j : Nat, i = (j : Int) ∧ j ≤ n ∧ j = m ∧ Hold w W [] [⟨9, 1, q, m, d, ((cols.take j).map fun c => bS (colT c)).flatMap txt⟩], fun _ _ _ i _ => n - i.toNat, ⟨0, rfl, Nat.zero_le _, rfl, (Hold.start e1).nilRow _ _⟩, ?_⟩
  rintro q m d i W ⟨j, rfl, hj, rfl, H⟩
  refine ⟨fun hlt => ?_, fun hge => ?_⟩
  · have gx : cols[j]? = some (cols[j]'(by omega)) := List.getElem?_eq_getElem _
    generalize cols[j]'(by omega) = x at gx
    obtain ⟨x1, x2⟩ := r3 x (List.mem_of_getElem? gx)
    obtain ⟨b, o, hp, c0, c1, c3⟩ := (h.ext H.ext).col gx
    simp only [Int.toNat_natCast]
    refine ⟨b, o, hp, by omega, hlt, _, c0, _, c1, _, c3, ?_⟩
    repeat (first
      | (intro _ _ hS; replace H := H.new hS; clear hS)
      | (intro _ hS; (first | replace H := H.put 0 rfl hS | replace H := H.put 1 rfl hS | replace H := H.put 2 rfl hS | replace H := H.put 3 rfl hS | replace H := H.put 4 rfl hS | replace H := H.put 5 rfl hS | replace H := H.put 6 rfl hS | replace H := H.put 7 rfl hS); clear hS; try simp only [setA, List.setIfInBounds_toArray, List.set_cons_zero, List.set_cons_succ, Nat.zero_add, Nat.reduceAdd] at H)
      | (intro _ hS; replace H := H.step (Drew.ext hS); clear hS)
      | (first | refine ⟨⟨_, H.get 0 rfl rfl⟩, ?_⟩ | refine ⟨⟨_, H.get 1 rfl rfl⟩, ?_⟩ | refine ⟨⟨_, H.get 2 rfl rfl⟩, ?_⟩ | refine ⟨⟨_, H.get 3 rfl rfl⟩, ?_⟩ | refine ⟨⟨_, H.get 4 rfl rfl⟩, ?_⟩ | refine ⟨⟨_, H.get 5 rfl rfl⟩, ?_⟩ | refine ⟨⟨_, H.get 6 rfl rfl⟩, ?_⟩ | refine ⟨⟨_, H.get 7 rfl rfl⟩, ?_⟩)
      | (first | refine ⟨H.frz 0 rfl, ?_⟩ | refine ⟨H.frz 1 rfl, ?_⟩ | refine ⟨H.frz 2 rfl, ?_⟩ | refine ⟨H.frz 3 rfl, ?_⟩ | refine ⟨H.frz 4 rfl, ?_⟩ | refine ⟨H.frz 5 rfl, ?_⟩ | refine ⟨H.frz 6 rfl, ?_⟩ | refine ⟨H.frz 7 rfl, ?_⟩)
      | (first | refine ⟨_, H.get 0 rfl rfl, ?_⟩ | refine ⟨_, H.get 1 rfl rfl, ?_⟩ | refine ⟨_, H.get 2 rfl rfl, ?_⟩ | refine ⟨_, H.get 3 rfl rfl, ?_⟩ | refine ⟨_, H.get 4 rfl rfl, ?_⟩ | refine ⟨_, H.get 5 rfl rfl, ?_⟩ | refine ⟨_, H.get 6 rfl rfl, ?_⟩ | refine ⟨_, H.get 7 rfl rfl, ?_⟩)
      | (first | refine ⟨_, _, _, H.get 0 rfl rfl, ?_⟩ | refine ⟨_, _, _, H.get 1 rfl rfl, ?_⟩ | refine ⟨_, _, _, H.get 2 rfl rfl, ?_⟩ | refine ⟨_, _, _, H.get 3 rfl rfl, ?_⟩ | refine ⟨_, _, _, H.get 4 rfl rfl, ?_⟩ | refine ⟨_, _, _, H.get 5 rfl rfl, ?_⟩ | refine ⟨_, _, _, H.get 6 rfl rfl, ?_⟩ | refine ⟨_, _, _, H.get 7 rfl rfl, ?_⟩))
    refine ⟨by omega, ?_⟩
    repeat (first
      | (intro _ _ hS; replace H := H.new hS; clear hS)
      | (intro _ hS; (first | replace H := H.put 0 rfl hS | replace H := H.put 1 rfl hS | replace H := H.put 2 rfl hS | replace H := H.put 3 rfl hS | replace H := H.put 4 rfl hS | replace H := H.put 5 rfl hS | replace H := H.put 6 rfl hS | replace H := H.put 7 rfl hS); clear hS; try simp only [setA, List.setIfInBounds_toArray, List.set_cons_zero, List.set_cons_succ, Nat.zero_add, Nat.reduceAdd] at H)
      | (intro _ hS; replace H := H.step (Drew.ext hS); clear hS)
      | (first | refine ⟨⟨_, H.get 0 rfl rfl⟩, ?_⟩ | refine ⟨⟨_, H.get 1 rfl rfl⟩, ?_⟩ | refine ⟨⟨_, H.get 2 rfl rfl⟩, ?_⟩ | refine ⟨⟨_, H.get 3 rfl rfl⟩, ?_⟩ | refine ⟨⟨_, H.get 4 rfl rfl⟩, ?_⟩ | refine ⟨⟨_, H.get 5 rfl rfl⟩, ?_⟩ | refine ⟨⟨_, H.get 6 rfl rfl⟩, ?_⟩ | refine ⟨⟨_, H.get 7 rfl rfl⟩, ?_⟩)
      | (first | refine ⟨H.frz 0 rfl, ?_⟩ | refine ⟨H.frz 1 rfl, ?_⟩ | refine ⟨H.frz 2 rfl, ?_⟩ | refine ⟨H.frz 3 rfl, ?_⟩ | refine ⟨H.frz 4 rfl, ?_⟩ | refine ⟨H.frz 5 rfl, ?_⟩ | refine ⟨H.frz 6 rfl, ?_⟩ | refine ⟨H.frz 7 rfl, ?_⟩)
      | (first | refine ⟨_, H.get 0 rfl rfl, ?_⟩ | refine ⟨_, H.get 1 rfl rfl, ?_⟩ | refine ⟨_, H.get 2 rfl rfl, ?_⟩ | refine ⟨_, H.get 3 rfl rfl, ?_⟩ | refine ⟨_, H.get 4 rfl rfl, ?_⟩ | refine ⟨_, H.get 5 rfl rfl, ?_⟩ | refine ⟨_, H.get 6 rfl rfl, ?_⟩ | refine ⟨_, H.get 7 rfl rfl, ?_⟩)
      | (first | refine ⟨_, _, _, H.get 0 rfl rfl, ?_⟩ | refine ⟨_, _, _, H.get 1 rfl rfl, ?_⟩ | refine ⟨_, _, _, H.get 2 rfl rfl, ?_⟩ | refine ⟨_, _, _, H.get 3 rfl rfl, ?_⟩ | refine ⟨_, _, _, H.get 4 rfl rfl, ?_⟩ | refine ⟨_, _, _, H.get 5 rfl rfl, ?_⟩ | refine ⟨_, _, _, H.get 6 rfl rfl, ?_⟩ | refine ⟨_, _, _, H.get 7 rfl rfl, ?_⟩))
    have hw4 := wordL_len x.kind
    have hz := tB_length x.name
    refine ⟨by omega, by omega, _, (hT.ext H.ext).at x2, ?_⟩
    simp only [cat_bS, tB_bS, bS_size]
    have hone : tB (ByteArray.mk #[32]) = [32] := rfl
    have hnul : tB (ByteArray.mk #[32, 110, 117, 108, 108]) = [32, 110, 117, 108, 108] := rfl
    rw [hone, hnul]
    refine ⟨by simp; omega, ?_⟩
    repeat (first
      | (intro _ _ hS; replace H := H.new hS; clear hS)
      | (intro _ hS; (first | replace H := H.put 0 rfl hS | replace H := H.put 1 rfl hS | replace H := H.put 2 rfl hS | replace H := H.put 3 rfl hS | replace H := H.put 4 rfl hS | replace H := H.put 5 rfl hS | replace H := H.put 6 rfl hS | replace H := H.put 7 rfl hS); clear hS; try simp only [setA, List.setIfInBounds_toArray, List.set_cons_zero, List.set_cons_succ, Nat.zero_add, Nat.reduceAdd] at H)
      | (intro _ hS; replace H := H.step (Drew.ext hS); clear hS)
      | (first | refine ⟨⟨_, H.get 0 rfl rfl⟩, ?_⟩ | refine ⟨⟨_, H.get 1 rfl rfl⟩, ?_⟩ | refine ⟨⟨_, H.get 2 rfl rfl⟩, ?_⟩ | refine ⟨⟨_, H.get 3 rfl rfl⟩, ?_⟩ | refine ⟨⟨_, H.get 4 rfl rfl⟩, ?_⟩ | refine ⟨⟨_, H.get 5 rfl rfl⟩, ?_⟩ | refine ⟨⟨_, H.get 6 rfl rfl⟩, ?_⟩ | refine ⟨⟨_, H.get 7 rfl rfl⟩, ?_⟩)
      | (first | refine ⟨H.frz 0 rfl, ?_⟩ | refine ⟨H.frz 1 rfl, ?_⟩ | refine ⟨H.frz 2 rfl, ?_⟩ | refine ⟨H.frz 3 rfl, ?_⟩ | refine ⟨H.frz 4 rfl, ?_⟩ | refine ⟨H.frz 5 rfl, ?_⟩ | refine ⟨H.frz 6 rfl, ?_⟩ | refine ⟨H.frz 7 rfl, ?_⟩)
      | (first | refine ⟨_, H.get 0 rfl rfl, ?_⟩ | refine ⟨_, H.get 1 rfl rfl, ?_⟩ | refine ⟨_, H.get 2 rfl rfl, ?_⟩ | refine ⟨_, H.get 3 rfl rfl, ?_⟩ | refine ⟨_, H.get 4 rfl rfl, ?_⟩ | refine ⟨_, H.get 5 rfl rfl, ?_⟩ | refine ⟨_, H.get 6 rfl rfl, ?_⟩ | refine ⟨_, H.get 7 rfl rfl, ?_⟩)
      | (first | refine ⟨_, _, _, H.get 0 rfl rfl, ?_⟩ | refine ⟨_, _, _, H.get 1 rfl rfl, ?_⟩ | refine ⟨_, _, _, H.get 2 rfl rfl, ?_⟩ | refine ⟨_, _, _, H.get 3 rfl rfl, ?_⟩ | refine ⟨_, _, _, H.get 4 rfl rfl, ?_⟩ | refine ⟨_, _, _, H.get 5 rfl rfl, ?_⟩ | refine ⟨_, _, _, H.get 6 rfl rfl, ?_⟩ | refine ⟨_, _, _, H.get 7 rfl rfl, ?_⟩))
    refine ⟨fun hb => ⟨by simp; omega, ?_⟩, fun hb => ?_⟩
    · have ex : bS (tB x.name ++ [32] ++ wordL x.kind ++ [32, 110, 117, 108, 108]) = bS (colT x) := by unfold colT; rw [hb]; simp
      rw [ex]
      intro b35 w36 h35
      replace H := H.new h35
      obtain ⟨p', c', w41, hrun, H1⟩ := H.append (ty := 76) (P := Tryd.prog) (q := some ⟨b35, 0, none⟩) (m := 1) (d' := 1) (news := txt (bS (colT x))) 0 rfl undTx tyStr rfl (by decide) (H.blk 0 rfl).at rfl (fun e => by cases e) (txt_one _) (by show ((j + 1) + (j + 1) / 4 + 192) * 16 ≤ 281474976710656; omega) (by unfold maxLen; omega)
      refine ⟨_, _, _, _, hrun, ?_⟩
      rw [i64_next (by omega)]
      refine ⟨⟨j + 1, rfl, by omega, rfl, ?_⟩, by simp only [Int.toNat_natCast]; omega⟩
      rw [take_snoc gx, List.map_append, List.flatMap_append]
      have := H1.tail.tail
      simpa using this
    · have ex : bS (tB x.name ++ [32] ++ wordL x.kind) = bS (colT x) := by unfold colT; rw [hb]; simp
      rw [ex]
      intro b35 w36 h35
      replace H := H.new h35
      obtain ⟨p', c', w41, hrun, H1⟩ := H.append (ty := 76) (P := Tryd.prog) (q := some ⟨b35, 0, none⟩) (m := 1) (d' := 1) (news := txt (bS (colT x))) 0 rfl undTx tyStr rfl (by decide) (H.blk 0 rfl).at rfl (fun e => by cases e) (txt_one _) (by show ((j + 1) + (j + 1) / 4 + 192) * 16 ≤ 281474976710656; omega) (by unfold maxLen; omega)
      refine ⟨_, _, _, _, hrun, ?_⟩
      rw [i64_next (by omega)]
      refine ⟨⟨j + 1, rfl, by omega, rfl, ?_⟩, by simp only [Int.toNat_natCast]; omega⟩
      rw [take_snoc gx, List.map_append, List.flatMap_append]
      have := H1.tail.tail
      simpa using this
  · have hjn : j = n := by omega
    subst hjn
    rw [List.take_of_length_le (by omega)] at H
    have hls : Ls txt W q j d (cols.map fun c => bS (colT c)) := (H.row 0 rfl).ls txt_len (by decide)
    have hmap : (cols.map fun c => bS (colT c)).map tB = cols.map colT := by rw [List.map_map]; exact List.map_congr_left fun c _ => tB_bS _
    have hlen := showL_len (cols := cols) fun c hc => (r3 c hc).1
    refine (join_ok hls (ByteArray.mk #[44, 32]) (by omega) (by rw [hmap]; have : (Lib.join (cols.map colT) sepL).length ≤ 36 * cols.length := hlen; have e : tB (ByteArray.mk #[44, 32]) = sepL := rfl; rw [e]; omega)).mono ?_
    rintro e W2 ⟨rfl, eS⟩
    refine ⟨_, rfl, ?_, H.ext.trans eS⟩
    rw [hmap, hS]; rfl
end Go.Proofs.YtiojkfckaalooaaDoor

/- The contracts of schemas' texts, the document's; schemas held against one another; the known schema. Printed by mksw2.py. -/
namespace Go.Proofs.YtiojkfckaalooaaDoor
open Go Go.Vc Go.RowKit
set_option maxRecDepth 20000
attribute [local irreducible] Calls Put Drew New

theorem r5kinds_ok {k : Int} (hk : 1 ≤ k ∧ k ≤ 3) (w : World) : Calls Tryd.prog 55 #[.int .i64 k] w fun e w' => e = .returned (.string (bS (wordL k))) ∧ Ext w w' := by
  apply r5kinds_vc
  unfold r5kinds_T
  intro b1 w2 h1
  have H := (Hold.start (Ext.rfl (w := w))).new (o := .cells wordsA 9) h1
  refine ⟨b1, 0, rfl, by omega, by omega, bS (wordL k), ?_, rfl, H.ext⟩
  rw [Nat.zero_add]
  rcases (by omega : k = 1 ∨ k = 2 ∨ k = 3) with e | e | e <;> subst e
  · exact H.get 0 rfl rfl
  · exact H.get 0 rfl rfl
  · exact H.get 0 rfl rfl
set_option maxHeartbeats 4000000 in
theorem r5show_ok {w : World} {p : Option Addr} {n c : Nat} {cols : List Col} (h : Cols w p n c cols) (hcs : ∀ x ∈ cols, x.name.size ≤ 9223372036854775807) :
    Calls Tryd.prog 30 #[.slice p n c] w fun e w' => e = .returned (.tuple #[.string (showS cols).1, .int .i64 (showS cols).2]) ∧ Ext w w' := by
  have hl := h.len
  apply r5show_vc
  unfold r5show_T
  refine (r5right_ok h hcs).mono ?_
  rintro e w2 ⟨rfl, e1⟩
  refine ⟨_, rfl, fun hf => ?_, fun ht => ?_⟩
  · have hS : showS cols = (⟨#[]⟩, 50) := by unfold showS; rw [hf]; rfl
    rw [hS]; exact ⟨rfl, e1⟩
  obtain ⟨r1, r2, r3⟩ := right_all ht
  have hS : showS cols = (bS (showL cols), 0) := by unfold showS; rw [if_pos ht]
  refine ⟨fun s i W => ∃ j : Nat, i = (j : Int) ∧ j ≤ n ∧ s = bS (showL (cols.take j)) ∧ Ext w W, fun _ i _ => n - i.toNat, ⟨0, rfl, Nat.zero_le _, rfl, e1⟩, ?_⟩
  rintro s i W ⟨j, rfl, hj, rfl, eW⟩
  have hsl := showL_len (cols := cols.take j) fun c hc => (r3 c (List.mem_of_mem_take hc)).1
  have htl : (cols.take j).length ≤ 16 := by rw [List.length_take]; omega
  refine ⟨fun hlt => ?_, fun hge => ?_⟩
  · have gx : cols[j]? = some (cols[j]'(by omega)) := List.getElem?_eq_getElem _
    generalize cols[j]'(by omega) = x at gx
    obtain ⟨x1, x2⟩ := r3 x (List.mem_of_getElem? gx)
    have hst := showL_step gx
    have hw4 := wordL_len x.kind
    have hz := tB_length x.name
    have hone : tB (ByteArray.mk #[32]) = [32] := rfl
    have hsep : tB (ByteArray.mk #[44, 32]) = sepL := rfl
    have hnul : tB (ByteArray.mk #[32, 110, 117, 108, 108]) = [32, 110, 117, 108, 108] := rfl
    have hs2 : sepL.length = 2 := rfl
    simp only [Int.toNat_natCast, cat_bS, tB_bS, bS_size, hone, hsep, hnul]
    generalize showL (cols.take j) = S at *
    refine ⟨fun h0 => ?_, fun h0 => ?_⟩
    · refine ⟨by omega, ?_⟩
      intro w14 hD
      have eD := eW.trans (Drew.ext hD)
      obtain ⟨b, o, hp, c0, c1, c3⟩ := (h.ext eD).col gx
      refine ⟨b, o, hp, by omega, hlt, _, c0, by simp; omega, by simp; omega, b, o, hp, by omega, hlt, _, c1, ?_⟩
      refine (r5kinds_ok x2 w14).mono ?_
      rintro e W2 ⟨rfl, eS⟩
      refine ⟨_, rfl, eS.same, ?_⟩
      try simp only [tB_bS, bS_size]
      refine ⟨by simp; omega, b, o, hp, by omega, hlt, _, cell_ext c3 eS, fun hb => ⟨by simp; omega, ?_⟩, fun hb => ?_⟩
      · rw [i64_next (by omega)]
        refine ⟨⟨j + 1, rfl, by omega, ?_, eD.trans eS⟩, by simp only [Int.toNat_natCast]; omega⟩
        rw [hst, if_neg (by omega)]
        unfold colT
        rw [hb]
        congr 1
        simp
      · rw [i64_next (by omega)]
        refine ⟨⟨j + 1, rfl, by omega, ?_, eD.trans eS⟩, by simp only [Int.toNat_natCast]; omega⟩
        rw [hst, if_neg (by omega)]
        unfold colT
        rw [hb]
        congr 1
        simp
    · have hj0 : j = 0 := by omega
      have hS0 : S = [] := by
        rcases List.eq_nil_or_concat S with h | ⟨_, _, h⟩
        · exact h
        · exfalso; rw [hj0] at hsl; rw [h] at hsl; simp at hsl
      subst hS0
      intro w14 hD
      have eD := eW.trans (Drew.ext hD)
      obtain ⟨b, o, hp, c0, c1, c3⟩ := (h.ext eD).col gx
      refine ⟨b, o, hp, by omega, hlt, _, c0, by simp; omega, by simp; omega, b, o, hp, by omega, hlt, _, c1, ?_⟩
      refine (r5kinds_ok x2 w14).mono ?_
      rintro e W2 ⟨rfl, eS⟩
      refine ⟨_, rfl, eS.same, ?_⟩
      try simp only [tB_bS, bS_size]
      refine ⟨by simp; omega, b, o, hp, by omega, hlt, _, cell_ext c3 eS, fun hb => ⟨by simp; omega, ?_⟩, fun hb => ?_⟩
      · rw [i64_next (by omega)]
        refine ⟨⟨j + 1, rfl, by omega, ?_, eD.trans eS⟩, by simp only [Int.toNat_natCast]; omega⟩
        rw [hst, if_pos hj0]
        unfold colT
        rw [hb]
        congr 1
        simp
      · rw [i64_next (by omega)]
        refine ⟨⟨j + 1, rfl, by omega, ?_, eD.trans eS⟩, by simp only [Int.toNat_natCast]; omega⟩
        rw [hst, if_pos hj0]
        unfold colT
        rw [hb]
        congr 1
        simp
  · have hjn : j = n := by omega
    subst hjn
    rw [List.take_of_length_le (by omega), hS]
    exact ⟨rfl, eW⟩
set_option maxHeartbeats 2000000 in
theorem r5same_ok (w : World) {p q : Option Addr} {n c m d : Nat} {a b : List Col} (ha : Cols w p n c a) (hb : Cols w q m d b) :
    Calls Tryd.prog 17 #[.slice p n c, .slice q m d] w fun e w' => e = .returned (.bool (decide (a = b))) ∧ Ext w w' := by
  have hla := ha.len
  have hlb := hb.len
  have hn : n ≤ 9223372036854775807 := ha.le
  apply r5same_vc
  unfold r5same_T
  refine ⟨fun hne => ⟨?_, Ext.rfl⟩, fun heq => ?_⟩
  · rw [decide_eq_false]; intro e; rw [e] at hla; omega
  refine ⟨fun i W => ∃ j : Nat, i = (j : Int) ∧ j ≤ n ∧ a.take j = b.take j ∧ Ext w W, fun i _ => n - i.toNat, ⟨0, rfl, Nat.zero_le _, by simp, Ext.rfl⟩, ?_⟩
  rintro i W ⟨j, rfl, hj, htk, eW⟩
  refine ⟨fun hlt => ?_, fun hge => ⟨?_, eW⟩⟩
  · have ga : a[j]? = some (a[j]'(by omega)) := List.getElem?_eq_getElem _
    have gb : b[j]? = some (b[j]'(by omega)) := List.getElem?_eq_getElem _
    generalize a[j]'(by omega) = x at ga
    generalize b[j]'(by omega) = y at gb
    intro w9 hD
    have eD := eW.trans (Drew.ext hD)
    obtain ⟨b1, o1, hp1, a0, a1, a2⟩ := (ha.ext eD).col ga
    obtain ⟨b2, o2, hp2, c0, c1, c2⟩ := (hb.ext eD).col gb
    simp only [Int.toNat_natCast]
    refine ⟨b1, o1, hp1, by omega, hlt, _, a0, _, a1, _, a2, b2, o2, hp2, by omega, by omega, _, c0, _, c1, _, c2, fun hd => ⟨?_, eD⟩, fun he => ?_⟩
    · rw [decide_eq_false]
      intro e
      subst e
      rw [ga] at gb
      cases gb
      rcases hd with h | h | h <;> exact h rfl
    · rw [i64_next (by omega)]
      refine ⟨⟨j + 1, rfl, by omega, ?_, eD⟩, by simp only [Int.toNat_natCast]; omega⟩
      rw [take_snoc ga, take_snoc gb, htk, Col.ext'.2 he]
  · rw [List.take_of_length_le (by omega), List.take_of_length_le (by omega)] at htk
    rw [decide_eq_true htk]
def shownC : List Col := [⟨bS [97], 1, false⟩, ⟨bS [98], 3, true⟩]
theorem shownC_right : rightC shownC = true := by decide +kernel
theorem shownC_right1 : rightC (shownC.take 1) = true := by decide +kernel
theorem shownC_show : showL shownC = [97, 32, 105, 110, 116, 44, 32, 98, 32, 116, 101, 120, 116, 32, 110, 117, 108, 108] := by decide +kernel
theorem shownC_lay : schB (shownC.take 1) = [1, 1, 97, 1, 0] := by
  unfold schB
  show uvar 1 ++ (colB ⟨bS [97], 1, false⟩ ++ []) = _
  unfold colB
  show uvar 1 ++ ((uvar 1 ++ (tB (bS [97]) ++ _)) ++ []) = _
  rw [uvar_small (by decide)]; rfl
theorem shown05_ok {w : World} (hT : WTab w) : Calls Tryd.prog 10 #[] w fun e w' => e = .returned (.bool true) ∧ Ext w w' := by
  apply shown05_vc
  unfold shown05_T
  intro b1 w2 h1
  have h1' : New w (.cells (shownC.flatMap Col.cs).toArray 53) b1 w2 := h1
  have hC : Cols w2 (some ⟨b1, 0, none⟩) 2 2 shownC := ⟨rfl, ⟨Nat.le_refl _, by unfold maxLen; omega⟩, h1'.at, fun e => by cases e⟩
  have e1 := h1'.ext
  refine (sshow_ok (hT.ext e1) hC).mono ?_
  rintro e w5 ⟨rfl, e2⟩
  refine ⟨_, _, rfl, by decide, by decide, ?_⟩
  have hC1 : Cols w5 (some ⟨b1, 0, none⟩) 1 2 (shownC.take 1) := (hC.ext e2).take Col.cs_length (by decide)
  refine (slay_ok w5 (In.nothing _) hC1 (by decide)).mono ?_
  rintro e w9 ⟨p, n, c, rfl, ho, e3⟩
  have hS : showS shownC = (bS [97, 32, 105, 110, 116, 44, 32, 98, 32, 116, 101, 120, 116, 32, 110, 117, 108, 108], 0) := by unfold showS; rw [if_pos shownC_right, shownC_show]
  have hL : layS [] (shownC.take 1) = ([1, 1, 97, 1, 0], 0) := by unfold layS; rw [if_pos shownC_right1, shownC_lay]; rfl
  rw [hL] at ho ⊢
  rw [hS]
  refine ⟨_, _, _, _, rfl, fun _ => ⟨_, ho.bytes, ?_, (e1.trans e2).trans e3⟩, fun hx => ?_⟩
  · rw [show sEq ⟨([1, 1, 97, 1, 0] : List UInt8).toArray⟩ (ByteArray.mk #[1, 1, 97, 1, 0]) = true from sEq_self _]
  · exfalso
    rcases hx with (hx | hx) | hx
    · exact hx rfl
    · exact hx rfl
    · exact hx rfl
end Go.Proofs.YtiojkfckaalooaaDoor

/- A growing row of rows, all of our own. -/
namespace Go.Vc
open Go Go.RowKit

def Pts {β : Type} (te th : TypeId) (s : Nat) (en : β → List Value) (w0 W : World) (p : Option Addr) (n c : Nat) (bl : List β) : Prop :=
  ∃ (hs : List Sl) (rl : List Row), hs.length = n ∧ bl.length = n ∧ Hold w0 W [] (rl ++ [⟨th, 1, p, n, c, hs.flatMap Sl.cs⟩]) ∧ ∀ (i : Nat) x y, hs[i]? = some x → bl[i]? = some y → (⟨te, s, x.p, x.n, x.c, en y⟩ : Row) ∈ rl
section
variable {β : Type} {te th : TypeId} {s : Nat} {en : β → List Value} {w0 W W1 W2 : World} {p q : Option Addr} {n c m d b : Nat} {bl : List β} {y : β}
theorem Pts.ext (h : Pts te th s en w0 W p n c bl) : Ext w0 W := by
  obtain ⟨_, _, _, _, H, _⟩ := h
  exact H.ext
theorem Pts.step (h : Pts te th s en w0 W p n c bl) (e : Ext W W1) : Pts te th s en w0 W1 p n c bl := by
  obtain ⟨hs, rl, h1, h2, H, h3⟩ := h
  exact ⟨hs, rl, h1, h2, H.step e, h3⟩
theorem Pts.none (e : Ext w0 W) : Pts te th s en w0 W none 0 0 ([] : List β) := ⟨[], [], rfl, rfl, (Hold.start e).nilRow _ _, by simp⟩
/-- A literal of one row. -/
theorem Pts.one (e0 : Ext w0 W) (e : Ext W W1) (hm : Mine W.heap.size te s W1 q m d (en y)) (hn : New W1 (.cells #[.slice q m d] th) b W2) : Pts te th s en w0 W2 (some ⟨b, 0, Option.none⟩) 1 1 [y] := by
  have H := ((Hold.start e0).addRow e hm).litRow (s := 1) (cap := 1) hn (by unfold maxLen; omega) rfl
  have hsw : Hold w0 W2 [] ([(⟨te, s, q, m, d, en y⟩ : Row)] ++ [⟨th, 1, some ⟨b, 0, Option.none⟩, 1, 1, [(⟨q, m, d⟩ : Sl)].flatMap Sl.cs⟩]) := by
    refine ⟨H.ext, H.ge, H.holds, H.keys, fun i x hx => ?_, fun i j x k hx hk => by simp at hx, fun i j x k hx hk hij => ?_⟩
    · match i, hx with
      | 0, hx => exact H.own 1 x hx
      | 1, hx => exact H.own 0 x hx
      | i + 2, hx => simp at hx
    · match i, j, hx, hk with
      | 0, 0, hx, hk => exact absurd rfl hij
      | 0, 1, hx, hk => exact H.rows 1 0 x k hx hk (by decide)
      | 1, 0, hx, hk => exact H.rows 0 1 x k hx hk (by decide)
      | 1, 1, hx, hk => exact absurd rfl hij
      | i + 2, _, hx, _ => simp at hx
      | 0, j + 2, _, hk => simp at hk
      | 1, j + 2, _, hk => simp at hk
  refine ⟨[⟨q, m, d⟩], [⟨te, s, q, m, d, en y⟩], rfl, rfl, hsw, fun i x y' hx hy => ?_⟩
  cases i with
  | zero => cases hx; cases hy; simp
  | succ i => cases hx
theorem Pts.push {P : Program} {t' ty tb : TypeId} {z : Ty} (h : Pts te th s en w0 W p n c bl) (hu : P.underlying t' = some (.slice th)) (hz : tyOf P th = some z) (h1 : z.ls.length = 1) (hb : z.bytes = 24) (e : Ext W W1)
    (hm : Mine W.heap.size te s W1 q m d (en y)) (hn : New W1 (.cells #[.slice q m d] tb) b W2) (hlen : n ≤ 1000000) :
    ∃ p' c' W3, (Builtin.append_ #[t', t'] ty #[.slice p n c, .slice (some ⟨b, 0, Option.none⟩) 1 1]).run P W2 = .ok (.slice p' (n + 1) c') W3 ∧ Pts te th s en w0 W3 p' (n + 1) c' (bl ++ [y]) := by
  obtain ⟨hs, rl, hhs, hbl, H, hrows⟩ := h
  have H1 := H.addRow e hm
  have H2 := H1.step hn.ext
  have hidx : (⟨te, s, q, m, d, en y⟩ :: (rl ++ [(⟨th, 1, p, n, c, hs.flatMap Sl.cs⟩ : Row)]))[rl.length + 1]? = some ⟨th, 1, p, n, c, hs.flatMap Sl.cs⟩ := by simp
  obtain ⟨p', c', W3, hrn, H3⟩ := H2.append (ty := ty) (P := P) (s := 1) (q := some ⟨b, 0, Option.none⟩) (m := 1) (d' := 1) (news := [.slice q m d]) (rl.length + 1) hidx hu hz h1 (by decide) (Blk.new hn).at rfl (fun e => by cases e)
    (by intro u hu; simp at hu; subst hu; rfl) (by rw [hb]; omega) (by unfold maxLen; omega)
  refine ⟨p', c', W3, hrn, hs ++ [⟨q, m, d⟩], ⟨te, s, q, m, d, en y⟩ :: rl, by simp [hhs], by simp [hbl], ?_, ?_⟩
  · have e : (⟨te, s, q, m, d, en y⟩ :: (rl ++ [(⟨th, 1, p, n, c, hs.flatMap Sl.cs⟩ : Row)])).set (rl.length + 1) ⟨th, 1, p', n + 1, c', hs.flatMap Sl.cs ++ [.slice q m d]⟩
        = (⟨te, s, q, m, d, en y⟩ :: rl) ++ [⟨th, 1, p', n + 1, c', (hs ++ [(⟨q, m, d⟩ : Sl)]).flatMap Sl.cs⟩] := by
      simp [Sl.cs]
    rw [e] at H3
    exact H3
  · intro i x r' hx hr'
    rcases Nat.lt_or_ge i n with hi | hi
    · rw [List.getElem?_append_left (by omega)] at hx hr'
      exact List.mem_cons_of_mem _ (hrows i x r' hx hr')
    · have hlt := (List.getElem?_eq_some_iff.1 hx).1
      simp [hhs] at hlt
      have : i = n := by omega
      subst this
      rw [List.getElem?_append_right (by omega), show i - hs.length = 0 by omega] at hx
      rw [List.getElem?_append_right (by omega), show i - bl.length = 0 by omega] at hr'
      cases hr'
      cases hx
      exact List.mem_cons_self
/-- What lies there. -/
theorem Pts.heads (h : Pts te th s en w0 W p n c bl) : ∃ hs : List Sl, hs.length = n ∧ Mine w0.heap.size th 1 W p n c (hs.flatMap Sl.cs) ∧ bl.length = n ∧ ∀ (i : Nat) x y, hs[i]? = some x → bl[i]? = some y → Mine w0.heap.size te s W x.p x.n x.c (en y) := by
  obtain ⟨hs, rl, hhs, hbl, H, hrows⟩ := h
  refine ⟨hs, hhs, H.row rl.length (by simp), hbl, fun i x y hx hy => ?_⟩
  obtain ⟨k, hk⟩ := List.mem_iff_getElem?.1 (hrows i x y hx hy)
  have hkl := (List.getElem?_eq_some_iff.1 hk).1
  exact H.row k (by rw [List.getElem?_append_left hkl]; exact hk)
end
end Go.Vc

/- The contracts of rows' bytes: laying, by the program and by the document. -/
namespace Go.Vc
open Go Go.RowKit
def layR (l : List UInt8) (cols : List Col) (L : List (List Val)) : List UInt8 × Int := if rightC cols then (if L.length ≤ 1024 ∧ ∀ r ∈ L, fitsL cols r = true then (l ++ rowsB L, 0) else ([], 51)) else ([], 50)
/-- What is laid once j rows and k values of the next were. -/
def partR (l : List UInt8) (L : List (List Val)) (r : List Val) (j k : Nat) : List UInt8 := ((l ++ uvar L.length) ++ (L.take j).flatMap rowB) ++ rowB (r.take k)
def pieceR (l : List UInt8) (L : List (List Val)) (r : List Val) (j k : Nat) : List (List UInt8) := ((l ++ uvar L.length) :: (L.take j).flatten.map valB) ++ (r.take k).map valB
end Go.Vc
namespace Go.Proofs.YtiojkfckaalooaaDoor
open Go Go.Vc Go.RowKit
set_option maxRecDepth 20000
attribute [local irreducible] Calls Put Drew New

/-- What is known of rows that fit, so far. -/
structure Fit16 (cols : List Col) (L : List (List Val)) (j : Nat) : Prop where
  fits : ∀ r ∈ L.take j, fitsL cols r = true
theorem Fit16.next {cols : List Col} {L : List (List Val)} {j : Nat} {r : List Val} (h : Fit16 cols L j) (hr : L[j]? = some r) (hf : fitsL cols r = true) : Fit16 cols L (j + 1) := by
  refine ⟨fun x hx => ?_⟩
  rw [take_snoc hr] at hx
  rcases List.mem_append.1 hx with hx | hx
  · exact h.fits x hx
  · simp at hx; subst hx; exact hf
section
variable {cols : List Col} {L : List (List Val)} {r : List Val} {l : List UInt8} {j k : Nat}
end
end Go.Proofs.YtiojkfckaalooaaDoor

/- The contracts of rows' bytes: taking, by the program and by the document. Printed by mksl4.py. -/
namespace Go.Vc
open Go Go.RowKit
def takeRV (l : List UInt8) (cols : List Col) (pos : Int) : List (List Val) × Int × Int :=
  if rightC cols then (match takeRws l cols pos with
    | some (R, k) => (R, (k : Int), 0)
    | none => ([], 0, 52)) else ([], 0, 50)
def rowEn (r : List Val) : List Value := r.flatMap Val.cs
end Go.Vc
namespace Go.Proofs.YtiojkfckaalooaaDoor
open Go Go.Vc Go.RowKit
set_option maxRecDepth 20000
attribute [local irreducible] Calls Put Drew New

end Go.Proofs.YtiojkfckaalooaaDoor

/- The contracts of the words that hold rows against one another. -/
namespace Go.Proofs.YtiojkfckaalooaaDoor
open Go Go.Vc Go.RowKit
set_option maxRecDepth 20000

end Go.Proofs.YtiojkfckaalooaaDoor

/- The contracts of the words that hold rows against one another. -/
namespace Go.Proofs.YtiojkfckaalooaaDoor
open Go Go.Vc Go.RowKit
set_option maxRecDepth 20000

end Go.Proofs.YtiojkfckaalooaaDoor

/- The laws of schema: Fits, Parts, Lays, Rows, One. -/
namespace Go.Vc
open Go Go.RowKit
end Go.Vc
namespace Go.Proofs.YtiojkfckaalooaaDoor
open Go Go.Vc Go.RowKit
set_option maxRecDepth 20000
attribute [local irreducible] Calls Put Drew New

end Go.Proofs.YtiojkfckaalooaaDoor

/- Tables of tables: what a row's list says of their cells. -/
namespace Go.Vc
open Go

theorem cells_of_arr {H α : Type} {enc : TypeId × Value → H} {P : Program} {w : World} {base : Nat} {sp : Nat → Bool} {held : Bool} {fuel : Nat} {t e : TypeId} {n s : Nat} {cs : List Value} {zs : List α} {p : List MemPlace} {D : α → DataW H} {C : α → List Value}
    (ht : P.underlying t = some (.array n e)) (hce : P.cellsOf e = s) (hct : P.cellsOf t = n * s) (hs : ∀ z, (C z).length = s) (h0 : 0 < s)
    (inner : ∀ fuel cs z p, cs.length = s → DataW.trod enc P w base sp held fuel e cs = some (D z, p) → cs = C z)
    (h : DataW.trod enc P w base sp held fuel t cs = some (.agg (zs.map D), p)) : cs = zs.flatMap C := by
  cases fuel with
  | zero => simp [DataW.trod] at h
  | succ fuel =>
    simp only [DataW.trod, ht, hce, hct] at h
    split at h
    · rename_i hl
      obtain ⟨xs, hm, hx⟩ := Option.map_eq_some_iff.1 h
      have hxs : xs.map (·.1) = zs.map D := by
        have := congrArg Prod.fst hx
        simpa using this
      have hxl : xs.length = n := by simpa using Lib.mapM_length hm
      have hzl : zs.length = n := by
        have := congrArg List.length hxs
        simp at this
        omega
      have key : ∀ i, i < n → ∃ z, zs[i]? = some z ∧ (cs.drop (i * s)).take s = C z := by
        intro i hi
        obtain ⟨b, hb, hf⟩ := Lib.mapM_at hm i i (by simp [hi])
        have h2 : (xs.map (·.1))[i]? = some b.1 := by simp [hb]
        rw [hxs, List.getElem?_map] at h2
        obtain ⟨z, hz, he⟩ := Option.map_eq_some_iff.1 h2
        refine ⟨z, hz, inner fuel _ z b.2 ?_ ?_⟩
        · have hmul : (i + 1) * s ≤ n * s := Nat.mul_le_mul_right _ (by omega)
          have e1 : (i + 1) * s = i * s + s := Nat.succ_mul i s
          simp only [List.length_take, List.length_drop]
          omega
        · rw [hf, he]
      -- both lists, piece by piece
      have go : ∀ (m : Nat) (zs : List α) (cs : List Value), zs.length = m → cs.length = m * s → (∀ i, i < m → ∃ z, zs[i]? = some z ∧ (cs.drop (i * s)).take s = C z) → cs = zs.flatMap C := by
        intro m
        induction m with
        | zero =>
          intro zs cs hz hc _
          rw [List.length_eq_zero_iff] at hz
          rw [Nat.zero_mul, List.length_eq_zero_iff] at hc
          rw [hz, hc]; rfl
        | succ m ih =>
          intro zs cs hz hc hk
          match zs, hz with
          | z :: r, hz =>
            have hcm : (m + 1) * s = m * s + s := Nat.succ_mul m s
            obtain ⟨z', hz', h1⟩ := hk 0 (by omega)
            cases hz'
            rw [Nat.zero_mul, List.drop_zero] at h1
            have := ih r (cs.drop s) (by simpa using hz) (by rw [List.length_drop]; omega) (fun i hi => by
              obtain ⟨y, hy, h2⟩ := hk (i + 1) (by omega)
              refine ⟨y, by simpa using hy, ?_⟩
              rw [List.drop_drop, ← h2]
              congr 2
              rw [Nat.succ_mul]; omega)
            rw [List.flatMap_cons, ← h1, ← this, List.take_append_drop]
      exact go n zs cs hzl (by simpa using hl) key
    · cases h
end Go.Vc

/- A row's list of tables, looked up by name; rows of three numbers. -/
namespace Go.Vc
open Go

theorem laid_get {P : Program} {w : World} : ∀ {laid : List (String × DataW Unit)} {ps : List MemPlace}, DataW.LaidVars P w laid ps → ∀ {n : String} {d : DataW Unit}, (n, d) ∈ laid →
    ∃ g t cs fuel p, P.globalNamed n = some g ∧ (P.globals[g]?).map (·.type) = some t ∧ w.var? P n = some cs ∧ DataW.trod (fun _ => ()) P w 0 (fun _ => true) false fuel t cs.toList = some (d, p)
  | [], _, _, n, d, hm => by cases hm
  | (m, e) :: r, ps, h, n, d, hm => by
    obtain ⟨g, t, cs, fuel, p, q, h1, h2, h3, h4, h5, _⟩ := h
    rcases List.mem_cons.1 hm with hm | hm
    · cases hm; exact ⟨g, t, cs, fuel, p, h1, h2, h3, h4⟩
    · exact laid_get h5 hm
end Go.Vc

/- The tables, the arguments, the walks of law05's five laws. -/
namespace Go.Proofs.YtiojkfckaalooaaDoor
open Go Go.Vc Go.RowKit
set_option maxRecDepth 20000
attribute [local irreducible] Calls Put Drew New

theorem uStr : Tryd.prog.underlying 9 = some .string := by kernel_rfl
theorem uWords : Tryd.prog.underlying 77 = some (.array 4 9) := by kernel_rfl
def wordsL : List (List UInt8) := [[110, 117, 108, 108], [105, 110, 116], [98, 111, 111, 108], [116, 101, 120, 116]]
theorem laid_words : Rows.laid_stackyard_schema_words (H := Unit) = .agg (wordsL.map fun l => .lit (.string l)) := by kernel_rfl
theorem wtab_of {L : List (String × DataW Unit)} {W : World} (hm : ("stackyard/schema.words", Rows.laid_stackyard_schema_words) ∈ L) (h : laidMet Tryd.prog L W) : WTab W := by
  obtain ⟨ps, hl, _⟩ := h
  obtain ⟨g, t, cs, fuel, p, hg, ht, hv, hd⟩ := laid_get hl (n := "stackyard/schema.words") (d := Rows.laid_stackyard_schema_words) hm
  obtain rfl : g = 0 := Option.some.inj (hg.symm.trans (by kernel_rfl))
  obtain rfl : t = 77 := Option.some.inj (ht.symm.trans (by kernel_rfl))
  rw [laid_words] at hd
  have hc := cells_of_arr (C := fun l => txt (bS l)) (s := 1) uWords (by kernel_rfl) (by kernel_rfl) (fun _ => rfl) (by decide) (fun fuel cs z p hl h => by
    obtain ⟨s, rfl, hx, _⟩ := DataW.trod_string uStr h
    have h1 := congrArg Prod.fst hx
    simp only [DataW.lit.injEq, Lit.string.injEq] at h1
    rw [h1]
    show [Value.string s] = [Value.string (bS (tB s))]
    rw [bS_tB]) hd
  have hcs : cs = wordsA := by apply Array.ext'; rw [hc]; rfl
  intro k v hk
  rw [World.var?_cell hg hv, hcs, Nat.zero_add]; exact hk
theorem list3 {cs : List Value} (h : cs.length = 3) : ∃ a b d, cs = [a, b, d] := by
  match cs, h with
  | [a, b, d], _ => exact ⟨a, b, d, rfl⟩
theorem arg_col {w : World} {cs : List Value} (h : Arg Tryd.prog w 53 cs) : ∃ c : Col, cs = c.cs ∧ c.name.size ≤ 140737488351232 := by
  obtain ⟨hl, hf⟩ := Arg.fields (l := [(9, 0), (3, 1), (4, 2)]) (by kernel_rfl) h
  have h3 : Tryd.prog.cellsOf 53 = 3 := by kernel_rfl
  rw [h3] at hl
  obtain ⟨a, b, d, rfl⟩ := list3 hl
  have f1 := hf (9, 0) (by simp)
  have f2 := hf (3, 1) (by simp)
  have f3 := hf (4, 2) (by simp)
  have c1 : Tryd.prog.cellsOf 9 = 1 := by kernel_rfl
  have c2 : Tryd.prog.cellsOf 3 = 1 := by kernel_rfl
  have c3 : Tryd.prog.cellsOf 4 = 1 := by kernel_rfl
  simp only [c1, c2, c3] at f1 f2 f3
  obtain ⟨s, e1, hs⟩ := Arg.string (by kernel_rfl) f1
  obtain ⟨n, e2, _⟩ := Arg.int (k := .i64) (by kernel_rfl) f2
  obtain ⟨v, e3⟩ := Arg.bool (by kernel_rfl) f3
  simp at e1 e2 e3
  subst e1 e2 e3
  exact ⟨⟨s, n, v⟩, rfl, hs⟩
theorem arg_cols {w : World} {v : Value} (h : Arg Tryd.prog w 22 [v]) : ∃ p n c cols, v = .slice p n c ∧ Cols w p n c cols ∧ ∀ x ∈ cols, x.name.size ≤ 9223372036854775807 := by
  obtain ⟨p, n, c, l, e, h1, h2, _⟩ := arg_ls (e := 53) (enc := Col.cs) (Q := fun x => x.name.size ≤ 140737488351232) (by kernel_rfl) (by decide +kernel) (fun x hx => arg_col hx) (fun _ => by kernel_rfl) h
  exact ⟨p, n, c, l, e, h1, fun x hx => by have := h2 x hx; omega⟩
theorem arg_string {w : World} {v : Value} (h : Arg Tryd.prog w 9 [v]) : ∃ s, v = .string s ∧ s.size ≤ 140737488351232 := by
  obtain ⟨s, e, hs⟩ := Arg.string (by kernel_rfl) h
  cases e
  exact ⟨s, rfl, hs⟩
/-! ### The walks -/
end Go.Proofs.YtiojkfckaalooaaDoor

/- The contracts of schemas' texts, read: words' kinds, CutSuffix, the document's parts. -/
namespace Go.Vc
open Go Go.RowKit
def kindT (s : ByteArray) : Int := if bS [110, 117, 108, 108] = s then 0 else if bS [105, 110, 116] = s then 1 else if bS [98, 111, 111, 108] = s then 2 else if bS [116, 101, 120, 116] = s then 3 else -1
/-- The text without a suffix; had it one? -/
def cutSuf (s x : ByteArray) : ByteArray × Bool := if x.size ≤ s.size ∧ s.extract (s.size - x.size) s.size = x then (s.extract 0 (s.size - x.size), true) else (s, false)
/-- What stands between separators. -/
def partsL (c : UInt8) : List UInt8 → List (List UInt8)
  | [] => [[]]
  | x :: r => if x = c then [] :: partsL c r else match partsL c r with
    | [] => [[x]]
    | p :: ps => (x :: p) :: ps
theorem partsL_hit {c : UInt8} : ∀ {a : List UInt8} (r : List UInt8), (∀ x ∈ a, x ≠ c) → partsL c (a ++ c :: r) = a :: partsL c r
  | [], r, _ => by rw [List.nil_append, partsL, if_pos rfl]
  | x :: a, r, h => by
    rw [List.cons_append, partsL, if_neg (h x (by simp)), partsL_hit r fun y hy => h y (by simp [hy])]
theorem partsL_none {c : UInt8} : ∀ {a : List UInt8}, (∀ x ∈ a, x ≠ c) → partsL c a = [a]
  | [], _ => rfl
  | x :: a, h => by rw [partsL, if_neg (h x (by simp)), partsL_none fun y hy => h y (by simp [hy])]
theorem partsL_len (c : UInt8) : ∀ l : List UInt8, (partsL c l).length ≤ l.length + 1
  | [] => by simp [partsL]
  | x :: r => by
    have ih := partsL_len c r
    unfold partsL
    split
    · simp; omega
    · split
      · simp
      · rename_i e; rw [e] at ih; simp at ih ⊢; omega
end Go.Vc
namespace Go.Proofs.YtiojkfckaalooaaDoor
open Go Go.Vc Go.RowKit
set_option maxRecDepth 20000
attribute [local irreducible] Calls Put Drew New

theorem skind_ok {w : World} (hT : WTab w) (s : ByteArray) : Calls Tryd.prog 59 #[.string s] w fun e w' => e = .returned (.int .i64 (kindT s)) ∧ Ext w w' := by
  apply skind_vc
  unfold skind_T
  have h0 := hT 0 _ rfl
  have h1 := hT 1 _ rfl
  have h2 := hT 2 _ rfl
  have h3 := hT 3 _ rfl
  refine ⟨_, h0, _, h1, _, h2, _, h3, fun i W => ∃ j : Nat, i = (j : Int) ∧ j ≤ 4 ∧ (1 ≤ j → bS [110, 117, 108, 108] ≠ s) ∧ (2 ≤ j → bS [105, 110, 116] ≠ s) ∧ (3 ≤ j → bS [98, 111, 111, 108] ≠ s) ∧ (4 ≤ j → bS [116, 101, 120, 116] ≠ s) ∧ Ext w W, fun i _ => 4 - i.toNat, ⟨0, rfl, by decide, by omega, by omega, by omega, by omega, Ext.rfl⟩, ?_⟩
  rintro i W ⟨j, rfl, hj, a1, a2, a3, a4, eW⟩
  refine ⟨fun hlt => ?_, fun hge => ⟨?_, eW⟩⟩
  · simp only [Int.toNat_natCast]
    rw [i64_next (by omega)]
    rcases (by omega : j = 0 ∨ j = 1 ∨ j = 2 ∨ j = 3) with e | e | e | e <;> subst e
    · refine ⟨by omega, hlt, _, rfl, fun h => ⟨?_, eW⟩, fun h => ⟨⟨1, rfl, by decide, fun _ => h, by omega, by omega, by omega, eW⟩, by decide⟩⟩
      unfold kindT; rw [if_pos h]; rfl
    · refine ⟨by omega, hlt, _, rfl, fun h => ⟨?_, eW⟩, fun h => ⟨⟨2, rfl, by decide, fun _ => a1 (by omega), fun _ => h, by omega, by omega, eW⟩, by decide⟩⟩
      unfold kindT; rw [if_neg (a1 (by omega)), if_pos h]; rfl
    · refine ⟨by omega, hlt, _, rfl, fun h => ⟨?_, eW⟩, fun h => ⟨⟨3, rfl, by decide, fun _ => a1 (by omega), fun _ => a2 (by omega), fun _ => h, by omega, eW⟩, by decide⟩⟩
      unfold kindT; rw [if_neg (a1 (by omega)), if_neg (a2 (by omega)), if_pos h]; rfl
    · refine ⟨by omega, hlt, _, rfl, fun h => ⟨?_, eW⟩, fun h => ⟨⟨4, rfl, by decide, fun _ => a1 (by omega), fun _ => a2 (by omega), fun _ => a3 (by omega), fun _ => h, eW⟩, by decide⟩⟩
      unfold kindT; rw [if_neg (a1 (by omega)), if_neg (a2 (by omega)), if_neg (a3 (by omega)), if_pos h]; rfl
  · unfold kindT
    rw [if_neg (a1 (by omega)), if_neg (a2 (by omega)), if_neg (a3 (by omega)), if_neg (a4 (by omega))]
theorem cutsfx_ok (s x : ByteArray) (hs : s.size ≤ 9223372036854775807) (w : World) : Calls Tryd.prog 57 #[.string s, .string x] w fun e w' => e = .returned (.tuple #[.string (cutSuf s x).1, .bool (cutSuf s x).2]) ∧ Ext w w' := by
  apply cutsfx_vc
  unfold cutsfx_T
  have h1 : Calls Tryd.prog 81 #[.string s, .string x] w fun e w' => e = .returned (.tuple #[.string (cutSuf s x).1, .bool (cutSuf s x).2]) ∧ Ext w w' := by
    apply cutsfx1_vc
    unfold cutsfx1_T
    have h2 : Calls Tryd.prog 95 #[.string s, .string x] w fun e w' => e = .returned (.bool (cutSuf s x).2) ∧ Ext w w' := by
      apply hassfx_vc
      unfold hassfx_T
      refine ⟨fun hle => ?_, fun hlt => ⟨?_, Ext.rfl⟩⟩
      · have e : IntKind.i64.wrap ((s.size : Int) - (x.size : Int)) = ((s.size - x.size : Nat) : Int) := by rw [i64_fit (by omega) (by omega)]; omega
        rw [e, Int.toNat_natCast]
        refine ⟨by omega, by omega, ?_, Ext.rfl⟩
        unfold cutSuf
        by_cases h : s.extract (s.size - x.size) s.size = x
        · rw [if_pos ⟨by omega, h⟩, sEq_iff.2 h]
        · rw [if_neg fun hh => h hh.2]
          cases hq : sEq (s.extract (s.size - x.size) s.size) x with
          | false => rfl
          | true => exact absurd (sEq_iff.1 hq) h
      · unfold cutSuf; rw [if_neg (by omega)]
    refine h2.mono ?_
    rintro e w2 ⟨rfl, e1⟩
    refine ⟨_, rfl, fun hf => ⟨?_, e1⟩, fun ht => ?_⟩
    · unfold cutSuf at hf ⊢
      split at hf
      · cases hf
      · rename_i h; rw [if_neg h]
    · unfold cutSuf at ht
      split at ht
      · rename_i h
        have e : IntKind.i64.wrap ((s.size : Int) - (x.size : Int)) = ((s.size - x.size : Nat) : Int) := by rw [i64_fit (by omega) (by omega)]; omega
        rw [e, Int.toNat_natCast]
        refine ⟨by omega, by omega, ?_, e1⟩
        unfold cutSuf; rw [if_pos h]
      · cases ht
  refine h1.mono ?_
  rintro e w2 ⟨rfl, e1⟩
  exact ⟨_, _, rfl, rfl, e1⟩
end Go.Proofs.YtiojkfckaalooaaDoor

/- The contract of the document's parts. -/
namespace Go.Proofs.YtiojkfckaalooaaDoor
open Go Go.Vc Go.RowKit
set_option maxRecDepth 20000
attribute [local irreducible] Calls Put Drew New

theorem ext_bS (s : ByteArray) (i j : Nat) : s.extract i j = bS (((tB s).take j).drop i) := tB_inj.1 (by rw [tB_extract, tB_bS])
set_option maxHeartbeats 2000000 in
theorem r5parts_ok (s : ByteArray) (hs : s.size ≤ 100000000) (c : UInt8) (w : World) :
    Calls Tryd.prog 60 #[.string s, .int .u8 ((c.toNat : Nat) : Int)] w fun e w' => ∃ p n d, e = .returned (.slice p n d) ∧ Ls txt w' p n d ((partsL c (tB s)).map bS) ∧ Ext w w' := by
  have hl := tB_length s
  have hpl := partsL_len c (tB s)
  apply r5parts_vc
  unfold r5parts_T
  refine ⟨fun p n d f i W => ∃ (j q : Nat) (done : List (List UInt8)), i = (j : Int) ∧ f = (q : Int) ∧ n = done.length ∧ Hold w W [] [⟨9, 1, p, n, d, (done.map bS).flatMap txt⟩] ∧
    ((j ≤ s.size ∧ q ≤ j ∧ (∀ x ∈ ((tB s).take j).drop q, x ≠ c) ∧ done ++ partsL c ((tB s).drop q) = partsL c (tB s)) ∨ (j = s.size + 1 ∧ done = partsL c (tB s))), fun _ _ _ _ i _ => s.size + 1 - i.toNat,
    ⟨0, 0, [], rfl, rfl, rfl, (Hold.start Ext.rfl).nilRow _ _, .inl ⟨Nat.zero_le _, Nat.le_refl _, by simp, by simp⟩⟩, ?_⟩
  rintro p n d f i W ⟨j, q, done, rfl, rfl, rfl, H, hcase⟩
  have push : ∀ {W1 : World} {b : Nat} {t : List UInt8}, done.length ≤ s.size + 1 → New W (.cells #[.string (bS t)] 9) b W1 → ∃ p' d' W2, (Builtin.append_ #[76, 76] 76 #[.slice p done.length d, .slice (some ⟨b, 0, none⟩) 1 1]).run Tryd.prog W1 = .ok (.slice p' (done.length + 1) d') W2 ∧ Hold w W2 [] [⟨9, 1, p', done.length + 1, d', ((done ++ [t]).map bS).flatMap txt⟩] := by
    intro W1 b t hd hN
    have H1 := H.new hN
    obtain ⟨p', c', w41, hrun, H2⟩ := H1.append (ty := 76) (P := Tryd.prog) (q := some ⟨b, 0, none⟩) (m := 1) (d' := 1) (news := txt (bS t)) 0 rfl undTx tyStr rfl (by decide) (H1.blk 0 rfl).at rfl (fun e => by cases e) (txt_one _) (by show ((done.length + 1) + (done.length + 1) / 4 + 192) * 16 ≤ 281474976710656; omega) (by unfold maxLen; omega)
    refine ⟨p', c', w41, hrun, ?_⟩
    have := H2.tail
    rw [List.map_append, List.flatMap_append]
    simpa using this
  have hdone : done.length ≤ s.size + 1 := by
    rcases hcase with ⟨_, _, _, h⟩ | ⟨_, h⟩
    · have := congrArg List.length h
      rw [List.length_append] at this
      omega
    · rw [h]; omega
  refine ⟨fun hle => ?_, fun hgt => ?_⟩
  · obtain ⟨a1, a2, a3, a4⟩ : j ≤ s.size ∧ q ≤ j ∧ (∀ x ∈ ((tB s).take j).drop q, x ≠ c) ∧ done ++ partsL c ((tB s).drop q) = partsL c (tB s) := by
      rcases hcase with h | ⟨h, _⟩
      · exact h
      · omega
    simp only [Int.toNat_natCast]
    refine ⟨fun hend => ?_, fun hmid => ?_⟩
    · have hj : j = s.size := by omega
      refine ⟨by omega, by omega, by omega, ?_⟩
      intro b12 w13 h12
      rw [ext_bS] at h12
      obtain ⟨p', d', W2, hrun, H2⟩ := push hdone h12
      refine ⟨_, _, _, _, hrun, ?_⟩
      rw [i64_next (by omega)]
      refine ⟨⟨j + 1, j + 1, done ++ [((tB s).take j).drop q], rfl, rfl, by rw [List.length_append]; rfl, H2, .inr ⟨by omega, ?_⟩⟩, by first | omega | (simp only [Int.toNat_natCast]; omega)⟩
      rw [← a4]
      congr 1
      have htk : (tB s).take j = tB s := List.take_of_length_le (by omega)
      rw [htk] at a3 ⊢
      rw [partsL_none a3]
    · have hj : j < s.size := by omega
      refine ⟨by omega, by omega, ?_⟩
      have hx : (tB s)[j]? = some ((tB s)[j]'(by omega)) := List.getElem?_eq_getElem _
      rw [bAt_eq s j hj]
      generalize (tB s)[j]'(by omega) = x at hx
      refine ⟨fun he => ?_, fun hne => ?_⟩
      · have hxc : x = c := UInt8.toNat_inj.1 (by omega)
        refine ⟨by omega, by omega, by omega, ?_⟩
        intro b12 w13 h12
        rw [ext_bS] at h12
        obtain ⟨p', d', W2, hrun, H2⟩ := push hdone h12
        refine ⟨_, _, _, _, hrun, ?_⟩
        rw [i64_next (by omega)]
        refine ⟨⟨j + 1, j + 1, done ++ [((tB s).take j).drop q], rfl, rfl, by rw [List.length_append]; rfl, H2, .inl ⟨by omega, Nat.le_refl _, ?_, ?_⟩⟩, by first | omega | (simp only [Int.toNat_natCast]; omega)⟩
        · rw [drop_none]; simp
        · rw [List.append_assoc, ← a4]
          congr 1
          have hsp : (tB s).drop q = ((tB s).take j).drop q ++ c :: (tB s).drop (j + 1) := by
            have h1 : (tB s).drop j = c :: (tB s).drop (j + 1) := by
              rw [List.drop_eq_getElem_cons (by omega)]
              have := hx
              rw [List.getElem?_eq_getElem (by omega)] at this
              rw [Option.some.inj this, hxc]
            rw [← h1]
            conv => lhs; rw [← List.take_append_drop j (tB s)]
            rw [List.drop_append_of_le_length (by rw [List.length_take]; omega)]
          rw [hsp, partsL_hit _ a3]; rfl
      · rw [i64_next (by omega)]
        refine ⟨⟨j + 1, q, done, rfl, rfl, rfl, H, .inl ⟨by omega, by omega, ?_, a4⟩⟩, by first | omega | (simp only [Int.toNat_natCast]; omega)⟩
        rw [take_snoc hx, List.drop_append_of_le_length (by rw [List.length_take]; omega)]
        intro y hy
        rcases List.mem_append.1 hy with hy | hy
        · exact a3 y hy
        · simp at hy
          subst hy
          intro e
          exact hne (by rw [e])
  · obtain ⟨_, h⟩ : j = s.size + 1 ∧ done = partsL c (tB s) := by
      rcases hcase with ⟨h, _⟩ | h
      · omega
      · exact h
    refine ⟨_, _, _, rfl, ?_, H.ext⟩
    rw [← h]
    exact (H.row 0 rfl).ls txt_len (by decide)
end Go.Proofs.YtiojkfckaalooaaDoor

/- Schemas' texts, read loosely: plain Lean, no program. -/
namespace Go.Vc
open Go Go.RowKit
def dropSp : List UInt8 → List UInt8
  | [] => []
  | x :: r => if x = 32 then r else x :: r
def wordK (w : List UInt8) : Int := if w = wordL 3 then 3 else if w = wordL 2 then 2 else if w = wordL 1 then 1 else 0
def looseC (t : List UInt8) : Option Col := match partsL 32 (dropSp t) with
  | n :: w :: r => some ⟨bS n, wordK w, decide (r ≠ [])⟩
  | _ => none
def looseCs : List (List UInt8) → Option (List Col)
  | [] => some []
  | t :: r => (looseC t).bind fun c => (looseCs r).map fun cs => c :: cs
/-- The schema whose text a text is. -/
def parseF (s : ByteArray) : List Col × Int :=
  if 16 < (partsL 44 (tB s)).length then ([], 50) else match looseCs (partsL 44 (tB s)) with
  | none => ([], 50)
  | some cs => if rightC cs ∧ bS (showL cs) = s then (cs, 0) else ([], 50)
theorem name_bytes {s : ByteArray} (h : isName s = true) : ∀ x ∈ tB s, otherB x = true := by
  unfold isName at h
  cases ht : tB s with
  | nil => simp
  | cons y r =>
    rw [ht] at h
    unfold isNameL at h
    simp only [Bool.and_eq_true] at h
    intro x hx
    rcases List.mem_cons.1 hx with rfl | hx
    · unfold otherB; rw [h.1.1]; rfl
    · exact List.all_eq_true.1 h.1.2 x hx
theorem other_ne {x : UInt8} (h : otherB x = true) : x ≠ 44 ∧ x ≠ 32 := by
  constructor
  · rintro rfl; exact absurd h (by decide)
  · rintro rfl; exact absurd h (by decide)
theorem word_ne : ∀ k : Int, ∀ x ∈ wordL k, x ≠ 44 ∧ x ≠ 32 := by
  intro k
  unfold wordL
  split
  · decide
  · split
    · decide
    · split <;> decide
theorem colT_ne {c : Col} (h : isName c.name = true) : ∀ x ∈ colT c, x ≠ 44 := by
  intro x hx
  unfold colT at hx
  rcases List.mem_append.1 hx with hx | hx
  · exact (other_ne (name_bytes h x hx)).1
  · rcases List.mem_append.1 hx with hx | hx
    · simp at hx; subst hx; decide
    · rcases List.mem_append.1 hx with hx | hx
      · exact (word_ne _ x hx).1
      · split at hx
        · simp at hx; rcases hx with rfl | rfl | rfl | rfl | rfl <;> decide
        · cases hx
theorem parts_join : ∀ (a : List UInt8) (r : List (List UInt8)), (∀ x ∈ a, x ≠ 44) → (∀ b ∈ r, ∀ x ∈ b, x ≠ 44) → partsL 44 (a ++ Lib.joinTail sepL r) = a :: r.map (32 :: ·)
  | a, [], ha, _ => by
    have : Lib.joinTail sepL [] = [] := rfl
    rw [this, List.append_nil, partsL_none ha]; rfl
  | a, b :: r, ha, hr => by
    have e : Lib.joinTail sepL (b :: r) = 44 :: ((32 :: b) ++ Lib.joinTail sepL r) := by unfold Lib.joinTail; simp [sepL]
    rw [e, partsL_hit _ ha, parts_join (32 :: b) r (by
      intro x hx
      rcases List.mem_cons.1 hx with rfl | hx
      · decide
      · exact hr b (by simp) x hx) fun y hy => hr y (by simp [hy])]
    rfl
theorem wordK_wordL {k : Int} (h : 1 ≤ k ∧ k ≤ 3) : wordK (wordL k) = k := by
  rcases (by omega : k = 1 ∨ k = 2 ∨ k = 3) with e | e | e <;> subst e <;> decide
theorem loose_colT {c : Col} (h : isName c.name = true) (hk : 1 ≤ c.kind ∧ c.kind ≤ 3) : partsL 32 (colT c) = tB c.name :: wordL c.kind :: (if c.null then [[110, 117, 108, 108]] else []) := by
  have h1 : ∀ x ∈ tB c.name, x ≠ 32 := fun x hx => (other_ne (name_bytes h x hx)).2
  have h2 : ∀ x ∈ wordL c.kind, x ≠ 32 := fun x hx => (word_ne _ x hx).2
  unfold colT
  rw [List.singleton_append, partsL_hit _ h1]
  cases c.null with
  | false => simp only [Bool.false_eq_true, if_false, List.append_nil]; rw [partsL_none h2]
  | true =>
    simp only [if_true]
    rw [partsL_hit _ h2, partsL_none (by decide)]
theorem dropSp_name {c : Col} (h : isName c.name = true) : dropSp (colT c) = colT c := by
  unfold isName at h
  unfold colT
  cases ht : tB c.name with
  | nil => rw [ht] at h; exact absurd h (by decide)
  | cons y r =>
    rw [ht] at h
    unfold isNameL at h
    simp only [Bool.and_eq_true] at h
    rw [List.cons_append]
    have hy : y ≠ 32 := by
      rintro rfl
      exact absurd h.1.1 (by decide)
    exact if_neg hy
theorem looseC_colT {c : Col} (h : isName c.name = true) (hk : 1 ≤ c.kind ∧ c.kind ≤ 3) : looseC (colT c) = some c ∧ looseC (32 :: colT c) = some c := by
  have key : looseC (colT c) = some c := by
    unfold looseC
    rw [dropSp_name h, loose_colT h hk]
    simp only [bS_tB, wordK_wordL hk]
    congr 1
    apply Col.ext'.2
    refine ⟨rfl, rfl, ?_⟩
    cases c.null <;> simp
  refine ⟨key, ?_⟩
  unfold looseC at key ⊢
  rw [dropSp_name h] at key
  have : dropSp (32 :: colT c) = colT c := by show (if (32 : UInt8) = 32 then colT c else 32 :: colT c) = colT c; rw [if_pos rfl]
  rw [this]; exact key
theorem looseCs_map : ∀ {r : List Col}, (∀ c ∈ r, isName c.name = true ∧ 1 ≤ c.kind ∧ c.kind ≤ 3) → looseCs ((r.map colT).map (32 :: ·)) = some r
  | [], _ => rfl
  | c :: r, h => by
    obtain ⟨h1, h2⟩ := h c (by simp)
    rw [List.map_cons, List.map_cons]
    unfold looseCs
    rw [(looseC_colT h1 h2).2, looseCs_map fun x hx => h x (by simp [hx])]; rfl
theorem right_names {cols : List Col} (h : rightC cols = true) : ∀ c ∈ cols, isName c.name = true ∧ 1 ≤ c.kind ∧ c.kind ≤ 3 := by
  unfold rightC at h
  rw [Bool.and_eq_true] at h
  exact colsOk_all h.2
theorem showL_parts {c : Col} {r : List Col} (h : ∀ x ∈ c :: r, isName x.name = true) : partsL 44 (showL (c :: r)) = colT c :: (r.map colT).map (32 :: ·) := by
  unfold showL
  rw [List.map_cons, Lib.join_cons]
  exact parts_join _ _ (colT_ne (h c (by simp))) fun b hb => by
    obtain ⟨x, hx, rfl⟩ := List.mem_map.1 hb
    exact colT_ne (h x (by simp [hx]))
/-- A schema's text is read as that schema. -/
theorem parseF_show {cols : List Col} (h : rightC cols = true) : parseF (bS (showL cols)) = (cols, 0) := by
  have hn := right_names h
  obtain ⟨r1, r2, _⟩ := right_all h
  cases cols with
  | nil => simp at r1
  | cons c r =>
    unfold parseF
    rw [tB_bS, showL_parts fun x hx => (hn x hx).1]
    have hl : (looseCs (colT c :: (r.map colT).map (32 :: ·))) = some (c :: r) := by
      unfold looseCs
      rw [(looseC_colT (hn c (by simp)).1 (hn c (by simp)).2).1, looseCs_map fun x hx => hn x (by simp [hx])]; rfl
    rw [if_neg (by simp at r2 ⊢; omega), hl]
    dsimp only
    rw [if_pos ⟨h, rfl⟩]
theorem parseF_back {s : ByteArray} {cols : List Col} (h : parseF s = (cols, 0)) : rightC cols = true ∧ bS (showL cols) = s := by
  have no : ∀ {x : List Col}, (x, (50 : Int)) ≠ (cols, 0) := fun e => absurd (Prod.mk.inj e).2 (by decide)
  unfold parseF at h
  split at h
  · exact absurd h no
  · split at h
    · exact absurd h no
    · split at h
      · rename_i hh
        cases h
        exact hh
      · exact absurd h no
end Go.Vc

/- Schemas' texts, read strictly: plain Lean, no program. -/
namespace Go.Vc
open Go Go.RowKit
def sepB : ByteArray := ByteArray.mk #[44, 32]
def splitS (s : ByteArray) : List (List UInt8) := (Lib.splitB sepB 0 (Lib.countB s sepB) s).map tB
theorem splitS_miss {s : ByteArray} (h : Lib.indexB s sepB = -1) : splitS s = [tB s] := by
  unfold splitS
  rw [Lib.splitB_miss sepB 0 _ s h]; rfl
theorem splitS_hit {s : ByteArray} {i : Nat} (h : Lib.indexB s sepB = (i : Int)) : splitS s = (tB s).take i :: splitS (s.extract (i + 2) s.size) := by
  unfold splitS
  have hc := Lib.countB_hit s sepB i (by decide) h
  rw [hc, Nat.add_comm 1]
  rw [Lib.splitB_hit sepB 0 _ s i h, List.map_cons]
  congr 1
  rw [Nat.add_zero, tB_extract, List.drop_zero]
theorem splitS_ne (s : ByteArray) : splitS s ≠ [] := by
  rcases Lib.indexB_cases s sepB with h | ⟨i, h, _⟩
  · rw [splitS_miss h]; simp
  · rw [splitS_hit h]; simp
theorem join_cons_ne {x : List UInt8} {r : List (List UInt8)} (h : r ≠ []) : Lib.join (x :: r) sepL = x ++ (sepL ++ Lib.join r sepL) := by
  cases r with
  | nil => exact absurd rfl h
  | cons y r =>
    rw [Lib.join_cons, Lib.join_cons]
    unfold Lib.joinTail
    simp
theorem join_split : ∀ (n : Nat) (s : ByteArray), s.size ≤ n → Lib.join (splitS s) sepL = tB s := by
  intro n
  induction n with
  | zero =>
    intro s hs
    rcases Lib.indexB_cases s sepB with h | ⟨i, h, hr⟩
    · rw [splitS_miss h, Lib.join_one]
    · have : sepB.size = 2 := rfl
      omega
  | succ n ih =>
    intro s hs
    have h2 : sepB.size = 2 := rfl
    rcases Lib.indexB_cases s sepB with h | ⟨i, h, hr⟩
    · rw [splitS_miss h, Lib.join_one]
    · rw [splitS_hit h, join_cons_ne (splitS_ne _), ih _ (by rw [ByteArray.size_extract]; omega), tB_extract]
      have hl := tB_length s
      have htk : (tB s).take s.size = tB s := List.take_of_length_le (by omega)
      rw [htk]
      have hidx : Lib.index (tB s) sepL = (i : Int) := h
      rcases Lib.index_spec (tB s) sepL with ⟨e, _⟩ | ⟨j, e, _, ho, _⟩
      · omega
      · have hij : j = i := by omega
        subst hij
        unfold Lib.occAt at ho
        obtain ⟨t, ht⟩ := List.isPrefixOf_iff_prefix.1 ho
        have hd : (tB s).drop (j + 2) = t := by
          rw [← List.drop_drop, ← ht]; rfl
        rw [hd, ht, List.take_append_drop]
theorem occ_ne {a r : List UInt8} (ha : ∀ x ∈ a, x ≠ 44) {j : Nat} (hj : j < a.length) : Lib.occAt (a ++ r) sepL j = false := by
  unfold Lib.occAt
  rw [List.drop_append_of_le_length (by omega), List.drop_eq_getElem_cons hj, List.cons_append]
  have := ha _ (List.getElem_mem hj)
  show ((44 : UInt8) == a[j] && _) = false
  rw [beq_eq_false_iff_ne.2 (fun e => this e.symm)]; rfl
theorem split_join : ∀ (r : List (List UInt8)) (a : List UInt8), (∀ x ∈ a, x ≠ 44) → (∀ b ∈ r, ∀ x ∈ b, x ≠ 44) → splitS (bS (a ++ Lib.joinTail sepL r)) = a :: r
  | [], a, ha, _ => by
    have e : a ++ Lib.joinTail sepL [] = a := by unfold Lib.joinTail; simp
    rw [e]
    have h : Lib.indexB (bS a) sepB = -1 := by
      show Lib.index (tB (bS a)) sepL = -1
      rw [tB_bS]
      refine Lib.index_none fun j hj => ?_
      rcases Nat.lt_or_ge j a.length with h | h
      · have := occ_ne (r := []) ha h
        rwa [List.append_nil] at this
      · unfold Lib.occAt
        rw [List.drop_eq_nil_of_le h]; rfl
    rw [splitS_miss h, tB_bS]
  | b :: r, a, ha, hr => by
    have e : Lib.joinTail sepL (b :: r) = sepL ++ (b ++ Lib.joinTail sepL r) := by unfold Lib.joinTail; simp
    rw [e]
    have h : Lib.indexB (bS (a ++ (sepL ++ (b ++ Lib.joinTail sepL r)))) sepB = (a.length : Int) := by
      show Lib.index (tB (bS _)) sepL = _
      rw [tB_bS]
      refine Lib.index_first (by simp) ?_ fun j hj => occ_ne ha hj
      unfold Lib.occAt
      rw [List.drop_left]
      exact List.isPrefixOf_iff_prefix.2 ⟨_, rfl⟩
    rw [splitS_hit h, tB_bS, List.take_left]
    congr 1
    have hx : (bS (a ++ (sepL ++ (b ++ Lib.joinTail sepL r)))).extract (a.length + 2) (bS (a ++ (sepL ++ (b ++ Lib.joinTail sepL r)))).size = bS (b ++ Lib.joinTail sepL r) := by
      apply tB_inj.1
      rw [tB_extract, tB_bS, tB_bS, bS_size, List.take_of_length_le (Nat.le_refl _), ← List.drop_drop, List.drop_left]; rfl
    rw [hx]
    exact split_join r b (hr b (by simp)) fun y hy => hr y (by simp [hy])

/-! ### A part as a column -/
def nullL : List UInt8 := [32, 110, 117, 108, 108]
def strictC (p : ByteArray) : Col :=
  ⟨bS (Lib.cut (tB (cutSuf p (bS nullL)).1) [32]).1, kindT (bS (Lib.cut (tB (cutSuf p (bS nullL)).1) [32]).2.1), (cutSuf p (bS nullL)).2⟩
theorem bS_inj {a b : List UInt8} (h : bS a = bS b) : a = b := by
  have := congrArg tB h
  rwa [tB_bS, tB_bS] at this
theorem kindT_word {l : List UInt8} (h : 1 ≤ kindT (bS l) ∧ kindT (bS l) ≤ 3) : l = wordL (kindT (bS l)) := by
  unfold kindT at h ⊢
  split at h
  · omega
  · rename_i h0
    rw [if_neg h0]
    split at h
    · rename_i h1; rw [if_pos h1, ← bS_inj h1]; rfl
    · rename_i h1
      rw [if_neg h1]
      split at h
      · rename_i h2; rw [if_pos h2, ← bS_inj h2]; rfl
      · rename_i h2
        rw [if_neg h2]
        split at h
        · rename_i h3; rw [if_pos h3, ← bS_inj h3]; rfl
        · omega
theorem kindT_wordL {k : Int} (h : 1 ≤ k ∧ k ≤ 3) : kindT (bS (wordL k)) = k := by
  rcases (by omega : k = 1 ∨ k = 2 ∨ k = 3) with e | e | e <;> subst e <;> decide +kernel
theorem cutSuf_spec (p : ByteArray) (x : List UInt8) : tB p = tB (cutSuf p (bS x)).1 ++ (if (cutSuf p (bS x)).2 then x else []) := by
  unfold cutSuf
  split
  · rename_i h
    rw [bS_size] at h ⊢
    have h2 := congrArg tB h.2
    rw [tB_extract, tB_bS] at h2
    rw [tB_extract]
    simp only [List.drop_zero, if_true]
    have hl := tB_length p
    rw [List.take_of_length_le (by omega)] at h2
    conv => lhs; rw [← List.take_append_drop (p.size - x.length) (tB p), h2]
  · simp
theorem strict_back {p : ByteArray} (hk : 1 ≤ (strictC p).kind ∧ (strictC p).kind ≤ 3) : colT (strictC p) = tB p := by
  have hs := cutSuf_spec p nullL
  unfold strictC at hk ⊢
  generalize cutSuf p (bS nullL) = q at *
  obtain ⟨d, b⟩ := q
  dsimp only at *
  have hw := kindT_word hk
  have hcut : 0 ≤ Lib.index (tB d) [32] := by
    rcases Int.lt_or_le (Lib.index (tB d) [32]) 0 with h | h
    · exfalso
      unfold Lib.cut at hk
      rw [if_neg (by omega)] at hk
      have : kindT (bS []) = -1 := by decide +kernel
      rw [this] at hk
      omega
    · exact h
  have hd : tB d = (Lib.cut (tB d) [32]).1 ++ 32 :: (Lib.cut (tB d) [32]).2.1 := by
    rcases Lib.index_spec (tB d) [32] with ⟨e, _⟩ | ⟨j, e, _, ho, _⟩
    · omega
    · unfold Lib.cut
      rw [if_pos hcut, e]
      unfold Lib.occAt at ho
      obtain ⟨t, ht⟩ := List.isPrefixOf_iff_prefix.1 ho
      simp only [Int.toNat_natCast]
      have h1 : (tB d).drop (j + ([32] : List UInt8).length) = t := by rw [← List.drop_drop, ← ht]; rfl
      rw [h1]
      conv => lhs; rw [← List.take_append_drop j (tB d), ← ht]
      rfl
  unfold colT
  dsimp only
  rw [tB_bS, ← hw, hs]
  conv => rhs; rw [hd]
  simp [nullL]
end Go.Vc

/- Both readings of a schema's text are one: plain Lean, no program. -/
namespace Go.Vc
open Go Go.RowKit
def bodyT (c : Col) : List UInt8 := tB c.name ++ 32 :: wordL c.kind
theorem colT_body (c : Col) : colT c = bodyT c ++ (if c.null then nullL else []) := by
  unfold colT bodyT nullL
  cases c.null <;> simp
theorem body_null {c : Col} (hk : 1 ≤ c.kind ∧ c.kind ≤ 3) (t : List UInt8) : bodyT c ≠ t ++ nullL := by
  intro h
  have hr := congrArg List.reverse h
  unfold bodyT at hr
  rw [List.reverse_append, List.reverse_append, List.reverse_cons] at hr
  rcases (by omega : c.kind = 1 ∨ c.kind = 2 ∨ c.kind = 3) with e | e | e <;> rw [e] at hr
  · have : (wordL 1).reverse = [116, 110, 105] := rfl
    rw [this] at hr
    simp [nullL] at hr
  · have : (wordL 2).reverse = [108, 111, 111, 98] := rfl
    rw [this] at hr
    simp [nullL] at hr
  · have : (wordL 3).reverse = [116, 120, 101, 116] := rfl
    rw [this] at hr
    simp [nullL] at hr
theorem cutSuf_colT {c : Col} (hk : 1 ≤ c.kind ∧ c.kind ≤ 3) : cutSuf (bS (colT c)) (bS nullL) = (bS (bodyT c), c.null) := by
  have h5 : nullL.length = 5 := rfl
  unfold cutSuf
  rw [bS_size, bS_size, colT_body]
  cases hn : c.null with
  | true =>
    simp only [if_true]
    rw [if_pos]
    · congr 1
      apply tB_inj.1
      rw [tB_extract, tB_bS, tB_bS, List.drop_zero, List.length_append, Nat.add_sub_cancel, List.take_left]
    · refine ⟨by rw [List.length_append]; omega, ?_⟩
      apply tB_inj.1
      rw [tB_extract, tB_bS, tB_bS, List.take_of_length_le (Nat.le_refl _), List.length_append, Nat.add_sub_cancel, List.drop_left]
  | false =>
    simp only [Bool.false_eq_true, if_false, List.append_nil]
    rw [if_neg]
    rintro ⟨h1, h2⟩
    have h3 := congrArg tB h2
    rw [tB_extract, tB_bS, tB_bS, List.take_of_length_le (Nat.le_refl _)] at h3
    refine body_null hk ((bodyT c).take ((bodyT c).length - nullL.length)) ?_
    conv => lhs; rw [← List.take_append_drop ((bodyT c).length - nullL.length) (bodyT c), h3]
theorem cut_body {c : Col} (hn : isName c.name = true) : Lib.cut (bodyT c) [32] = (tB c.name, wordL c.kind, true) := by
  have h1 : ∀ x ∈ tB c.name, x ≠ 32 := fun x hx => (other_ne (name_bytes hn x hx)).2
  have h : Lib.index (bodyT c) [32] = ((tB c.name).length : Int) := by
    unfold bodyT
    refine Lib.index_first (by simp) ?_ fun j hj => ?_
    · unfold Lib.occAt
      rw [List.drop_left]
      exact List.isPrefixOf_iff_prefix.2 ⟨_, rfl⟩
    · unfold Lib.occAt
      rw [List.drop_append_of_le_length (by omega), List.drop_eq_getElem_cons hj, List.cons_append]
      have := h1 _ (List.getElem_mem hj)
      show ((32 : UInt8) == (tB c.name)[j] && _) = false
      rw [beq_eq_false_iff_ne.2 (fun e => this e.symm)]; rfl
  unfold Lib.cut
  rw [h, if_pos (by omega), Int.toNat_natCast]
  have e1 : (bodyT c).take (tB c.name).length = tB c.name := by unfold bodyT; rw [List.take_left]
  have e2 : (bodyT c).drop ((tB c.name).length + ([32] : List UInt8).length) = wordL c.kind := by
    unfold bodyT
    rw [← List.drop_drop, List.drop_left]; rfl
  rw [e1, e2]
theorem strict_colT {c : Col} (hn : isName c.name = true) (hk : 1 ≤ c.kind ∧ c.kind ≤ 3) : strictC (bS (colT c)) = c := by
  unfold strictC
  rw [cutSuf_colT hk]
  dsimp only
  rw [tB_bS, cut_body hn]
  dsimp only
  rw [bS_tB, kindT_wordL hk]
def strictCs (s : ByteArray) : List Col := (splitS s).map fun p => strictC (bS p)
def strictP (s : ByteArray) : List Col × Int := if rightC (strictCs s) then (strictCs s, 0) else ([], 50)
theorem parseF_cases (s : ByteArray) : parseF s = ([], 50) ∨ ∃ cs, parseF s = (cs, 0) := by
  unfold parseF
  split
  · exact .inl rfl
  · split
    · exact .inl rfl
    · split
      · exact .inr ⟨_, rfl⟩
      · exact .inl rfl
theorem strict_show {cols : List Col} (h : rightC cols = true) : strictCs (bS (showL cols)) = cols := by
  have hn := right_names h
  obtain ⟨r1, _, _⟩ := right_all h
  cases cols with
  | nil => simp at r1
  | cons c r =>
    unfold strictCs showL
    rw [List.map_cons, Lib.join_cons, split_join _ _ (colT_ne (hn c (by simp)).1) fun b hb => by
      obtain ⟨x, hx, rfl⟩ := List.mem_map.1 hb
      exact colT_ne (hn x (by simp [hx])).1]
    rw [List.map_cons, strict_colT (hn c (by simp)).1 (hn c (by simp)).2, List.map_map]
    congr 1
    have : ∀ x ∈ r, ((fun p => strictC (bS p)) ∘ colT) x = x := fun x hx => strict_colT (hn x (by simp [hx])).1 (hn x (by simp [hx])).2
    rw [List.map_congr_left this, List.map_id']
theorem strict_eq (s : ByteArray) : strictP s = parseF s := by
  unfold strictP
  by_cases h : rightC (strictCs s) = true
  · rw [if_pos h]
    have hn := right_names h
    have hm : (strictCs s).map colT = splitS s := by
      unfold strictCs at hn ⊢
      rw [List.map_map]
      have : ∀ p ∈ splitS s, (colT ∘ fun p => strictC (bS p)) p = p := by
        intro p hp
        have := strict_back (p := bS p) (hn _ (List.mem_map.2 ⟨p, hp, rfl⟩)).2
        rw [tB_bS] at this
        exact this
      rw [List.map_congr_left this, List.map_id']
    have hs : bS (showL (strictCs s)) = s := by
      unfold showL
      rw [hm, join_split _ s (Nat.le_refl _), bS_tB]
    conv => rhs; rw [← hs]
    rw [parseF_show h]
  · rw [if_neg h]
    rcases parseF_cases s with e | ⟨cs, e⟩
    · exact e.symm
    · exfalso
      obtain ⟨h1, h2⟩ := parseF_back e
      rw [← h2, strict_show h1] at h
      exact h h1
end Go.Vc

/- The contract of schema.Parse (strings.Split and strings.Cut by the kit's shelf). -/
namespace Go.Proofs.YtiojkfckaalooaaDoor
open Go Go.Vc Go.RowKit
set_option maxRecDepth 20000
attribute [local irreducible] Calls Put Drew New

theorem split_size : ∀ (n : Nat) (s : ByteArray), s.size ≤ n → ∀ x ∈ splitS s, x.length ≤ s.size := by
  intro n
  induction n with
  | zero =>
    intro s hs x hx
    rcases Lib.indexB_cases s sepB with h | ⟨i, h, hr⟩
    · rw [splitS_miss h] at hx
      simp at hx
      rw [hx, tB_length]; exact Nat.le_refl _
    · have : sepB.size = 2 := rfl
      omega
  | succ n ih =>
    intro s hs x hx
    have h2 : sepB.size = 2 := rfl
    rcases Lib.indexB_cases s sepB with h | ⟨i, h, hr⟩
    · rw [splitS_miss h] at hx
      simp at hx
      rw [hx, tB_length]; exact Nat.le_refl _
    · rw [splitS_hit h] at hx
      rcases List.mem_cons.1 hx with rfl | hx
      · rw [List.length_take, tB_length]; omega
      · have := ih _ (by rw [ByteArray.size_extract]; omega) x hx
        rw [ByteArray.size_extract] at this
        omega
/-- What the search reads: some number. -/
def MTab (w : World) : Prop := ∃ m, w.cell? ⟨1, 0, none⟩ = some (.int .i64 m)
theorem MTab.ext {w w' : World} (h : MTab w) (e : Ext w w') : MTab w' := by
  obtain ⟨m, hm⟩ := h
  exact ⟨m, cell_ext hm e⟩
theorem drewN_ext (w : World) (n : Nat) : Ext w (w.drewN n) := ⟨rfl, rfl, rfl, Nat.le_refl _, fun _ _ => rfl⟩
theorem split_ok {w : World} (hM : MTab w) (s : ByteArray) (hs : s.size ≤ 100000000) :
    Calls Tryd.prog 56 #[.string s, .string sepB] w fun e w' => ∃ p n c, e = .returned (.slice p n c) ∧ Ls txt w' p n c ((splitS s).map bS) ∧ Ext w w' := by
  obtain ⟨m, hm⟩ := hM
  have := Any.strings_Split splitL (by kernel_rfl) s sepB m w (by omega) hm (by decide)
  refine this.mono ?_
  rintro e w' ⟨rfl, rfl⟩
  have hl := Lib.splitB_all sepB (by decide) 0 _ s rfl
  have hc := Lib.countB_le sepB (by decide) s.size s (Nat.le_refl _)
  have e1 : (splitS s).map bS = Lib.splitB sepB 0 (Lib.countB s sepB) s := by
    unfold splitS
    rw [List.map_map]
    have : ∀ x ∈ Lib.splitB sepB 0 (Lib.countB s sepB) s, (bS ∘ tB) x = x := fun x _ => bS_tB x
    rw [List.map_congr_left this, List.map_id']
  rw [e1]
  have hN : New w (.cells ((Lib.splitB sepB 0 (Lib.countB s sepB) s).map Value.string).toArray 9) w.heap.size (w.alloc (.cells ((Lib.splitB sepB 0 (Lib.countB s sepB) s).map Value.string).toArray 9)) := by
    with_unfolding_all exact ⟨rfl, rfl⟩
  have hf : (Lib.splitB sepB 0 (Lib.countB s sepB) s).flatMap txt = (Lib.splitB sepB 0 (Lib.countB s sepB) s).map Value.string := by
    generalize Lib.splitB sepB 0 (Lib.countB s sepB) s = L
    induction L with
    | nil => rfl
    | cons x r ih => rw [List.flatMap_cons, ih]; rfl
  refine ⟨_, _, _, rfl, ⟨hl, ⟨Nat.le_refl _, by unfold maxLen; omega⟩, ?_, fun e => by cases e⟩, hN.ext⟩
  rw [hf]
  have h9 : At (w.alloc (.cells ((Lib.splitB sepB 0 (Lib.countB s sepB) s).map Value.string).toArray 9)) (some ⟨w.heap.size, 0, none⟩) ((Lib.splitB sepB 0 (Lib.countB s sepB) s).map Value.string) := by simpa using hN.at
  exact h9
theorem cut_ok {w : World} (hM : MTab w) (s : ByteArray) (hs : s.size ≤ 100000000) :
    Calls Tryd.prog 58 #[.string s, .string (ByteArray.mk #[32])] w fun e w' => e = .returned (.tuple #[.string (bS (Lib.cut (tB s) [32]).1), .string (bS (Lib.cut (tB s) [32]).2.1), .bool (Lib.cut (tB s) [32]).2.2]) ∧ Ext w w' := by
  obtain ⟨m, hm⟩ := hM
  have := Any.strings_Cut cutL s (ByteArray.mk #[32]) m w (by omega) hm
  refine this.mono ?_
  rintro e w' ⟨rfl, n, rfl⟩
  exact ⟨rfl, drewN_ext w n⟩
set_option maxHeartbeats 2000000 in
theorem sparse_ok {w : World} (hT : WTab w) (hM : MTab w) (s : ByteArray) (hs : s.size ≤ 100000000) :
    Calls Tryd.prog 31 #[.string s] w fun e w' => ∃ p n c, e = .returned (.tuple #[.slice p n c, .int .i64 (parseF s).2]) ∧ Cols w' p n c (parseF s).1 ∧ Ext w w' := by
  rw [← strict_eq]
  have bad : ∀ {W : World}, Ext w W → rightC (strictCs s) = false → ∃ p n c, Ending.returned (Value.tuple #[.slice none 0 0, .int .i64 50]) = .returned (.tuple #[.slice p n c, .int .i64 (strictP s).2]) ∧ Cols W p n c (strictP s).1 ∧ Ext w W := by
    intro W hx hf
    have e : strictP s = ([], 50) := by unfold strictP; rw [hf]; rfl
    rw [e]
    exact ⟨none, 0, 0, rfl, Ls.nothing _ _, hx⟩
  apply sparse_vc
  unfold sparse_T
  refine (split_ok hM s hs).mono ?_
  rintro e w2 ⟨p3, n4, c5, rfl, hS, e1⟩
  have hSl := hS.len
  rw [List.length_map] at hSl
  have hle : n4 ≤ 9223372036854775807 := hS.le
  refine ⟨_, _, _, rfl, ?_⟩
  refine ⟨fun q m d i W => ∃ j : Nat, i = (j : Int) ∧ j ≤ n4 ∧ j = m ∧ m ≤ 16 ∧ Hold w2 W [] [⟨53, 3, q, m, d, (((splitS s).take j).map fun p => strictC (bS p)).flatMap Col.cs⟩], fun _ _ _ i _ => n4 - i.toNat, ⟨0, rfl, Nat.zero_le _, rfl, by decide, (Hold.start Ext.rfl).nilRow _ _⟩, ?_⟩
  rintro q m d i W ⟨j, rfl, hj, rfl, hj16, H⟩
  have hcl : (((splitS s).take j).map fun p => strictC (bS p)).length = j := by rw [List.length_map, List.length_take]; omega
  refine ⟨fun hlt => ?_, fun hge => ?_⟩
  · have gp : (splitS s)[j]? = some ((splitS s)[j]'(by omega)) := List.getElem?_eq_getElem _
    generalize (splitS s)[j]'(by omega) = x at gp
    have gb : ((splitS s).map bS)[j]? = some (bS x) := by rw [List.getElem?_map, gp]; rfl
    obtain ⟨b, o, hp, hc⟩ := (hS.ext H.ext).lies.things txt_len (by decide) gb
    have hcell := hc 0 _ rfl
    rw [Nat.mul_one, Nat.add_zero] at hcell
    simp only [Int.toNat_natCast]
    refine ⟨b, o, hp, by omega, hlt, _, hcell, ?_⟩
    have hxs : (bS x).size ≤ 100000000 := by have := split_size s.size s (Nat.le_refl _) x (List.mem_of_getElem? gp); rw [bS_size]; omega
    refine (cutsfx_ok (bS x) (bS nullL) (by omega) W).mono ?_
    rintro e w19 ⟨rfl, eS⟩
    have hds : (cutSuf (bS x) (bS nullL)).1.size ≤ 100000000 := by
      have := cutSuf_spec (bS x) nullL
      have h2 := congrArg List.length this
      rw [List.length_append, tB_length, tB_length] at h2
      omega
    refine ⟨_, _, rfl, ?_⟩
    refine (cut_ok (hM.ext ((e1.trans H.ext).trans eS)) _ hds).mono ?_
    rintro e w23 ⟨rfl, eT⟩
    refine ⟨_, _, _, rfl, ?_⟩
    refine (skind_ok (hT.ext (((e1.trans H.ext).trans eS).trans eT)) _).mono ?_
    rintro e w28 ⟨rfl, eU⟩
    refine ⟨_, rfl, ?_⟩
    have eA := (eS.trans eT).trans eU
    intro b30 w31 h30
    have K := (H.step eA).new h30
    obtain ⟨p', c', w36, hrun, H1⟩ := K.append (ty := 22) (P := Tryd.prog) (q := some ⟨b30, 0, none⟩) (m := 1) (d' := 1) (news := Col.cs (strictC (bS x))) 0 rfl undCols tyCol rfl (by decide) (K.blk 0 rfl).at rfl (fun e => by cases e) (Col.cs_one _) (by show ((j + 1) + (j + 1) / 4 + 192) * 32 ≤ 281474976710656; omega) (by unfold maxLen; omega)
    refine ⟨_, _, _, _, hrun, ?_⟩
    have hst : ((splitS s).take (j + 1)).map (fun p => strictC (bS p)) = ((splitS s).take j).map (fun p => strictC (bS p)) ++ [strictC (bS x)] := by rw [take_snoc gp, List.map_append]; rfl
    have H2 : Hold w2 w36 [] [⟨53, 3, p', j + 1, c', (((splitS s).take (j + 1)).map fun p => strictC (bS p)).flatMap Col.cs⟩] := by
      rw [hst, List.flatMap_append]
      have := H1.tail
      simpa using this
    have hcl1 : (((splitS s).take (j + 1)).map fun p => strictC (bS p)).length = j + 1 := by rw [List.length_map, List.length_take]; omega
    refine ⟨fun hbig => ?_, fun hsm => ?_⟩
    · have hcols := hold_cols H2 0 rfl hcl1
      refine (sright_ok hcols).mono ?_
      rintro e w39 ⟨rfl, eV⟩
      have hno : ∀ cs : List Col, 16 < cs.length → rightC cs = false := by
        intro cs h
        unfold rightC
        rw [decide_eq_false (by omega)]; rfl
      rw [hno _ (by omega)]
      refine ⟨_, rfl, fun _ => bad (e1.trans (H2.ext.trans eV)) (hno _ ?_), fun h => by cases h⟩
      unfold strictCs
      rw [List.length_map]; omega
    · rw [i64_next (by omega)]
      refine ⟨⟨j + 1, rfl, by omega, rfl, by omega, H2⟩, by first | omega | (simp only [Int.toNat_natCast]; omega)⟩
  · have hjn : j = n4 := by omega
    have htk : (splitS s).take j = splitS s := List.take_of_length_le (by omega)
    rw [htk] at H hcl
    have hcols : Cols W q j d (strictCs s) := hold_cols H 0 rfl hcl
    refine (sright_ok hcols).mono ?_
    rintro e w46 ⟨rfl, eV⟩
    refine ⟨_, rfl, fun hf => bad (e1.trans (H.ext.trans eV)) hf, fun ht => ?_⟩
    have e : strictP s = (strictCs s, 0) := by unfold strictP; rw [if_pos ht]
    rw [e]
    exact ⟨_, _, _, rfl, hcols.ext eV, e1.trans (H.ext.trans eV)⟩
end Go.Proofs.YtiojkfckaalooaaDoor

/- The contract of the document's Parse. Printed by mksp4.py. -/
namespace Go.Proofs.YtiojkfckaalooaaDoor
open Go Go.Vc Go.RowKit
set_option maxRecDepth 20000
attribute [local irreducible] Calls Put Drew New

theorem looseCs_snoc : ∀ {l : List (List UInt8)} {t : List UInt8}, looseCs (l ++ [t]) = (looseCs l).bind fun cs => (looseC t).map fun c => cs ++ [c]
  | [], t => by
    show (looseC t).bind (fun c => some [c]) = (looseC t).map fun c => [c]
    cases looseC t <;> rfl
  | x :: l, t => by
    rw [List.cons_append, looseCs]
    conv => rhs; rw [looseCs]
    cases looseC x with
    | none => rfl
    | some c =>
      simp only [Option.bind_some]
      rw [looseCs_snoc (l := l)]
      cases looseCs l with
      | none => rfl
      | some cs =>
        simp only [Option.bind_some, Option.map_some]
        cases looseC t <;> rfl
theorem looseCs_fail {l r : List (List UInt8)} (h : looseCs l = none) : looseCs (l ++ r) = none := by
  induction l with
  | nil => cases h
  | cons x l ih =>
    rw [List.cons_append, looseCs]
    rw [looseCs] at h
    cases hx : looseC x with
    | none => rfl
    | some c =>
      rw [hx] at h
      simp only [Option.bind_some] at h ⊢
      cases hl : looseCs l with
      | none => rw [ih hl]; rfl
      | some cs => rw [hl] at h; cases h
theorem looseCs_len : ∀ {l : List (List UInt8)} {cs : List Col}, looseCs l = some cs → cs.length = l.length
  | [], cs, h => by cases h; rfl
  | x :: l, cs, h => by
    rw [looseCs] at h
    cases hx : looseC x with
    | none => rw [hx] at h; cases h
    | some c =>
      rw [hx] at h
      simp only [Option.bind_some] at h
      cases hl : looseCs l with
      | none => rw [hl] at h; cases h
      | some cs' =>
        rw [hl] at h
        cases h
        rw [List.length_cons, List.length_cons, looseCs_len hl]
theorem parts_size (c : UInt8) : ∀ (l : List UInt8), ∀ t ∈ partsL c l, t.length ≤ l.length
  | [], t, h => by simp [partsL] at h; rw [h]; simp
  | x :: l, t, h => by
    unfold partsL at h
    split at h
    · rcases List.mem_cons.1 h with rfl | h
      · simp
      · have := parts_size c l t h; simp; omega
    · split at h
      · simp at h; rw [h]; simp
      · rename_i p ps e
        rcases List.mem_cons.1 h with rfl | h
        · have := parts_size c l p (by rw [e]; simp)
          simp; omega
        · have := parts_size c l t (by rw [e]; simp [h])
          simp; omega
theorem drop_sp {t : List UInt8} (h : bAt (bS t) 0 = 32) : t.drop 1 = dropSp t := by
  cases t with
  | nil => rfl
  | cons x r =>
    rw [bAt_eq _ 0 (by rw [bS_size]; simp)] at h
    have hx : x = 32 := by
      have h2 : ((x.toNat : Nat) : Int) = 32 := by simpa [tB_bS] using h
      exact UInt8.toNat_inj.1 (by have e : (32 : UInt8).toNat = 32 := rfl; omega)
    show r = if x = 32 then r else x :: r
    rw [if_pos hx]
theorem keep_sp {t : List UInt8} (h0 : 0 < t.length) (h : bAt (bS t) 0 ≠ 32) : dropSp t = t := by
  cases t with
  | nil => rfl
  | cons x r =>
    rw [bAt_eq _ 0 (by rw [bS_size]; simp)] at h
    have hx : x ≠ 32 := by
      rintro rfl
      exact h (by simp [tB_bS])
    show (if x = 32 then r else x :: r) = x :: r
    rw [if_neg hx]
theorem dropSp_len (t : List UInt8) : (dropSp t).length ≤ t.length := by
  cases t with
  | nil => exact Nat.le_refl _
  | cons x r =>
    show (if x = 32 then r else x :: r).length ≤ _
    split <;> simp
theorem loose_names : ∀ {L : List (List UInt8)} {cs : List Col}, looseCs L = some cs → (∀ t ∈ L, t.length ≤ 100000000) → ∀ c ∈ cs, c.name.size ≤ 100000000
  | [], cs, h, _, c, hc => by cases h; cases hc
  | x :: L, cs, h, hl, c, hc => by
    rw [looseCs] at h
    cases hx : looseC x with
    | none => rw [hx] at h; cases h
    | some c' =>
      rw [hx] at h
      simp only [Option.bind_some] at h
      cases hls : looseCs L with
      | none => rw [hls] at h; cases h
      | some cs' =>
        rw [hls] at h
        cases h
        rcases List.mem_cons.1 hc with rfl | hc
        · unfold looseC at hx
          split at hx
          · rename_i nm wd r e
            cases hx
            have h1 := parts_size 32 (dropSp x) nm (by rw [e]; simp)
            have h2 := dropSp_len x
            have h3 := hl x (by simp)
            show (bS nm).size ≤ _
            rw [bS_size]; omega
          · cases hx
        · exact loose_names hls (fun t ht => hl t (by simp [ht])) c hc
/-- The kind after the words up to k. -/
def kindUp (w : List UInt8) (k : Nat) : Int := if 3 ≤ k ∧ w = wordL 3 then 3 else if 2 ≤ k ∧ w = wordL 2 then 2 else if 1 ≤ k ∧ w = wordL 1 then 1 else 0
theorem kindUp_zero (w : List UInt8) : kindUp w 0 = 0 := by simp [kindUp]
theorem kindUp_all (w : List UInt8) : kindUp w 3 = wordK w := by simp [kindUp, wordK]
theorem kindUp_hit {w : List UInt8} {k : Nat} (h1 : k < 3) (h : w = wordL ((k + 1 : Nat) : Int)) : kindUp w (k + 1) = ((k + 1 : Nat) : Int) := by
  subst h
  rcases (by omega : k = 0 ∨ k = 1 ∨ k = 2) with e | e | e <;> subst e <;> decide
theorem kindUp_miss {w : List UInt8} {k : Nat} (h1 : k < 3) (h : w ≠ wordL ((k + 1 : Nat) : Int)) : kindUp w (k + 1) = kindUp w k := by
  rcases (by omega : k = 0 ∨ k = 1 ∨ k = 2) with e | e | e <;> subst e
  · have h : w ≠ wordL 1 := h
    simp [kindUp, h]
  · have h : w ≠ wordL 2 := h
    simp [kindUp, h]
  · have h : w ≠ wordL 3 := h
    simp [kindUp, h]
set_option maxHeartbeats 8000000 in
theorem r5parse_ok {w : World} (s : ByteArray) (hs : s.size ≤ 100000000) :
    Calls Tryd.prog 32 #[.string s] w fun e w' => ∃ p n c, e = .returned (.tuple #[.slice p n c, .int .i64 (parseF s).2]) ∧ Cols w' p n c (parseF s).1 ∧ Ext w w' := by
  have bad : ∀ {W : World}, Ext w W → parseF s = ([], 50) → ∃ p n c, Ending.returned (Value.tuple #[.slice none 0 0, .int .i64 50]) = .returned (.tuple #[.slice p n c, .int .i64 (parseF s).2]) ∧ Cols W p n c (parseF s).1 ∧ Ext w W := by
    intro W hx e
    rw [e]
    exact ⟨none, 0, 0, rfl, Ls.nothing _ _, hx⟩
  apply r5parse_vc
  unfold r5parse_T
  refine (r5parts_ok s hs 44 w).mono ?_
  rintro e w2 ⟨p3, n4, c5, rfl, hS, e1⟩
  have hSl := hS.len
  rw [List.length_map] at hSl
  refine ⟨_, _, _, rfl, fun hbig => bad e1 (by unfold parseF; rw [if_pos (by omega)]), fun hsm => ?_⟩
  have hP : parseF s = match looseCs (partsL 44 (tB s)) with
      | none => ([], 50)
      | some cs => if rightC cs ∧ bS (showL cs) = s then (cs, 0) else ([], 50) := by
    unfold parseF
    rw [if_neg (by omega)] <;> (cases looseCs (partsL 44 (tB s)) <;> rfl)
  generalize hL : partsL 44 (tB s) = L at *
  refine ⟨fun q m d i W => ∃ (j : Nat) (cs : List Col), i = (j : Int) ∧ j ≤ n4 ∧ m = cs.length ∧ looseCs (L.take j) = some cs ∧ Hold w2 W [] [⟨53, 3, q, m, d, cs.flatMap Col.cs⟩], fun _ _ _ i _ => n4 - i.toNat, ⟨0, [], rfl, Nat.zero_le _, rfl, rfl, (Hold.start Ext.rfl).nilRow _ _⟩, ?_⟩
  rintro q m d i W ⟨j, cs, rfl, hj, rfl, hcs, H⟩
  have hcl := looseCs_len hcs
  rw [List.length_take] at hcl
  refine ⟨fun hlt => ?_, fun hge => ?_⟩
  · have gp : L[j]? = some (L[j]'(by omega)) := List.getElem?_eq_getElem _
    generalize L[j]'(by omega) = t at gp
    have htL : t.length ≤ 100000000 := by
      have := parts_size 44 (tB s) t (by rw [hL]; exact List.mem_of_getElem? gp)
      rw [tB_length] at this; omega
    have gb : (L.map bS)[j]? = some (bS t) := by rw [List.getElem?_map, gp]; rfl
    obtain ⟨b, o, hp, hc⟩ := (hS.ext H.ext).lies.things txt_len (by decide) gb
    have hcell := hc 0 _ rfl
    rw [Nat.mul_one, Nat.add_zero] at hcell
    have hsnoc : looseCs (L.take (j + 1)) = (looseC t).map fun c => cs ++ [c] := by rw [take_snoc gp, looseCs_snoc, hcs]; rfl
    have hfail : looseC t = none → parseF s = ([], 50) := by
      intro h
      have h2 : looseCs (L.take (j + 1)) = none := by rw [hsnoc, h]; rfl
      have h3 := looseCs_fail (r := L.drop (j + 1)) h2
      rw [List.take_append_drop] at h3
      rw [hP, h3]
    simp only [Int.toNat_natCast]
    refine ⟨b, o, hp, by omega, hlt, _, hcell, ?_⟩
    have hsz : (bS t).size = t.length := bS_size t
    refine ⟨fun hpos => ⟨by decide, hpos, fun h32 => ⟨by decide, by omega, ?_⟩, fun h32 => ?_⟩, fun hz => ?_⟩
    · have hd : tB ((bS t).extract 1 (bS t).size) = dropSp t := by
        rw [tB_extract, tB_bS, hsz, List.take_of_length_le (Nat.le_refl _)]
        exact drop_sp h32
      refine (r5parts_ok ((bS t).extract 1 (bS t).size) (by rw [ByteArray.size_extract]; omega) 32 W).mono ?_
      rintro e w23 ⟨p24, n25, c26, rfl, hW, eS⟩
      have hWl := hW.len
      rw [List.length_map] at hWl
      have hloose : looseC t = match partsL 32 (dropSp t) with
          | n :: w :: r => some ⟨bS n, wordK w, decide (r ≠ [])⟩
          | _ => none := rfl
      rw [hd] at hW hWl
      replace H := H.step eS
      refine ⟨_, _, _, rfl, fun hfew => bad (e1.trans H.ext) (hfail ?_), fun hmany => ?_⟩
      · rw [hloose]
        generalize partsL 32 (dropSp t) = M at hWl
        match M, hWl with
        | [], _ => rfl
        | [_], _ => rfl
        | _ :: _ :: _, h => simp at h; omega
      obtain ⟨nm, wd, r, hM⟩ : ∃ nm wd r, partsL 32 (dropSp t) = nm :: wd :: r := by
        generalize partsL 32 (dropSp t) = M at hWl
        match M, hWl with
        | [], h => simp at h; omega
        | [_], h => simp at h; omega
        | a :: b :: r, _ => exact ⟨a, b, r, rfl⟩
      rw [hM] at hloose hW hWl
      dsimp only at hloose
      obtain ⟨b2, o2, hp2, hc0⟩ := hW.lies.things txt_len (by decide) (i := 0) (x := bS nm) rfl
      obtain ⟨b3, o3, hp3, hc1⟩ := hW.lies.things txt_len (by decide) (i := 1) (x := bS wd) rfl
      have hcell0 := hc0 0 _ rfl
      have hcell1 := hc1 0 _ rfl
      rw [hp2] at hp3
      cases hp3
      refine ⟨b2, o2, hp2, by decide, by omega, _, hcell0, ?_⟩
      have K := Hold.start (Ext.rfl (w := w23))
      intro b32 w33 h32'
      replace K := K.new h32'
      refine ⟨⟨_, K.get 0 rfl rfl⟩, K.frz 0 rfl, ⟨_, K.get 0 rfl rfl⟩, K.frz 0 rfl, ⟨_, K.get 0 rfl rfl⟩, K.frz 0 rfl, ?_⟩
      intro w38 hPt
      replace K := K.put 0 rfl hPt
      have hdn : decide (2 < (n25 : Int)) = decide (r ≠ []) := by
        refine decide_eq_decide.2 ?_
        rw [← hWl]
        cases r with
        | nil => simp
        | cons y r => simp; omega
      rw [hdn] at K
      have K : Hold w23 w38 [(b32, .cells #[.string (bS nm), .int .i64 0, .bool (decide (r ≠ []))] 53 (0, 0))] [] := K
      refine ⟨fun i W2 => ∃ k : Nat, i = ((k + 1 : Nat) : Int) ∧ k ≤ 3 ∧ Hold w23 W2 [(b32, .cells #[.string (bS nm), .int .i64 (kindUp wd k), .bool (decide (r ≠ []))] 53 (0, 0))] [], fun i _ => 4 - i.toNat, ⟨0, rfl, by decide, by rw [kindUp_zero]; exact K⟩, ?_⟩
      clear K
      rintro i W2 ⟨k, rfl, hk, K⟩
      refine ⟨fun hlt3 => ?_, fun hgt3 => ?_⟩
      · intro w46 hD
        replace K := K.step (Drew.ext hD)
        have hk3 : k < 3 := by omega
        refine ⟨b2, o2, hp2, by decide, by omega, _, cell_ext hcell1 K.ext, ?_⟩
        refine (r5kinds_ok (k := ((k + 1 : Nat) : Int)) (by omega) w46).mono ?_
        rintro e w52 ⟨rfl, eT⟩
        replace K := K.step eT
        refine ⟨_, rfl, eT.same, fun he => ⟨⟨_, K.get 0 rfl rfl⟩, K.frz 0 rfl, ?_⟩, fun hne => ?_⟩
        · intro w56 hP2
          replace K := K.put 0 rfl hP2
          have hw : wd = wordL ((k + 1 : Nat) : Int) := bS_inj he
          rw [i64_next (by omega)]
          refine ⟨⟨k + 1, rfl, by omega, ?_⟩, by first | omega | (simp only [Int.toNat_natCast]; omega)⟩
          rw [kindUp_hit hk3 hw]
          exact K
        · have hw : wd ≠ wordL ((k + 1 : Nat) : Int) := fun e => hne (by rw [e])
          rw [i64_next (by omega)]
          refine ⟨⟨k + 1, rfl, by omega, ?_⟩, by first | omega | (simp only [Int.toNat_natCast]; omega)⟩
          rw [kindUp_miss hk3 hw]
          exact K
      · have hk3 : k = 3 := by omega
        subst hk3
        rw [kindUp_all] at K
        refine ⟨_, K.get 0 rfl rfl, _, K.get 0 rfl rfl, _, K.get 0 rfl rfl, ?_⟩
        replace H := H.step K.ext
        intro b63 w64 h63
        replace H := H.new h63
        obtain ⟨p', c', w69, hrun, H1⟩ := H.append (ty := 22) (P := Tryd.prog) (q := some ⟨b63, 0, none⟩) (m := 1) (d' := 1) (news := Col.cs ⟨bS nm, wordK wd, decide (r ≠ [])⟩) 0 rfl undCols tyCol rfl (by decide) (H.blk 0 rfl).at rfl (fun e => by cases e) (Col.cs_one _) (by show ((cs.length + 1) + (cs.length + 1) / 4 + 192) * 32 ≤ 281474976710656; omega) (by unfold maxLen; omega)
        refine ⟨_, _, _, _, hrun, ?_⟩
        rw [i64_next (by omega)]
        rw [hloose] at hsnoc
        simp only [Option.map_some] at hsnoc
        refine ⟨⟨j + 1, cs ++ [⟨bS nm, wordK wd, decide (r ≠ [])⟩], rfl, by omega, by rw [List.length_append]; rfl, hsnoc, ?_⟩, by first | omega | (simp only [Int.toNat_natCast]; omega)⟩
        rw [List.flatMap_append]
        have := H1.tail
        simpa using this
    · have hd : tB (bS t) = dropSp t := by rw [tB_bS]; exact (keep_sp (by omega) h32).symm
      refine (r5parts_ok (bS t) (by omega) 32 W).mono ?_
      rintro e w23 ⟨p24, n25, c26, rfl, hW, eS⟩
      have hWl := hW.len
      rw [List.length_map] at hWl
      have hloose : looseC t = match partsL 32 (dropSp t) with
          | n :: w :: r => some ⟨bS n, wordK w, decide (r ≠ [])⟩
          | _ => none := rfl
      rw [hd] at hW hWl
      replace H := H.step eS
      refine ⟨_, _, _, rfl, fun hfew => bad (e1.trans H.ext) (hfail ?_), fun hmany => ?_⟩
      · rw [hloose]
        generalize partsL 32 (dropSp t) = M at hWl
        match M, hWl with
        | [], _ => rfl
        | [_], _ => rfl
        | _ :: _ :: _, h => simp at h; omega
      obtain ⟨nm, wd, r, hM⟩ : ∃ nm wd r, partsL 32 (dropSp t) = nm :: wd :: r := by
        generalize partsL 32 (dropSp t) = M at hWl
        match M, hWl with
        | [], h => simp at h; omega
        | [_], h => simp at h; omega
        | a :: b :: r, _ => exact ⟨a, b, r, rfl⟩
      rw [hM] at hloose hW hWl
      dsimp only at hloose
      obtain ⟨b2, o2, hp2, hc0⟩ := hW.lies.things txt_len (by decide) (i := 0) (x := bS nm) rfl
      obtain ⟨b3, o3, hp3, hc1⟩ := hW.lies.things txt_len (by decide) (i := 1) (x := bS wd) rfl
      have hcell0 := hc0 0 _ rfl
      have hcell1 := hc1 0 _ rfl
      rw [hp2] at hp3
      cases hp3
      refine ⟨b2, o2, hp2, by decide, by omega, _, hcell0, ?_⟩
      have K := Hold.start (Ext.rfl (w := w23))
      intro b32 w33 h32'
      replace K := K.new h32'
      refine ⟨⟨_, K.get 0 rfl rfl⟩, K.frz 0 rfl, ⟨_, K.get 0 rfl rfl⟩, K.frz 0 rfl, ⟨_, K.get 0 rfl rfl⟩, K.frz 0 rfl, ?_⟩
      intro w38 hPt
      replace K := K.put 0 rfl hPt
      have hdn : decide (2 < (n25 : Int)) = decide (r ≠ []) := by
        refine decide_eq_decide.2 ?_
        rw [← hWl]
        cases r with
        | nil => simp
        | cons y r => simp; omega
      rw [hdn] at K
      have K : Hold w23 w38 [(b32, .cells #[.string (bS nm), .int .i64 0, .bool (decide (r ≠ []))] 53 (0, 0))] [] := K
      refine ⟨fun i W2 => ∃ k : Nat, i = ((k + 1 : Nat) : Int) ∧ k ≤ 3 ∧ Hold w23 W2 [(b32, .cells #[.string (bS nm), .int .i64 (kindUp wd k), .bool (decide (r ≠ []))] 53 (0, 0))] [], fun i _ => 4 - i.toNat, ⟨0, rfl, by decide, by rw [kindUp_zero]; exact K⟩, ?_⟩
      clear K
      rintro i W2 ⟨k, rfl, hk, K⟩
      refine ⟨fun hlt3 => ?_, fun hgt3 => ?_⟩
      · intro w46 hD
        replace K := K.step (Drew.ext hD)
        have hk3 : k < 3 := by omega
        refine ⟨b2, o2, hp2, by decide, by omega, _, cell_ext hcell1 K.ext, ?_⟩
        refine (r5kinds_ok (k := ((k + 1 : Nat) : Int)) (by omega) w46).mono ?_
        rintro e w52 ⟨rfl, eT⟩
        replace K := K.step eT
        refine ⟨_, rfl, eT.same, fun he => ⟨⟨_, K.get 0 rfl rfl⟩, K.frz 0 rfl, ?_⟩, fun hne => ?_⟩
        · intro w56 hP2
          replace K := K.put 0 rfl hP2
          have hw : wd = wordL ((k + 1 : Nat) : Int) := bS_inj he
          rw [i64_next (by omega)]
          refine ⟨⟨k + 1, rfl, by omega, ?_⟩, by first | omega | (simp only [Int.toNat_natCast]; omega)⟩
          rw [kindUp_hit hk3 hw]
          exact K
        · have hw : wd ≠ wordL ((k + 1 : Nat) : Int) := fun e => hne (by rw [e])
          rw [i64_next (by omega)]
          refine ⟨⟨k + 1, rfl, by omega, ?_⟩, by first | omega | (simp only [Int.toNat_natCast]; omega)⟩
          rw [kindUp_miss hk3 hw]
          exact K
      · have hk3 : k = 3 := by omega
        subst hk3
        rw [kindUp_all] at K
        refine ⟨_, K.get 0 rfl rfl, _, K.get 0 rfl rfl, _, K.get 0 rfl rfl, ?_⟩
        replace H := H.step K.ext
        intro b63 w64 h63
        replace H := H.new h63
        obtain ⟨p', c', w69, hrun, H1⟩ := H.append (ty := 22) (P := Tryd.prog) (q := some ⟨b63, 0, none⟩) (m := 1) (d' := 1) (news := Col.cs ⟨bS nm, wordK wd, decide (r ≠ [])⟩) 0 rfl undCols tyCol rfl (by decide) (H.blk 0 rfl).at rfl (fun e => by cases e) (Col.cs_one _) (by show ((cs.length + 1) + (cs.length + 1) / 4 + 192) * 32 ≤ 281474976710656; omega) (by unfold maxLen; omega)
        refine ⟨_, _, _, _, hrun, ?_⟩
        rw [i64_next (by omega)]
        rw [hloose] at hsnoc
        simp only [Option.map_some] at hsnoc
        refine ⟨⟨j + 1, cs ++ [⟨bS nm, wordK wd, decide (r ≠ [])⟩], rfl, by omega, by rw [List.length_append]; rfl, hsnoc, ?_⟩, by first | omega | (simp only [Int.toNat_natCast]; omega)⟩
        rw [List.flatMap_append]
        have := H1.tail
        simpa using this
    · have hd : tB (bS t) = dropSp t := by
        rw [tB_bS]
        have : t = [] := List.eq_nil_of_length_eq_zero (by omega)
        rw [this]; rfl
      refine (r5parts_ok (bS t) (by omega) 32 W).mono ?_
      rintro e w23 ⟨p24, n25, c26, rfl, hW, eS⟩
      have hWl := hW.len
      rw [List.length_map] at hWl
      have hloose : looseC t = match partsL 32 (dropSp t) with
          | n :: w :: r => some ⟨bS n, wordK w, decide (r ≠ [])⟩
          | _ => none := rfl
      rw [hd] at hW hWl
      replace H := H.step eS
      refine ⟨_, _, _, rfl, fun hfew => bad (e1.trans H.ext) (hfail ?_), fun hmany => ?_⟩
      · rw [hloose]
        generalize partsL 32 (dropSp t) = M at hWl
        match M, hWl with
        | [], _ => rfl
        | [_], _ => rfl
        | _ :: _ :: _, h => simp at h; omega
      obtain ⟨nm, wd, r, hM⟩ : ∃ nm wd r, partsL 32 (dropSp t) = nm :: wd :: r := by
        generalize partsL 32 (dropSp t) = M at hWl
        match M, hWl with
        | [], h => simp at h; omega
        | [_], h => simp at h; omega
        | a :: b :: r, _ => exact ⟨a, b, r, rfl⟩
      rw [hM] at hloose hW hWl
      dsimp only at hloose
      obtain ⟨b2, o2, hp2, hc0⟩ := hW.lies.things txt_len (by decide) (i := 0) (x := bS nm) rfl
      obtain ⟨b3, o3, hp3, hc1⟩ := hW.lies.things txt_len (by decide) (i := 1) (x := bS wd) rfl
      have hcell0 := hc0 0 _ rfl
      have hcell1 := hc1 0 _ rfl
      rw [hp2] at hp3
      cases hp3
      refine ⟨b2, o2, hp2, by decide, by omega, _, hcell0, ?_⟩
      have K := Hold.start (Ext.rfl (w := w23))
      intro b32 w33 h32'
      replace K := K.new h32'
      refine ⟨⟨_, K.get 0 rfl rfl⟩, K.frz 0 rfl, ⟨_, K.get 0 rfl rfl⟩, K.frz 0 rfl, ⟨_, K.get 0 rfl rfl⟩, K.frz 0 rfl, ?_⟩
      intro w38 hPt
      replace K := K.put 0 rfl hPt
      have hdn : decide (2 < (n25 : Int)) = decide (r ≠ []) := by
        refine decide_eq_decide.2 ?_
        rw [← hWl]
        cases r with
        | nil => simp
        | cons y r => simp; omega
      rw [hdn] at K
      have K : Hold w23 w38 [(b32, .cells #[.string (bS nm), .int .i64 0, .bool (decide (r ≠ []))] 53 (0, 0))] [] := K
      refine ⟨fun i W2 => ∃ k : Nat, i = ((k + 1 : Nat) : Int) ∧ k ≤ 3 ∧ Hold w23 W2 [(b32, .cells #[.string (bS nm), .int .i64 (kindUp wd k), .bool (decide (r ≠ []))] 53 (0, 0))] [], fun i _ => 4 - i.toNat, ⟨0, rfl, by decide, by rw [kindUp_zero]; exact K⟩, ?_⟩
      clear K
      rintro i W2 ⟨k, rfl, hk, K⟩
      refine ⟨fun hlt3 => ?_, fun hgt3 => ?_⟩
      · intro w46 hD
        replace K := K.step (Drew.ext hD)
        have hk3 : k < 3 := by omega
        refine ⟨b2, o2, hp2, by decide, by omega, _, cell_ext hcell1 K.ext, ?_⟩
        refine (r5kinds_ok (k := ((k + 1 : Nat) : Int)) (by omega) w46).mono ?_
        rintro e w52 ⟨rfl, eT⟩
        replace K := K.step eT
        refine ⟨_, rfl, eT.same, fun he => ⟨⟨_, K.get 0 rfl rfl⟩, K.frz 0 rfl, ?_⟩, fun hne => ?_⟩
        · intro w56 hP2
          replace K := K.put 0 rfl hP2
          have hw : wd = wordL ((k + 1 : Nat) : Int) := bS_inj he
          rw [i64_next (by omega)]
          refine ⟨⟨k + 1, rfl, by omega, ?_⟩, by first | omega | (simp only [Int.toNat_natCast]; omega)⟩
          rw [kindUp_hit hk3 hw]
          exact K
        · have hw : wd ≠ wordL ((k + 1 : Nat) : Int) := fun e => hne (by rw [e])
          rw [i64_next (by omega)]
          refine ⟨⟨k + 1, rfl, by omega, ?_⟩, by first | omega | (simp only [Int.toNat_natCast]; omega)⟩
          rw [kindUp_miss hk3 hw]
          exact K
      · have hk3 : k = 3 := by omega
        subst hk3
        rw [kindUp_all] at K
        refine ⟨_, K.get 0 rfl rfl, _, K.get 0 rfl rfl, _, K.get 0 rfl rfl, ?_⟩
        replace H := H.step K.ext
        intro b63 w64 h63
        replace H := H.new h63
        obtain ⟨p', c', w69, hrun, H1⟩ := H.append (ty := 22) (P := Tryd.prog) (q := some ⟨b63, 0, none⟩) (m := 1) (d' := 1) (news := Col.cs ⟨bS nm, wordK wd, decide (r ≠ [])⟩) 0 rfl undCols tyCol rfl (by decide) (H.blk 0 rfl).at rfl (fun e => by cases e) (Col.cs_one _) (by show ((cs.length + 1) + (cs.length + 1) / 4 + 192) * 32 ≤ 281474976710656; omega) (by unfold maxLen; omega)
        refine ⟨_, _, _, _, hrun, ?_⟩
        rw [i64_next (by omega)]
        rw [hloose] at hsnoc
        simp only [Option.map_some] at hsnoc
        refine ⟨⟨j + 1, cs ++ [⟨bS nm, wordK wd, decide (r ≠ [])⟩], rfl, by omega, by rw [List.length_append]; rfl, hsnoc, ?_⟩, by first | omega | (simp only [Int.toNat_natCast]; omega)⟩
        rw [List.flatMap_append]
        have := H1.tail
        simpa using this
  · have hjn : j = n4 := by omega
    have htk : L.take j = L := List.take_of_length_le (by omega)
    rw [htk] at hcs
    have hcols : Cols W q cs.length d cs := hold_cols H 0 rfl rfl
    have hnm := loose_names hcs (L := L) (fun t ht => by have := parts_size 44 (tB s) t (by rw [hL]; exact ht); rw [tB_length] at this; omega)
    refine (r5show_ok hcols (fun x hx => by have := hnm x hx; omega)).mono ?_
    rintro e w170 ⟨rfl, eV⟩
    rw [hcs] at hP
    dsimp only at hP
    refine ⟨_, _, rfl, fun hne => bad (e1.trans (H.ext.trans eV)) ?_, fun heq => ?_⟩
    · rw [hP, if_neg]
      rintro ⟨h1, h2⟩
      have hS2 : showS cs = (bS (showL cs), 0) := by unfold showS; rw [if_pos h1]
      rw [hS2] at hne
      rcases hne with h | h
      · exact h rfl
      · exact h h2
    · have hr : rightC cs = true := by
        cases hr : rightC cs with
        | true => rfl
        | false =>
          have : showS cs = (⟨#[]⟩, 50) := by unfold showS; rw [hr]; rfl
          rw [this] at heq
          exact absurd heq.1 (by decide)
      have hS2 : showS cs = (bS (showL cs), 0) := by unfold showS; rw [if_pos hr]
      rw [hS2] at heq
      rw [hP, if_pos ⟨hr, heq.2⟩]
      exact ⟨_, _, _, rfl, hcols.ext eV, e1.trans (H.ext.trans eV)⟩
end Go.Proofs.YtiojkfckaalooaaDoor

/- The laws of schema: Texts, Back. -/
namespace Go.Proofs.YtiojkfckaalooaaDoor
open Go Go.Vc Go.RowKit
set_option maxRecDepth 20000
attribute [local irreducible] Calls Put Drew New

theorem lawTexts_ok {w : World} (hT : WTab w) (hM : MTab w) {p : Option Addr} {n c : Nat} {cols : List Col} (hc : Cols w p n c cols) (hcs : ∀ x ∈ cols, x.name.size ≤ 9223372036854775807) (s : ByteArray) (hs : s.size ≤ 100000000) :
    Calls Tryd.prog 8 #[.slice p n c, .string s] w fun e w' => e = .returned (.bool true) ∧ Ext w w' := by
  apply lawTexts_vc
  unfold lawTexts_T
  refine (shown05_ok hT).mono ?_
  rintro e w2 ⟨rfl, e1⟩
  refine ⟨_, rfl, ?_⟩
  refine (sshow_ok (hT.ext e1) (hc.ext e1)).mono ?_
  rintro e w5 ⟨rfl, eS⟩
  replace e1 := e1.trans eS
  refine ⟨_, _, rfl, ?_⟩
  refine (r5show_ok (hc.ext e1) hcs).mono ?_
  rintro e w9 ⟨rfl, eS⟩
  replace e1 := e1.trans eS
  refine ⟨_, _, rfl, ?_⟩
  refine (sparse_ok (hT.ext e1) (hM.ext e1) s hs).mono ?_
  rintro e w13 ⟨p14, n15, c16, rfl, h1, eS⟩
  replace e1 := e1.trans eS
  refine ⟨_, _, _, _, rfl, ?_⟩
  refine (r5parse_ok s hs).mono ?_
  rintro e w19 ⟨p20, n21, c22, rfl, h2, eT⟩
  replace e1 := e1.trans eT
  refine ⟨_, _, _, _, rfl, fun _ => ?_, fun hx => ?_⟩
  · refine (r5same_ok w19 (h1.ext eT) h2).mono ?_
    rintro e w26 ⟨rfl, eU⟩
    refine ⟨_, rfl, ?_, e1.trans eU⟩
    simp
  · exfalso
    rcases hx with (hx | hx) | hx
    · cases hx
    · exact hx rfl
    · exact hx rfl
end Go.Proofs.YtiojkfckaalooaaDoor

/- The walk of SchemaBack: the world's shape gives the search's variable. -/
namespace Go.Proofs.YtiojkfckaalooaaDoor
open Go Go.Vc Go.RowKit
set_option maxRecDepth 20000
attribute [local irreducible] Calls Put Drew New

theorem mtab_of {W : World} (h : W.ShapedOpen Tryd.prog) : MTab W :=
  cell_of_shapedOpen_int (P := Tryd.prog) (g := 1) (t := 3) (zero := #[.int .i64 0]) h (of_decide_eq_true (by kernel_rfl)) (by kernel_rfl) rfl (by kernel_rfl) (by kernel_rfl) (by kernel_rfl)
end Go.Proofs.YtiojkfckaalooaaDoor

/- The walk of SchemaTexts, second form: the text's bulk. -/
namespace Go.Proofs.YtiojkfckaalooaaDoor
open Go Go.Vc Go.RowKit
set_option maxRecDepth 20000
attribute [local irreducible] Calls Put Drew New

theorem string_bulk {H : Type} {enc : TypeId × Value → H} {P : Program} {W : World} {base : Nat} {spare : Nat → Bool} {held : Bool} {fuel : Nat} {t : TypeId} {s : ByteArray} {d : DataW H} {p : List MemPlace} (ht : P.underlying t = some .string)
    (h : DataW.trod enc P W base spare held fuel t [.string s] = some (d, p)) : s.size + 1 ≤ Rows.uptoBulk d := by
  obtain ⟨s', e, hx, _⟩ := DataW.trod_string ht h
  cases e
  have := congrArg Prod.fst hx
  dsimp only at this
  rw [this, Rows.uptoBulk]
  have hl := tB_length s
  show s.size + 1 ≤ (tB s).length + 1
  omega
theorem texts_walk (W : World) (hT : WTab W) (hM : MTab W) (v0 v1 : Value) (a0 : Arg Tryd.prog W 22 [v0]) (a1 : Arg Tryd.prog W 9 [v1]) (b1 : ∀ s, v1 = .string s → s.size ≤ 1048576) :
    Calls Tryd.prog 8 #[v0, v1] W fun e w' => e = .returned (.bool true) ∧ Ext W w' := by
  obtain ⟨p, n, c, cols, rfl, hc, hs⟩ := arg_cols a0
  obtain ⟨s, rfl, _⟩ := arg_string a1
  have := b1 s rfl
  exact lawTexts_ok hT hM hc hs s (by omega)
theorem tabs_texts {W : World} (h : laidMetH Tryd.prog Rows.schemaTextsUptoRow.laid W) : WTab W := wtab_of (L := Rows.schemaTextsUptoRow.laid) (by simp [Rows.schemaTextsUptoRow]) h
end Go.Proofs.YtiojkfckaalooaaDoor

/- Three closed facts of the seat's program, asked once: they want much memory. -/
namespace Go.Proofs.YtiojkfckaalooaaDoor
set_option maxRecDepth 100000 in
theorem Tryd.entersB : (Tryd.prog.mayEnter && (false == Tryd.prog.liftsFinal) && (Tryd.prog.make == some .cut)) = true := by kernel_rfl
theorem Tryd.enters : Tryd.prog.mayEnter = true ∧ Tryd.prog.liftsFinal = false ∧ Tryd.prog.make = some .cut := by
  have h := Tryd.entersB
  simp only [Bool.and_eq_true, beq_iff_eq] at h
  exact ⟨h.1.1, h.1.2.symm, h.2⟩
end Go.Proofs.YtiojkfckaalooaaDoor
