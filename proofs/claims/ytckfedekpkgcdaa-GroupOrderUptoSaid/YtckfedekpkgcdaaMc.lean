/- Texts of the proof, one behind the other. -/
import Derived.Test.YtckfedekpkgcdaaMb
import Derived.Laws.Externs
import Derived.MapKept
import Derived.Test.YtckfedekpkgcdaaRows
import Derived.Deep.Slices
import Derived.Deep.SlicePairs
set_option linter.unusedVariables false
set_option linter.unusedSimpArgs false
/- The verification conditions of the functions, evaluated: printed by program. -/
namespace Go.Proofs.Ytckfedekpkgcdaa
open Go Go.Vc
set_option maxRecDepth 20000

set_option maxRecDepth 100000 in
def gnew_T (aggs_p : Option Addr) (aggs_n : Nat) (aggs_c : Nat) (w : World) (R : Ending → World → Prop) : Prop :=
  (16 < (↑aggs_n : Int) → R (.returned (.tuple #[.pointer none, .int .i64 2])) w) ∧ ((↑aggs_n : Int) ≤ 16 → Calls Try.prog 26 #[.slice aggs_p aggs_n aggs_c, .func (Fn.func 27) #[] #[]] w fun e3 w4 ↦
 ∃ b5, e3 = .returned (.bool b5) ∧ (b5 = true → R (.returned (.tuple #[.pointer none, .int .i64 2])) w4) ∧ (b5 = false → Calls Try.prog 28 #[.slice aggs_p aggs_n aggs_c] w4 fun e8 w9 ↦
 ∃ p10 n11 c12, e8 = .returned (.slice p10 n11 c12) ∧ ∀ b13 w'14, New w9 (Obj.map #[] 0) b13 w'14 → ∀ b16 w'17, New w'14 (Obj.cells #[.slice p10 n11 c12, .map (some b13), .slice none 0 0] 61) b16 w'17 → R (.returned (.tuple #[.pointer (some ⟨b16, 0, none⟩), .int .i64 0])) w'17))

set_option maxRecDepth 100000 in
theorem gnew_eq (aggs_p : Option Addr) (aggs_n : Nat) (aggs_c : Nat) (w : World) (R : Ending → World → Prop) : gnew_T aggs_p aggs_n aggs_c w R = vcFn Try.prog [] [] Try.f13 [.slice aggs_p aggs_n aggs_c] w R := by kernel_rfl

set_option maxRecDepth 100000 in
theorem gnew_vc (aggs_p : Option Addr) (aggs_n : Nat) (aggs_c : Nat) (w : World) (R : Ending → World → Prop) (hvc : gnew_T aggs_p aggs_n aggs_c w R) : Calls Try.prog 13 #[.slice aggs_p aggs_n aggs_c] w R :=
  calls_of_vc (args := [.slice aggs_p aggs_n aggs_c]) [] [] Try.mixed Try.func13 (cast (gnew_eq _ _ _ w R) hvc)

set_option maxRecDepth 100000 in
def gnew1_T (a : Int) (w : World) (R : Ending → World → Prop) : Prop :=
  R (.returned (.bool (decide (a < 1) || decide (5 < a)))) w

set_option maxRecDepth 100000 in
theorem gnew1_eq (a : Int) (w : World) (R : Ending → World → Prop) : gnew1_T a w R = vcFn Try.prog [] [] Try.f27 [.int .i64 a] w R := by kernel_rfl

set_option maxRecDepth 100000 in
theorem gnew1_vc (a : Int) (w : World) (R : Ending → World → Prop) (hvc : gnew1_T a w R) : Calls Try.prog 27 #[.int .i64 a] w R :=
  calls_of_vc (args := [.int .i64 a]) [] [] Try.mixed Try.func27 (cast (gnew1_eq _ w R) hvc)

set_option maxRecDepth 100000 in
def cfint_T (s_p : Option Addr) (s_n : Nat) (s_c : Nat) (w : World) (R : Ending → World → Prop) : Prop :=
  Calls Try.prog 37 #[.slice s_p s_n s_c, .func (Fn.func 27) #[] #[]] w fun e1 w2 ↦
 ∃ n3, e1 = .returned (.int .i64 n3) ∧ R (.returned (.bool (decide (0 ≤ n3)))) w2

set_option maxRecDepth 100000 in
theorem cfint_eq (s_p : Option Addr) (s_n : Nat) (s_c : Nat) (w : World) (R : Ending → World → Prop) : cfint_T s_p s_n s_c w R = vcFn Try.prog [] [] Try.f26 [.slice s_p s_n s_c, .func (Fn.func 27) #[] #[]] w R := by kernel_rfl

set_option maxRecDepth 100000 in
theorem cfint_vc (s_p : Option Addr) (s_n : Nat) (s_c : Nat) (w : World) (R : Ending → World → Prop) (hvc : cfint_T s_p s_n s_c w R) : Calls Try.prog 26 #[.slice s_p s_n s_c, .func (Fn.func 27) #[] #[]] w R :=
  calls_of_vc (args := [.slice s_p s_n s_c, .func (Fn.func 27) #[] #[]]) [] [] Try.mixed Try.func26 (cast (cfint_eq _ _ _ w R) hvc)

set_option maxRecDepth 100000 in
def ifint_T (s_p : Option Addr) (s_n : Nat) (s_c : Nat) (w : World) (R : Ending → World → Prop) : Prop :=
  ∃ (I1 : Int → World → Prop), ∃ (M2 : Int → World → Nat), I1 0 w ∧ ∀ (n3 : Int) (w'4 : World), I1 n3 w'4 → (n3 < (↑s_n : Int) → ∃ b7, ∃ o8, s_p = some ⟨b7, o8, none⟩ ∧ 0 ≤ n3 ∧ n3 < (↑s_n : Int) ∧ ∃ n9, w'4.cell? ⟨b7, (o8 + n3.toNat), none⟩ = some (.int .i64 n9) ∧ Calls Try.prog 27 #[.int .i64 n9] w'4 fun e10 w11 ↦
 ∃ b12, e10 = .returned (.bool b12) ∧ (b12 = true → R (.returned (.int .i64 n3)) w11) ∧ (b12 = false → I1 (IntKind.i64.wrap (n3 + 1)) w11 ∧ M2 (IntKind.i64.wrap (n3 + 1)) w11 < M2 n3 w'4)) ∧ ((↑s_n : Int) ≤ n3 → R (.returned (.int .i64 (-1))) w'4)

set_option maxRecDepth 100000 in
theorem ifint_eq (s_p : Option Addr) (s_n : Nat) (s_c : Nat) (w : World) (R : Ending → World → Prop) : ifint_T s_p s_n s_c w R = vcFn Try.prog [] [] Try.f37 [.slice s_p s_n s_c, .func (Fn.func 27) #[] #[]] w R := by kernel_rfl

set_option maxRecDepth 100000 in
theorem ifint_vc (s_p : Option Addr) (s_n : Nat) (s_c : Nat) (w : World) (R : Ending → World → Prop) (hvc : ifint_T s_p s_n s_c w R) : Calls Try.prog 37 #[.slice s_p s_n s_c, .func (Fn.func 27) #[] #[]] w R :=
  calls_of_vc (args := [.slice s_p s_n s_c, .func (Fn.func 27) #[] #[]]) [] [] Try.mixed Try.func37 (cast (ifint_eq _ _ _ w R) hvc)

set_option maxRecDepth 100000 in
def cloneint_T (s_p : Option Addr) (s_n : Nat) (s_c : Nat) (w : World) (R : Ending → World → Prop) : Prop :=
  (s_p.isNone = true → R (.returned (.slice none 0 0)) w) ∧ (s_p.isNone = false → ∀ b3 w'4, New w (Obj.cells #[] 3) b3 w'4 → ∃ p6 n7 c8, ∃ (w'9 : World), Sem.run Try.prog (Builtin.append_ #[22, 22] 22 #[.slice (some ⟨b3, 0, none⟩) 0 0, .slice s_p s_n s_c]) w'4 = Result.ok (.slice p6 n7 c8) w'9 ∧ R (.returned (.slice p6 n7 c8)) w'9)

set_option maxRecDepth 100000 in
theorem cloneint_eq (s_p : Option Addr) (s_n : Nat) (s_c : Nat) (w : World) (R : Ending → World → Prop) : cloneint_T s_p s_n s_c w R = vcFn Try.prog [] [] Try.f28 [.slice s_p s_n s_c] w R := by kernel_rfl

set_option maxRecDepth 100000 in
theorem cloneint_vc (s_p : Option Addr) (s_n : Nat) (s_c : Nat) (w : World) (R : Ending → World → Prop) (hvc : cloneint_T s_p s_n s_c w R) : Calls Try.prog 28 #[.slice s_p s_n s_c] w R :=
  calls_of_vc (args := [.slice s_p s_n s_c]) [] [] Try.mixed Try.func28 (cast (cloneint_eq _ _ _ w R) hvc)

set_option maxRecDepth 100000 in
def clonerow_T (s_p : Option Addr) (s_n : Nat) (s_c : Nat) (w : World) (R : Ending → World → Prop) : Prop :=
  (s_p.isNone = true → R (.returned (.slice none 0 0)) w) ∧ (s_p.isNone = false → ∀ b3 w'4, New w (Obj.cells #[] 42) b3 w'4 → ∃ p6 n7 c8, ∃ (w'9 : World), Sem.run Try.prog (Builtin.append_ #[29, 29] 29 #[.slice (some ⟨b3, 0, none⟩) 0 0, .slice s_p s_n s_c]) w'4 = Result.ok (.slice p6 n7 c8) w'9 ∧ R (.returned (.slice p6 n7 c8)) w'9)

set_option maxRecDepth 100000 in
theorem clonerow_eq (s_p : Option Addr) (s_n : Nat) (s_c : Nat) (w : World) (R : Ending → World → Prop) : clonerow_T s_p s_n s_c w R = vcFn Try.prog [] [] Try.f25 [.slice s_p s_n s_c] w R := by kernel_rfl

set_option maxRecDepth 100000 in
theorem clonerow_vc (s_p : Option Addr) (s_n : Nat) (s_c : Nat) (w : World) (R : Ending → World → Prop) (hvc : clonerow_T s_p s_n s_c w R) : Calls Try.prog 25 #[.slice s_p s_n s_c] w R :=
  calls_of_vc (args := [.slice s_p s_n s_c]) [] [] Try.mixed Try.func25 (cast (clonerow_eq _ _ _ w R) hvc)

set_option maxRecDepth 100000 in
def gbytesof_T (row_p : Option Addr) (row_n : Nat) (row_c : Nat) (w : World) (R : Ending → World → Prop) : Prop :=
  ∃ (I1 : Option Addr → Nat → Nat → Int → World → Prop), ∃ (M2 : Option Addr → Nat → Nat → Int → World → Nat), I1 none 0 0 0 w ∧ ∀ (p3 : Option Addr) (n4 c5 : Nat) (n6 : Int) (w'7 : World), I1 p3 n4 c5 n6 w'7 → (n6 < (↑row_n : Int) → ∃ b10, ∃ o11, row_p = some ⟨b10, o11, none⟩ ∧ 0 ≤ n6 ∧ n6 < (↑row_n : Int) ∧ ∃ n12, w'7.cell? ⟨b10, (o11 + n6.toNat * 3), none⟩ = some (.int .i64 n12) ∧ ∃ n13, w'7.cell? ⟨b10, (o11 + n6.toNat * 3 + 1), none⟩ = some (.int .i64 n13) ∧ ∃ s14, w'7.cell? ⟨b10, (o11 + n6.toNat * 3 + 2), none⟩ = some (.string s14) ∧ ∀ b15 w'16, New w'7 (Obj.cells #[.int .i64 0, .int .i64 0, .string ⟨#[]⟩] 42) b15 w'16 → (∃ u18, w'16.cell? ⟨b15, 0, none⟩ = some u18) ∧ w'16.frozen? ⟨b15, 0, none⟩ = false ∧ (∃ u19, w'16.cell? ⟨b15, 1, none⟩ = some u19) ∧ w'16.frozen? ⟨b15, 1, none⟩ = false ∧ (∃ u20, w'16.cell? ⟨b15, 2, none⟩ = some u20) ∧ w'16.frozen? ⟨b15, 2, none⟩ = false ∧ ∀ w'21, Put w'16 b15 0 [.int .i64 n12, .int .i64 n13, .string s14] w'21 → ∃ n23, w'21.cell? ⟨b15, 0, none⟩ = some (.int .i64 n23) ∧ ∃ n24, w'21.cell? ⟨b15, 1, none⟩ = some (.int .i64 n24) ∧ ∃ s25, w'21.cell? ⟨b15, 2, none⟩ = some (.string s25) ∧ Calls Try.prog 38 #[.slice none 0 0, .agg #[.int .i64 n23, .int .i64 n24, .string s25]] w'21 fun e26 w27 ↦
 ∃ p28 n29 c30, ∃ n31, e26 = .returned (.tuple #[.slice p28 n29 c30, .int .i64 n31]) ∧ (n31 ≠ 0 → R (.returned (.tuple #[.string ⟨#[]⟩, .bool false])) w27) ∧ (n31 = 0 → ∃ p34 n35 c36, ∃ (w'37 : World), Sem.run Try.prog (Builtin.append_ #[89, 89] 89 #[.slice p3 n4 c5, .slice p28 n29 c30]) w27 = Result.ok (.slice p34 n35 c36) w'37 ∧ I1 p34 n35 c36 (IntKind.i64.wrap (n6 + 1)) w'37 ∧ M2 p34 n35 c36 (IntKind.i64.wrap (n6 + 1)) w'37 < M2 p3 n4 c5 n6 w'7)) ∧ ((↑row_n : Int) ≤ n6 → ∃ (l39 : List UInt8), BytesAt w'7 p3 n4 l39 ∧ R (.returned (.tuple #[.string (ByteArray.mk (Array.mk l39)), .bool true])) w'7)

set_option maxRecDepth 100000 in
theorem gbytesof_eq (row_p : Option Addr) (row_n : Nat) (row_c : Nat) (w : World) (R : Ending → World → Prop) : gbytesof_T row_p row_n row_c w R = vcFn Try.prog [] [] Try.f29 [.slice row_p row_n row_c] w R := by kernel_rfl

set_option maxRecDepth 100000 in
theorem gbytesof_vc (row_p : Option Addr) (row_n : Nat) (row_c : Nat) (w : World) (R : Ending → World → Prop) (hvc : gbytesof_T row_p row_n row_c w R) : Calls Try.prog 29 #[.slice row_p row_n row_c] w R :=
  calls_of_vc (args := [.slice row_p row_n row_c]) [] [] Try.mixed Try.func29 (cast (gbytesof_eq _ _ _ w R) hvc)

set_option maxRecDepth 100000 in
def gnumber_T (n : Int) (w : World) (R : Ending → World → Prop) : Prop :=
  ∀ b1 w'2, New w (Obj.cells #[.int .i64 0, .int .i64 0, .string ⟨#[]⟩] 42) b1 w'2 → (∃ u4, w'2.cell? ⟨b1, 0, none⟩ = some u4) ∧ w'2.frozen? ⟨b1, 0, none⟩ = false ∧ (∃ u5, w'2.cell? ⟨b1, 1, none⟩ = some u5) ∧ w'2.frozen? ⟨b1, 1, none⟩ = false ∧ (∃ u6, w'2.cell? ⟨b1, 2, none⟩ = some u6) ∧ w'2.frozen? ⟨b1, 2, none⟩ = false ∧ ∀ w'7, Put w'2 b1 0 [.int .i64 1, .int .i64 n, .string ⟨#[]⟩] w'7 → ∃ n9, w'7.cell? ⟨b1, 0, none⟩ = some (.int .i64 n9) ∧ ∃ n10, w'7.cell? ⟨b1, 1, none⟩ = some (.int .i64 n10) ∧ ∃ s11, w'7.cell? ⟨b1, 2, none⟩ = some (.string s11) ∧ R (.returned (.agg #[.int .i64 n9, .int .i64 n10, .string s11])) w'7

set_option maxRecDepth 100000 in
theorem gnumber_eq (n : Int) (w : World) (R : Ending → World → Prop) : gnumber_T n w R = vcFn Try.prog [] [] Try.f36 [.int .i64 n] w R := by kernel_rfl

set_option maxRecDepth 100000 in
theorem gnumber_vc (n : Int) (w : World) (R : Ending → World → Prop) (hvc : gnumber_T n w R) : Calls Try.prog 36 #[.int .i64 n] w R :=
  calls_of_vc (args := [.int .i64 n]) [] [] Try.mixed Try.func36 (cast (gnumber_eq _ w R) hvc)

set_option maxRecDepth 100000 in
def gfits_T (t : Option Addr) (vals_p : Option Addr) (vals_n : Nat) (vals_c : Nat) (w : World) (R : Ending → World → Prop) : Prop :=
  ∃ b1, ∃ o2, t = some ⟨b1, o2, none⟩ ∧ ∃ p3 n4 c5, w.cell? ⟨b1, o2, none⟩ = some (.slice p3 n4 c5) ∧ ((↑vals_n : Int) ≠ (↑n4 : Int) → R (.returned (.bool false)) w) ∧ ((↑vals_n : Int) = (↑n4 : Int) → ∃ (I8 : Int → World → Prop), ∃ (M9 : Int → World → Nat), I8 0 w ∧ ∀ (n10 : Int) (w'11 : World), I8 n10 w'11 → (n10 < (↑vals_n : Int) → ∃ b14, ∃ o15, vals_p = some ⟨b14, o15, none⟩ ∧ 0 ≤ n10 ∧ n10 < (↑vals_n : Int) ∧ ∃ n16, w'11.cell? ⟨b14, (o15 + n10.toNat * 3), none⟩ = some (.int .i64 n16) ∧ ∃ n17, w'11.cell? ⟨b14, (o15 + n10.toNat * 3 + 1), none⟩ = some (.int .i64 n17) ∧ ∃ s18, w'11.cell? ⟨b14, (o15 + n10.toNat * 3 + 2), none⟩ = some (.string s18) ∧ ∀ b19 w'20, New w'11 (Obj.cells #[.int .i64 0, .int .i64 0, .string ⟨#[]⟩] 42) b19 w'20 → (∃ u22, w'20.cell? ⟨b19, 0, none⟩ = some u22) ∧ w'20.frozen? ⟨b19, 0, none⟩ = false ∧ (∃ u23, w'20.cell? ⟨b19, 1, none⟩ = some u23) ∧ w'20.frozen? ⟨b19, 1, none⟩ = false ∧ (∃ u24, w'20.cell? ⟨b19, 2, none⟩ = some u24) ∧ w'20.frozen? ⟨b19, 2, none⟩ = false ∧ ∀ w'25, Put w'20 b19 0 [.int .i64 n16, .int .i64 n17, .string s18] w'25 → ∃ n27, w'25.cell? ⟨b19, 0, none⟩ = some (.int .i64 n27) ∧ ∃ n28, w'25.cell? ⟨b19, 1, none⟩ = some (.int .i64 n28) ∧ ∃ s29, w'25.cell? ⟨b19, 2, none⟩ = some (.string s29) ∧ Calls Try.prog 39 #[.agg #[.int .i64 n27, .int .i64 n28, .string s29]] w'25 fun e30 w31 ↦
 ∃ b32, e30 = .returned (.bool b32) ∧ (b32 = false → R (.returned (.bool false)) w31) ∧ (b32 = true → ∃ b35, ∃ o36, t = some ⟨b35, o36, none⟩ ∧ ∃ p37 n38 c39, w31.cell? ⟨b35, o36, none⟩ = some (.slice p37 n38 c39) ∧ ∃ b40, ∃ o41, p37 = some ⟨b40, o41, none⟩ ∧ 0 ≤ n10 ∧ n10 < (↑n38 : Int) ∧ ∃ n42, w31.cell? ⟨b40, (o41 + n10.toNat), none⟩ = some (.int .i64 n42) ∧ (n42 = 3 → ∃ n44, w31.cell? ⟨b19, 0, none⟩ = some (.int .i64 n44) ∧ (n44 ≠ 1 → ∃ n46, w31.cell? ⟨b19, 0, none⟩ = some (.int .i64 n46) ∧ (n46 ≠ 0 → R (.returned (.bool false)) w31) ∧ (n46 = 0 → I8 (IntKind.i64.wrap (n10 + 1)) w31 ∧ M9 (IntKind.i64.wrap (n10 + 1)) w31 < M9 n10 w'11)) ∧ (n44 = 1 → I8 (IntKind.i64.wrap (n10 + 1)) w31 ∧ M9 (IntKind.i64.wrap (n10 + 1)) w31 < M9 n10 w'11)) ∧ (n42 ≠ 3 → I8 (IntKind.i64.wrap (n10 + 1)) w31 ∧ M9 (IntKind.i64.wrap (n10 + 1)) w31 < M9 n10 w'11))) ∧ ((↑vals_n : Int) ≤ n10 → R (.returned (.bool true)) w'11))

set_option maxRecDepth 100000 in
theorem gfits_eq (t : Option Addr) (vals_p : Option Addr) (vals_n : Nat) (vals_c : Nat) (w : World) (R : Ending → World → Prop) : gfits_T t vals_p vals_n vals_c w R = vcFn Try.prog [] [] Try.f30 [.pointer t, .slice vals_p vals_n vals_c] w R := by kernel_rfl

set_option maxRecDepth 100000 in
theorem gfits_vc (t : Option Addr) (vals_p : Option Addr) (vals_n : Nat) (vals_c : Nat) (w : World) (R : Ending → World → Prop) (hvc : gfits_T t vals_p vals_n vals_c w R) : Calls Try.prog 30 #[.pointer t, .slice vals_p vals_n vals_c] w R :=
  calls_of_vc (args := [.pointer t, .slice vals_p vals_n vals_c]) [] [] Try.mixed Try.func30 (cast (gfits_eq _ _ _ _ w R) hvc)

set_option maxRecDepth 100000 in
def gadd_T (g : Option Addr) (v0 : Int) (v1 : Int) (v2 : ByteArray) (w : World) (R : Ending → World → Prop) : Prop :=
  ∀ b1 w'2, New w (Obj.cells #[.int .i64 v0, .int .i64 v1, .string v2] 42) b1 w'2 → ∃ b4, ∃ o5, g = some ⟨b4, o5, none⟩ ∧ ∃ n6, w'2.cell? ⟨b4, o5, none⟩ = some (.int .i64 n6) ∧ ∃ b7, ∃ o8, g = some ⟨b7, o8, none⟩ ∧ (∃ u9, w'2.cell? ⟨b7, o8, none⟩ = some u9) ∧ w'2.frozen? ⟨b7, o8, none⟩ = false ∧ ∀ w'10, Put w'2 b7 o8 [.int .i64 (IntKind.i64.wrap (n6 + 1))] w'10 → ∃ n12, w'10.cell? ⟨b1, 0, none⟩ = some (.int .i64 n12) ∧ (n12 = 0 → R (.returned (.tuple #[])) w'10) ∧ (n12 ≠ 0 → ∃ (J15 : World → Prop), (∀ w'16, Drew w'10 w'16 → ∃ b18, ∃ o19, g = some ⟨b18, o19, none⟩ ∧ ∃ n20, w'16.cell? ⟨b18, (o19 + 1), none⟩ = some (.int .i64 n20) ∧ (n20 = 0 → ∃ n22, w'16.cell? ⟨b1, 0, none⟩ = some (.int .i64 n22) ∧ ∃ n23, w'16.cell? ⟨b1, 1, none⟩ = some (.int .i64 n23) ∧ ∃ s24, w'16.cell? ⟨b1, 2, none⟩ = some (.string s24) ∧ ∃ b25, ∃ o26, g = some ⟨b25, o26, none⟩ ∧ (∃ u27, w'16.cell? ⟨b25, (o26 + 4), none⟩ = some u27) ∧ w'16.frozen? ⟨b25, (o26 + 4), none⟩ = false ∧ (∃ u28, w'16.cell? ⟨b25, (o26 + 4 + 1), none⟩ = some u28) ∧ w'16.frozen? ⟨b25, (o26 + 4 + 1), none⟩ = false ∧ (∃ u29, w'16.cell? ⟨b25, (o26 + 4 + 2), none⟩ = some u29) ∧ w'16.frozen? ⟨b25, (o26 + 4 + 2), none⟩ = false ∧ ∀ w'30, Put w'16 b25 (o26 + 4) [.int .i64 n22, .int .i64 n23, .string s24] w'30 → J15 w'30) ∧ (n20 ≠ 0 → ∃ n33, w'16.cell? ⟨b1, 0, none⟩ = some (.int .i64 n33) ∧ ∃ n34, w'16.cell? ⟨b1, 1, none⟩ = some (.int .i64 n34) ∧ ∃ s35, w'16.cell? ⟨b1, 2, none⟩ = some (.string s35) ∧ ∃ b36, ∃ o37, g = some ⟨b36, o37, none⟩ ∧ ∃ n38, w'16.cell? ⟨b36, (o37 + 4), none⟩ = some (.int .i64 n38) ∧ ∃ n39, w'16.cell? ⟨b36, (o37 + 4 + 1), none⟩ = some (.int .i64 n39) ∧ ∃ s40, w'16.cell? ⟨b36, (o37 + 4 + 2), none⟩ = some (.string s40) ∧ Calls Try.prog 40
 #[.agg #[.int .i64 n33, .int .i64 n34, .string s35], .agg #[.int .i64 n38, .int .i64 n39, .string s40]]
 w'16 fun e41 w42 ↦
 ∃ n43, e41 = .returned (.int .i64 n43) ∧ (n43 < 0 → ∃ n45, w42.cell? ⟨b1, 0, none⟩ = some (.int .i64 n45) ∧ ∃ n46, w42.cell? ⟨b1, 1, none⟩ = some (.int .i64 n46) ∧ ∃ s47, w42.cell? ⟨b1, 2, none⟩ = some (.string s47) ∧ ∃ b48, ∃ o49, g = some ⟨b48, o49, none⟩ ∧ (∃ u50, w42.cell? ⟨b48, (o49 + 4), none⟩ = some u50) ∧ w42.frozen? ⟨b48, (o49 + 4), none⟩ = false ∧ (∃ u51, w42.cell? ⟨b48, (o49 + 4 + 1), none⟩ = some u51) ∧ w42.frozen? ⟨b48, (o49 + 4 + 1), none⟩ = false ∧ (∃ u52, w42.cell? ⟨b48, (o49 + 4 + 2), none⟩ = some u52) ∧ w42.frozen? ⟨b48, (o49 + 4 + 2), none⟩ = false ∧ ∀ w'53, Put w42 b48 (o49 + 4) [.int .i64 n45, .int .i64 n46, .string s47] w'53 → J15 w'53) ∧ (0 ≤ n43 → J15 w42))) ∧ ∀ (w'56 : World), J15 w'56 → ∃ (J58 : World → Prop), (∀ w'59, Drew w'56 w'59 → ∃ b61, ∃ o62, g = some ⟨b61, o62, none⟩ ∧ ∃ n63, w'59.cell? ⟨b61, (o62 + 1), none⟩ = some (.int .i64 n63) ∧ (n63 = 0 → ∃ n65, w'59.cell? ⟨b1, 0, none⟩ = some (.int .i64 n65) ∧ ∃ n66, w'59.cell? ⟨b1, 1, none⟩ = some (.int .i64 n66) ∧ ∃ s67, w'59.cell? ⟨b1, 2, none⟩ = some (.string s67) ∧ ∃ b68, ∃ o69, g = some ⟨b68, o69, none⟩ ∧ (∃ u70, w'59.cell? ⟨b68, (o69 + 7), none⟩ = some u70) ∧ w'59.frozen? ⟨b68, (o69 + 7), none⟩ = false ∧ (∃ u71, w'59.cell? ⟨b68, (o69 + 7 + 1), none⟩ = some u71) ∧ w'59.frozen? ⟨b68, (o69 + 7 + 1), none⟩ = false ∧ (∃ u72, w'59.cell? ⟨b68, (o69 + 7 + 2), none⟩ = some u72) ∧ w'59.frozen? ⟨b68, (o69 + 7 + 2), none⟩ = false ∧ ∀ w'73, Put w'59 b68 (o69 + 7) [.int .i64 n65, .int .i64 n66, .string s67] w'73 → J58 w'73) ∧ (n63 ≠ 0 → ∃ n76, w'59.cell? ⟨b1, 0, none⟩ = some (.int .i64 n76) ∧ ∃ n77, w'59.cell? ⟨b1, 1, none⟩ = some (.int .i64 n77) ∧ ∃ s78, w'59.cell? ⟨b1, 2, none⟩ = some (.string s78) ∧ ∃ b79, ∃ o80, g = some ⟨b79, o80, none⟩ ∧ ∃ n81, w'59.cell? ⟨b79, (o80 + 7), none⟩ = some (.int .i64 n81) ∧ ∃ n82, w'59.cell? ⟨b79, (o80 + 7 + 1), none⟩ = some (.int .i64 n82) ∧ ∃ s83, w'59.cell? ⟨b79, (o80 + 7 + 2), none⟩ = some (.string s83) ∧ Calls Try.prog 40
 #[.agg #[.int .i64 n76, .int .i64 n77, .string s78], .agg #[.int .i64 n81, .int .i64 n82, .string s83]]
 w'59 fun e84 w85 ↦
 ∃ n86, e84 = .returned (.int .i64 n86) ∧ (0 < n86 → ∃ n88, w85.cell? ⟨b1, 0, none⟩ = some (.int .i64 n88) ∧ ∃ n89, w85.cell? ⟨b1, 1, none⟩ = some (.int .i64 n89) ∧ ∃ s90, w85.cell? ⟨b1, 2, none⟩ = some (.string s90) ∧ ∃ b91, ∃ o92, g = some ⟨b91, o92, none⟩ ∧ (∃ u93, w85.cell? ⟨b91, (o92 + 7), none⟩ = some u93) ∧ w85.frozen? ⟨b91, (o92 + 7), none⟩ = false ∧ (∃ u94, w85.cell? ⟨b91, (o92 + 7 + 1), none⟩ = some u94) ∧ w85.frozen? ⟨b91, (o92 + 7 + 1), none⟩ = false ∧ (∃ u95, w85.cell? ⟨b91, (o92 + 7 + 2), none⟩ = some u95) ∧ w85.frozen? ⟨b91, (o92 + 7 + 2), none⟩ = false ∧ ∀ w'96, Put w85 b91 (o92 + 7) [.int .i64 n88, .int .i64 n89, .string s90] w'96 → J58 w'96) ∧ (n86 ≤ 0 → J58 w85))) ∧ ∀ (w'99 : World), J58 w'99 → ∃ b101, ∃ o102, g = some ⟨b101, o102, none⟩ ∧ ∃ n103, w'99.cell? ⟨b101, (o102 + 1), none⟩ = some (.int .i64 n103) ∧ ∃ b104, ∃ o105, g = some ⟨b104, o105, none⟩ ∧ (∃ u106, w'99.cell? ⟨b104, (o105 + 1), none⟩ = some u106) ∧ w'99.frozen? ⟨b104, (o105 + 1), none⟩ = false ∧ ∀ w'107, Put w'99 b104 (o105 + 1) [.int .i64 (IntKind.i64.wrap (n103 + 1))] w'107 → ∀ w'109, Drew w'107 w'109 → ∃ b111, ∃ o112, g = some ⟨b111, o112, none⟩ ∧ ∃ n113, w'109.cell? ⟨b111, (o112 + 3), none⟩ = some (.int .u64 n113) ∧ ∃ n114, w'109.cell? ⟨b1, 1, none⟩ = some (.int .i64 n114) ∧ ∃ n115, ∃ n116, ∃ (w'117 : World), Sem.run Try.prog (callFunc 41 #[.int .u64 n113, .int .u64 (IntKind.u64.wrap n114), .int .u64 0]) w'109 =
 Result.ok (Next.value (.tuple #[.int .u64 n115, .int .u64 n116])) w'117 ∧ ∃ b118, ∃ o119, g = some ⟨b118, o119, none⟩ ∧ (∃ u120, w'117.cell? ⟨b118, (o119 + 3), none⟩ = some u120) ∧ w'117.frozen? ⟨b118, (o119 + 3), none⟩ = false ∧ ∀ w'121, Put w'117 b118 (o119 + 3) [.int .u64 n115] w'121 → ∀ w'123, Drew w'121 w'123 → ∃ b125, ∃ o126, g = some ⟨b125, o126, none⟩ ∧ ∃ n127, w'123.cell? ⟨b125, (o126 + 2), none⟩ = some (.int .i64 n127) ∧ ∃ n128, w'123.cell? ⟨b1, 1, none⟩ = some (.int .i64 n128) ∧ ∃ b129, ∃ o130, g = some ⟨b129, o130, none⟩ ∧ (∃ u131, w'123.cell? ⟨b129, (o130 + 2), none⟩ = some u131) ∧ w'123.frozen? ⟨b129, (o130 + 2), none⟩ = false ∧ ∀ w'132, Put w'123 b129 (o130 + 2) [.int .i64 (IntKind.i64.wrap (n127 + IntKind.i64.wrap (shrI IntKind.i64 n128 63 + IntKind.i64.wrap n116)))] w'132 → R (.returned (.tuple #[])) w'132)

set_option maxRecDepth 100000 in
theorem gadd_eq (g : Option Addr) (v0 : Int) (v1 : Int) (v2 : ByteArray) (w : World) (R : Ending → World → Prop) : gadd_T g v0 v1 v2 w R = vcFn Try.prog [5, 7] [(3, [2, 4, 6, 8, 10, 12, 14, 16, 18, 20, 22, 24, 26, 28, 0]), (5, [2, 4, 6, 8, 10, 12, 14, 16, 18, 20, 22, 24, 26, 28, 0]), (8, [2, 4, 6, 8, 10, 12, 14, 16, 18, 20, 22, 24, 26, 0]), (10, [2, 4, 6, 8, 10, 12, 14, 16, 18, 20, 22, 24, 26, 28, 0])] Try.f31 [.pointer g, .agg #[.int .i64 v0, .int .i64 v1, .string v2]] w R := by kernel_rfl

set_option maxRecDepth 100000 in
theorem gadd_vc (g : Option Addr) (v0 : Int) (v1 : Int) (v2 : ByteArray) (w : World) (R : Ending → World → Prop) (hvc : gadd_T g v0 v1 v2 w R) : Calls Try.prog 31 #[.pointer g, .agg #[.int .i64 v0, .int .i64 v1, .string v2]] w R :=
  calls_of_vc (args := [.pointer g, .agg #[.int .i64 v0, .int .i64 v1, .string v2]]) [5, 7] [(3, [2, 4, 6, 8, 10, 12, 14, 16, 18, 20, 22, 24, 26, 28, 0]), (5, [2, 4, 6, 8, 10, 12, 14, 16, 18, 20, 22, 24, 26, 28, 0]), (8, [2, 4, 6, 8, 10, 12, 14, 16, 18, 20, 22, 24, 26, 0]), (10, [2, 4, 6, 8, 10, 12, 14, 16, 18, 20, 22, 24, 26, 28, 0])] Try.mixed Try.func31 (cast (gadd_eq _ _ _ _ w R) hvc)

set_option maxRecDepth 100000 in
def ganswer_T (g : Option Addr) (agg : Int) (w : World) (R : Ending → World → Prop) : Prop :=
  ∀ b1 w'2, New w (Obj.cells #[.int .i64 0, .int .i64 0, .string ⟨#[]⟩] 42) b1 w'2 → (agg = 1 → ∃ b5, ∃ o6, g = some ⟨b5, o6, none⟩ ∧ ∃ n7, w'2.cell? ⟨b5, o6, none⟩ = some (.int .i64 n7) ∧ Calls Try.prog 36 #[.int .i64 n7] w'2 fun e8 w9 ↦
 ∃ n10, ∃ n11, ∃ s12, e8 = .returned (.agg #[.int .i64 n10, .int .i64 n11, .string s12]) ∧ (∃ u13, w9.cell? ⟨b1, 0, none⟩ = some u13) ∧ w9.frozen? ⟨b1, 0, none⟩ = false ∧ (∃ u14, w9.cell? ⟨b1, 1, none⟩ = some u14) ∧ w9.frozen? ⟨b1, 1, none⟩ = false ∧ (∃ u15, w9.cell? ⟨b1, 2, none⟩ = some u15) ∧ w9.frozen? ⟨b1, 2, none⟩ = false ∧ ∀ w'16, Put w9 b1 0 [.int .i64 n10, .int .i64 n11, .string s12] w'16 → ∃ n18, w'16.cell? ⟨b1, 0, none⟩ = some (.int .i64 n18) ∧ ∃ n19, w'16.cell? ⟨b1, 1, none⟩ = some (.int .i64 n19) ∧ ∃ s20, w'16.cell? ⟨b1, 2, none⟩ = some (.string s20) ∧ R (.returned (.tuple #[.agg #[.int .i64 n18, .int .i64 n19, .string s20], .int .i64 0])) w'16) ∧ (agg ≠ 1 → (agg = 2 → ∃ b23, ∃ o24, g = some ⟨b23, o24, none⟩ ∧ ∃ n25, w'2.cell? ⟨b23, (o24 + 1), none⟩ = some (.int .i64 n25) ∧ Calls Try.prog 36 #[.int .i64 n25] w'2 fun e26 w27 ↦
 ∃ n28, ∃ n29, ∃ s30, e26 = .returned (.agg #[.int .i64 n28, .int .i64 n29, .string s30]) ∧ (∃ u31, w27.cell? ⟨b1, 0, none⟩ = some u31) ∧ w27.frozen? ⟨b1, 0, none⟩ = false ∧ (∃ u32, w27.cell? ⟨b1, 1, none⟩ = some u32) ∧ w27.frozen? ⟨b1, 1, none⟩ = false ∧ (∃ u33, w27.cell? ⟨b1, 2, none⟩ = some u33) ∧ w27.frozen? ⟨b1, 2, none⟩ = false ∧ ∀ w'34, Put w27 b1 0 [.int .i64 n28, .int .i64 n29, .string s30] w'34 → ∃ n36, w'34.cell? ⟨b1, 0, none⟩ = some (.int .i64 n36) ∧ ∃ n37, w'34.cell? ⟨b1, 1, none⟩ = some (.int .i64 n37) ∧ ∃ s38, w'34.cell? ⟨b1, 2, none⟩ = some (.string s38) ∧ R (.returned (.tuple #[.agg #[.int .i64 n36, .int .i64 n37, .string s38], .int .i64 0])) w'34) ∧ (agg ≠ 2 → (agg = 4 → ∃ b41, ∃ o42, g = some ⟨b41, o42, none⟩ ∧ ∃ n43, w'2.cell? ⟨b41, (o42 + 4), none⟩ = some (.int .i64 n43) ∧ ∃ n44, w'2.cell? ⟨b41, (o42 + 4 + 1), none⟩ = some (.int .i64 n44) ∧ ∃ s45, w'2.cell? ⟨b41, (o42 + 4 + 2), none⟩ = some (.string s45) ∧ (∃ u46, w'2.cell? ⟨b1, 0, none⟩ = some u46) ∧ w'2.frozen? ⟨b1, 0, none⟩ = false ∧ (∃ u47, w'2.cell? ⟨b1, 1, none⟩ = some u47) ∧ w'2.frozen? ⟨b1, 1, none⟩ = false ∧ (∃ u48, w'2.cell? ⟨b1, 2, none⟩ = some u48) ∧ w'2.frozen? ⟨b1, 2, none⟩ = false ∧ ∀ w'49, Put w'2 b1 0 [.int .i64 n43, .int .i64 n44, .string s45] w'49 → ∃ n51, w'49.cell? ⟨b1, 0, none⟩ = some (.int .i64 n51) ∧ ∃ n52, w'49.cell? ⟨b1, 1, none⟩ = some (.int .i64 n52) ∧ ∃ s53, w'49.cell? ⟨b1, 2, none⟩ = some (.string s53) ∧ R (.returned (.tuple #[.agg #[.int .i64 n51, .int .i64 n52, .string s53], .int .i64 0])) w'49) ∧ (agg ≠ 4 → (agg = 5 → ∃ b56, ∃ o57, g = some ⟨b56, o57, none⟩ ∧ ∃ n58, w'2.cell? ⟨b56, (o57 + 7), none⟩ = some (.int .i64 n58) ∧ ∃ n59, w'2.cell? ⟨b56, (o57 + 7 + 1), none⟩ = some (.int .i64 n59) ∧ ∃ s60, w'2.cell? ⟨b56, (o57 + 7 + 2), none⟩ = some (.string s60) ∧ (∃ u61, w'2.cell? ⟨b1, 0, none⟩ = some u61) ∧ w'2.frozen? ⟨b1, 0, none⟩ = false ∧ (∃ u62, w'2.cell? ⟨b1, 1, none⟩ = some u62) ∧ w'2.frozen? ⟨b1, 1, none⟩ = false ∧ (∃ u63, w'2.cell? ⟨b1, 2, none⟩ = some u63) ∧ w'2.frozen? ⟨b1, 2, none⟩ = false ∧ ∀ w'64, Put w'2 b1 0 [.int .i64 n58, .int .i64 n59, .string s60] w'64 → ∃ n66, w'64.cell? ⟨b1, 0, none⟩ = some (.int .i64 n66) ∧ ∃ n67, w'64.cell? ⟨b1, 1, none⟩ = some (.int .i64 n67) ∧ ∃ s68, w'64.cell? ⟨b1, 2, none⟩ = some (.string s68) ∧ R (.returned (.tuple #[.agg #[.int .i64 n66, .int .i64 n67, .string s68], .int .i64 0])) w'64) ∧ (agg ≠ 5 → ∃ b70, ∃ o71, g = some ⟨b70, o71, none⟩ ∧ ∃ n72, w'2.cell? ⟨b70, (o71 + 3), none⟩ = some (.int .u64 n72) ∧ ∃ b73, ∃ o74, g = some ⟨b73, o74, none⟩ ∧ ∃ n75, w'2.cell? ⟨b73, (o74 + 1), none⟩ = some (.int .i64 n75) ∧ (n75 = 0 → (∃ u77, w'2.cell? ⟨b1, 0, none⟩ = some u77) ∧ w'2.frozen? ⟨b1, 0, none⟩ = false ∧ (∃ u78, w'2.cell? ⟨b1, 1, none⟩ = some u78) ∧ w'2.frozen? ⟨b1, 1, none⟩ = false ∧ (∃ u79, w'2.cell? ⟨b1, 2, none⟩ = some u79) ∧ w'2.frozen? ⟨b1, 2, none⟩ = false ∧ ∀ w'80, Put w'2 b1 0 [.int .i64 0, .int .i64 0, .string ⟨#[]⟩] w'80 → ∃ n82, w'80.cell? ⟨b1, 0, none⟩ = some (.int .i64 n82) ∧ ∃ n83, w'80.cell? ⟨b1, 1, none⟩ = some (.int .i64 n83) ∧ ∃ s84, w'80.cell? ⟨b1, 2, none⟩ = some (.string s84) ∧ R (.returned (.tuple #[.agg #[.int .i64 n82, .int .i64 n83, .string s84], .int .i64 0])) w'80) ∧ (n75 ≠ 0 → ∃ b86, ∃ o87, g = some ⟨b86, o87, none⟩ ∧ ∃ n88, w'2.cell? ⟨b86, (o87 + 2), none⟩ = some (.int .i64 n88) ∧ (n88 ≠ shrI IntKind.i64 (IntKind.i64.wrap n72) 63 → (∃ u90, w'2.cell? ⟨b1, 0, none⟩ = some u90) ∧ w'2.frozen? ⟨b1, 0, none⟩ = false ∧ (∃ u91, w'2.cell? ⟨b1, 1, none⟩ = some u91) ∧ w'2.frozen? ⟨b1, 1, none⟩ = false ∧ (∃ u92, w'2.cell? ⟨b1, 2, none⟩ = some u92) ∧ w'2.frozen? ⟨b1, 2, none⟩ = false ∧ ∀ w'93, Put w'2 b1 0 [.int .i64 0, .int .i64 0, .string ⟨#[]⟩] w'93 → ∃ n95, w'93.cell? ⟨b1, 0, none⟩ = some (.int .i64 n95) ∧ ∃ n96, w'93.cell? ⟨b1, 1, none⟩ = some (.int .i64 n96) ∧ ∃ s97, w'93.cell? ⟨b1, 2, none⟩ = some (.string s97) ∧ R (.returned (.tuple #[.agg #[.int .i64 n95, .int .i64 n96, .string s97], .int .i64 100])) w'93) ∧ (n88 = shrI IntKind.i64 (IntKind.i64.wrap n72) 63 → Calls Try.prog 36 #[.int .i64 (IntKind.i64.wrap n72)] w'2 fun e99 w100 ↦
 ∃ n101, ∃ n102, ∃ s103, e99 = .returned (.agg #[.int .i64 n101, .int .i64 n102, .string s103]) ∧ (∃ u104, w100.cell? ⟨b1, 0, none⟩ = some u104) ∧ w100.frozen? ⟨b1, 0, none⟩ = false ∧ (∃ u105, w100.cell? ⟨b1, 1, none⟩ = some u105) ∧ w100.frozen? ⟨b1, 1, none⟩ = false ∧ (∃ u106, w100.cell? ⟨b1, 2, none⟩ = some u106) ∧ w100.frozen? ⟨b1, 2, none⟩ = false ∧ ∀ w'107, Put w100 b1 0 [.int .i64 n101, .int .i64 n102, .string s103] w'107 → ∃ n109, w'107.cell? ⟨b1, 0, none⟩ = some (.int .i64 n109) ∧ ∃ n110, w'107.cell? ⟨b1, 1, none⟩ = some (.int .i64 n110) ∧ ∃ s111, w'107.cell? ⟨b1, 2, none⟩ = some (.string s111) ∧ R (.returned (.tuple #[.agg #[.int .i64 n109, .int .i64 n110, .string s111], .int .i64 0])) w'107))))))

set_option maxRecDepth 100000 in
theorem ganswer_eq (g : Option Addr) (agg : Int) (w : World) (R : Ending → World → Prop) : ganswer_T g agg w R = vcFn Try.prog [] [] Try.f24 [.pointer g, .int .i64 agg] w R := by kernel_rfl

set_option maxRecDepth 100000 in
theorem ganswer_vc (g : Option Addr) (agg : Int) (w : World) (R : Ending → World → Prop) (hvc : ganswer_T g agg w R) : Calls Try.prog 24 #[.pointer g, .int .i64 agg] w R :=
  calls_of_vc (args := [.pointer g, .int .i64 agg]) [] [] Try.mixed Try.func24 (cast (ganswer_eq _ _ w R) hvc)

set_option maxRecDepth 100000 in
def tadd_T (t : Option Addr) (key_p : Option Addr) (key_n : Nat) (key_c : Nat) (vals_p : Option Addr) (vals_n : Nat) (vals_c : Nat) (w : World) (R : Ending → World → Prop) : Prop :=
  (t.isNone = true → R (.returned (.int .i64 1)) w) ∧ (t.isNone = false → Calls Try.prog 29 #[.slice key_p key_n key_c] w fun e3 w4 ↦
 ∃ s5, ∃ b6, e3 = .returned (.tuple #[.string s5, .bool b6]) ∧ ∃ (J7 : World → Prop), ((b6 = false → R (.returned (.int .i64 2)) w4) ∧ (b6 = true → Calls Try.prog 30 #[.pointer t, .slice vals_p vals_n vals_c] w4 fun e10 w11 ↦
 ∃ b12, e10 = .returned (.bool b12) ∧ (b12 = false → R (.returned (.int .i64 2)) w11) ∧ (b12 = true → ∃ b15, ∃ o16, t = some ⟨b15, o16, none⟩ ∧ ∃ p17 n18 c19, w11.cell? ⟨b15, (o16 + 2), none⟩ = some (.slice p17 n18 c19) ∧ (0 < (↑n18 : Int) → ∃ b21, ∃ o22, t = some ⟨b21, o22, none⟩ ∧ ∃ p23 n24 c25, w11.cell? ⟨b21, (o22 + 2), none⟩ = some (.slice p23 n24 c25) ∧ ∃ b26, ∃ o27, p23 = some ⟨b26, o27, none⟩ ∧ (0 : Int) ≤ 0 ∧ 0 < (↑n24 : Int) ∧ ∃ (p28 : Option Addr), w11.cell? ⟨b26, (o27 + 0), none⟩ = some (.pointer p28) ∧ ∃ b29, ∃ o30, p28 = some ⟨b29, o30, none⟩ ∧ ∃ p31 n32 c33, w11.cell? ⟨b29, o30, none⟩ = some (.slice p31 n32 c33) ∧ ((↑key_n : Int) ≠ (↑n32 : Int) → R (.returned (.int .i64 2)) w11) ∧ ((↑key_n : Int) = (↑n32 : Int) → J7 w11)) ∧ ((↑n18 : Int) ≤ 0 → J7 w11)))) ∧ ∀ (w'37 : World), J7 w'37 → ∃ b39, ∃ o40, t = some ⟨b39, o40, none⟩ ∧ ∃ (r41 : Option Nat), w'37.cell? ⟨b39, (o40 + 1), none⟩ = some (.map r41) ∧ ∃ (p42 : Option Addr), (∀ (w143 : World), Same w'37 w143 → Sem.run Try.prog (Instr.lookup 58 (.map r41) (.string s5) false) w143 = Result.ok (.pointer p42) w143) ∧ ∃ (J45 : Option Addr → World → Prop), ((p42.isNone = true → ∃ b47, ∃ o48, t = some ⟨b47, o48, none⟩ ∧ ∃ p49 n50 c51, w'37.cell? ⟨b47, (o48 + 2), none⟩ = some (.slice p49 n50 c51) ∧ ((↑n50 : Int) = 4096 → R (.returned (.int .i64 130)) w'37) ∧ ((↑n50 : Int) ≠ 4096 → ∃ (J54 : Option Addr → World → Prop), (∀ w'55, Drew w'37 w'55 → ∃ b57, ∃ o58, t = some ⟨b57, o58, none⟩ ∧ ∃ p59 n60 c61, w'55.cell? ⟨b57, o58, none⟩ = some (.slice p59 n60 c61) ∧ (Calls Try.prog 25 #[.slice key_p key_n key_c] w'55 fun e62 w63 ↦
 ∃ p64 n65 c66, e62 = .returned (.slice p64 n65 c66) ∧ SameTo (some [b57]) w'55 w'55 w63 ∧ 0 ≤ (↑n60 : Int) ∧ (↑n60 : Int) ≤ (↑n60 : Int) ∧ 96 * (↑n60 : Int) ≤ 281474976710656 ∧ (↑n60 : Int) ≤ 9223372036854775807 ∧ ∀ b67 w'68, New w63
 (Obj.cells
 (madeCells
 #[.int .i64 0, .int .i64 0, .int .i64 0, .int .u64 0, .int .i64 0, .int .i64 0, .string ⟨#[]⟩, .int .i64 0, .int .i64 0, .string ⟨#[]⟩]
 (n60 * 10))
 69)
 b67 w'68 → ∀ b70 w'71, New w'68 (Obj.cells #[.slice p64 n65 c66, .slice (some ⟨b67, 0, none⟩) n60 n60] 65) b70 w'71 → J54 (some ⟨b70, 0, none⟩) w'71) ∧ 0 ≤ (↑n60 : Int) ∧ (↑n60 : Int) ≤ (↑n60 : Int) ∧ 96 * (↑n60 : Int) ≤ 281474976710656 ∧ (↑n60 : Int) ≤ 9223372036854775807 ∧ ∀ b73 w'74, New w'55
 (Obj.cells
 (madeCells
 #[.int .i64 0, .int .i64 0, .int .i64 0, .int .u64 0, .int .i64 0, .int .i64 0, .string ⟨#[]⟩, .int .i64 0, .int .i64 0, .string ⟨#[]⟩]
 (n60 * 10))
 69)
 b73 w'74 → Calls Try.prog 25 #[.slice key_p key_n key_c] w'74 fun e76 w77 ↦
 ∃ p78 n79 c80, e76 = .returned (.slice p78 n79 c80) ∧ SameTo (some [b57]) w'55 w'74 w77 ∧ ∀ b81 w'82, New w77 (Obj.cells #[.slice p78 n79 c80, .slice (some ⟨b73, 0, none⟩) n60 n60] 65) b81 w'82 → J54 (some ⟨b81, 0, none⟩) w'82) ∧ ∀ (p84 : Option Addr) (w'85 : World), J54 p84 w'85 → ∃ b87, ∃ o88, t = some ⟨b87, o88, none⟩ ∧ ∃ (r89 : Option Nat), w'85.cell? ⟨b87, (o88 + 1), none⟩ = some (.map r89) ∧ ∃ (w'90 : World), Sem.run Try.prog (Instr.mapUpdate 58 (.map r89) (.string s5) (.pointer p84)) w'85 = Result.ok () w'90 ∧ ∃ b91, ∃ o92, t = some ⟨b91, o92, none⟩ ∧ ∃ p93 n94 c95, w'90.cell? ⟨b91, (o92 + 2), none⟩ = some (.slice p93 n94 c95) ∧ ∀ b96 w'97, New w'90 (Obj.cells #[.pointer p84] 62) b96 w'97 → ∃ p99 n100 c101, ∃ (w'102 : World), Sem.run Try.prog (Builtin.append_ #[59, 59] 59 #[.slice p93 n94 c95, .slice (some ⟨b96, 0, none⟩) 1 1]) w'97 =
 Result.ok (.slice p99 n100 c101) w'102 ∧ ∃ b103, ∃ o104, t = some ⟨b103, o104, none⟩ ∧ (∃ u105, w'102.cell? ⟨b103, (o104 + 2), none⟩ = some u105) ∧ w'102.frozen? ⟨b103, (o104 + 2), none⟩ = false ∧ ∀ w'106, Put w'102 b103 (o104 + 2) [.slice p99 n100 c101] w'106 → J45 p84 w'106)) ∧ (p42.isNone = false → J45 p42 w'37)) ∧ ∀ (p109 : Option Addr) (w'110 : World), J45 p109 w'110 → ∃ (I112 : Int → World → Prop), ∃ (M113 : Int → World → Nat), I112 0 w'110 ∧ ∀ (n114 : Int) (w'115 : World), I112 n114 w'115 → (n114 < (↑vals_n : Int) → ∃ b118, ∃ o119, vals_p = some ⟨b118, o119, none⟩ ∧ 0 ≤ n114 ∧ n114 < (↑vals_n : Int) ∧ ∃ n120, w'115.cell? ⟨b118, (o119 + n114.toNat * 3), none⟩ = some (.int .i64 n120) ∧ ∃ n121, w'115.cell? ⟨b118, (o119 + n114.toNat * 3 + 1), none⟩ = some (.int .i64 n121) ∧ ∃ s122, w'115.cell? ⟨b118, (o119 + n114.toNat * 3 + 2), none⟩ = some (.string s122) ∧ ∀ b123 w'124, New w'115 (Obj.cells #[.int .i64 0, .int .i64 0, .string ⟨#[]⟩] 42) b123 w'124 → (∃ u126, w'124.cell? ⟨b123, 0, none⟩ = some u126) ∧ w'124.frozen? ⟨b123, 0, none⟩ = false ∧ (∃ u127, w'124.cell? ⟨b123, 1, none⟩ = some u127) ∧ w'124.frozen? ⟨b123, 1, none⟩ = false ∧ (∃ u128, w'124.cell? ⟨b123, 2, none⟩ = some u128) ∧ w'124.frozen? ⟨b123, 2, none⟩ = false ∧ ∀ w'129, Put w'124 b123 0 [.int .i64 n120, .int .i64 n121, .string s122] w'129 → ∀ w'131, Drew w'129 w'131 → ∃ b133, ∃ o134, p109 = some ⟨b133, o134, none⟩ ∧ ∃ p135 n136 c137, w'131.cell? ⟨b133, (o134 + 1), none⟩ = some (.slice p135 n136 c137) ∧ ∃ b138, ∃ o139, p135 = some ⟨b138, o139, none⟩ ∧ 0 ≤ n114 ∧ n114 < (↑n136 : Int) ∧ ∃ n140, w'131.cell? ⟨b123, 0, none⟩ = some (.int .i64 n140) ∧ ∃ n141, w'131.cell? ⟨b123, 1, none⟩ = some (.int .i64 n141) ∧ ∃ s142, w'131.cell? ⟨b123, 2, none⟩ = some (.string s142) ∧ Calls Try.prog 31
 #[.pointer (some ⟨b138, (o139 + n114.toNat * 10), none⟩), .agg #[.int .i64 n140, .int .i64 n141, .string s142]] w'131
 fun e143 w144 ↦
 e143 = .returned (.tuple #[]) ∧ I112 (IntKind.i64.wrap (n114 + 1)) w144 ∧ M113 (IntKind.i64.wrap (n114 + 1)) w144 < M113 n114 w'115) ∧ ((↑vals_n : Int) ≤ n114 → R (.returned (.int .i64 0)) w'115))

set_option maxRecDepth 100000 in
theorem tadd_eq (t : Option Addr) (key_p : Option Addr) (key_n : Nat) (key_c : Nat) (vals_p : Option Addr) (vals_n : Nat) (vals_c : Nat) (w : World) (R : Ending → World → Prop) : tadd_T t key_p key_n key_c vals_p vals_n vals_c w R = vcFn Try.prog [6, 11, 13] [(10, [2, 6, 8, 10, 12, 14, 1, 5, 16, 18, 20, 22, 0, 16, 5, 18, 20, 22, 0]), (16, [2, 4, 6, 8, 10, 12, 14, 16, 0])] Try.f14 [.pointer t, .slice key_p key_n key_c, .slice vals_p vals_n vals_c] w R := by kernel_rfl

set_option maxRecDepth 100000 in
theorem tadd_vc (t : Option Addr) (key_p : Option Addr) (key_n : Nat) (key_c : Nat) (vals_p : Option Addr) (vals_n : Nat) (vals_c : Nat) (w : World) (R : Ending → World → Prop) (hvc : tadd_T t key_p key_n key_c vals_p vals_n vals_c w R) : Calls Try.prog 14 #[.pointer t, .slice key_p key_n key_c, .slice vals_p vals_n vals_c] w R :=
  calls_of_vc (args := [.pointer t, .slice key_p key_n key_c, .slice vals_p vals_n vals_c]) [6, 11, 13] [(10, [2, 6, 8, 10, 12, 14, 1, 5, 16, 18, 20, 22, 0, 16, 5, 18, 20, 22, 0]), (16, [2, 4, 6, 8, 10, 12, 14, 16, 0])] Try.mixed Try.func14 (cast (tadd_eq _ _ _ _ _ _ _ w R) hvc)

set_option maxRecDepth 100000 in
def tanswer_T (t : Option Addr) (w : World) (R : Ending → World → Prop) : Prop :=
  (t.isNone = true → R (.returned (.tuple #[.slice none 0 0, .slice none 0 0, .int .i64 1])) w) ∧ (t.isNone = false → ∃ b3, ∃ o4, t = some ⟨b3, o4, none⟩ ∧ ∃ p5 n6 c7, w.cell? ⟨b3, (o4 + 2), none⟩ = some (.slice p5 n6 c7) ∧ ∃ (I8 : Option Addr → Nat → Nat → Option Addr → Nat → Nat → Int → World → Prop), ∃ (M9 : Option Addr → Nat → Nat → Option Addr → Nat → Nat → Int → World → Nat), I8 none 0 0 none 0 0 0 w ∧ ∀ (p10 : Option Addr) (n11 c12 : Nat) (p13 : Option Addr) (n14 c15 : Nat) (n16 : Int) (w'17 : World), I8 p10 n11 c12 p13 n14 c15 n16 w'17 → (n16 < (↑n6 : Int) → ∃ b20, ∃ o21, p5 = some ⟨b20, o21, none⟩ ∧ 0 ≤ n16 ∧ n16 < (↑n6 : Int) ∧ ∃ (p22 : Option Addr), w'17.cell? ⟨b20, (o21 + n16.toNat), none⟩ = some (.pointer p22) ∧ ∃ b23, ∃ o24, p22 = some ⟨b23, o24, none⟩ ∧ ∃ p25 n26 c27, w'17.cell? ⟨b23, (o24 + 1), none⟩ = some (.slice p25 n26 c27) ∧ ∃ (I28 : Option Addr → Nat → Nat → Int → World → Prop), ∃ (M29 : Option Addr → Nat → Nat → Int → World → Nat), I28 none 0 0 0 w'17 ∧ ∀ (p30 : Option Addr) (n31 c32 : Nat) (n33 : Int) (w'34 : World), I28 p30 n31 c32 n33 w'34 → (n33 < (↑n26 : Int) → ∀ w'37, Drew w'34 w'37 → ∃ b39, ∃ o40, p22 = some ⟨b39, o40, none⟩ ∧ ∃ p41 n42 c43, w'37.cell? ⟨b39, (o40 + 1), none⟩ = some (.slice p41 n42 c43) ∧ ∃ b44, ∃ o45, p41 = some ⟨b44, o45, none⟩ ∧ 0 ≤ n33 ∧ n33 < (↑n42 : Int) ∧ ∃ b46, ∃ o47, t = some ⟨b46, o47, none⟩ ∧ ∃ p48 n49 c50, w'37.cell? ⟨b46, o47, none⟩ = some (.slice p48 n49 c50) ∧ ∃ b51, ∃ o52, p48 = some ⟨b51, o52, none⟩ ∧ 0 ≤ n33 ∧ n33 < (↑n49 : Int) ∧ ∃ n53, w'37.cell? ⟨b51, (o52 + n33.toNat), none⟩ = some (.int .i64 n53) ∧ (Calls Try.prog 24 #[.pointer (some ⟨b44, (o45 + n33.toNat * 10), none⟩), .int .i64 n53] w'37 fun e54 w55 ↦
 ∃ n56, ∃ n57, ∃ s58, ∃ n59, e54 = .returned (.tuple #[.agg #[.int .i64 n56, .int .i64 n57, .string s58], .int .i64 n59]) ∧ ∀ b60 w'61, New w55 (Obj.cells #[.int .i64 0, .int .i64 0, .string ⟨#[]⟩] 42) b60 w'61 → SameTo (some [b51, b46, b39]) w'37 w55 w'61 ∧ (∃ u63, w'61.cell? ⟨b60, 0, none⟩ = some u63) ∧ w'61.frozen? ⟨b60, 0, none⟩ = false ∧ (∃ u64, w'61.cell? ⟨b60, 1, none⟩ = some u64) ∧ w'61.frozen? ⟨b60, 1, none⟩ = false ∧ (∃ u65, w'61.cell? ⟨b60, 2, none⟩ = some u65) ∧ w'61.frozen? ⟨b60, 2, none⟩ = false ∧ ∀ w'66, Put w'61 b60 0 [.int .i64 n56, .int .i64 n57, .string s58] w'66 → (n59 ≠ 0 → R (.returned (.tuple #[.slice none 0 0, .slice none 0 0, .int .i64 n59])) w'66) ∧ (n59 = 0 → ∃ n70, w'66.cell? ⟨b60, 0, none⟩ = some (.int .i64 n70) ∧ ∃ n71, w'66.cell? ⟨b60, 1, none⟩ = some (.int .i64 n71) ∧ ∃ s72, w'66.cell? ⟨b60, 2, none⟩ = some (.string s72) ∧ ∀ b73 w'74, New w'66 (Obj.cells #[.int .i64 n70, .int .i64 n71, .string s72] 42) b73 w'74 → ∃ p76 n77 c78, ∃ (w'79 : World), Sem.run Try.prog (Builtin.append_ #[29, 29] 29 #[.slice p30 n31 c32, .slice (some ⟨b73, 0, none⟩) 1 1]) w'74 = Result.ok (.slice p76 n77 c78) w'79 ∧ I28 p76 n77 c78 (IntKind.i64.wrap (n33 + 1)) w'79 ∧ M29 p76 n77 c78 (IntKind.i64.wrap (n33 + 1)) w'79 < M29 p30 n31 c32 n33 w'34)) ∧ ∀ b80 w'81, New w'37 (Obj.cells #[.int .i64 0, .int .i64 0, .string ⟨#[]⟩] 42) b80 w'81 → SameTo (some [b51, b46, b39]) w'37 w'37 w'81 ∧ Calls Try.prog 24 #[.pointer (some ⟨b44, (o45 + n33.toNat * 10), none⟩), .int .i64 n53] w'81 fun e83 w84 ↦
 ∃ n85, ∃ n86, ∃ s87, ∃ n88, e83 = .returned (.tuple #[.agg #[.int .i64 n85, .int .i64 n86, .string s87], .int .i64 n88]) ∧ (∃ u89, w84.cell? ⟨b80, 0, none⟩ = some u89) ∧ w84.frozen? ⟨b80, 0, none⟩ = false ∧ (∃ u90, w84.cell? ⟨b80, 1, none⟩ = some u90) ∧ w84.frozen? ⟨b80, 1, none⟩ = false ∧ (∃ u91, w84.cell? ⟨b80, 2, none⟩ = some u91) ∧ w84.frozen? ⟨b80, 2, none⟩ = false ∧ ∀ w'92, Put w84 b80 0 [.int .i64 n85, .int .i64 n86, .string s87] w'92 → (n88 ≠ 0 → R (.returned (.tuple #[.slice none 0 0, .slice none 0 0, .int .i64 n88])) w'92) ∧ (n88 = 0 → ∃ n96, w'92.cell? ⟨b80, 0, none⟩ = some (.int .i64 n96) ∧ ∃ n97, w'92.cell? ⟨b80, 1, none⟩ = some (.int .i64 n97) ∧ ∃ s98, w'92.cell? ⟨b80, 2, none⟩ = some (.string s98) ∧ ∀ b99 w'100, New w'92 (Obj.cells #[.int .i64 n96, .int .i64 n97, .string s98] 42) b99 w'100 → ∃ p102 n103 c104, ∃ (w'105 : World), Sem.run Try.prog (Builtin.append_ #[29, 29] 29 #[.slice p30 n31 c32, .slice (some ⟨b99, 0, none⟩) 1 1]) w'100 =
 Result.ok (.slice p102 n103 c104) w'105 ∧ I28 p102 n103 c104 (IntKind.i64.wrap (n33 + 1)) w'105 ∧ M29 p102 n103 c104 (IntKind.i64.wrap (n33 + 1)) w'105 < M29 p30 n31 c32 n33 w'34)) ∧ ((↑n26 : Int) ≤ n33 → ∃ b107, ∃ o108, p22 = some ⟨b107, o108, none⟩ ∧ ∃ p109 n110 c111, w'34.cell? ⟨b107, o108, none⟩ = some (.slice p109 n110 c111) ∧ Calls Try.prog 25 #[.slice p109 n110 c111] w'34 fun e112 w113 ↦
 ∃ p114 n115 c116, e112 = .returned (.slice p114 n115 c116) ∧ ∀ b117 w'118, New w113 (Obj.cells #[.slice p114 n115 c116] 29) b117 w'118 → ∃ p120 n121 c122, ∃ (w'123 : World), Sem.run Try.prog (Builtin.append_ #[32, 32] 32 #[.slice p10 n11 c12, .slice (some ⟨b117, 0, none⟩) 1 1]) w'118 =
 Result.ok (.slice p120 n121 c122) w'123 ∧ ∀ b124 w'125, New w'123 (Obj.cells #[.slice p30 n31 c32] 29) b124 w'125 → ∃ p127 n128 c129, ∃ (w'130 : World), Sem.run Try.prog (Builtin.append_ #[32, 32] 32 #[.slice p13 n14 c15, .slice (some ⟨b124, 0, none⟩) 1 1]) w'125 =
 Result.ok (.slice p127 n128 c129) w'130 ∧ I8 p120 n121 c122 p127 n128 c129 (IntKind.i64.wrap (n16 + 1)) w'130 ∧ M9 p120 n121 c122 p127 n128 c129 (IntKind.i64.wrap (n16 + 1)) w'130 < M9 p10 n11 c12 p13 n14 c15 n16 w'17)) ∧ ((↑n6 : Int) ≤ n16 → R (.returned (.tuple #[.slice p10 n11 c12, .slice p13 n14 c15, .int .i64 0])) w'17))

set_option maxRecDepth 100000 in
theorem tanswer_eq (t : Option Addr) (w : World) (R : Ending → World → Prop) : tanswer_T t w R = vcFn Try.prog [] [(11, [2, 4, 6, 8, 10, 12, 14, 16, 18, 20, 22, 24, 26, 1, 28, 30, 32, 34, 37, 38, 40, 0, 37, 28, 30, 32, 34, 38, 40, 0])] Try.f11 [.pointer t] w R := by kernel_rfl

set_option maxRecDepth 100000 in
theorem tanswer_vc (t : Option Addr) (w : World) (R : Ending → World → Prop) (hvc : tanswer_T t w R) : Calls Try.prog 11 #[.pointer t] w R :=
  calls_of_vc (args := [.pointer t]) [] [(11, [2, 4, 6, 8, 10, 12, 14, 16, 18, 20, 22, 24, 26, 1, 28, 30, 32, 34, 37, 38, 40, 0, 37, 28, 30, 32, 34, 38, 40, 0])] Try.mixed Try.func11 (cast (tanswer_eq _ w R) hvc)

end Go.Proofs.Ytckfedekpkgcdaa

/- The verification conditions of the functions, evaluated: printed by program. -/
namespace Go.Proofs.Ytckfedekpkgcdaa
open Go Go.Vc
set_option maxRecDepth 20000

set_option maxRecDepth 100000 in
def vright_T (v0 : Int) (v1 : Int) (v2 : ByteArray) (w : World) (R : Ending → World → Prop) : Prop :=
  ∀ b1 w'2, New w (Obj.cells #[.int .i64 v0, .int .i64 v1, .string v2] 42) b1 w'2 → ∃ n4, w'2.cell? ⟨b1, 0, none⟩ = some (.int .i64 n4) ∧ ∀ b5 w'6, New w'2 (Obj.cells #[.int .i64 0, .int .i64 0, .string ⟨#[]⟩] 42) b5 w'6 → (∃ u8, w'6.cell? ⟨b5, 0, none⟩ = some u8) ∧ w'6.frozen? ⟨b5, 0, none⟩ = false ∧ (∃ u9, w'6.cell? ⟨b5, 1, none⟩ = some u9) ∧ w'6.frozen? ⟨b5, 1, none⟩ = false ∧ (∃ u10, w'6.cell? ⟨b5, 2, none⟩ = some u10) ∧ w'6.frozen? ⟨b5, 2, none⟩ = false ∧ ∀ w'11, Put w'6 b5 0 [.int .i64 n4, .int .i64 0, .string ⟨#[]⟩] w'11 → ∃ n13, w'11.cell? ⟨b1, 0, none⟩ = some (.int .i64 n13) ∧ (n13 = 0 → ∃ n15, w'11.cell? ⟨b1, 0, none⟩ = some (.int .i64 n15) ∧ (0 ≤ n15 → ∃ n17, w'11.cell? ⟨b1, 0, none⟩ = some (.int .i64 n17) ∧ (n17 < 4 → ∃ n19, w'11.cell? ⟨b1, 0, none⟩ = some (.int .i64 n19) ∧ ∃ n20, w'11.cell? ⟨b1, 1, none⟩ = some (.int .i64 n20) ∧ ∃ s21, w'11.cell? ⟨b1, 2, none⟩ = some (.string s21) ∧ ∃ n22, w'11.cell? ⟨b5, 0, none⟩ = some (.int .i64 n22) ∧ ∃ n23, w'11.cell? ⟨b5, 1, none⟩ = some (.int .i64 n23) ∧ ∃ s24, w'11.cell? ⟨b5, 2, none⟩ = some (.string s24) ∧ (n19 = n22 ∧ n20 = n23 ∧ s21 = s24 → ∃ s26, w'11.cell? ⟨b1, 2, none⟩ = some (.string s26) ∧ R (.returned (.bool (decide ((↑s26.size : Int) ≤ 1024)))) w'11) ∧ (n19 ≠ n22 ∨ n20 ≠ n23 ∨ s21 ≠ s24 → R (.returned (.bool false)) w'11)) ∧ (4 ≤ n17 → R (.returned (.bool false)) w'11)) ∧ (n15 < 0 → R (.returned (.bool false)) w'11)) ∧ (n13 ≠ 0 → (n13 = 1 → ∃ n32, w'11.cell? ⟨b1, 1, none⟩ = some (.int .i64 n32) ∧ (∃ u33, w'11.cell? ⟨b5, 1, none⟩ = some u33) ∧ w'11.frozen? ⟨b5, 1, none⟩ = false ∧ ∀ w'34, Put w'11 b5 1 [.int .i64 n32] w'34 → ∃ n36, w'34.cell? ⟨b1, 0, none⟩ = some (.int .i64 n36) ∧ (0 ≤ n36 → ∃ n38, w'34.cell? ⟨b1, 0, none⟩ = some (.int .i64 n38) ∧ (n38 < 4 → ∃ n40, w'34.cell? ⟨b1, 0, none⟩ = some (.int .i64 n40) ∧ ∃ n41, w'34.cell? ⟨b1, 1, none⟩ = some (.int .i64 n41) ∧ ∃ s42, w'34.cell? ⟨b1, 2, none⟩ = some (.string s42) ∧ ∃ n43, w'34.cell? ⟨b5, 0, none⟩ = some (.int .i64 n43) ∧ ∃ n44, w'34.cell? ⟨b5, 1, none⟩ = some (.int .i64 n44) ∧ ∃ s45, w'34.cell? ⟨b5, 2, none⟩ = some (.string s45) ∧ (n40 = n43 ∧ n41 = n44 ∧ s42 = s45 → ∃ s47, w'34.cell? ⟨b1, 2, none⟩ = some (.string s47) ∧ R (.returned (.bool (decide ((↑s47.size : Int) ≤ 1024)))) w'34) ∧ (n40 ≠ n43 ∨ n41 ≠ n44 ∨ s42 ≠ s45 → R (.returned (.bool false)) w'34)) ∧ (4 ≤ n38 → R (.returned (.bool false)) w'34)) ∧ (n36 < 0 → R (.returned (.bool false)) w'34)) ∧ (n13 ≠ 1 → (n13 = 2 → ∃ n53, w'11.cell? ⟨b1, 1, none⟩ = some (.int .i64 n53) ∧ (∃ u54, w'11.cell? ⟨b5, 1, none⟩ = some u54) ∧ w'11.frozen? ⟨b5, 1, none⟩ = false ∧ ∀ w'55, Put w'11 b5 1 [.int .i64 (bits BinOp.and IntKind.i64 n53 1)] w'55 → ∃ n57, w'55.cell? ⟨b1, 0, none⟩ = some (.int .i64 n57) ∧ (0 ≤ n57 → ∃ n59, w'55.cell? ⟨b1, 0, none⟩ = some (.int .i64 n59) ∧ (n59 < 4 → ∃ n61, w'55.cell? ⟨b1, 0, none⟩ = some (.int .i64 n61) ∧ ∃ n62, w'55.cell? ⟨b1, 1, none⟩ = some (.int .i64 n62) ∧ ∃ s63, w'55.cell? ⟨b1, 2, none⟩ = some (.string s63) ∧ ∃ n64, w'55.cell? ⟨b5, 0, none⟩ = some (.int .i64 n64) ∧ ∃ n65, w'55.cell? ⟨b5, 1, none⟩ = some (.int .i64 n65) ∧ ∃ s66, w'55.cell? ⟨b5, 2, none⟩ = some (.string s66) ∧ (n61 = n64 ∧ n62 = n65 ∧ s63 = s66 → ∃ s68, w'55.cell? ⟨b1, 2, none⟩ = some (.string s68) ∧ R (.returned (.bool (decide ((↑s68.size : Int) ≤ 1024)))) w'55) ∧ (n61 ≠ n64 ∨ n62 ≠ n65 ∨ s63 ≠ s66 → R (.returned (.bool false)) w'55)) ∧ (4 ≤ n59 → R (.returned (.bool false)) w'55)) ∧ (n57 < 0 → R (.returned (.bool false)) w'55)) ∧ (n13 ≠ 2 → (n13 = 3 → ∃ s74, w'11.cell? ⟨b1, 2, none⟩ = some (.string s74) ∧ (∃ u75, w'11.cell? ⟨b5, 2, none⟩ = some u75) ∧ w'11.frozen? ⟨b5, 2, none⟩ = false ∧ ∀ w'76, Put w'11 b5 2 [.string s74] w'76 → ∃ n78, w'76.cell? ⟨b1, 0, none⟩ = some (.int .i64 n78) ∧ (0 ≤ n78 → ∃ n80, w'76.cell? ⟨b1, 0, none⟩ = some (.int .i64 n80) ∧ (n80 < 4 → ∃ n82, w'76.cell? ⟨b1, 0, none⟩ = some (.int .i64 n82) ∧ ∃ n83, w'76.cell? ⟨b1, 1, none⟩ = some (.int .i64 n83) ∧ ∃ s84, w'76.cell? ⟨b1, 2, none⟩ = some (.string s84) ∧ ∃ n85, w'76.cell? ⟨b5, 0, none⟩ = some (.int .i64 n85) ∧ ∃ n86, w'76.cell? ⟨b5, 1, none⟩ = some (.int .i64 n86) ∧ ∃ s87, w'76.cell? ⟨b5, 2, none⟩ = some (.string s87) ∧ (n82 = n85 ∧ n83 = n86 ∧ s84 = s87 → ∃ s89, w'76.cell? ⟨b1, 2, none⟩ = some (.string s89) ∧ R (.returned (.bool (decide ((↑s89.size : Int) ≤ 1024)))) w'76) ∧ (n82 ≠ n85 ∨ n83 ≠ n86 ∨ s84 ≠ s87 → R (.returned (.bool false)) w'76)) ∧ (4 ≤ n80 → R (.returned (.bool false)) w'76)) ∧ (n78 < 0 → R (.returned (.bool false)) w'76)) ∧ (n13 ≠ 3 → ∃ n94, w'11.cell? ⟨b1, 0, none⟩ = some (.int .i64 n94) ∧ (0 ≤ n94 → ∃ n96, w'11.cell? ⟨b1, 0, none⟩ = some (.int .i64 n96) ∧ (n96 < 4 → ∃ n98, w'11.cell? ⟨b1, 0, none⟩ = some (.int .i64 n98) ∧ ∃ n99, w'11.cell? ⟨b1, 1, none⟩ = some (.int .i64 n99) ∧ ∃ s100, w'11.cell? ⟨b1, 2, none⟩ = some (.string s100) ∧ ∃ n101, w'11.cell? ⟨b5, 0, none⟩ = some (.int .i64 n101) ∧ ∃ n102, w'11.cell? ⟨b5, 1, none⟩ = some (.int .i64 n102) ∧ ∃ s103, w'11.cell? ⟨b5, 2, none⟩ = some (.string s103) ∧ (n98 = n101 ∧ n99 = n102 ∧ s100 = s103 → ∃ s105, w'11.cell? ⟨b1, 2, none⟩ = some (.string s105) ∧ R (.returned (.bool (decide ((↑s105.size : Int) ≤ 1024)))) w'11) ∧ (n98 ≠ n101 ∨ n99 ≠ n102 ∨ s100 ≠ s103 → R (.returned (.bool false)) w'11)) ∧ (4 ≤ n96 → R (.returned (.bool false)) w'11)) ∧ (n94 < 0 → R (.returned (.bool false)) w'11)))))

set_option maxRecDepth 100000 in
theorem vright_eq (v0 : Int) (v1 : Int) (v2 : ByteArray) (w : World) (R : Ending → World → Prop) : vright_T v0 v1 v2 w R = vcFn Try.prog [] [] Try.f39 [.agg #[.int .i64 v0, .int .i64 v1, .string v2]] w R := by kernel_rfl

set_option maxRecDepth 100000 in
theorem vright_vc (v0 : Int) (v1 : Int) (v2 : ByteArray) (w : World) (R : Ending → World → Prop) (hvc : vright_T v0 v1 v2 w R) : Calls Try.prog 39 #[.agg #[.int .i64 v0, .int .i64 v1, .string v2]] w R :=
  calls_of_vc (args := [.agg #[.int .i64 v0, .int .i64 v1, .string v2]]) [] [] Try.mixed Try.func39 (cast (vright_eq _ _ _ w R) hvc)

set_option maxRecDepth 100000 in
def vcompare_T (a0 : Int) (a1 : Int) (a2 : ByteArray) (b0 : Int) (b1 : Int) (b2 : ByteArray) (w : World) (R : Ending → World → Prop) : Prop :=
  ∀ b1_1 w'2, New w (Obj.cells #[.int .i64 a0, .int .i64 a1, .string a2] 42) b1_1 w'2 → ∀ b4 w'5, New w'2 (Obj.cells #[.int .i64 b0, .int .i64 b1, .string b2] 42) b4 w'5 → ∀ w'7, Drew w'5 w'7 → ∃ n9, w'7.cell? ⟨b1_1, 0, none⟩ = some (.int .i64 n9) ∧ ∃ n10, w'7.cell? ⟨b4, 0, none⟩ = some (.int .i64 n10) ∧ ∃ n11, w'7.cell? ⟨b1_1, 1, none⟩ = some (.int .i64 n11) ∧ ∃ n12, w'7.cell? ⟨b4, 1, none⟩ = some (.int .i64 n12) ∧ ∃ s13, w'7.cell? ⟨b1_1, 2, none⟩ = some (.string s13) ∧ ∃ s14, w'7.cell? ⟨b4, 2, none⟩ = some (.string s14) ∧ Calls Try.prog 50 #[.int .i64 n9, .int .i64 n10] w'7 fun e15 w16 ↦
 ∃ n17, e15 = .returned (.int .i64 n17) ∧ SameTo (some [b4, b1_1, b4, b1_1, b4, b1_1]) w'7 w'7 w16 ∧ Calls Try.prog 51 #[.int .i64 n11, .int .i64 n12] w16 fun e18 w19 ↦
 ∃ n20, e18 = .returned (.int .i64 n20) ∧ SameTo (some [b4, b1_1, b4, b1_1, b4, b1_1]) w'7 w16 w19 ∧ Calls Try.prog 52 #[.string s13, .string s14] w19 fun e21 w22 ↦
 ∃ n23, e21 = .returned (.int .i64 n23) ∧ ∀ b24 w'25, New w22 (Obj.cells #[.int .i64 n17, .int .i64 n20, .int .i64 n23] 3) b24 w'25 → Calls Try.prog 49 #[.slice (some ⟨b24, 0, none⟩) 3 3] w'25 fun e27 w28 ↦
 ∃ n29, e27 = .returned (.int .i64 n29) ∧ R (.returned (.int .i64 n29)) w28

set_option maxRecDepth 100000 in
theorem vcompare_eq (a0 : Int) (a1 : Int) (a2 : ByteArray) (b0 : Int) (b1 : Int) (b2 : ByteArray) (w : World) (R : Ending → World → Prop) : vcompare_T a0 a1 a2 b0 b1 b2 w R = vcFn Try.prog [] [(1, [2, 4, 6, 8, 12, 14, 16, 18, 22, 24, 26, 28, 11, 21, 30, 32, 34, 36, 0])] Try.f40 [.agg #[.int .i64 a0, .int .i64 a1, .string a2], .agg #[.int .i64 b0, .int .i64 b1, .string b2]] w R := by kernel_rfl

set_option maxRecDepth 100000 in
theorem vcompare_vc (a0 : Int) (a1 : Int) (a2 : ByteArray) (b0 : Int) (b1 : Int) (b2 : ByteArray) (w : World) (R : Ending → World → Prop) (hvc : vcompare_T a0 a1 a2 b0 b1 b2 w R) : Calls Try.prog 40 #[.agg #[.int .i64 a0, .int .i64 a1, .string a2], .agg #[.int .i64 b0, .int .i64 b1, .string b2]] w R :=
  calls_of_vc (args := [.agg #[.int .i64 a0, .int .i64 a1, .string a2], .agg #[.int .i64 b0, .int .i64 b1, .string b2]]) [] [(1, [2, 4, 6, 8, 12, 14, 16, 18, 22, 24, 26, 28, 11, 21, 30, 32, 34, 36, 0])] Try.mixed Try.func40 (cast (vcompare_eq _ _ _ _ _ _ w R) hvc)

set_option maxRecDepth 100000 in
def cmpor_T (vals_p : Option Addr) (vals_n : Nat) (vals_c : Nat) (w : World) (R : Ending → World → Prop) : Prop :=
  ∃ (I1 : Int → World → Prop), ∃ (M2 : Int → World → Nat), I1 0 w ∧ ∀ (n3 : Int) (w'4 : World), I1 n3 w'4 → (n3 < (↑vals_n : Int) → ∃ b7, ∃ o8, vals_p = some ⟨b7, o8, none⟩ ∧ 0 ≤ n3 ∧ n3 < (↑vals_n : Int) ∧ ∃ n9, w'4.cell? ⟨b7, (o8 + n3.toNat), none⟩ = some (.int .i64 n9) ∧ (n9 ≠ 0 → R (.returned (.int .i64 n9)) w'4) ∧ (n9 = 0 → I1 (IntKind.i64.wrap (n3 + 1)) w'4 ∧ M2 (IntKind.i64.wrap (n3 + 1)) w'4 < M2 n3 w'4)) ∧ ((↑vals_n : Int) ≤ n3 → R (.returned (.int .i64 0)) w'4)

set_option maxRecDepth 100000 in
theorem cmpor_eq (vals_p : Option Addr) (vals_n : Nat) (vals_c : Nat) (w : World) (R : Ending → World → Prop) : cmpor_T vals_p vals_n vals_c w R = vcFn Try.prog [] [] Try.f49 [.slice vals_p vals_n vals_c] w R := by kernel_rfl

set_option maxRecDepth 100000 in
theorem cmpor_vc (vals_p : Option Addr) (vals_n : Nat) (vals_c : Nat) (w : World) (R : Ending → World → Prop) (hvc : cmpor_T vals_p vals_n vals_c w R) : Calls Try.prog 49 #[.slice vals_p vals_n vals_c] w R :=
  calls_of_vc (args := [.slice vals_p vals_n vals_c]) [] [] Try.mixed Try.func49 (cast (cmpor_eq _ _ _ w R) hvc)

set_option maxRecDepth 100000 in
def cmpint_T (x : Int) (y : Int) (w : World) (R : Ending → World → Prop) : Prop :=
  Calls Try.prog 56 #[.int .i64 x] w fun e1 w2 ↦
 ∃ b3, e1 = .returned (.bool b3) ∧ Calls Try.prog 56 #[.int .i64 y] w2 fun e4 w5 ↦
 ∃ b6, e4 = .returned (.bool b6) ∧ (b3 = true → (b6 = true → R (.returned (.int .i64 0)) w5) ∧ (b6 = false → R (.returned (.int .i64 (-1))) w5)) ∧ (b3 = false → (b6 = true → R (.returned (.int .i64 1)) w5) ∧ (b6 = false → (x < y → R (.returned (.int .i64 (-1))) w5) ∧ (y ≤ x → (y < x → R (.returned (.int .i64 1)) w5) ∧ (x ≤ y → R (.returned (.int .i64 0)) w5))))

set_option maxRecDepth 100000 in
theorem cmpint_eq (x : Int) (y : Int) (w : World) (R : Ending → World → Prop) : cmpint_T x y w R = vcFn Try.prog [] [] Try.f50 [.int .i64 x, .int .i64 y] w R := by kernel_rfl

set_option maxRecDepth 100000 in
theorem cmpint_vc (x : Int) (y : Int) (w : World) (R : Ending → World → Prop) (hvc : cmpint_T x y w R) : Calls Try.prog 50 #[.int .i64 x, .int .i64 y] w R :=
  calls_of_vc (args := [.int .i64 x, .int .i64 y]) [] [] Try.mixed Try.func50 (cast (cmpint_eq _ _ w R) hvc)

set_option maxRecDepth 100000 in
def cmpint64_T (x : Int) (y : Int) (w : World) (R : Ending → World → Prop) : Prop :=
  Calls Try.prog 57 #[.int .i64 x] w fun e1 w2 ↦
 ∃ b3, e1 = .returned (.bool b3) ∧ Calls Try.prog 57 #[.int .i64 y] w2 fun e4 w5 ↦
 ∃ b6, e4 = .returned (.bool b6) ∧ (b3 = true → (b6 = true → R (.returned (.int .i64 0)) w5) ∧ (b6 = false → R (.returned (.int .i64 (-1))) w5)) ∧ (b3 = false → (b6 = true → R (.returned (.int .i64 1)) w5) ∧ (b6 = false → (x < y → R (.returned (.int .i64 (-1))) w5) ∧ (y ≤ x → (y < x → R (.returned (.int .i64 1)) w5) ∧ (x ≤ y → R (.returned (.int .i64 0)) w5))))

set_option maxRecDepth 100000 in
theorem cmpint64_eq (x : Int) (y : Int) (w : World) (R : Ending → World → Prop) : cmpint64_T x y w R = vcFn Try.prog [] [] Try.f51 [.int .i64 x, .int .i64 y] w R := by kernel_rfl

set_option maxRecDepth 100000 in
theorem cmpint64_vc (x : Int) (y : Int) (w : World) (R : Ending → World → Prop) (hvc : cmpint64_T x y w R) : Calls Try.prog 51 #[.int .i64 x, .int .i64 y] w R :=
  calls_of_vc (args := [.int .i64 x, .int .i64 y]) [] [] Try.mixed Try.func51 (cast (cmpint64_eq _ _ w R) hvc)

set_option maxRecDepth 100000 in
def isnani_T (x : Int) (w : World) (R : Ending → World → Prop) : Prop :=
  R (.returned (.bool !decide (x = x))) w

set_option maxRecDepth 100000 in
theorem isnani_eq (x : Int) (w : World) (R : Ending → World → Prop) : isnani_T x w R = vcFn Try.prog [] [] Try.f56 [.int .i64 x] w R := by kernel_rfl

set_option maxRecDepth 100000 in
theorem isnani_vc (x : Int) (w : World) (R : Ending → World → Prop) (hvc : isnani_T x w R) : Calls Try.prog 56 #[.int .i64 x] w R :=
  calls_of_vc (args := [.int .i64 x]) [] [] Try.mixed Try.func56 (cast (isnani_eq _ w R) hvc)

set_option maxRecDepth 100000 in
def isnani64_T (x : Int) (w : World) (R : Ending → World → Prop) : Prop :=
  R (.returned (.bool !decide (x = x))) w

set_option maxRecDepth 100000 in
theorem isnani64_eq (x : Int) (w : World) (R : Ending → World → Prop) : isnani64_T x w R = vcFn Try.prog [] [] Try.f57 [.int .i64 x] w R := by kernel_rfl

set_option maxRecDepth 100000 in
theorem isnani64_vc (x : Int) (w : World) (R : Ending → World → Prop) (hvc : isnani64_T x w R) : Calls Try.prog 57 #[.int .i64 x] w R :=
  calls_of_vc (args := [.int .i64 x]) [] [] Try.mixed Try.func57 (cast (isnani64_eq _ w R) hvc)

set_option maxRecDepth 100000 in
def strcmp_T (a : ByteArray) (b : ByteArray) (w : World) (R : Ending → World → Prop) : Prop :=
  Calls Try.prog 58 #[.string a, .string b] w fun e1 w2 ↦
 ∃ n3, e1 = .returned (.int .i64 n3) ∧ R (.returned (.int .i64 n3)) w2

set_option maxRecDepth 100000 in
theorem strcmp_eq (a : ByteArray) (b : ByteArray) (w : World) (R : Ending → World → Prop) : strcmp_T a b w R = vcFn Try.prog [] [] Try.f52 [.string a, .string b] w R := by kernel_rfl

set_option maxRecDepth 100000 in
theorem strcmp_vc (a : ByteArray) (b : ByteArray) (w : World) (R : Ending → World → Prop) (hvc : strcmp_T a b w R) : Calls Try.prog 52 #[.string a, .string b] w R :=
  calls_of_vc (args := [.string a, .string b]) [] [] Try.mixed Try.func52 (cast (strcmp_eq _ _ w R) hvc)

set_option maxRecDepth 100000 in
def samerow_T (a_p : Option Addr) (a_n : Nat) (a_c : Nat) (b_p : Option Addr) (b_n : Nat) (b_c : Nat) (w : World) (R : Ending → World → Prop) : Prop :=
  ((↑a_n : Int) ≠ (↑b_n : Int) → R (.returned (.bool false)) w) ∧ ((↑a_n : Int) = (↑b_n : Int) → ∃ (I3 : Int → World → Prop), ∃ (M4 : Int → World → Nat), I3 0 w ∧ ∀ (n5 : Int) (w'6 : World), I3 n5 w'6 → (n5 < (↑a_n : Int) → ∀ w'9, Drew w'6 w'9 → ∃ b11, ∃ o12, a_p = some ⟨b11, o12, none⟩ ∧ 0 ≤ n5 ∧ n5 < (↑a_n : Int) ∧ ∃ n13, w'9.cell? ⟨b11, (o12 + n5.toNat * 3), none⟩ = some (.int .i64 n13) ∧ ∃ n14, w'9.cell? ⟨b11, (o12 + n5.toNat * 3 + 1), none⟩ = some (.int .i64 n14) ∧ ∃ s15, w'9.cell? ⟨b11, (o12 + n5.toNat * 3 + 2), none⟩ = some (.string s15) ∧ ∃ b16, ∃ o17, b_p = some ⟨b16, o17, none⟩ ∧ 0 ≤ n5 ∧ n5 < (↑b_n : Int) ∧ ∃ n18, w'9.cell? ⟨b16, (o17 + n5.toNat * 3), none⟩ = some (.int .i64 n18) ∧ ∃ n19, w'9.cell? ⟨b16, (o17 + n5.toNat * 3 + 1), none⟩ = some (.int .i64 n19) ∧ ∃ s20, w'9.cell? ⟨b16, (o17 + n5.toNat * 3 + 2), none⟩ = some (.string s20) ∧ (n13 ≠ n18 ∨ n14 ≠ n19 ∨ s15 ≠ s20 → R (.returned (.bool false)) w'9) ∧ (n13 = n18 ∧ n14 = n19 ∧ s15 = s20 → I3 (IntKind.i64.wrap (n5 + 1)) w'9 ∧ M4 (IntKind.i64.wrap (n5 + 1)) w'9 < M4 n5 w'6)) ∧ ((↑a_n : Int) ≤ n5 → R (.returned (.bool true)) w'6))

set_option maxRecDepth 100000 in
theorem samerow_eq (a_p : Option Addr) (a_n : Nat) (a_c : Nat) (b_p : Option Addr) (b_n : Nat) (b_c : Nat) (w : World) (R : Ending → World → Prop) : samerow_T a_p a_n a_c b_p b_n b_c w R = vcFn Try.prog [] [(6, [2, 4, 6, 8, 10, 12, 14, 16, 18, 0])] Try.f12 [.slice a_p a_n a_c, .slice b_p b_n b_c] w R := by kernel_rfl

set_option maxRecDepth 100000 in
theorem samerow_vc (a_p : Option Addr) (a_n : Nat) (a_c : Nat) (b_p : Option Addr) (b_n : Nat) (b_c : Nat) (w : World) (R : Ending → World → Prop) (hvc : samerow_T a_p a_n a_c b_p b_n b_c w R) : Calls Try.prog 12 #[.slice a_p a_n a_c, .slice b_p b_n b_c] w R :=
  calls_of_vc (args := [.slice a_p a_n a_c, .slice b_p b_n b_c]) [] [(6, [2, 4, 6, 8, 10, 12, 14, 16, 18, 0])] Try.mixed Try.func12 (cast (samerow_eq _ _ _ _ _ _ w R) hvc)

set_option maxRecDepth 100000 in
def strcmp0_T (a : ByteArray) (b : ByteArray) (w : World) (R : Ending → World → Prop) : Prop :=
  ∃ n1, ∃ (w'2 : World), Sem.run Try.prog (callFunc 59 #[.string a, .string b]) w = Result.ok (Next.value (.int .i64 n1)) w'2 ∧ R (.returned (.int .i64 n1)) w'2

set_option maxRecDepth 100000 in
theorem strcmp0_eq (a : ByteArray) (b : ByteArray) (w : World) (R : Ending → World → Prop) : strcmp0_T a b w R = vcFn Try.prog [] [] Try.f58 [.string a, .string b] w R := by kernel_rfl

set_option maxRecDepth 100000 in
theorem strcmp0_vc (a : ByteArray) (b : ByteArray) (w : World) (R : Ending → World → Prop) (hvc : strcmp0_T a b w R) : Calls Try.prog 58 #[.string a, .string b] w R :=
  calls_of_vc (args := [.string a, .string b]) [] [] Try.mixed Try.func58 (cast (strcmp0_eq _ _ w R) hvc)


end Go.Proofs.Ytckfedekpkgcdaa

/- The contracts of value.Right and of the document's answer for it. -/
namespace Go.Proofs.Ytckfedekpkgcdaa
open Go Go.Vc Go.RowKit
set_option maxRecDepth 20000

theorem nil_size : (ByteArray.mk #[]).size = 0 := rfl
theorem vright_ok (v : Val) (w : World) : Calls Try.prog 39 #[v.agg] w fun e w' => e = .returned (.bool v.right) ∧ Ext w w' := by
  apply vright_vc
  unfold vright_T
  intro b1 w2 h1
  have H1 := (Hold.start (Ext.rfl (w := w))).new h1
  obtain ⟨p0, p1, p2⟩ := (H1.blk 0 rfl).c3
  refine ⟨_, p0, fun b5 w6 h5 => ?_⟩
  have H5 := H1.new h5
  obtain ⟨q0, q1, q2⟩ := (H5.blk 0 rfl).c3
  refine ⟨⟨_, q0⟩, (H5.blk 0 rfl).frozen _, ⟨_, q1⟩, (H5.blk 0 rfl).frozen _, ⟨_, q2⟩, (H5.blk 0 rfl).frozen _, fun w11 h11 => ?_⟩
  have H11 := H5.put 0 rfl h11
  have B1 : Blk w11 b1 42 #[.int .i64 v.k, .int .i64 v.n, .string v.s] := H11.blk 1 rfl
  have B5 : Blk w11 b5 42 #[.int .i64 v.k, .int .i64 0, .string ⟨#[]⟩] := H11.blk 0 rfl
  obtain ⟨a0, a1, a2⟩ := B1.c3
  obtain ⟨d0, d1, d2⟩ := B5.c3
  have hx := H11.ext
  have key : ∀ (b : Bool) w', Ext w w' → (b = true ↔ v.Ok) → Ending.returned (Value.bool b) = Ending.returned (Value.bool v.right) ∧ Ext w w' := by
    intro b w' hx hb
    refine ⟨?_, hx⟩
    have : b = v.right := by unfold Val.right; rw [Bool.eq_iff_iff, hb]; simp
    rw [this]
  refine ⟨_, a0, fun hk => ?_, fun hk0 => ⟨fun hk => ?_, fun hk1 => ⟨fun hk => ?_, fun hk2 => ⟨fun hk => ?_, fun hk3 => ?_⟩⟩⟩⟩
  · refine ⟨_, a0, fun _ => ⟨_, a0, fun _ => ⟨_, a0, _, a1, _, a2, _, d0, _, d1, _, d2, fun he => ⟨_, a2, key _ _ hx ?_⟩, fun he => key _ _ hx ?_⟩, fun _ => by omega⟩, fun _ => by omega⟩
    · unfold Val.Ok; rw [he.2.2]; simp [hk, he.2.1, nil_size]
    · unfold Val.Ok; constructor
      · intro h; cases h
      · intro h; rcases h with h | h | h | h
        · rcases he with e | e | e
          · exact absurd rfl e
          · exact absurd h.2.1 e
          · exact absurd h.2.2 e
        · omega
        · omega
        · omega
  · refine ⟨_, a1, ⟨_, d1⟩, B5.frozen _, fun w34 h34 => ?_⟩
    have H34 := H11.put 0 rfl h34
    have B1' : Blk w34 b1 42 #[.int .i64 v.k, .int .i64 v.n, .string v.s] := H34.blk 1 rfl
    have B5' : Blk w34 b5 42 #[.int .i64 v.k, .int .i64 v.n, .string ⟨#[]⟩] := H34.blk 0 rfl
    obtain ⟨a0, a1, a2⟩ := B1'.c3
    obtain ⟨d0, d1, d2⟩ := B5'.c3
    refine ⟨_, a0, fun _ => ⟨_, a0, fun _ => ⟨_, a0, _, a1, _, a2, _, d0, _, d1, _, d2, fun he => ⟨_, a2, key _ _ H34.ext ?_⟩, fun he => key _ _ H34.ext ?_⟩, fun _ => by omega⟩, fun _ => by omega⟩
    · unfold Val.Ok; rw [he.2.2]; simp [hk, nil_size]
    · unfold Val.Ok; constructor
      · intro h; cases h
      · intro h; rcases h with h | h | h | h
        · omega
        · rcases he with e | e | e
          · exact absurd rfl e
          · exact absurd rfl e
          · exact absurd h.2 e
        · omega
        · omega
  · refine ⟨_, a1, ⟨_, d1⟩, B5.frozen _, fun w34 h34 => ?_⟩
    have H34 := H11.put 0 rfl h34
    have B1' : Blk w34 b1 42 #[.int .i64 v.k, .int .i64 v.n, .string v.s] := H34.blk 1 rfl
    have B5' : Blk w34 b5 42 #[.int .i64 v.k, .int .i64 (bits .and .i64 v.n 1), .string ⟨#[]⟩] := H34.blk 0 rfl
    rw [and1_i64] at B5'
    obtain ⟨a0, a1, a2⟩ := B1'.c3
    obtain ⟨d0, d1, d2⟩ := B5'.c3
    refine ⟨_, a0, fun _ => ⟨_, a0, fun _ => ⟨_, a0, _, a1, _, a2, _, d0, _, d1, _, d2, fun he => ⟨_, a2, key _ _ H34.ext ?_⟩, fun he => key _ _ H34.ext ?_⟩, fun _ => by omega⟩, fun _ => by omega⟩
    · unfold Val.Ok
      have : v.n = 0 ∨ v.n = 1 := by omega
      rw [he.2.2]; simp [hk, this, nil_size]
    · unfold Val.Ok; constructor
      · intro h; cases h
      · intro h; rcases h with h | h | h | h
        · omega
        · omega
        · rcases he with e | e | e
          · exact absurd rfl e
          · omega
          · exact absurd h.2.2 e
        · omega
  · refine ⟨_, a2, ⟨_, d2⟩, B5.frozen _, fun w34 h34 => ?_⟩
    have H34 := H11.put 0 rfl h34
    have B1' : Blk w34 b1 42 #[.int .i64 v.k, .int .i64 v.n, .string v.s] := H34.blk 1 rfl
    have B5' : Blk w34 b5 42 #[.int .i64 v.k, .int .i64 0, .string v.s] := H34.blk 0 rfl
    obtain ⟨a0, a1, a2⟩ := B1'.c3
    obtain ⟨d0, d1, d2⟩ := B5'.c3
    refine ⟨_, a0, fun _ => ⟨_, a0, fun _ => ⟨_, a0, _, a1, _, a2, _, d0, _, d1, _, d2, fun he => ⟨_, a2, key _ _ H34.ext ?_⟩, fun he => key _ _ H34.ext ?_⟩, fun _ => by omega⟩, fun _ => by omega⟩
    · unfold Val.Ok; simp only [decide_eq_true_eq]
      constructor
      · intro h; exact .inr (.inr (.inr ⟨hk, he.2.1, by omega⟩))
      · intro h; rcases h with h | h | h | h <;> omega
    · unfold Val.Ok; constructor
      · intro h; cases h
      · intro h; rcases h with h | h | h | h
        · omega
        · omega
        · omega
        · rcases he with e | e | e
          · exact absurd rfl e
          · exact absurd h.2.1 e
          · exact absurd rfl e
  · have no : ¬ v.Ok := by unfold Val.Ok; omega
    refine ⟨_, a0, fun _ => ⟨_, a0, fun _ => ⟨_, a0, _, a1, _, a2, _, d0, _, d1, _, d2, fun he => by omega, fun he => key _ _ hx (by simp [no])⟩, fun _ => key _ _ hx (by simp [no])⟩, fun _ => key _ _ hx (by simp [no])⟩

end Go.Proofs.Ytckfedekpkgcdaa

/- The verification conditions of the functions, evaluated: printed by program. -/
namespace Go.Proofs.Ytckfedekpkgcdaa
open Go Go.Vc
set_option maxRecDepth 20000

set_option maxRecDepth 100000 in
def vlay_T (b_p : Option Addr) (b_n : Nat) (b_c : Nat) (v0 : Int) (v1 : Int) (v2 : ByteArray) (w : World) (R : Ending → World → Prop) : Prop :=
  ∀ b1 w'2, New w (Obj.cells #[.int .i64 v0, .int .i64 v1, .string v2] 42) b1 w'2 → ∃ n4, w'2.cell? ⟨b1, 0, none⟩ = some (.int .i64 n4) ∧ ∃ n5, w'2.cell? ⟨b1, 1, none⟩ = some (.int .i64 n5) ∧ ∃ s6, w'2.cell? ⟨b1, 2, none⟩ = some (.string s6) ∧ Calls Try.prog 39 #[.agg #[.int .i64 n4, .int .i64 n5, .string s6]] w'2 fun e7 w8 ↦
 ∃ b9, e7 = .returned (.bool b9) ∧ (b9 = false → R (.returned (.tuple #[.slice none 0 0, .int .i64 2])) w8) ∧ (b9 = true → ∃ n12, w8.cell? ⟨b1, 0, none⟩ = some (.int .i64 n12) ∧ ∀ b13 w'14, New w8 (Obj.cells #[.int .u8 (IntKind.u8.wrap n12)] 5) b13 w'14 → ∀ b16 w'17, New w'14 (Obj.cells #[.slice b_p b_n b_c, .slice (some ⟨b13, 0, none⟩) 1 1] 89) b16 w'17 → Calls Try.prog 46 #[.slice (some ⟨b16, 0, none⟩) 2 2] w'17 fun e19 w20 ↦
 ∃ p21 n22 c23, e19 = .returned (.slice p21 n22 c23) ∧ ∃ n24, w20.cell? ⟨b1, 0, none⟩ = some (.int .i64 n24) ∧ (n24 = 1 → ∃ n26, w20.cell? ⟨b1, 1, none⟩ = some (.int .i64 n26) ∧ Calls Try.prog 47 #[.slice p21 n22 c23, .int .i64 n26] w20 fun e27 w28 ↦
 ∃ p29 n30 c31, e27 = .returned (.slice p29 n30 c31) ∧ R (.returned (.tuple #[.slice p29 n30 c31, .int .i64 0])) w28) ∧ (n24 ≠ 1 → (n24 = 2 → ∃ n34, w20.cell? ⟨b1, 1, none⟩ = some (.int .i64 n34) ∧ ∀ b35 w'36, New w20 (Obj.cells #[.int .u8 (IntKind.u8.wrap n34)] 5) b35 w'36 → ∃ p38 n39 c40, ∃ (w'41 : World), Sem.run Try.prog (Builtin.append_ #[89, 89] 89 #[.slice p21 n22 c23, .slice (some ⟨b35, 0, none⟩) 1 1]) w'36 = Result.ok (.slice p38 n39 c40) w'41 ∧ R (.returned (.tuple #[.slice p38 n39 c40, .int .i64 0])) w'41) ∧ (n24 ≠ 2 → (n24 = 3 → ∃ s44, w20.cell? ⟨b1, 2, none⟩ = some (.string s44) ∧ Calls Try.prog 48 #[.slice p21 n22 c23, .string s44] w20 fun e45 w46 ↦
 ∃ p47 n48 c49, ∃ n50, e45 = .returned (.tuple #[.slice p47 n48 c49, .int .i64 n50]) ∧ R (.returned (.tuple #[.slice p47 n48 c49, .int .i64 n50])) w46) ∧ (n24 ≠ 3 → R (.returned (.tuple #[.slice p21 n22 c23, .int .i64 0])) w20))))

set_option maxRecDepth 100000 in
theorem vlay_eq (b_p : Option Addr) (b_n : Nat) (b_c : Nat) (v0 : Int) (v1 : Int) (v2 : ByteArray) (w : World) (R : Ending → World → Prop) : vlay_T b_p b_n b_c v0 v1 v2 w R = vcFn Try.prog [] [] Try.f38 [.slice b_p b_n b_c, .agg #[.int .i64 v0, .int .i64 v1, .string v2]] w R := by kernel_rfl

set_option maxRecDepth 100000 in
theorem vlay_vc (b_p : Option Addr) (b_n : Nat) (b_c : Nat) (v0 : Int) (v1 : Int) (v2 : ByteArray) (w : World) (R : Ending → World → Prop) (hvc : vlay_T b_p b_n b_c v0 v1 v2 w R) : Calls Try.prog 38 #[.slice b_p b_n b_c, .agg #[.int .i64 v0, .int .i64 v1, .string v2]] w R :=
  calls_of_vc (args := [.slice b_p b_n b_c, .agg #[.int .i64 v0, .int .i64 v1, .string v2]]) [] [] Try.mixed Try.func38 (cast (vlay_eq _ _ _ _ _ _ w R) hvc)


end Go.Proofs.Ytckfedekpkgcdaa

/- The contract of value.Lay. Printed by mkvb2.py. -/
namespace Go.Proofs.Ytckfedekpkgcdaa
open Go Go.Vc Go.RowKit
set_option maxRecDepth 20000
attribute [local irreducible] Calls Put Drew New

def layV (l : List UInt8) (v : Val) : List UInt8 × Int := if v.right then (l ++ valB v, 0) else ([], 2)
/-! ### Laying -/
theorem undB : Try.prog.underlying 89 = some (.slice 5) := by kernel_rfl
theorem tyB : tyOf Try.prog 5 = some { agg := false, ls := [.int .u8], zero := .int .u8 0, bytes := 1, big := false, n := 1 } := by kernel_rfl
theorem parts_blk {w : World} {b : Nat} {t : TypeId} {cs : Array Value} {bs : List (List UInt8)} (hb : Blk w b t cs)
    (h : ∀ (k : Nat) (l : List UInt8), bs[k]? = some l → ∃ (q : Option Addr) (d : Nat), cs[k]? = some (Value.slice q l.length d) ∧ At w q (vB l) ∧ l.length ≤ maxLen ∧ (q = none → l = [] ∧ d = 0)) :
    Parts w (some ⟨b, 0, none⟩) bs := by
  refine .inr ⟨_, _, rfl, fun k l hl => ?_⟩
  obtain ⟨q, d, hc, hq, hm, hn⟩ := h k l hl
  refine ⟨q, d, ?_, hq, hm, hn⟩
  rw [hb.cell, Nat.zero_add]; exact hc
theorem kind_byte {v : Val} (h : v.Ok) : IntKind.u8.wrap v.k = (((UInt8.ofNat v.k.toNat).toNat : Nat) : Int) := by
  rcases h with ⟨e, _⟩ | ⟨e, _⟩ | ⟨e, _⟩ | ⟨e, _⟩ <;> rw [e] <;> rfl
theorem bool_byte {x : Int} (h : x = 0 ∨ x = 1) : IntKind.u8.wrap x = (((UInt8.ofNat x.toNat).toNat : Nat) : Int) := by
  rcases h with e | e <;> rw [e] <;> rfl
theorem hold_in {w0 W : World} {fs : List (Nat × Obj)} {ms : List Row} (H : Hold w0 W fs ms) (i : Nat) {p : Option Addr} {n c : Nat} {l : List UInt8} (hi : ms[i]? = some ⟨5, 1, p, n, c, vB l⟩) (hl : l.length = n) : In W p n c l :=
  ⟨hl, (H.row i hi).cap, (H.row i hi).at, (H.row i hi).isNil⟩
theorem hold_out {w0 W : World} {fs : List (Nat × Obj)} {ms : List Row} (H : Hold w0 W fs ms) (i : Nat) {p : Option Addr} {n c : Nat} {l : List UInt8} (hi : ms[i]? = some ⟨5, 1, p, n, c, vB l⟩) (hl : l.length = n) : Out w0.heap.size W p n c l := ⟨hl, H.row i hi⟩

set_option maxHeartbeats 4000000 in
theorem vlay_ok (w : World) {p : Option Addr} {n c : Nat} {l : List UInt8} {v : Val} (h : In w p n c l) (hv : v.fit) (hroom : n + 2000100 ≤ 211106232532992) :
    Calls Try.prog 38 #[.slice p n c, v.agg] w fun e w' => ∃ p' n' c', e = .returned (.tuple #[.slice p' n' c', .int .i64 (layV l v).2]) ∧ Out w.heap.size w' p' n' c' (layV l v).1 ∧ Ext w w' := by
  have hl := h.len
  apply vlay_vc
  unfold vlay_T
  have H := Hold.start (Ext.rfl (w := w))
  repeat (first
    | (intro _ _ hS; replace H := H.new hS; clear hS)
    | (intro _ hS; (first | replace H := H.put 0 rfl hS | replace H := H.put 1 rfl hS | replace H := H.put 2 rfl hS | replace H := H.put 3 rfl hS | replace H := H.put 4 rfl hS | replace H := H.put 5 rfl hS | replace H := H.put 6 rfl hS | replace H := H.put 7 rfl hS); clear hS; try simp only [setA, List.setIfInBounds_toArray, List.set_cons_zero, List.set_cons_succ, Nat.zero_add, Nat.reduceAdd] at H)
    | (intro _ hS; replace H := H.step (Drew.ext hS); clear hS)
    | (first | refine ⟨⟨_, H.get 0 rfl rfl⟩, ?_⟩ | refine ⟨⟨_, H.get 1 rfl rfl⟩, ?_⟩ | refine ⟨⟨_, H.get 2 rfl rfl⟩, ?_⟩ | refine ⟨⟨_, H.get 3 rfl rfl⟩, ?_⟩ | refine ⟨⟨_, H.get 4 rfl rfl⟩, ?_⟩ | refine ⟨⟨_, H.get 5 rfl rfl⟩, ?_⟩ | refine ⟨⟨_, H.get 6 rfl rfl⟩, ?_⟩ | refine ⟨⟨_, H.get 7 rfl rfl⟩, ?_⟩)
    | (first | refine ⟨H.frz 0 rfl, ?_⟩ | refine ⟨H.frz 1 rfl, ?_⟩ | refine ⟨H.frz 2 rfl, ?_⟩ | refine ⟨H.frz 3 rfl, ?_⟩ | refine ⟨H.frz 4 rfl, ?_⟩ | refine ⟨H.frz 5 rfl, ?_⟩ | refine ⟨H.frz 6 rfl, ?_⟩ | refine ⟨H.frz 7 rfl, ?_⟩)
    | (first | refine ⟨_, H.get 0 rfl rfl, ?_⟩ | refine ⟨_, H.get 1 rfl rfl, ?_⟩ | refine ⟨_, H.get 2 rfl rfl, ?_⟩ | refine ⟨_, H.get 3 rfl rfl, ?_⟩ | refine ⟨_, H.get 4 rfl rfl, ?_⟩ | refine ⟨_, H.get 5 rfl rfl, ?_⟩ | refine ⟨_, H.get 6 rfl rfl, ?_⟩ | refine ⟨_, H.get 7 rfl rfl, ?_⟩)
    | (first | refine ⟨_, _, _, H.get 0 rfl rfl, ?_⟩ | refine ⟨_, _, _, H.get 1 rfl rfl, ?_⟩ | refine ⟨_, _, _, H.get 2 rfl rfl, ?_⟩ | refine ⟨_, _, _, H.get 3 rfl rfl, ?_⟩ | refine ⟨_, _, _, H.get 4 rfl rfl, ?_⟩ | refine ⟨_, _, _, H.get 5 rfl rfl, ?_⟩ | refine ⟨_, _, _, H.get 6 rfl rfl, ?_⟩ | refine ⟨_, _, _, H.get 7 rfl rfl, ?_⟩))
  refine (vright_ok v _).mono ?_
  rintro e W ⟨rfl, eS⟩
  replace H := H.step eS
  refine ⟨_, rfl, fun hf => ?_, fun ht => ?_⟩
  · have hL : layV l v = ([], 2) := by unfold layV; rw [hf]; rfl
    refine ⟨none, 0, 0, by rw [hL], ?_, H.ext⟩
    rw [hL]
    exact ⟨rfl, Mine.nil _ _ _ _⟩
  have hok : v.Ok := of_decide_eq_true ht
  have hL : layV l v = (l ++ valB v, 0) := by unfold layV; rw [if_pos ht]
  refine ⟨_, H.get 0 rfl rfl, ?_⟩
  rw [kind_byte hok]
  clear eS
  repeat (first
    | (intro _ _ hS; replace H := H.new hS; clear hS)
    | (intro _ hS; (first | replace H := H.put 0 rfl hS | replace H := H.put 1 rfl hS | replace H := H.put 2 rfl hS | replace H := H.put 3 rfl hS | replace H := H.put 4 rfl hS | replace H := H.put 5 rfl hS | replace H := H.put 6 rfl hS | replace H := H.put 7 rfl hS); clear hS; try simp only [setA, List.setIfInBounds_toArray, List.set_cons_zero, List.set_cons_succ, Nat.zero_add, Nat.reduceAdd] at H)
    | (intro _ hS; replace H := H.step (Drew.ext hS); clear hS)
    | (first | refine ⟨⟨_, H.get 0 rfl rfl⟩, ?_⟩ | refine ⟨⟨_, H.get 1 rfl rfl⟩, ?_⟩ | refine ⟨⟨_, H.get 2 rfl rfl⟩, ?_⟩ | refine ⟨⟨_, H.get 3 rfl rfl⟩, ?_⟩ | refine ⟨⟨_, H.get 4 rfl rfl⟩, ?_⟩ | refine ⟨⟨_, H.get 5 rfl rfl⟩, ?_⟩ | refine ⟨⟨_, H.get 6 rfl rfl⟩, ?_⟩ | refine ⟨⟨_, H.get 7 rfl rfl⟩, ?_⟩)
    | (first | refine ⟨H.frz 0 rfl, ?_⟩ | refine ⟨H.frz 1 rfl, ?_⟩ | refine ⟨H.frz 2 rfl, ?_⟩ | refine ⟨H.frz 3 rfl, ?_⟩ | refine ⟨H.frz 4 rfl, ?_⟩ | refine ⟨H.frz 5 rfl, ?_⟩ | refine ⟨H.frz 6 rfl, ?_⟩ | refine ⟨H.frz 7 rfl, ?_⟩)
    | (first | refine ⟨_, H.get 0 rfl rfl, ?_⟩ | refine ⟨_, H.get 1 rfl rfl, ?_⟩ | refine ⟨_, H.get 2 rfl rfl, ?_⟩ | refine ⟨_, H.get 3 rfl rfl, ?_⟩ | refine ⟨_, H.get 4 rfl rfl, ?_⟩ | refine ⟨_, H.get 5 rfl rfl, ?_⟩ | refine ⟨_, H.get 6 rfl rfl, ?_⟩ | refine ⟨_, H.get 7 rfl rfl, ?_⟩)
    | (first | refine ⟨_, _, _, H.get 0 rfl rfl, ?_⟩ | refine ⟨_, _, _, H.get 1 rfl rfl, ?_⟩ | refine ⟨_, _, _, H.get 2 rfl rfl, ?_⟩ | refine ⟨_, _, _, H.get 3 rfl rfl, ?_⟩ | refine ⟨_, _, _, H.get 4 rfl rfl, ?_⟩ | refine ⟨_, _, _, H.get 5 rfl rfl, ?_⟩ | refine ⟨_, _, _, H.get 6 rfl rfl, ?_⟩ | refine ⟨_, _, _, H.get 7 rfl rfl, ?_⟩))
  have hparts := parts_blk (bs := [l, [UInt8.ofNat v.k.toNat]]) (H.blk 0 rfl) (by
    intro k x hx
    match k, hx with
    | 0, hx => cases hx; exact ⟨p, c, by simp [hl], h.lies.ext H.ext, by have := h.le; omega, fun e => by obtain ⟨h1, h2⟩ := h.nil e; exact ⟨List.eq_nil_of_length_eq_zero (by omega), h2⟩⟩
    | 1, hx => cases hx; exact ⟨_, 1, rfl, (H.blk 1 rfl).at, by simp [maxLen], fun e => by cases e⟩
    | k + 2, hx => simp at hx)
  refine (concat_ok _ _ 2 2 [l, [UInt8.ofNat v.k.toNat]] rfl (by simp [maxLen]) hparts (by simp; omega)).mono ?_
  rintro e W2 ⟨p2, c2, rfl, hm2, eX⟩
  have H0 := H
  replace H := H.addRow eX hm2
  clear hm2 hparts eX
  have ef : [l, [UInt8.ofNat v.k.toNat]].flatten = l ++ [UInt8.ofNat v.k.toNat] := by simp
  have hl1 : (l ++ [UInt8.ofNat v.k.toNat]).length = n + 1 := by simp [hl]
  rw [ef, hl1] at H ⊢
  refine ⟨_, _, _, rfl, ?_⟩
  repeat (first
    | (intro _ _ hS; replace H := H.new hS; clear hS)
    | (intro _ hS; (first | replace H := H.put 0 rfl hS | replace H := H.put 1 rfl hS | replace H := H.put 2 rfl hS | replace H := H.put 3 rfl hS | replace H := H.put 4 rfl hS | replace H := H.put 5 rfl hS | replace H := H.put 6 rfl hS | replace H := H.put 7 rfl hS); clear hS; try simp only [setA, List.setIfInBounds_toArray, List.set_cons_zero, List.set_cons_succ, Nat.zero_add, Nat.reduceAdd] at H)
    | (intro _ hS; replace H := H.step (Drew.ext hS); clear hS)
    | (first | refine ⟨⟨_, H.get 0 rfl rfl⟩, ?_⟩ | refine ⟨⟨_, H.get 1 rfl rfl⟩, ?_⟩ | refine ⟨⟨_, H.get 2 rfl rfl⟩, ?_⟩ | refine ⟨⟨_, H.get 3 rfl rfl⟩, ?_⟩ | refine ⟨⟨_, H.get 4 rfl rfl⟩, ?_⟩ | refine ⟨⟨_, H.get 5 rfl rfl⟩, ?_⟩ | refine ⟨⟨_, H.get 6 rfl rfl⟩, ?_⟩ | refine ⟨⟨_, H.get 7 rfl rfl⟩, ?_⟩)
    | (first | refine ⟨H.frz 0 rfl, ?_⟩ | refine ⟨H.frz 1 rfl, ?_⟩ | refine ⟨H.frz 2 rfl, ?_⟩ | refine ⟨H.frz 3 rfl, ?_⟩ | refine ⟨H.frz 4 rfl, ?_⟩ | refine ⟨H.frz 5 rfl, ?_⟩ | refine ⟨H.frz 6 rfl, ?_⟩ | refine ⟨H.frz 7 rfl, ?_⟩)
    | (first | refine ⟨_, H.get 0 rfl rfl, ?_⟩ | refine ⟨_, H.get 1 rfl rfl, ?_⟩ | refine ⟨_, H.get 2 rfl rfl, ?_⟩ | refine ⟨_, H.get 3 rfl rfl, ?_⟩ | refine ⟨_, H.get 4 rfl rfl, ?_⟩ | refine ⟨_, H.get 5 rfl rfl, ?_⟩ | refine ⟨_, H.get 6 rfl rfl, ?_⟩ | refine ⟨_, H.get 7 rfl rfl, ?_⟩)
    | (first | refine ⟨_, _, _, H.get 0 rfl rfl, ?_⟩ | refine ⟨_, _, _, H.get 1 rfl rfl, ?_⟩ | refine ⟨_, _, _, H.get 2 rfl rfl, ?_⟩ | refine ⟨_, _, _, H.get 3 rfl rfl, ?_⟩ | refine ⟨_, _, _, H.get 4 rfl rfl, ?_⟩ | refine ⟨_, _, _, H.get 5 rfl rfl, ?_⟩ | refine ⟨_, _, _, H.get 6 rfl rfl, ?_⟩ | refine ⟨_, _, _, H.get 7 rfl rfl, ?_⟩))
  refine ⟨fun h1 => ?_, fun h1 => ⟨fun h2 => ?_, fun h2 => ⟨fun h3 => ?_, fun h3 => ?_⟩⟩⟩
  · have eb : valB v = UInt8.ofNat v.k.toNat :: uvar (zigN v.n) := by unfold valB; rw [if_pos h1]
    repeat (first
      | (intro _ _ hS; replace H := H.new hS; clear hS)
      | (intro _ hS; (first | replace H := H.put 0 rfl hS | replace H := H.put 1 rfl hS | replace H := H.put 2 rfl hS | replace H := H.put 3 rfl hS | replace H := H.put 4 rfl hS | replace H := H.put 5 rfl hS | replace H := H.put 6 rfl hS | replace H := H.put 7 rfl hS); clear hS; try simp only [setA, List.setIfInBounds_toArray, List.set_cons_zero, List.set_cons_succ, Nat.zero_add, Nat.reduceAdd] at H)
      | (intro _ hS; replace H := H.step (Drew.ext hS); clear hS)
      | (first | refine ⟨⟨_, H.get 0 rfl rfl⟩, ?_⟩ | refine ⟨⟨_, H.get 1 rfl rfl⟩, ?_⟩ | refine ⟨⟨_, H.get 2 rfl rfl⟩, ?_⟩ | refine ⟨⟨_, H.get 3 rfl rfl⟩, ?_⟩ | refine ⟨⟨_, H.get 4 rfl rfl⟩, ?_⟩ | refine ⟨⟨_, H.get 5 rfl rfl⟩, ?_⟩ | refine ⟨⟨_, H.get 6 rfl rfl⟩, ?_⟩ | refine ⟨⟨_, H.get 7 rfl rfl⟩, ?_⟩)
      | (first | refine ⟨H.frz 0 rfl, ?_⟩ | refine ⟨H.frz 1 rfl, ?_⟩ | refine ⟨H.frz 2 rfl, ?_⟩ | refine ⟨H.frz 3 rfl, ?_⟩ | refine ⟨H.frz 4 rfl, ?_⟩ | refine ⟨H.frz 5 rfl, ?_⟩ | refine ⟨H.frz 6 rfl, ?_⟩ | refine ⟨H.frz 7 rfl, ?_⟩)
      | (first | refine ⟨_, H.get 0 rfl rfl, ?_⟩ | refine ⟨_, H.get 1 rfl rfl, ?_⟩ | refine ⟨_, H.get 2 rfl rfl, ?_⟩ | refine ⟨_, H.get 3 rfl rfl, ?_⟩ | refine ⟨_, H.get 4 rfl rfl, ?_⟩ | refine ⟨_, H.get 5 rfl rfl, ?_⟩ | refine ⟨_, H.get 6 rfl rfl, ?_⟩ | refine ⟨_, H.get 7 rfl rfl, ?_⟩)
      | (first | refine ⟨_, _, _, H.get 0 rfl rfl, ?_⟩ | refine ⟨_, _, _, H.get 1 rfl rfl, ?_⟩ | refine ⟨_, _, _, H.get 2 rfl rfl, ?_⟩ | refine ⟨_, _, _, H.get 3 rfl rfl, ?_⟩ | refine ⟨_, _, _, H.get 4 rfl rfl, ?_⟩ | refine ⟨_, _, _, H.get 5 rfl rfl, ?_⟩ | refine ⟨_, _, _, H.get 6 rfl rfl, ?_⟩ | refine ⟨_, _, _, H.get 7 rfl rfl, ?_⟩))
    refine (signed_out _ (hold_in H 0 rfl hl1) (by omega) hv.2.1 hv.2.2).mono ?_
    rintro e W ⟨p3, n3, c3, rfl, ho, eS⟩
    have hsz := H.size
    replace H := H.step eS
    refine ⟨p3, n3, c3, rfl, p3, n3, c3, by rw [hL], ?_, H.ext⟩
    rw [hL, eb]
    rw [List.append_assoc] at ho
    exact ho.mono (by omega)
  · have eb : valB v = [UInt8.ofNat v.k.toNat, UInt8.ofNat v.n.toNat] := by unfold valB; rw [if_neg (by omega), if_pos h2]
    have hb01 : v.n = 0 ∨ v.n = 1 := by
      rcases hok with ⟨a, _⟩ | ⟨a, _⟩ | ⟨_, a, _⟩ | ⟨a, _⟩
      · omega
      · omega
      · exact a
      · omega
    (first | refine ⟨_, H.get 0 rfl rfl, ?_⟩ | refine ⟨_, H.get 1 rfl rfl, ?_⟩ | refine ⟨_, H.get 2 rfl rfl, ?_⟩ | refine ⟨_, H.get 3 rfl rfl, ?_⟩)
    rw [bool_byte hb01]
    repeat (first
      | (intro _ _ hS; replace H := H.new hS; clear hS)
      | (intro _ hS; (first | replace H := H.put 0 rfl hS | replace H := H.put 1 rfl hS | replace H := H.put 2 rfl hS | replace H := H.put 3 rfl hS | replace H := H.put 4 rfl hS | replace H := H.put 5 rfl hS | replace H := H.put 6 rfl hS | replace H := H.put 7 rfl hS); clear hS; try simp only [setA, List.setIfInBounds_toArray, List.set_cons_zero, List.set_cons_succ, Nat.zero_add, Nat.reduceAdd] at H)
      | (intro _ hS; replace H := H.step (Drew.ext hS); clear hS)
      | (first | refine ⟨⟨_, H.get 0 rfl rfl⟩, ?_⟩ | refine ⟨⟨_, H.get 1 rfl rfl⟩, ?_⟩ | refine ⟨⟨_, H.get 2 rfl rfl⟩, ?_⟩ | refine ⟨⟨_, H.get 3 rfl rfl⟩, ?_⟩ | refine ⟨⟨_, H.get 4 rfl rfl⟩, ?_⟩ | refine ⟨⟨_, H.get 5 rfl rfl⟩, ?_⟩ | refine ⟨⟨_, H.get 6 rfl rfl⟩, ?_⟩ | refine ⟨⟨_, H.get 7 rfl rfl⟩, ?_⟩)
      | (first | refine ⟨H.frz 0 rfl, ?_⟩ | refine ⟨H.frz 1 rfl, ?_⟩ | refine ⟨H.frz 2 rfl, ?_⟩ | refine ⟨H.frz 3 rfl, ?_⟩ | refine ⟨H.frz 4 rfl, ?_⟩ | refine ⟨H.frz 5 rfl, ?_⟩ | refine ⟨H.frz 6 rfl, ?_⟩ | refine ⟨H.frz 7 rfl, ?_⟩)
      | (first | refine ⟨_, H.get 0 rfl rfl, ?_⟩ | refine ⟨_, H.get 1 rfl rfl, ?_⟩ | refine ⟨_, H.get 2 rfl rfl, ?_⟩ | refine ⟨_, H.get 3 rfl rfl, ?_⟩ | refine ⟨_, H.get 4 rfl rfl, ?_⟩ | refine ⟨_, H.get 5 rfl rfl, ?_⟩ | refine ⟨_, H.get 6 rfl rfl, ?_⟩ | refine ⟨_, H.get 7 rfl rfl, ?_⟩)
      | (first | refine ⟨_, _, _, H.get 0 rfl rfl, ?_⟩ | refine ⟨_, _, _, H.get 1 rfl rfl, ?_⟩ | refine ⟨_, _, _, H.get 2 rfl rfl, ?_⟩ | refine ⟨_, _, _, H.get 3 rfl rfl, ?_⟩ | refine ⟨_, _, _, H.get 4 rfl rfl, ?_⟩ | refine ⟨_, _, _, H.get 5 rfl rfl, ?_⟩ | refine ⟨_, _, _, H.get 6 rfl rfl, ?_⟩ | refine ⟨_, _, _, H.get 7 rfl rfl, ?_⟩))
    obtain ⟨p3, c3, w3, hrun, H3⟩ := H.append (ty := 89) (P := Try.prog) (q := some ⟨_, 0, none⟩) (m := 1) (d' := 1) (news := vB [UInt8.ofNat v.n.toNat]) 0 rfl undB tyB rfl (by decide) (H.blk 0 rfl).at rfl (fun e => by cases e) vB_one (by dsimp only; omega) (by unfold maxLen; omega)
    refine ⟨_, _, _, _, hrun, _, _, _, by rw [hL], ?_, H3.ext⟩
    rw [hL, eb]
    refine hold_out H3 0 ?_ (by rw [List.length_append, hl]; simp only [List.length_cons, List.length_nil] <;> omega)
    simp [vB, Nat.zero_add]
  · have eb : valB v = UInt8.ofNat v.k.toNat :: (uvar v.s.size ++ tB v.s) := by unfold valB; rw [if_neg (by omega), if_neg (by omega), if_pos h3]
    have hs : v.s.size ≤ 1024 := by
      rcases hok with ⟨a, _⟩ | ⟨a, _⟩ | ⟨a, _⟩ | ⟨_, _, a⟩
      · omega
      · omega
      · omega
      · exact a
    repeat (first
      | (intro _ _ hS; replace H := H.new hS; clear hS)
      | (intro _ hS; (first | replace H := H.put 0 rfl hS | replace H := H.put 1 rfl hS | replace H := H.put 2 rfl hS | replace H := H.put 3 rfl hS | replace H := H.put 4 rfl hS | replace H := H.put 5 rfl hS | replace H := H.put 6 rfl hS | replace H := H.put 7 rfl hS); clear hS; try simp only [setA, List.setIfInBounds_toArray, List.set_cons_zero, List.set_cons_succ, Nat.zero_add, Nat.reduceAdd] at H)
      | (intro _ hS; replace H := H.step (Drew.ext hS); clear hS)
      | (first | refine ⟨⟨_, H.get 0 rfl rfl⟩, ?_⟩ | refine ⟨⟨_, H.get 1 rfl rfl⟩, ?_⟩ | refine ⟨⟨_, H.get 2 rfl rfl⟩, ?_⟩ | refine ⟨⟨_, H.get 3 rfl rfl⟩, ?_⟩ | refine ⟨⟨_, H.get 4 rfl rfl⟩, ?_⟩ | refine ⟨⟨_, H.get 5 rfl rfl⟩, ?_⟩ | refine ⟨⟨_, H.get 6 rfl rfl⟩, ?_⟩ | refine ⟨⟨_, H.get 7 rfl rfl⟩, ?_⟩)
      | (first | refine ⟨H.frz 0 rfl, ?_⟩ | refine ⟨H.frz 1 rfl, ?_⟩ | refine ⟨H.frz 2 rfl, ?_⟩ | refine ⟨H.frz 3 rfl, ?_⟩ | refine ⟨H.frz 4 rfl, ?_⟩ | refine ⟨H.frz 5 rfl, ?_⟩ | refine ⟨H.frz 6 rfl, ?_⟩ | refine ⟨H.frz 7 rfl, ?_⟩)
      | (first | refine ⟨_, H.get 0 rfl rfl, ?_⟩ | refine ⟨_, H.get 1 rfl rfl, ?_⟩ | refine ⟨_, H.get 2 rfl rfl, ?_⟩ | refine ⟨_, H.get 3 rfl rfl, ?_⟩ | refine ⟨_, H.get 4 rfl rfl, ?_⟩ | refine ⟨_, H.get 5 rfl rfl, ?_⟩ | refine ⟨_, H.get 6 rfl rfl, ?_⟩ | refine ⟨_, H.get 7 rfl rfl, ?_⟩)
      | (first | refine ⟨_, _, _, H.get 0 rfl rfl, ?_⟩ | refine ⟨_, _, _, H.get 1 rfl rfl, ?_⟩ | refine ⟨_, _, _, H.get 2 rfl rfl, ?_⟩ | refine ⟨_, _, _, H.get 3 rfl rfl, ?_⟩ | refine ⟨_, _, _, H.get 4 rfl rfl, ?_⟩ | refine ⟨_, _, _, H.get 5 rfl rfl, ?_⟩ | refine ⟨_, _, _, H.get 6 rfl rfl, ?_⟩ | refine ⟨_, _, _, H.get 7 rfl rfl, ?_⟩))
    refine (text_out _ (hold_in H 0 rfl hl1) (by omega)).mono ?_
    rintro e W ⟨p3, n3, c3, rfl, ho, eS⟩
    have et : textL (l ++ [UInt8.ofNat v.k.toNat]) (tB v.s) = (l ++ valB v, 0) := by
      unfold textL
      rw [tB_length, if_pos (by omega), eb]; simp
    rw [et] at ho
    have hsz := H.size
    replace H := H.step eS
    refine ⟨p3, n3, c3, _, rfl, p3, n3, c3, by rw [hL, et], ?_, H.ext⟩
    rw [hL]
    exact ho.mono (by omega)
  · have hk0 : v.k = 0 := by rcases hok with ⟨a, _⟩ | ⟨a, _⟩ | ⟨a, _⟩ | ⟨a, _⟩ <;> omega
    have eb : valB v = [UInt8.ofNat v.k.toNat] := by unfold valB; rw [if_neg (by omega), if_neg (by omega), if_neg (by omega)]
    refine ⟨_, _, _, by rw [hL], ?_, H.ext⟩
    rw [hL, eb]
    exact hold_out H 0 rfl hl1
end Go.Proofs.Ytckfedekpkgcdaa

/- The contracts of package value, of the document's answer for it, and of the words that hold rows against one another. -/
namespace Go.Proofs.Ytckfedekpkgcdaa
open Go Go.Vc Go.RowKit
set_option maxRecDepth 20000

theorem strcmp0_ok (a b : ByteArray) (w : World) : Calls Try.prog 58 #[.string a, .string b] w fun e w' => e = .returned (.int .i64 (cmpS a b)) ∧ w' = w := by
  apply strcmp0_vc
  unfold strcmp0_T
  refine ⟨_, _, ?_, rfl, rfl⟩
  rw [run_callFunc_extern Try.func59 (by kernel_rfl) (by kernel_rfl) (by kernel_rfl) (e := Extern.BytealgCompare.compare) (by kernel_rfl), Lib.run_compareString]
  rfl
theorem strcmp_ok (a b : ByteArray) (w : World) : Calls Try.prog 52 #[.string a, .string b] w fun e w' => e = .returned (.int .i64 (cmpS a b)) ∧ Ext w w' := by
  apply strcmp_vc
  unfold strcmp_T
  refine (strcmp0_ok a b w).mono ?_
  rintro e w' ⟨rfl, rfl⟩
  exact ⟨_, rfl, rfl, .rfl⟩
theorem isnani_ok (x : Int) (w : World) : Calls Try.prog 56 #[.int .i64 x] w fun e w' => e = .returned (.bool false) ∧ Ext w w' := by
  apply isnani_vc
  unfold isnani_T
  exact ⟨by simp, .rfl⟩
theorem isnani64_ok (x : Int) (w : World) : Calls Try.prog 57 #[.int .i64 x] w fun e w' => e = .returned (.bool false) ∧ Ext w w' := by
  apply isnani64_vc
  unfold isnani64_T
  exact ⟨by simp, .rfl⟩
theorem cmpint_ok (x y : Int) (w : World) : Calls Try.prog 50 #[.int .i64 x, .int .i64 y] w fun e w' => e = .returned (.int .i64 (cmpI x y)) ∧ Ext w w' := by
  apply cmpint_vc
  unfold cmpint_T
  refine (isnani_ok x w).mono ?_
  rintro e w1 ⟨rfl, e1⟩
  refine ⟨_, rfl, (isnani_ok y w1).mono ?_⟩
  rintro e w2 ⟨rfl, e2⟩
  have e12 := e1.trans e2
  refine ⟨_, rfl, ⟨fun h => (by cases h), fun _ => ⟨fun h => (by cases h), fun _ => ⟨fun h => ⟨?_, e12⟩, fun h => ⟨fun h' => ⟨?_, e12⟩, fun h' => ⟨?_, e12⟩⟩⟩⟩⟩⟩
  · unfold cmpI; rw [if_pos h]
  · unfold cmpI; rw [if_neg (by omega), if_pos h']
  · unfold cmpI; rw [if_neg (by omega), if_neg (by omega)]
theorem cmpint64_ok (x y : Int) (w : World) : Calls Try.prog 51 #[.int .i64 x, .int .i64 y] w fun e w' => e = .returned (.int .i64 (cmpI x y)) ∧ Ext w w' := by
  apply cmpint64_vc
  unfold cmpint64_T
  refine (isnani64_ok x w).mono ?_
  rintro e w1 ⟨rfl, e1⟩
  refine ⟨_, rfl, (isnani64_ok y w1).mono ?_⟩
  rintro e w2 ⟨rfl, e2⟩
  have e12 := e1.trans e2
  refine ⟨_, rfl, ⟨fun h => (by cases h), fun _ => ⟨fun h => (by cases h), fun _ => ⟨fun h => ⟨?_, e12⟩, fun h => ⟨fun h' => ⟨?_, e12⟩, fun h' => ⟨?_, e12⟩⟩⟩⟩⟩⟩
  · unfold cmpI; rw [if_pos h]
  · unfold cmpI; rw [if_neg (by omega), if_pos h']
  · unfold cmpI; rw [if_neg (by omega), if_neg (by omega)]

/-- The first of the numbers that is not 0. -/
def orI : List Int → Int
  | [] => 0
  | x :: l => if x ≠ 0 then x else orI l
theorem orI_drop {l : List Int} {k : Nat} {x : Int} (h : l[k]? = some x) : orI (l.drop k) = if x ≠ 0 then x else orI (l.drop (k + 1)) := by
  obtain ⟨hk, rfl⟩ := List.getElem?_eq_some_iff.1 h
  rw [List.drop_eq_getElem_cons hk, orI]
theorem cmpor_ok (w : World) {p : Option Addr} {n c : Nat} {l : List Int} (hl : l.length = n) (hn : n < 9223372036854775807) (h : At w p (vI .i64 l)) : Calls Try.prog 49 #[.slice p n c] w fun e w' => e = .returned (.int .i64 (orI l)) ∧ Ext w w' := by
  apply cmpor_vc
  unfold cmpor_T
  refine ⟨fun i w' => ∃ k : Nat, i = (k : Int) ∧ k ≤ n ∧ orI (l.drop k) = orI l ∧ Ext w w', fun i _ => n - i.toNat, ⟨0, rfl, Nat.zero_le _, rfl, .rfl⟩, ?_⟩
  rintro i w' ⟨k, rfl, hk, ho, hx⟩
  refine ⟨fun hlt => ?_, fun hge => ⟨?_, hx⟩⟩
  · obtain ⟨b, o, hp, hc⟩ := (h.ext hx).getI (i := k) (by omega)
    have hd := orI_drop (l := l) (k := k) (List.getElem?_eq_getElem (by omega))
    refine ⟨b, o, hp, by omega, by omega, _, by rw [Int.toNat_natCast]; exact hc, fun hne => ⟨?_, hx⟩, fun he => ?_⟩
    · rw [← ho, hd, if_pos hne]
    · rw [i64_next (by omega)]
      refine ⟨⟨k + 1, rfl, by omega, ?_, hx⟩, by simp only [Int.toNat_natCast]; omega⟩
      rw [← ho, hd, if_neg (by simpa using he)]
  · rw [← ho, List.drop_eq_nil_of_le (by omega)]; rfl

theorem vcompare_ok (a b : Val) (w : World) : Calls Try.prog 40 #[a.agg, b.agg] w fun e w' => e = .returned (.int .i64 (cmpV a b)) ∧ Ext w w' := by
  apply vcompare_vc
  unfold vcompare_T
  intro b1 w2 h1 b4 w5 h4 w7 h7
  have H := (((Hold.start (Ext.rfl (w := w))).new h1).new h4).step h7.ext
  obtain ⟨p0, p1, p2⟩ := (H.blk 1 rfl).c3
  obtain ⟨q0, q1, q2⟩ := (H.blk 0 rfl).c3
  refine ⟨_, p0, _, q0, _, p1, _, q1, _, p2, _, q2, (cmpint_ok _ _ w7).mono ?_⟩
  rintro e w16 ⟨rfl, e16⟩
  refine ⟨_, rfl, e16.same, (cmpint64_ok _ _ w16).mono ?_⟩
  rintro e w19 ⟨rfl, e19⟩
  refine ⟨_, rfl, e19.same, (strcmp_ok _ _ w19).mono ?_⟩
  rintro e w22 ⟨rfl, e22⟩
  refine ⟨_, rfl, fun b24 w25 h24 => ?_⟩
  have H25 := ((H.step e16).step e19).step e22
  have H26 := H25.new h24
  refine (cmpor_ok (l := [cmpI a.k b.k, cmpI a.n b.n, cmpS a.s b.s]) w25 rfl (by simp) h24.at).mono ?_
  rintro e w28 ⟨rfl, e28⟩
  refine ⟨_, rfl, ?_, (H26.step e28).ext⟩
  have : orI [cmpI a.k b.k, cmpI a.n b.n, cmpS a.s b.s] = cmpV a b := by
    rw [cmpV_def]
    simp only [orI]
    congr 1
    congr 1
    by_cases h : cmpS a.s b.s = 0 <;> simp [h]
  rw [this]

end Go.Proofs.Ytckfedekpkgcdaa

/- Big arrays in memory, told as one. -/
namespace Go.Vc
open Go Go.RowKit

section
variable {w w' w0 W W' : World} {b : Nat} {t : TypeId} {cs vs : Array Value} {fs : List (Nat × Obj)} {ms : List Row}
end

theorem anyDrop {α : Type} {f : α → Bool} {l : List α} {k : Nat} {x : α} (h : l[k]? = some x) : (l.drop k).any f = (f x || (l.drop (k + 1)).any f) := by
  obtain ⟨hk, rfl⟩ := List.getElem?_eq_some_iff.1 h
  rw [List.drop_eq_getElem_cons hk]; rfl
end Go.Vc

/- The contracts of the small functions of package group. -/
namespace Go.Proofs.Ytckfedekpkgcdaa
open Go Go.Vc Go.RowKit
set_option maxRecDepth 20000
attribute [local irreducible] Calls Put Drew New

theorem undInts : Try.prog.underlying 22 = some (.slice 3) := by kernel_rfl
theorem tyInt : tyOf Try.prog 3 = some { agg := false, ls := [.int .i64], zero := .int .i64 0, bytes := 8, big := false, n := 1 } := by kernel_rfl
theorem undRow : Try.prog.underlying 29 = some (.slice 42) := by kernel_rfl
theorem undRows : Try.prog.underlying 32 = some (.slice 29) := by kernel_rfl
theorem tyVal : tyOf Try.prog 42 = some { agg := true, ls := [.int .i64, .int .i64, .str], zero := .agg #[.int .i64 0, .int .i64 0, .string ⟨#[]⟩], bytes := 32, big := false, n := 3 } := by kernel_rfl
theorem tyRow : tyOf Try.prog 29 = some { agg := false, ls := [.slc], zero := .slice none 0 0, bytes := 24, big := false, n := 1 } := by kernel_rfl

def badW (a : Int) : Bool := decide (a < 1) || decide (5 < a)
theorem gnew1_ok (a : Int) (w : World) : Calls Try.prog 27 #[.int .i64 a] w fun e w' => e = .returned (.bool (badW a)) ∧ w' = w := by
  apply gnew1_vc
  unfold gnew1_T
  exact ⟨rfl, rfl⟩
theorem cfint_ok (w : World) {p : Option Addr} {n c : Nat} {l : List Int} (h : At w p (vI .i64 l)) (hl : l.length = n) (hn : n < 9223372036854775807) :
    Calls Try.prog 26 #[.slice p n c, .func (Fn.func 27) #[] #[]] w fun e w' => e = .returned (.bool (l.any badW)) ∧ Ext w w' := by
  apply cfint_vc
  unfold cfint_T
  apply ifint_vc
  unfold ifint_T
  refine ⟨fun i w' => ∃ k : Nat, i = (k : Int) ∧ k ≤ n ∧ l.any badW = (l.drop k).any badW ∧ w' = w, fun i _ => n - i.toNat, ⟨0, rfl, Nat.zero_le _, rfl, rfl⟩, ?_⟩
  rintro i w' ⟨k, rfl, hk, ha, rfl⟩
  refine ⟨fun hlt => ?_, fun hge => ?_⟩
  · obtain ⟨b, o, hp, hc⟩ := h.getI (i := k) (by omega)
    have g : l[k]? = some l[k] := List.getElem?_eq_getElem (by omega)
    refine ⟨b, o, hp, by omega, by omega, _, by rw [Int.toNat_natCast]; exact hc, (gnew1_ok _ w').mono ?_⟩
    rintro e w2 ⟨rfl, rfl⟩
    refine ⟨_, rfl, fun hb => ?_, fun hb => ?_⟩
    · refine ⟨_, rfl, ?_, .rfl⟩
      rw [ha, anyDrop g, hb, decide_eq_true (by omega)]; rfl
    · rw [i64_next (by omega)]
      refine ⟨⟨k + 1, rfl, by omega, ?_, rfl⟩, by simp only [Int.toNat_natCast]; omega⟩
      rw [ha, anyDrop g, hb]; rfl
  · refine ⟨_, rfl, ?_, .rfl⟩
    rw [ha, List.drop_eq_nil_iff.2 (by omega)]; rfl

theorem cloneint_ok (w : World) {p : Option Addr} {n c : Nat} {l : List Int} (h : At w p (vI .i64 l)) (hl : l.length = n) (hz : p = none → n = 0 ∧ c = 0) (hn : n ≤ 16) :
    Calls Try.prog 28 #[.slice p n c] w fun e w' => ∃ p' c', e = .returned (.slice p' n c') ∧
      ∀ fs ms w0, Hold w0 w fs ms → Hold w0 w' fs (⟨3, 1, p', n, c', vI .i64 l⟩ :: ms) := by
  apply cloneint_vc
  unfold cloneint_T
  refine ⟨fun hp => ?_, fun hp b3 w4 h4 => ?_⟩
  · have hp : p = none := by cases p with | none => rfl | some _ => cases hp
    obtain ⟨rfl, rfl⟩ := hz hp
    obtain rfl : l = [] := List.length_eq_zero_iff.1 hl
    exact ⟨none, 0, rfl, fun fs ms w0 hH => hH.nilRow _ _⟩
  · have hp : p ≠ none := by rintro rfl; cases hp
    have Hb := (Hold.start (Ext.rfl (w := w))).litRow (s := 1) (cap := 0) h4 (Nat.zero_le _) rfl
    obtain ⟨p', c', w9, hrun, hmine, hgrown, hp'⟩ := append_at (ty := 22) (P := Try.prog) (s := 1) (m := n) (d := c) undInts tyInt rfl (by decide) (Hb.row 0 rfl) (h.ext h4.ext) (by rw [vI_length, hl]; omega) (fun e => absurd e hp) vI_one
      h4.ext.size (by show ((0 + n) + (0 + n) / 4 + 192) * 8 ≤ 281474976710656; omega) (by simp [maxLen]; omega)
    rw [Nat.zero_add] at hrun
    have hnil : (#[] : Array Value).toList ++ vI .i64 l = vI .i64 l := rfl
    rw [hnil, Nat.zero_add] at hmine
    refine ⟨p', n, c', w9, hrun, p', c', rfl, fun fs ms w0 hH => ?_⟩
    have Hx := hH.litRow (s := 1) (cap := 0) h4 (Nat.zero_le _) rfl
    exact Hx.updRow 0 rfl ((Hx.row 0 rfl).grown hgrown) (hmine.mono hH.size) hp'

theorem clonerow_ok (w : World) {p : Option Addr} {n c : Nat} {r : List Val} (h : Vs w p n c r) (hsz : n ≤ 4398046511104) :
    Calls Try.prog 25 #[.slice p n c] w fun e w' => ∃ p' c', e = .returned (.slice p' n c') ∧ Vs w' p' n c' r ∧ Ext w w' ∧
      ∀ fs ms w0, Hold w0 w fs ms → Hold w0 w' fs (⟨42, 3, p', n, c', r.flatMap Val.cs⟩ :: ms) := by
  apply clonerow_vc
  unfold clonerow_T
  refine ⟨fun hn => ?_, fun hn b3 w4 h4 => ?_⟩
  · have hp : p = none := by cases p with | none => rfl | some _ => cases hn
    obtain ⟨rfl, rfl⟩ := h.nil hp
    have hr : r = [] := List.length_eq_zero_iff.1 h.len
    subst hr
    exact ⟨none, 0, rfl, Ls.nothing _ _, .rfl, fun fs ms w0 hH => hH.nilRow _ _⟩
  · have hp : p ≠ none := by rintro rfl; cases hn
    have Hb := (Hold.start (Ext.rfl (w := w))).litRow (s := 3) (cap := 0) h4 (Nat.zero_le _) rfl
    have hm := Hb.row 0 rfl
    obtain ⟨p', c', w9, hrun, hmine, hgrown, hp'⟩ := append_at (ty := 29) (P := Try.prog) (s := 3) (m := n) (d := c) undRow tyVal rfl (by decide) hm ((h.ext h4.ext).lies) (by rw [flatMap_length Val.cs_length, h.len]) (fun e => absurd e hp) (flatMap_one Val.cs_one r)
      h4.ext.size (by show ((0 + n) + (0 + n) / 4 + 192) * 32 ≤ 281474976710656; omega) (by have := h.le; simp [maxLen] at this ⊢; omega)
    rw [Nat.zero_add] at hrun
    have hnil : (#[] : Array Value).toList ++ r.flatMap Val.cs = r.flatMap Val.cs := rfl
    rw [hnil, Nat.zero_add] at hmine
    have step : ∀ fs ms w0, Hold w0 w fs ms → Hold w0 w9 fs (⟨42, 3, p', n, c', r.flatMap Val.cs⟩ :: ms) := by
      intro fs ms w0 hH
      have Hx := hH.litRow (s := 3) (cap := 0) h4 (Nat.zero_le _) rfl
      exact Hx.updRow 0 rfl ((Hx.row 0 rfl).grown hgrown) (hmine.mono hH.size) hp'
    have H9 := step [] [] w (Hold.start .rfl)
    exact ⟨p', n, c', w9, hrun, p', c', rfl, (H9.row 0 rfl).ls Val.cs_length (by decide), H9.ext, step⟩

theorem gnumber_ok (n : Int) (w : World) : Calls Try.prog 36 #[.int .i64 n] w fun e w' => e = .returned (numV n).agg ∧ Ext w w' := by
  apply gnumber_vc
  unfold gnumber_T
  intro b1 w2 h1
  have H := (Hold.start (Ext.rfl (w := w))).new h1
  exact H.ret3 0 rfl 1 n ⟨#[]⟩ fun W' e => ⟨rfl, e⟩

theorem layV_nil {v : Val} (h : v.right = true) : layV [] v = (valB v, 0) := by unfold layV; rw [if_pos h]; rfl
theorem layV_bad {l : List UInt8} {v : Val} (h : v.right = false) : layV l v = ([], 2) := by unfold layV; rw [h]; rfl

theorem gbytesof_ok (w : World) {p : Option Addr} {n c : Nat} {r : List Val} (h : Vs w p n c r) (hf : ∀ v ∈ r, v.fit) (hn : n ≤ 1048576) :
    Calls Try.prog 29 #[.slice p n c] w fun e w' => e = .returned (.tuple #[.string (bytesP r).1, .bool (bytesP r).2]) ∧ Ext w w' := by
  apply gbytesof_vc
  unfold gbytesof_T
  have hl := h.len
  refine ⟨fun q m d i W => ∃ k : Nat, i = (k : Int) ∧ k ≤ n ∧ rightL (r.take k) = true ∧ m = (keyL (r.take k)).length ∧ Hold w W [] [⟨5, 1, q, m, d, vB (keyL (r.take k))⟩], fun _ _ _ i _ => n - i.toNat,
    ⟨0, rfl, Nat.zero_le _, rfl, rfl, (Hold.start .rfl).nilRow _ _⟩, ?_⟩
  rintro q m d i W ⟨k, rfl, hk, hr, rfl, H⟩
  refine ⟨fun hlt => ?_, fun hge => ?_⟩
  · have g : r[k]? = some (r[k]'(by omega)) := List.getElem?_eq_getElem _
    generalize r[k]'(by omega) = v at g
    have hv := hf v (List.mem_of_getElem? g)
    obtain ⟨b, o, hp, c0, c1, c2⟩ := (h.ext H.ext).val g
    simp only [Int.toNat_natCast]
    refine ⟨b, o, hp, by omega, by omega, _, c0, _, c1, _, c2, ?_⟩
    repeat (first
      | (intro _ _ hS; replace H := H.new hS; clear hS)
      | (intro _ hS; (first | replace H := H.put 0 rfl hS | replace H := H.put 1 rfl hS | replace H := H.put 2 rfl hS | replace H := H.put 3 rfl hS | replace H := H.put 4 rfl hS | replace H := H.put 5 rfl hS | replace H := H.put 6 rfl hS | replace H := H.put 7 rfl hS); clear hS; try simp only [setA, List.setIfInBounds_toArray, List.set_cons_zero, List.set_cons_succ, Nat.zero_add, Nat.reduceAdd] at H)
      | (intro _ hS; replace H := H.step (Drew.ext hS); clear hS)
      | (first | refine ⟨⟨_, H.get 0 rfl rfl⟩, ?_⟩ | refine ⟨⟨_, H.get 1 rfl rfl⟩, ?_⟩ | refine ⟨⟨_, H.get 2 rfl rfl⟩, ?_⟩ | refine ⟨⟨_, H.get 3 rfl rfl⟩, ?_⟩ | refine ⟨⟨_, H.get 4 rfl rfl⟩, ?_⟩ | refine ⟨⟨_, H.get 5 rfl rfl⟩, ?_⟩ | refine ⟨⟨_, H.get 6 rfl rfl⟩, ?_⟩ | refine ⟨⟨_, H.get 7 rfl rfl⟩, ?_⟩)
      | (first | refine ⟨H.frz 0 rfl, ?_⟩ | refine ⟨H.frz 1 rfl, ?_⟩ | refine ⟨H.frz 2 rfl, ?_⟩ | refine ⟨H.frz 3 rfl, ?_⟩ | refine ⟨H.frz 4 rfl, ?_⟩ | refine ⟨H.frz 5 rfl, ?_⟩ | refine ⟨H.frz 6 rfl, ?_⟩ | refine ⟨H.frz 7 rfl, ?_⟩)
      | (first | refine ⟨_, H.get 0 rfl rfl, ?_⟩ | refine ⟨_, H.get 1 rfl rfl, ?_⟩ | refine ⟨_, H.get 2 rfl rfl, ?_⟩ | refine ⟨_, H.get 3 rfl rfl, ?_⟩ | refine ⟨_, H.get 4 rfl rfl, ?_⟩ | refine ⟨_, H.get 5 rfl rfl, ?_⟩ | refine ⟨_, H.get 6 rfl rfl, ?_⟩ | refine ⟨_, H.get 7 rfl rfl, ?_⟩)
      | (first | refine ⟨_, _, _, H.get 0 rfl rfl, ?_⟩ | refine ⟨_, _, _, H.get 1 rfl rfl, ?_⟩ | refine ⟨_, _, _, H.get 2 rfl rfl, ?_⟩ | refine ⟨_, _, _, H.get 3 rfl rfl, ?_⟩ | refine ⟨_, _, _, H.get 4 rfl rfl, ?_⟩ | refine ⟨_, _, _, H.get 5 rfl rfl, ?_⟩ | refine ⟨_, _, _, H.get 6 rfl rfl, ?_⟩ | refine ⟨_, _, _, H.get 7 rfl rfl, ?_⟩))
    refine (vlay_ok _ (In.nothing _) hv (by omega)).mono ?_
    rintro e W2 ⟨p2, n2, c2, rfl, ho, eS⟩
    have H2 := H.step eS
    refine ⟨_, _, _, _, rfl, fun hne => ?_, fun he => ?_⟩
    · have hb : v.right = false := by
        cases hvr : v.right with
        | false => rfl
        | true => rw [layV_nil hvr] at hne; exact absurd rfl hne
      unfold bytesP
      rw [rightL_false (List.mem_of_getElem? g) hb]
      exact ⟨rfl, H2.ext⟩
    · have hb : v.right = true := by
        cases hvr : v.right with
        | true => rfl
        | false => rw [layV_bad hvr] at he; exact absurd he (by decide)
      rw [layV_nil hb] at ho
      have hkl := keyL_len (r := r.take k) (rightL_okV hr fun v hv => hf v (List.mem_of_mem_take hv))
      have hvl := valB_len (of_decide_eq_true hb) hv
      have hok := ho.1
      simp only at hok
      rw [List.length_take] at hkl
      have hkl' : (keyL (r.take k)).length ≤ 1048576 * 1100 := Nat.le_trans hkl (Nat.mul_le_mul_right _ (by omega))
      obtain ⟨p3, c3, W3, hrun, H3⟩ := H2.append (ty := 89) (P := Try.prog) (q := p2) (m := n2) (d' := c2) (news := vB (valB v)) 0 rfl undB tyB rfl (by decide) ho.inn.lies (by rw [vB_length, hok]; omega)
        ho.inn.nil vB_one (by dsimp only; omega) (by unfold maxLen; omega)
      refine ⟨_, _, _, _, hrun, ?_⟩
      rw [i64_next (by omega)]
      have htk : keyL (r.take (k + 1)) = keyL (r.take k) ++ valB v := by unfold keyL; rw [List.take_add_one, g, List.flatMap_append]; simp
      refine ⟨⟨k + 1, rfl, by omega, by rw [rightL_take g, hr, hb]; rfl, by rw [htk, List.length_append, hok], ?_⟩, by simp only [Int.toNat_natCast]; omega⟩
      rw [htk, vB_append]
      exact H3.subA (List.nil_sublist _) (List.Sublist.refl _)
  · have hk' : k = n := by omega
    subst hk'
    rw [List.take_of_length_le (by omega)] at H hr
    refine ⟨_, (H.row 0 rfl).at.bytes' (by rw [List.take_of_length_le (by omega)]), ?_, H.ext⟩
    unfold bytesP
    rw [hr]; rfl

theorem gfits_ok (w : World) {T : Nat} {ap op vp : Option Addr} {an ac on oc vn vc : Nat} {mb : Option Nat} {aggs : List Int} {vals : List Val} (hT : Blk w T 61 #[.slice ap an ac, .map mb, .slice op on oc])
    (hA : At w ap (vI .i64 aggs)) (ha : aggs.length = an) (hv : Vs w vp vn vc vals) (hn : an ≤ 16) :
    Calls Try.prog 30 #[.pointer (some ⟨T, 0, none⟩), .slice vp vn vc] w fun e w' => e = .returned (.bool (fitsL aggs vals)) ∧ Ext w w' := by
  apply gfits_vc
  unfold gfits_T
  have hl := hv.len
  refine ⟨T, 0, rfl, ap, an, ac, by rw [hT.cell]; rfl, fun hne => ⟨?_, .rfl⟩, fun he => ?_⟩
  · have : fitsL aggs vals = false := by
      rw [← Bool.not_eq_true]
      intro h
      have := fitsL_len h
      omega
    rw [this]
  · have hnn : vn = an := by omega
    refine ⟨fun i W => ∃ k : Nat, i = (k : Int) ∧ k ≤ vn ∧ (∀ (j : Nat) a v, j < k → aggs[j]? = some a → vals[j]? = some v → fitV a v = true) ∧ Ext w W, fun i _ => vn - i.toNat, ⟨0, rfl, Nat.zero_le _, fun j a v hj => absurd hj (by omega), .rfl⟩, ?_⟩
    rintro i W ⟨k, rfl, hk, hall, hx⟩
    refine ⟨fun hlt => ?_, fun hge => ⟨?_, hx⟩⟩
    · have g : vals[k]? = some (vals[k]'(by omega)) := List.getElem?_eq_getElem _
      generalize vals[k]'(by omega) = v at g
      have ga : aggs[k]? = some (aggs[k]'(by omega)) := List.getElem?_eq_getElem _
      obtain ⟨b, o, hp, c0, c1, c2⟩ := (hv.ext hx).val g
      obtain ⟨ab, ao, hap, hac⟩ := hA.getI (i := k) (by omega)
      generalize aggs[k]'(by omega) = a at ga hac
      simp only [Int.toNat_natCast]
      have H := Hold.start hx
      have hbad : fitV a v = false → fitsL aggs vals = false := by
        intro hf
        rw [← Bool.not_eq_true]
        intro h
        have := fitsL_get h ga g
        rw [hf] at this; cases this
      refine ⟨b, o, hp, by omega, by omega, _, c0, _, c1, _, c2, ?_⟩
      repeat (first
        | (intro _ _ hS; replace H := H.new hS; clear hS)
        | (intro _ hS; (first | replace H := H.put 0 rfl hS | replace H := H.put 1 rfl hS | replace H := H.put 2 rfl hS | replace H := H.put 3 rfl hS | replace H := H.put 4 rfl hS | replace H := H.put 5 rfl hS | replace H := H.put 6 rfl hS | replace H := H.put 7 rfl hS); clear hS; try simp only [setA, List.setIfInBounds_toArray, List.set_cons_zero, List.set_cons_succ, Nat.zero_add, Nat.reduceAdd] at H)
        | (intro _ hS; replace H := H.step (Drew.ext hS); clear hS)
        | (first | refine ⟨⟨_, H.get 0 rfl rfl⟩, ?_⟩ | refine ⟨⟨_, H.get 1 rfl rfl⟩, ?_⟩ | refine ⟨⟨_, H.get 2 rfl rfl⟩, ?_⟩ | refine ⟨⟨_, H.get 3 rfl rfl⟩, ?_⟩ | refine ⟨⟨_, H.get 4 rfl rfl⟩, ?_⟩ | refine ⟨⟨_, H.get 5 rfl rfl⟩, ?_⟩ | refine ⟨⟨_, H.get 6 rfl rfl⟩, ?_⟩ | refine ⟨⟨_, H.get 7 rfl rfl⟩, ?_⟩)
        | (first | refine ⟨H.frz 0 rfl, ?_⟩ | refine ⟨H.frz 1 rfl, ?_⟩ | refine ⟨H.frz 2 rfl, ?_⟩ | refine ⟨H.frz 3 rfl, ?_⟩ | refine ⟨H.frz 4 rfl, ?_⟩ | refine ⟨H.frz 5 rfl, ?_⟩ | refine ⟨H.frz 6 rfl, ?_⟩ | refine ⟨H.frz 7 rfl, ?_⟩)
        | (first | refine ⟨_, H.get 0 rfl rfl, ?_⟩ | refine ⟨_, H.get 1 rfl rfl, ?_⟩ | refine ⟨_, H.get 2 rfl rfl, ?_⟩ | refine ⟨_, H.get 3 rfl rfl, ?_⟩ | refine ⟨_, H.get 4 rfl rfl, ?_⟩ | refine ⟨_, H.get 5 rfl rfl, ?_⟩ | refine ⟨_, H.get 6 rfl rfl, ?_⟩ | refine ⟨_, H.get 7 rfl rfl, ?_⟩)
        | (first | refine ⟨_, _, _, H.get 0 rfl rfl, ?_⟩ | refine ⟨_, _, _, H.get 1 rfl rfl, ?_⟩ | refine ⟨_, _, _, H.get 2 rfl rfl, ?_⟩ | refine ⟨_, _, _, H.get 3 rfl rfl, ?_⟩ | refine ⟨_, _, _, H.get 4 rfl rfl, ?_⟩ | refine ⟨_, _, _, H.get 5 rfl rfl, ?_⟩ | refine ⟨_, _, _, H.get 6 rfl rfl, ?_⟩ | refine ⟨_, _, _, H.get 7 rfl rfl, ?_⟩))
      refine (vright_ok v _).mono ?_
      rintro e W2 ⟨rfl, eS⟩
      replace H := H.step eS
      refine ⟨_, rfl, fun hf => ⟨?_, H.ext⟩, fun ht => ⟨T, 0, rfl, ap, an, ac, ?_, ab, ao, hap, by omega, by omega, a, cell_ext hac H.ext, fun h3 => ⟨_, H.get 0 rfl rfl, fun hk1 => ⟨_, H.get 0 rfl rfl, fun hk0 => ⟨?_, H.ext⟩, fun hk0 => ?_⟩, fun hk1 => ?_⟩, fun h3 => ?_⟩⟩
      · rw [hbad (by unfold fitV; rw [hf]; rfl)]
      · rw [(hT.ext H.ext).cell]; rfl
      · rw [hbad (by unfold fitV; rw [ht, decide_eq_true h3, decide_eq_true hk1, decide_eq_true hk0]; rfl)]
      all_goals
        rw [i64_next (by omega)]
        refine ⟨⟨k + 1, rfl, by omega, fun j x y hj hx hy => ?_, H.ext⟩, by simp only [Int.toNat_natCast]; omega⟩
        rcases Nat.lt_or_ge j k with hjk | hjk
        · exact hall j x y hjk hx hy
        · have : j = k := by omega
          subst this
          rw [ga] at hx
          rw [g] at hy
          cases hx; cases hy
          unfold fitV
          rw [ht]
          simp_all
    · have : k = vn := by omega
      subst this
      have : fitsL aggs vals = true := fitsL_mk (by omega) fun j a v hj hv' => hall j a v (by have := (List.getElem?_eq_some_iff.1 hv').1; omega) hj hv'
      rw [this]
end Go.Proofs.Ytckfedekpkgcdaa

/- The contracts of a column's gathering and of its answer. -/
namespace Go.Proofs.Ytckfedekpkgcdaa
open Go Go.Vc Go.RowKit
set_option maxRecDepth 20000
attribute [local irreducible] Calls Put Drew New

theorem add64_ok (a : Nat) (n : Int) (w : World) : (callFunc 41 #[.int .u64 (a : Int), .int .u64 (IntKind.u64.wrap n), .int .u64 0]).run Try.prog w
    = .ok (.value (.tuple #[.int .u64 (((a + u64n n) % 18446744073709551616 : Nat) : Int), .int .u64 (((a + u64n n) / 18446744073709551616 : Nat) : Int)])) w := by
  rw [run_callFunc_extern Try.func41 (by kernel_rfl) (by kernel_rfl) (by kernel_rfl) (e := add64Entry) (by kernel_rfl), run_add64 _ _ _ (by omega) (by rw [u64_wrap]; omega) (by omega) (by omega), u64_wrap]
  have h0 : ((u64n n : Nat) : Int) = n % 18446744073709551616 := by unfold u64n; omega
  rw [← h0]
  have e1 : ((a : Int) + ((u64n n : Nat) : Int) + 0) % 18446744073709551616 = (((a + u64n n) % 18446744073709551616 : Nat) : Int) := by omega
  have e2 : ((a : Int) + ((u64n n : Nat) : Int) + 0) / 18446744073709551616 = (((a + u64n n) / 18446744073709551616 : Nat) : Int) := by omega
  rw [e1, e2]
  rfl

section
variable {w0 W : World} {fs : List (Nat × Obj)} {ms : List Row} {cb : Nat} {pre post : List Value}
/-- The block of columns. -/
def gblk (cb : Nat) (pre : List Value) (x : List Value) (post : List Value) : Nat × Obj := (cb, .cells (pre ++ (x ++ post)).toArray 69 (0, 0))

set_option maxHeartbeats 1000000 in
theorem gadd_ok (g : Gth) (v : Val) (H : Hold w0 W (gblk cb pre g.cs post :: fs) ms) :
    Calls Try.prog 31 #[.pointer (some ⟨cb, pre.length, none⟩), v.agg] W fun e W' => e = .returned (.tuple #[]) ∧ Hold w0 W' (gblk cb pre (g.add v).cs post :: fs) ms := by
  apply gadd_vc
  unfold gadd_T
  intro b1 w2 h1
  have H2 := H.new h1
  refine ⟨cb, _, rfl, _, H2.mid 1 rfl 0 rfl, cb, _, rfl, ⟨_, H2.mid 1 rfl 0 rfl⟩, H2.frz 1 rfl, fun w10 h10 => ?_⟩
  have H10 := H2.putMid 1 rfl 0 h10 (gcs (w64 (g.rows + 1)) g.full g.hi g.lo g.least g.most) rfl (by simp [gcs, Gth.cs])
  refine ⟨_, H10.get 0 rfl rfl, fun h0 => ⟨rfl, ?_⟩, fun h0 => ?_⟩
  · have : g.add v = ⟨w64 (g.rows + 1), g.full, g.hi, g.lo, g.least, g.most⟩ := by unfold Gth.add; rw [if_pos h0]
    rw [this]
    exact H10.tail
  refine ⟨fun W => Hold w0 W ((b1, .cells #[.int .i64 v.k, .int .i64 v.n, .string v.s] 42 (0, 0)) :: gblk cb pre (gcs (w64 (g.rows + 1)) g.full g.hi g.lo (if g.full = 0 ∨ cmpV v g.least < 0 then v else g.least) g.most) post :: fs) ms, fun w16 h16 => ?_, fun W2 J => ?_⟩
  · have H16 := H10.step h16.ext
    refine ⟨cb, _, rfl, _, H16.mid 1 rfl 1 rfl, fun hz => ⟨_, H16.get 0 rfl rfl, _, H16.get 0 rfl rfl, _, H16.get 0 rfl rfl, cb, _, rfl, ⟨_, H16.mid 1 rfl 4 rfl⟩, H16.frz 1 rfl, ⟨_, H16.mid 1 rfl 5 rfl⟩, H16.frz 1 rfl, ⟨_, H16.mid 1 rfl 6 rfl⟩, H16.frz 1 rfl, fun w30 h30 => ?_⟩,
      fun hz => ⟨_, H16.get 0 rfl rfl, _, H16.get 0 rfl rfl, _, H16.get 0 rfl rfl, cb, _, rfl, _, H16.mid 1 rfl 4 rfl, _, H16.mid 1 rfl 5 rfl, _, H16.mid 1 rfl 6 rfl, (vcompare_ok v g.least _).mono ?_⟩⟩
    · rw [if_pos (.inl hz)]
      exact H16.putMid 1 rfl 4 h30 (gcs (w64 (g.rows + 1)) g.full g.hi g.lo v g.most) rfl (by simp [gcs, Gth.cs])
    · rintro e W2 ⟨rfl, e2⟩
      have H42 := H16.step e2
      refine ⟨_, rfl, fun hc => ⟨_, H42.get 0 rfl rfl, _, H42.get 0 rfl rfl, _, H42.get 0 rfl rfl, cb, _, rfl, ⟨_, H42.mid 1 rfl 4 rfl⟩, H42.frz 1 rfl, ⟨_, H42.mid 1 rfl 5 rfl⟩, H42.frz 1 rfl, ⟨_, H42.mid 1 rfl 6 rfl⟩, H42.frz 1 rfl, fun w53 h53 => ?_⟩, fun hc => ?_⟩
      · rw [if_pos (.inr hc)]
        exact H42.putMid 1 rfl 4 h53 (gcs (w64 (g.rows + 1)) g.full g.hi g.lo v g.most) rfl (by simp [gcs, Gth.cs])
      · rw [if_neg (by intro h; rcases h with h | h; exact hz h; omega)]
        exact H42
  generalize el : (if g.full = 0 ∨ cmpV v g.least < 0 then v else g.least) = lst at J

  refine ⟨fun W => Hold w0 W ((b1, .cells #[.int .i64 v.k, .int .i64 v.n, .string v.s] 42 (0, 0)) :: gblk cb pre (gcs (w64 (g.rows + 1)) g.full g.hi g.lo lst (if g.full = 0 ∨ 0 < cmpV v g.most then v else g.most)) post :: fs) ms, fun w59 h59 => ?_, fun W3 J' => ?_⟩
  · have H59 := J.step h59.ext
    refine ⟨cb, _, rfl, _, H59.mid 1 rfl 1 rfl, fun hz => ⟨_, H59.get 0 rfl rfl, _, H59.get 0 rfl rfl, _, H59.get 0 rfl rfl, cb, _, rfl, ⟨_, H59.mid 1 rfl 7 rfl⟩, H59.frz 1 rfl, ⟨_, H59.mid 1 rfl 8 rfl⟩, H59.frz 1 rfl, ⟨_, H59.mid 1 rfl 9 rfl⟩, H59.frz 1 rfl, fun w30 h30 => ?_⟩,
      fun hz => ⟨_, H59.get 0 rfl rfl, _, H59.get 0 rfl rfl, _, H59.get 0 rfl rfl, cb, _, rfl, _, H59.mid 1 rfl 7 rfl, _, H59.mid 1 rfl 8 rfl, _, H59.mid 1 rfl 9 rfl, (vcompare_ok v g.most _).mono ?_⟩⟩
    · rw [if_pos (.inl hz)]
      exact H59.putMid 1 rfl 7 h30 (gcs (w64 (g.rows + 1)) g.full g.hi g.lo lst v) rfl (by simp [gcs, Gth.cs])
    · rintro e W2 ⟨rfl, e2⟩
      have H85 := H59.step e2
      refine ⟨_, rfl, fun hc => ⟨_, H85.get 0 rfl rfl, _, H85.get 0 rfl rfl, _, H85.get 0 rfl rfl, cb, _, rfl, ⟨_, H85.mid 1 rfl 7 rfl⟩, H85.frz 1 rfl, ⟨_, H85.mid 1 rfl 8 rfl⟩, H85.frz 1 rfl, ⟨_, H85.mid 1 rfl 9 rfl⟩, H85.frz 1 rfl, fun w53 h53 => ?_⟩, fun hc => ?_⟩
      · rw [if_pos (.inr hc)]
        exact H85.putMid 1 rfl 7 h53 (gcs (w64 (g.rows + 1)) g.full g.hi g.lo lst v) rfl (by simp [gcs, Gth.cs])
      · rw [if_neg (by intro h; rcases h with h | h; exact hz h; omega)]
        exact H85
  generalize em : (if g.full = 0 ∨ 0 < cmpV v g.most then v else g.most) = mst at J'
  refine ⟨cb, _, rfl, _, J'.mid 1 rfl 1 rfl, cb, _, rfl, ⟨_, J'.mid 1 rfl 1 rfl⟩, J'.frz 1 rfl, fun w107 h107 w109 h109 => ?_⟩
  have H109 := (J'.putMid 1 rfl 1 h107 (gcs (w64 (g.rows + 1)) (w64 (g.full + 1)) g.hi g.lo lst mst) rfl (by simp [gcs, Gth.cs])).step h109.ext
  refine ⟨cb, _, rfl, _, H109.mid 1 rfl 3 rfl, _, H109.get 0 rfl rfl, _, _, _, add64_ok g.lo v.n w109, cb, _, rfl, ⟨_, H109.mid 1 rfl 3 rfl⟩, H109.frz 1 rfl, fun w121 h121 w123 h123 => ?_⟩
  have H123 := (H109.putMid 1 rfl 3 h121 (gcs (w64 (g.rows + 1)) (w64 (g.full + 1)) g.hi ((g.lo + u64n v.n) % 18446744073709551616) lst mst) rfl (by simp [gcs, Gth.cs])).step h123.ext
  refine ⟨cb, _, rfl, _, H123.mid 1 rfl 2 rfl, _, H123.get 0 rfl rfl, cb, _, rfl, ⟨_, H123.mid 1 rfl 2 rfl⟩, H123.frz 1 rfl, fun w132 h132 => ⟨rfl, ?_⟩⟩
  have H132 := H123.putMid 1 rfl 2 h132 (gcs (w64 (g.rows + 1)) (w64 (g.full + 1)) (w64 (g.hi + w64 (shrI .i64 v.n 63 + w64 (((g.lo + u64n v.n) / 18446744073709551616 : Nat) : Int)))) ((g.lo + u64n v.n) % 18446744073709551616) lst mst) rfl (by simp [gcs, Gth.cs])
  have : g.add v = ⟨w64 (g.rows + 1), w64 (g.full + 1), w64 (g.hi + w64 (shrI .i64 v.n 63 + w64 (((g.lo + u64n v.n) / 18446744073709551616 : Nat) : Int))), (g.lo + u64n v.n) % 18446744073709551616, lst, mst⟩ := by unfold Gth.add; rw [if_neg h0, el, em]
  rw [this]
  exact H132.tail

theorem ganswer_ok (g : Gth) (agg : Int) (hb : W.heap[cb]? = some (gblk cb pre g.cs post).2) :
    Calls Try.prog 24 #[.pointer (some ⟨cb, pre.length, none⟩), .int .i64 agg] W fun e W' => e = .returned (.tuple #[(g.answer agg).1.agg, .int .i64 (g.answer agg).2]) ∧ Ext W W' := by
  apply ganswer_vc
  unfold ganswer_T
  intro b1 w2 h1
  have H := (Hold.start (Ext.rfl (w := W))).new h1
  have hb2 : Blk w2 cb 69 (pre ++ (g.cs ++ post)).toArray := Blk.ext hb h1.ext
  have rd : ∀ (k : Nat) v, g.cs[k]? = some v → w2.cell? ⟨cb, pre.length + k, none⟩ = some v := fun k v hk => by
    have hlt := (List.getElem?_eq_some_iff.1 hk).1
    rw [hb2.cell, List.getElem?_toArray, List.getElem?_append_right (by omega), Nat.add_sub_cancel_left, List.getElem?_append_left hlt]
    exact hk
  have fin : ∀ {a : Val × Int} {W2 : World} (v : Val) (er : Int), Hold W W2 [(b1, .cells #[.int .i64 0, .int .i64 0, .string ⟨#[]⟩] 42 (0, 0))] [] → a = (v, er) → (∃ u, W2.cell? ⟨b1, 0, none⟩ = some u) ∧ W2.frozen? ⟨b1, 0, none⟩ = false ∧ (∃ u, W2.cell? ⟨b1, 1, none⟩ = some u) ∧ W2.frozen? ⟨b1, 1, none⟩ = false ∧ (∃ u, W2.cell? ⟨b1, 2, none⟩ = some u) ∧ W2.frozen? ⟨b1, 2, none⟩ = false ∧
      ∀ W' : World, Put W2 b1 0 [.int .i64 v.k, .int .i64 v.n, .string v.s] W' → ∃ k' : Int, W'.cell? ⟨b1, 0, none⟩ = some (.int .i64 k') ∧ ∃ n' : Int, W'.cell? ⟨b1, 1, none⟩ = some (.int .i64 n') ∧ ∃ s' : ByteArray, W'.cell? ⟨b1, 2, none⟩ = some (.string s') ∧
        (Ending.returned (.tuple #[.agg #[.int .i64 k', .int .i64 n', .string s'], .int .i64 er]) = .returned (.tuple #[a.1.agg, .int .i64 a.2]) ∧ Ext W W') := by
    rintro a W2 v er H2 rfl
    exact H2.ret3 0 rfl v.k v.n v.s (X := fun k' n' s' W' => Ending.returned (.tuple #[.agg #[.int .i64 k', .int .i64 n', .string s'], .int .i64 er]) = .returned (.tuple #[v.agg, .int .i64 er]) ∧ Ext W W') fun W' e => ⟨rfl, e⟩
  refine ⟨fun h1 => ⟨cb, _, rfl, _, rd 0 _ rfl, (gnumber_ok _ w2).mono ?_⟩, fun h1 => ⟨fun h2 => ⟨cb, _, rfl, _, rd 1 _ rfl, (gnumber_ok _ w2).mono ?_⟩, fun h2 => ⟨fun h4 => ⟨cb, _, rfl, _, rd 4 _ rfl, _, rd 5 _ rfl, _, rd 6 _ rfl, ?_⟩, fun h4 => ⟨fun h5 => ⟨cb, _, rfl, _, rd 7 _ rfl, _, rd 8 _ rfl, _, rd 9 _ rfl, ?_⟩,
    fun h5 => ⟨cb, _, rfl, _, rd 3 _ rfl, cb, _, rfl, _, rd 1 _ rfl, fun hz => ?_, fun hz => ⟨cb, _, rfl, _, rd 2 _ rfl, fun hh => ?_, fun hh => (gnumber_ok _ w2).mono ?_⟩⟩⟩⟩⟩⟩
  · rintro e W2 ⟨rfl, e2⟩
    exact ⟨_, _, _, rfl, fin (numV g.rows) 0 (H.step e2) (by unfold Gth.answer; rw [if_pos h1])⟩
  · rintro e W2 ⟨rfl, e2⟩
    exact ⟨_, _, _, rfl, fin (numV g.full) 0 (H.step e2) (by unfold Gth.answer; rw [if_neg h1, if_pos h2])⟩
  · exact fin g.least 0 H (by unfold Gth.answer; rw [if_neg h1, if_neg h2, if_pos h4])
  · exact fin g.most 0 H (by unfold Gth.answer; rw [if_neg h1, if_neg h2, if_neg h4, if_pos h5])
  · exact fin nullV 0 H (by unfold Gth.answer; rw [if_neg h1, if_neg h2, if_neg h4, if_neg h5, if_pos hz])
  · exact fin nullV 100 H (by unfold Gth.answer; rw [if_neg h1, if_neg h2, if_neg h4, if_neg h5, if_neg hz]; exact if_pos hh)
  · rintro e W2 ⟨rfl, e2⟩
    exact ⟨_, _, _, rfl, fin (numV (w64 (g.lo : Int))) 0 (H.step e2) (by unfold Gth.answer; rw [if_neg h1, if_neg h2, if_neg h4, if_neg h5, if_neg hz]; exact if_neg fun h => h hh)⟩
end
end Go.Proofs.Ytckfedekpkgcdaa

/- Maps with texts as keys: what a lookup and an update do, over a list of what the map holds. -/
namespace Go.Vc
open Go Go.RowKit

theorem ba_beq {a b : ByteArray} : (a == b) = true ↔ a = b := by
  constructor
  · intro h
    obtain ⟨a⟩ := a
    obtain ⟨b⟩ := b
    have : (a == b) = true := h
    rw [beq_iff_eq.1 this]
  · rintro rfl
    obtain ⟨a⟩ := a
    show (a == a) = true
    rw [beq_iff_eq]
instance : LawfulBEq ByteArray where
  rfl := ba_beq.2 rfl
  eq_of_beq := ba_beq.1
theorem ba_bne {a b : ByteArray} (h : ¬ a = b) : (a == b) = false := by rw [← Bool.not_eq_true, ba_beq]; exact h
/-- The entries es are those of l: texts and what they lead to. -/
def MapL (es : Array MapEntry) (l : List (ByteArray × Value)) : Prop := es.toList.map (fun e => (e.key, e.val)) = l.map fun p => (Value.string p.1, p.2)
def lookS (l : List (ByteArray × Value)) (s : ByteArray) : Option Value := match l with
  | [] => none
  | p :: r => if p.1 = s then some p.2 else lookS r s
def setS (l : List (ByteArray × Value)) (s : ByteArray) (v : Value) : List (ByteArray × Value) := match l with
  | [] => [(s, v)]
  | p :: r => if p.1 = s then (s, v) :: r else p :: setS r s v

theorem MapL.nil : MapL #[] [] := rfl
theorem findNow_none {s : ByteArray} : ∀ {el : List MapEntry} {l : List (ByteArray × Value)} (i : Nat), el.map (fun e => (e.key, e.val)) = l.map (fun p => (Value.string p.1, p.2)) → lookS l s = none → Instr.findNow .string (.string s) el i = some none
  | [], l, i, _, _ => rfl
  | e :: el, [], i, h, _ => by simp at h
  | e :: el, p :: l, i, h, hl => by
    simp only [List.map_cons, List.cons.injEq, Prod.mk.injEq] at h
    unfold lookS at hl
    split at hl
    · cases hl
    · rename_i hne
      unfold Instr.findNow
      rw [h.1.1]
      have : (s == p.1) = false := ba_bne fun e => hne e.symm
      simp only [Instr.sameNow, this]
      exact findNow_none (i + 1) h.2 hl
theorem findNow_some {s : ByteArray} {v : Value} : ∀ {el : List MapEntry} {l : List (ByteArray × Value)} (i : Nat), el.map (fun e => (e.key, e.val)) = l.map (fun p => (Value.string p.1, p.2)) → lookS l s = some v →
    ∃ j e, Instr.findNow .string (.string s) el i = some (some (i + j, v)) ∧ el[j]? = some e ∧ e.key = .string s ∧ ∀ v', (el.modify j fun e => { e with key := .string s, val := v' }).map (fun e => (e.key, e.val)) = (setS l s v').map fun p => (Value.string p.1, p.2)
  | [], [], i, _, h => by cases h
  | [], p :: l, i, h, _ => by simp at h
  | e :: el, [], i, h, _ => by simp at h
  | e :: el, p :: l, i, h, hl => by
    simp only [List.map_cons, List.cons.injEq, Prod.mk.injEq] at h
    unfold lookS at hl
    split at hl
    · rename_i heq
      cases hl
      refine ⟨0, e, ?_, rfl, by rw [h.1.1, heq], fun v' => ?_⟩
      · unfold Instr.findNow
        rw [h.1.1]
        have : (s == p.1) = true := ba_beq.2 heq.symm
        simp only [Instr.sameNow, this]
        rw [h.1.2]; rfl
      · unfold setS
        rw [if_pos heq]
        simp [List.modify, h.2]
    · rename_i hne
      obtain ⟨j, e', h1, h2, h3, h4⟩ := findNow_some (i + 1) h.2 hl
      refine ⟨j + 1, e', ?_, by simpa using h2, h3, fun v' => ?_⟩
      · unfold Instr.findNow
        rw [h.1.1]
        have : (s == p.1) = false := ba_bne fun e => hne e.symm
        simp only [Instr.sameNow, this]
        rw [h1, show i + 1 + j = i + (j + 1) by omega]
      · unfold setS
        rw [if_neg hne]
        simp only [List.modify_succ_cons, List.map_cons, h4 v', h.1.1, h.1.2]

section
variable {P : Program} {t kt e : TypeId} {w : World} {b : Nat} {es : Array MapEntry} {clock : Nat} {l : List (ByteArray × Value)} {s : ByteArray}
def zeroOf (P : Program) (t : TypeId) : Option Value := match P.info? t with | some i => i.zero | none => none
theorem run_zeroOf {z : Value} (h : zeroOf P e = some z) (w : World) : (zeroValue e).run P w = .ok z w := by
  unfold zeroOf at h
  split at h
  · rename_i i hi; exact run_zeroValue hi h w
  · cases h
theorem run_checkStr (hk : P.underlying kt = some .string) (em : Bool) : (Instr.checkKey em 10000 kt (.string s)).run P w = .ok () w := by
  unfold Instr.checkKey
  simp [run_underlying hk]
/-- m[s]. -/
theorem map_look (ht : P.underlying t = some (.map kt e)) (hk : P.underlying kt = some .string) {z : Value} (hz : (zeroValue e).run P w = .ok z w) (hb : w.heap[b]? = some (.map es clock)) (hl : MapL es l) :
    (Instr.lookup t (.map (some b)) (.string s) false).run P w = .ok ((lookS l s).getD z) w := by
  cases hs : lookS l s with
  | none =>
    have := findNow_none (s := s) 0 hl hs
    simp [Instr.lookup, run_underlying ht, MapKept.run_getObj_map hb, run_checkStr hk, Instr.findKey, run_underlying hk, this, hz]
  | some v =>
    obtain ⟨j, e', h1, _, _, _⟩ := findNow_some (s := s) 0 hl hs
    simp [Instr.lookup, run_underlying ht, MapKept.run_getObj_map hb, run_checkStr hk, Instr.findKey, run_underlying hk, h1]
theorem sameBits_str (s : ByteArray) : Instr.sameBits 10000 (.string s) (.string s) = true := by
  unfold Instr.sameBits
  exact ba_beq.2 rfl
/-- m[s] = v. -/
theorem map_set (ht : P.underlying t = some (.map kt e)) (hk : P.underlying kt = some .string) (hb : w.heap[b]? = some (.map es clock)) (hl : MapL es l) (v : Value) :
    ∃ w' es' clock', (Instr.mapUpdate t (.map (some b)) (.string s) v).run P w = .ok () w' ∧ w'.heap[b]? = some (.map es' clock') ∧ MapL es' (setS l s v) ∧ But b w w' ∧ w'.heap.size = w.heap.size := by
  have hlt : b < w.heap.size := (Array.getElem?_eq_some_iff.1 hb).1
  have fin : ∀ o, But b w { w with heap := w.heap.setIfInBounds b o } ∧ ({ w with heap := w.heap.setIfInBounds b o } : World).heap.size = w.heap.size ∧ ({ w with heap := w.heap.setIfInBounds b o } : World).heap[b]? = some o := fun o =>
    ⟨⟨rfl, rfl, rfl, by simp, fun k _ hne => by simp [Array.getElem?_setIfInBounds, Ne.symm hne]⟩, by simp, by simp [hlt]⟩
  cases hs : lookS l s with
  | none =>
    have h1 := findNow_none (s := s) 0 hl hs
    refine ⟨_, es.push { key := .string s, val := v, born := clock }, clock + 1, ?_, (fin _).2.2, ?_, (fin _).1, (fin _).2.1⟩
    · simp [Instr.mapUpdate, run_underlying ht, MapKept.run_getObj_map hb, run_checkStr hk, Instr.findKey, run_underlying hk, h1, MapKept.run_setObj_map _ hb]
    · have : setS l s v = l ++ [(s, v)] := by
        clear h1 hl
        induction l with
        | nil => rfl
        | cons p r ih =>
          unfold lookS at hs
          split at hs
          · cases hs
          · rename_i hne
            unfold setS
            rw [if_neg hne, ih hs]; rfl
      unfold MapL at hl ⊢
      rw [this, Array.toList_push, List.map_append, hl, List.map_append]
      rfl
  | some v0 =>
    obtain ⟨j, e', h1, h2, h3, h4⟩ := findNow_some (s := s) 0 hl hs
    rw [Nat.zero_add] at h1
    have hj : es[j]? = some e' := by simpa using h2
    refine ⟨_, es.modify j fun e => { e with key := .string s, val := v }, clock, ?_, (fin _).2.2, ?_, (fin _).1, (fin _).2.1⟩
    · simp [Instr.mapUpdate, run_underlying ht, MapKept.run_getObj_map hb, run_checkStr hk, Instr.findKey, run_underlying hk, h1, hj, h3, Instr.keyThatStays, sameBits_str, MapKept.run_setObj_map _ hb]
    · have := h4 v
      unfold MapL
      rw [Array.toList_modify]
      exact this
end
end Go.Vc

/- A table in memory; the contracts of New and Add. -/
namespace Go.Vc
open Go Go.RowKit

theorem setS_new {l : List (ByteArray × Value)} {s : ByteArray} {v : Value} (h : lookS l s = none) : setS l s v = l ++ [(s, v)] := by
  induction l with
  | nil => rfl
  | cons p r ih =>
    unfold lookS at h
    split at h
    · cases h
    · rename_i hne
      unfold setS
      rw [if_neg hne, ih h]; rfl
theorem addCols_take {cols : List Gth} {vals : List Val} {k : Nat} {c : Gth} {v : Val} (hc : cols[k]? = some c) (hv : vals[k]? = some v) :
    addCols (cols.take (k + 1)) (vals.take (k + 1)) = addCols (cols.take k) (vals.take k) ++ [c.add v] := by
  unfold addCols
  rw [List.take_add_one, List.take_add_one, hc, hv]
  have hl : (cols.take k).length = (vals.take k).length := by
    have := (List.getElem?_eq_some_iff.1 hc).1
    have := (List.getElem?_eq_some_iff.1 hv).1
    rw [List.length_take, List.length_take]; omega
  rw [List.zipWith_append hl]
  rfl
theorem addCols_length (cols : List Gth) (vals : List Val) : (addCols cols vals).length = min cols.length vals.length := List.length_zipWith
end Go.Vc
namespace Go.Proofs.Ytckfedekpkgcdaa
open Go Go.Vc Go.RowKit
set_option maxRecDepth 20000
attribute [local irreducible] Calls Put Drew New

/-- A group in memory. -/
structure Gm where
  one : Nat
  kp : Sl
  cb : Nat
  g : Grp
def Gm.ob (one : Nat) (kp : Sl) (cb k : Nat) : Nat × Obj := (one, .cells #[kp.v, .slice (some ⟨cb, 0, none⟩) k k] 65 (0, 0))
def Gm.blks (x : Gm) : List (Nat × Obj) := [Gm.ob x.one x.kp x.cb x.g.cols.length, gblk x.cb [] (x.g.cols.flatMap Gth.cs) []]
def Gm.row (x : Gm) : Row := ⟨42, 3, x.kp.p, x.kp.n, x.kp.c, x.g.key.flatMap Val.cs⟩
def Gm.ptr (x : Gm) : Value := .pointer (some ⟨x.one, 0, none⟩)
/-- A table in memory. -/
structure Tm where
  t : Nat
  ap : Option Addr
  an : Nat
  ac : Nat
  mb : Nat
  es : Array MapEntry
  ck : Nat
  op : Option Addr
  oc : Nat
  aggs : List Int
  gs : List Gm
def tob (T : Tm) : Nat × Obj := (T.t, .cells #[.slice T.ap T.an T.ac, .map (some T.mb), .slice T.op T.gs.length T.oc] 61 (0, 0))
def mob (T : Tm) : Nat × Obj := (T.mb, .map T.es T.ck)
def Tm.blks (T : Tm) : List (Nat × Obj) := tob T :: mob T :: T.gs.flatMap Gm.blks
def Tm.ord (T : Tm) : Row := ⟨62, 1, T.op, T.gs.length, T.oc, T.gs.map Gm.ptr⟩
def Tm.agg (T : Tm) : Row := ⟨3, 1, T.ap, T.an, T.ac, vI .i64 T.aggs⟩
def Tm.rows (T : Tm) : List Row := T.ord :: T.agg :: T.gs.map Gm.row
def Tm.plain (T : Tm) : List Grp := T.gs.map Gm.g
structure Tok (T : Tm) : Prop where
  map : MapL T.es (T.gs.map fun x => (keyB x.g.key, x.ptr))
  an : T.aggs.length = T.an
  a16 : T.an ≤ 16
  len : T.gs.length ≤ 4096
  cols : ∀ x ∈ T.gs, x.g.cols.length = T.an
  keys : ∀ x ∈ T.gs, ∀ v ∈ x.g.key, okV v
  ksz : ∀ x ∈ T.gs, x.g.key.length ≤ 1048576
  dist : Distinct T.plain

def newOk (l : List Int) : Bool := decide (l.length ≤ 16) && !(l.any badW)
section
variable {w0 W : World} {fs : List (Nat × Obj)} {ms : List Row}

theorem gnew_ok {p : Option Addr} {n c : Nat} {l : List Int} (H : Hold w0 W fs ms) (h : At W p (vI .i64 l)) (hl : l.length = n) (hz : p = none → n = 0 ∧ c = 0) (hn : n < 9223372036854775807) :
    Calls Try.prog 13 #[.slice p n c] W fun e W' => (newOk l = false ∧ e = .returned (.tuple #[.pointer none, .int .i64 2]) ∧ Hold w0 W' fs ms) ∨
      (newOk l = true ∧ ∃ T : Tm, e = .returned (.tuple #[.pointer (some ⟨T.t, 0, none⟩), .int .i64 0]) ∧ Hold w0 W' (T.blks ++ fs) (T.rows ++ ms) ∧ Tok T ∧ T.aggs = l ∧ T.gs = []) := by
  apply gnew_vc
  unfold gnew_T
  refine ⟨fun h16 => .inl ⟨by unfold newOk; rw [decide_eq_false (by omega)]; rfl, rfl, H⟩, fun h16 => (cfint_ok W h hl hn).mono ?_⟩
  rintro e w4 ⟨rfl, e4⟩
  have H4 := H.step e4
  refine ⟨_, rfl, fun hb => .inl ⟨by unfold newOk; rw [hb, decide_eq_true (by omega)]; rfl, rfl, H4⟩, fun hb => (cloneint_ok w4 (h.ext e4) hl hz (by omega)).mono ?_⟩
  rintro e w9 ⟨p', c', rfl, step⟩
  have H9 := (step _ _ _ H4).nilRow 62 1
  refine ⟨_, _, _, rfl, fun b13 w14 h13 b16 w17 h16' => .inr ⟨by unfold newOk; rw [hb, decide_eq_true (by omega)]; rfl, ⟨b16, p', n, c', b13, #[], 0, none, 0, l, []⟩, rfl, (H9.new h13).new h16', ?_, rfl, rfl⟩⟩
  exact ⟨rfl, hl, by dsimp only; omega, Nat.zero_le _, by simp, by simp, by simp, by unfold Distinct Tm.plain; simp⟩

theorem look_gs {key : List Val} (hk : ∀ v ∈ key, okV v) : ∀ {gs : List Gm}, (∀ x ∈ gs, ∀ v ∈ x.g.key, okV v) →
    (hasK (gs.map Gm.g) key = false ∧ lookS (gs.map fun x => (keyB x.g.key, x.ptr)) (keyB key) = none) ∨
      ∃ g1 x g2, gs = g1 ++ x :: g2 ∧ x.g.key = key ∧ lookS (gs.map fun x => (keyB x.g.key, x.ptr)) (keyB key) = some x.ptr
  | [], _ => .inl ⟨rfl, rfl⟩
  | y :: gs, hg => by
    by_cases e : y.g.key = key
    · refine .inr ⟨[], y, gs, rfl, e, ?_⟩
      rw [List.map_cons]
      unfold lookS
      rw [if_pos (by rw [e])]
    · have hne : ¬ keyB y.g.key = keyB key := fun h => e (keyB_inj (hg y (by simp)) hk h)
      rcases look_gs hk (gs := gs) fun x hx => hg x (by simp [hx]) with ⟨h1, h2⟩ | ⟨g1, x, g2, rfl, h1, h2⟩
      · refine .inl ⟨?_, ?_⟩
        · unfold hasK at h1 ⊢
          rw [List.map_cons, List.any_cons, h1, decide_eq_false e]; rfl
        · rw [List.map_cons]
          unfold lookS
          rw [if_neg hne]; exact h2
      · refine .inr ⟨y :: g1, x, g2, rfl, h1, ?_⟩
        rw [List.map_cons]
        unfold lookS
        rw [if_neg hne]; exact h2

/-- A group among others. -/
def Tm.put (T : Tm) (g1 : List Gm) (x : Gm) (g2 : List Gm) : Tm := { T with gs := g1 ++ x :: g2 }
theorem perm_blks (T : Tm) (g1 : List Gm) (x : Gm) (g2 : List Gm) : ((T.put g1 x g2).blks ++ fs).Perm (Gm.ob x.one x.kp x.cb x.g.cols.length :: gblk x.cb [] (x.g.cols.flatMap Gth.cs) [] :: (tob (T.put g1 x g2) :: mob T :: (g1.flatMap Gm.blks ++ g2.flatMap Gm.blks) ++ fs)) := by
  refine perm_of_sum fun f => ?_
  simp only [Tm.blks, Tm.put, Gm.blks, mob, List.flatMap_append, List.flatMap_cons, List.map_append, List.map_cons, List.map_nil, List.sum_append, List.sum_cons, List.sum_nil, List.cons_append, List.nil_append]
  omega
end
end Go.Proofs.Ytckfedekpkgcdaa

/- The contract of Add. -/
namespace Go.Proofs.Ytckfedekpkgcdaa
open Go Go.Vc Go.RowKit
set_option maxRecDepth 20000
attribute [local irreducible] Calls Put Drew New

theorem undPtrs : Try.prog.underlying 59 = some (.slice 62) := by kernel_rfl
theorem tyPtr : tyOf Try.prog 62 = some { agg := false, ls := [.ptr], zero := .pointer none, bytes := 8, big := false, n := 1 } := by kernel_rfl
theorem made_cols (n : Nat) : madeCells #[.int .i64 0, .int .i64 0, .int .i64 0, .int .u64 0, .int .i64 0, .int .i64 0, .string ⟨#[]⟩, .int .i64 0, .int .i64 0, .string ⟨#[]⟩] (n * 10) = ([] ++ ((newCols n).flatMap Gth.cs ++ [])).toArray := by
  apply Array.ext_getElem?
  intro i
  have hr : ([] ++ ((newCols n).flatMap Gth.cs ++ [])).toArray[i]? = ((newCols n).flatMap Gth.cs)[i]? := by simp
  rw [hr]
  have hlen : ((newCols n).flatMap Gth.cs).length = n * 10 := by rw [flatMap_length Gth.cs_length]; simp [newCols]
  rcases Nat.lt_or_ge i (n * 10) with hi | hi
  · have e : i = i / 10 * 10 + i % 10 := by omega
    have hg : (newCols n)[i / 10]? = some Gth.zero := by unfold newCols; rw [List.getElem?_replicate, if_pos (by omega)]
    have h2 : ((newCols n).flatMap Gth.cs)[i]? = Gth.zero.cs[i % 10]? := by
      conv => lhs; rw [e]
      exact flatMap_get Gth.cs_length hg (by omega)
    rw [h2]
    unfold madeCells
    simp only [Array.getElem?_map, Array.getElem?_range, hi, if_true, Option.map_some]
    have hm : i % 10 < 10 := by omega
    show some (#[(Value.int .i64 0), .int .i64 0, .int .i64 0, .int .u64 0, .int .i64 0, .int .i64 0, .string ⟨#[]⟩, .int .i64 0, .int .i64 0, .string ⟨#[]⟩][i % 10]!) = _
    generalize i % 10 = m at hm
    match m, hm with
    | 0, _ => rfl
    | 1, _ => rfl
    | 2, _ => rfl
    | 3, _ => rfl
    | 4, _ => rfl
    | 5, _ => rfl
    | 6, _ => rfl
    | 7, _ => rfl
    | 8, _ => rfl
    | 9, _ => rfl
  · rw [Array.getElem?_eq_none (by rw [size_madeCells]; exact hi), List.getElem?_eq_none (by omega)]

theorem bytesP_2 (r : List Val) : (bytesP r).2 = rightL r := by unfold bytesP; split <;> simp_all
theorem bytesP_1 {r : List Val} (h : rightL r = true) : (bytesP r).1 = keyB r := by unfold bytesP; rw [h]; rfl
theorem addP_bad {aggs : List Int} {gs : List Grp} {key vals : List Val} (h : mayP aggs (gs.head?.map Grp.key) key vals = false) : addP aggs gs key vals = (gs, 2) := by unfold addP; rw [h]; rfl

section
variable {w0 W : World} {fs : List (Nat × Obj)} {ms : List Row} {T : Tm}
theorem T_blk (H : Hold w0 W (T.blks ++ fs) (T.rows ++ ms)) : Blk W T.t 61 #[.slice T.ap T.an T.ac, .map (some T.mb), .slice T.op T.gs.length T.oc] := H.blk 0 rfl
theorem T_aggs (H : Hold w0 W (T.blks ++ fs) (T.rows ++ ms)) : At W T.ap (vI .i64 T.aggs) := (H.row 1 rfl).at
theorem T_ord (H : Hold w0 W (T.blks ++ fs) (T.rows ++ ms)) : At W T.op (T.gs.map Gm.ptr) := (H.row 0 rfl).at
theorem T_one (H : Hold w0 W (T.blks ++ fs) (T.rows ++ ms)) {x : Gm} (hx : x ∈ T.gs) : Blk W x.one 65 #[x.kp.v, .slice (some ⟨x.cb, 0, none⟩) x.g.cols.length x.g.cols.length] :=
  H.blkM (List.mem_append_left _ (List.mem_cons_of_mem _ (List.mem_cons_of_mem _ (List.mem_flatMap.2 ⟨x, hx, by simp [Gm.blks, Gm.ob]⟩))))
theorem T_col (H : Hold w0 W (T.blks ++ fs) (T.rows ++ ms)) {x : Gm} (hx : x ∈ T.gs) : W.heap[x.cb]? = some (gblk x.cb [] (x.g.cols.flatMap Gth.cs) []).2 :=
  H.mem (x := gblk x.cb [] (x.g.cols.flatMap Gth.cs) []) (List.mem_append_left _ (List.mem_cons_of_mem _ (List.mem_cons_of_mem _ (List.mem_flatMap.2 ⟨x, hx, by simp [Gm.blks]⟩))))
theorem T_key (H : Hold w0 W (T.blks ++ fs) (T.rows ++ ms)) {x : Gm} (hx : x ∈ T.gs) : Vs W x.kp.p x.kp.n x.kp.c x.g.key :=
  (H.ownM (m := x.row) (List.mem_append_left _ (List.mem_cons_of_mem _ (List.mem_cons_of_mem _ (List.mem_map_of_mem hx))))).ls Val.cs_length (by decide)

theorem tok_new {es : Array MapEntry} {ck : Nat} {op : Option Addr} {oc one cb : Nat} {kp : Sl} {key : List Val} (ok : Tok T) (hl : T.gs.length ≠ 4096) (hk : ∀ v ∈ key, okV v) (hks : key.length ≤ 1048576) (hno : hasK T.plain key = false)
    (hm : MapL es (T.gs.map (fun x => (keyB x.g.key, x.ptr)) ++ [(keyB key, .pointer (some ⟨one, 0, none⟩))])) : Tok { T with es := es, ck := ck, op := op, oc := oc, gs := T.gs ++ [⟨one, kp, cb, ⟨key, newCols T.an⟩⟩] } := by
  refine ⟨?_, ok.an, ok.a16, ?_, ?_, ?_, ?_, ?_⟩
  · simpa [Gm.ptr] using hm
  · have := ok.len
    simp only [List.length_append, List.length_singleton]; omega
  · intro x hx
    rcases List.mem_append.1 hx with hx | hx
    · exact ok.cols x hx
    · rw [List.mem_singleton] at hx; subst hx; simp [newCols]
  · intro x hx
    rcases List.mem_append.1 hx with hx | hx
    · exact ok.keys x hx
    · rw [List.mem_singleton] at hx; subst hx; exact hk
  · intro x hx
    rcases List.mem_append.1 hx with hx | hx
    · exact ok.ksz x hx
    · rw [List.mem_singleton] at hx; subst hx; exact hks
  · have hd := ok.dist
    unfold Distinct at hd ⊢
    unfold Tm.plain at hd hno ⊢
    simp only [List.map_append, List.map_cons, List.map_nil]
    rw [List.nodup_append]
    refine ⟨hd, by simp, ?_⟩
    intro a ha b hb
    rw [List.mem_singleton] at hb
    subst hb
    rintro rfl
    obtain ⟨g, hg, e⟩ := List.mem_map.1 ha
    have := hasK_iff.2 ⟨g, hg, e⟩
    rw [hno] at this; cases this

theorem tok_upd {g1 g2 : List Gm} {x : Gm} {cols : List Gth} (ok : Tok T) (hgs : T.gs = g1 ++ x :: g2) (hc : cols.length = T.an) : Tok { T with gs := g1 ++ { x with g := ⟨x.g.key, cols⟩ } :: g2 } := by
  obtain ⟨h1, h2, h3, h4, h5, h6, h8, h7⟩ := ok
  unfold Tm.plain Distinct at h7
  rw [hgs] at h1 h4 h5 h6 h7 h8
  refine ⟨?_, h2, h3, ?_, ?_, ?_, ?_, ?_⟩
  · simpa [Gm.ptr] using h1
  · simpa using h4
  · intro y hy
    rcases List.mem_append.1 hy with hy | hy
    · exact h5 y (List.mem_append_left _ hy)
    · rcases List.mem_cons.1 hy with rfl | hy
      · exact hc
      · exact h5 y (List.mem_append_right _ (List.mem_cons_of_mem _ hy))
  · intro y hy
    rcases List.mem_append.1 hy with hy | hy
    · exact h6 y (List.mem_append_left _ hy)
    · rcases List.mem_cons.1 hy with rfl | hy
      · exact h6 x (by simp)
      · exact h6 y (List.mem_append_right _ (List.mem_cons_of_mem _ hy))
  · intro y hy
    rcases List.mem_append.1 hy with hy | hy
    · exact h8 y (List.mem_append_left _ hy)
    · rcases List.mem_cons.1 hy with rfl | hy
      · exact h8 x (by simp)
      · exact h8 y (List.mem_append_right _ (List.mem_cons_of_mem _ hy))
  · unfold Tm.plain Distinct
    simpa using h7

/-- What Add does. -/
def Added (w0 : World) (fs : List (Nat × Obj)) (ms : List Row) (T : Tm) (key vals : List Val) (e : Ending) (W' : World) : Prop :=
  ∃ T' : Tm, e = .returned (.int .i64 (addP T.aggs T.plain key vals).2) ∧ Hold w0 W' (T'.blks ++ fs) (T'.rows ++ ms) ∧ Tok T' ∧ T'.t = T.t ∧ T'.aggs = T.aggs ∧ T'.plain = (addP T.aggs T.plain key vals).1

set_option maxHeartbeats 2000000 in
theorem tadd_ok {kp vp : Option Addr} {kn kc vn vc : Nat} {key vals : List Val} (H : Hold w0 W (T.blks ++ fs) (T.rows ++ ms)) (ok : Tok T) (hk : Vs W kp kn kc key) (hkf : ∀ v ∈ key, v.fit) (hkn : kn ≤ 1048576)
    (hv : Keeps w0 fs ms fun W => Vs W vp vn vc vals) :
    Calls Try.prog 14 #[.pointer (some ⟨T.t, 0, none⟩), .slice kp kn kc, .slice vp vn vc] W (Added w0 fs ms T key vals) := by
  apply tadd_vc
  unfold tadd_T
  refine ⟨fun h => (by cases h), fun _ => (gbytesof_ok W hk hkf hkn).mono ?_⟩
  rintro e W4 ⟨rfl, e4⟩
  have H4 := H.step e4
  have kl := hk.len
  have bad : ∀ W', Hold w0 W' (T.blks ++ fs) (T.rows ++ ms) → mayP T.aggs (T.plain.head?.map Grp.key) key vals = false → Added w0 fs ms T key vals (.returned (.int .i64 2)) W' := by
    intro W' H' hm
    have := addP_bad hm
    exact ⟨T, by rw [this], H', ok, rfl, rfl, by rw [this]⟩
  refine ⟨_, _, rfl, fun W' => Hold w0 W' (T.blks ++ fs) (T.rows ++ ms) ∧ Ext W W' ∧ mayP T.aggs (T.plain.head?.map Grp.key) key vals = true, ⟨fun hb => ?_, fun hb => (gfits_ok W4 (T_blk H4) (T_aggs H4) ok.an (hv W4 _ _ H4) ok.a16).mono ?_⟩, ?_⟩
  · rw [bytesP_2] at hb
    exact bad _ H4 (by unfold mayP; rw [hb]; rfl)
  · rw [bytesP_2] at hb
    rintro e W11 ⟨rfl, e11⟩
    have H11 := H4.step e11
    refine ⟨_, rfl, fun hf => bad _ H11 (by unfold mayP; rw [hf, hb]; rfl), fun hf => ⟨T.t, 0, rfl, T.op, T.gs.length, T.oc, (T_blk H11).cell 2, fun hpos => ?_, fun hz => ⟨H11, e4.trans e11, ?_⟩⟩⟩
    · have g0 : T.gs[0]? = some (T.gs[0]'(by omega)) := List.getElem?_eq_getElem _
      generalize T.gs[0]'(by omega) = x at g0
      have hx := List.mem_of_getElem? g0
      obtain ⟨ob, oo, hop, hoc⟩ := (T_ord H11).get (i := 0) (by rw [List.length_map]; omega)
      have hget : (T.gs.map Gm.ptr)[0]'(by rw [List.length_map]; omega) = x.ptr := by
        rw [List.getElem_map]
        exact congrArg Gm.ptr (List.getElem?_eq_some_iff.1 g0).2
      rw [hget] at hoc
      have hxl := (T_key H11 hx).len
      have hhd : T.plain.head?.map Grp.key = some x.g.key := by
        unfold Tm.plain
        cases hgs : T.gs with
        | nil => rw [hgs] at g0; cases g0
        | cons y r => rw [hgs] at g0; cases g0; rfl
      refine ⟨T.t, 0, rfl, T.op, T.gs.length, T.oc, (T_blk H11).cell 2, ob, oo, hop, by omega, by omega, _, hoc, x.one, 0, rfl, x.kp.p, x.kp.n, x.kp.c, (T_one H11 hx).cell 0, fun hne => bad _ H11 ?_, fun he => ⟨H11, e4.trans e11, ?_⟩⟩
      · unfold mayP
        rw [hb, hf, hhd]
        exact decide_eq_false (by omega)
      · unfold mayP
        rw [hb, hf, hhd]
        exact decide_eq_true (by omega)
    · have hg : T.gs = [] := List.length_eq_zero_iff.1 (by omega)
      unfold mayP
      rw [hb, hf]
      unfold Tm.plain
      rw [hg]; rfl
  rintro W37 ⟨H37, e37, may⟩
  have hrk : rightL key = true := by
    unfold mayP at may
    rw [Bool.and_eq_true, Bool.and_eq_true] at may
    exact may.1.1
  have hfit : fitsL T.aggs vals = true := by
    unfold mayP at may
    rw [Bool.and_eq_true, Bool.and_eq_true] at may
    exact may.1.2
  have hkk := rightL_okV hrk hkf
  rw [bytesP_1 hrk]
  have hM : W37.heap[T.mb]? = some (.map T.es T.ck) := H37.holds 1 _ rfl
  have hMlt : T.mb < W37.heap.size := H37.lt 1 rfl
  obtain ⟨p, hp, hcase⟩ : ∃ p : Option Addr, (lookS (T.gs.map fun x => (keyB x.g.key, x.ptr)) (keyB key)).getD (.pointer none) = .pointer p ∧
      ((p = none ∧ hasK T.plain key = false ∧ lookS (T.gs.map fun x => (keyB x.g.key, x.ptr)) (keyB key) = none) ∨ ∃ g1 x g2, T.gs = g1 ++ x :: g2 ∧ x.g.key = key ∧ p = some ⟨x.one, 0, none⟩) := by
    rcases look_gs hkk ok.keys with ⟨h1, h2⟩ | ⟨g1, x, g2, h1, h2, h3⟩
    · exact ⟨none, by rw [h2]; rfl, .inl ⟨rfl, h1, h2⟩⟩
    · exact ⟨_, by rw [h3]; rfl, .inr ⟨g1, x, g2, h1, h2, rfl⟩⟩
  refine ⟨T.t, 0, rfl, some T.mb, (T_blk H37).cell 1, p, fun w1 hs => ?_, fun p W' => ∃ (T' : Tm) (g1 g2 : List Gm) (x : Gm), T'.gs = g1 ++ x :: g2 ∧ p = some ⟨x.one, 0, none⟩ ∧ Hold w0 W' (T'.blks ++ fs) (T'.rows ++ ms) ∧ Tok T' ∧ T'.t = T.t ∧ T'.aggs = T.aggs ∧ x.g.key = key ∧
    addP T.aggs T.plain key vals = (g1.map Gm.g ++ ⟨key, addCols x.g.cols vals⟩ :: g2.map Gm.g, 0), ⟨fun hn => ?_, fun hn => ?_⟩, ?_⟩
  · rw [← hp]
    exact map_look (kt := 9) (e := 62) (by kernel_rfl) (by kernel_rfl) (run_zeroOf (by kernel_rfl) w1) ((hs T.mb hMlt).trans hM) ok.map
  · obtain ⟨rfl, hno, hlk⟩ : p = none ∧ hasK T.plain key = false ∧ lookS (T.gs.map fun x => (keyB x.g.key, x.ptr)) (keyB key) = none := by
      rcases hcase with h | ⟨g1, x, g2, _, _, rfl⟩
      · exact h
      · cases hn
    refine ⟨T.t, 0, rfl, T.op, T.gs.length, T.oc, (T_blk H37).cell 2, fun h4096 => ?_, fun h4096 => ?_⟩
    · have : addP T.aggs T.plain key vals = (T.plain, 130) := by
        unfold addP
        rw [if_pos may, if_neg (by rw [hno]; simp), if_pos (by unfold Tm.plain; rw [List.length_map]; omega)]
      exact ⟨T, by rw [this], H37, ok, rfl, rfl, by rw [this]⟩
    have hadd : addP T.aggs T.plain key vals = (T.plain ++ [⟨key, addCols (newCols T.an) vals⟩], 0) := by
      unfold addP
      rw [if_pos may, if_neg (by rw [hno]; simp), if_neg (by unfold Tm.plain; rw [List.length_map]; omega), ok.an]
    refine ⟨fun p W' => ∃ (one cb : Nat) (kp' : Sl), p = some ⟨one, 0, none⟩ ∧ Hold w0 W' (Gm.ob one kp' cb T.an :: gblk cb [] ((newCols T.an).flatMap Gth.cs) [] :: (T.blks ++ fs)) (⟨42, 3, kp'.p, kp'.n, kp'.c, key.flatMap Val.cs⟩ :: (T.rows ++ ms)),
      fun w55 h55 => ?_, ?_⟩
    · have H55 := H37.step h55.ext
      have e55 := e37.trans h55.ext
      have h16 := ok.a16
      refine ⟨T.t, 0, rfl, T.ap, T.an, T.ac, (T_blk H55).cell 0, (clonerow_ok w55 (hk.ext e55) (by omega)).mono ?_, by omega, by omega, by omega, by omega, fun b73 w74 h73 => ?_⟩
      · rintro e w63 ⟨p', c', rfl, _, e63, step⟩
        refine ⟨_, _, _, rfl, e63.same, by omega, by omega, by omega, by omega, fun b67 w68 h67 b70 w71 h70 => ⟨b70, b67, ⟨p', kn, c'⟩, rfl, ?_⟩⟩
        rw [made_cols] at h67
        exact ((step _ _ _ H55).new h67).new h70
      · rw [made_cols] at h73
        have H74 := H55.new h73
        refine (clonerow_ok w74 (hk.ext (e55.trans h73.ext)) (by omega)).mono ?_
        rintro e w77 ⟨p', c', rfl, _, e77, step⟩
        exact ⟨_, _, _, rfl, e77.same, fun b81 w82 h81 => ⟨b81, b73, ⟨p', kn, c'⟩, rfl, (step _ _ _ H74).new h81⟩⟩
    · rintro p W85 ⟨one, cb, kp', rfl, H85⟩
      have hM85 : W85.heap[T.mb]? = some (.map T.es T.ck) := H85.holds 3 _ rfl
      obtain ⟨W90, es', ck', hrun, hobj, hmap', hbut, _⟩ := map_set (P := Try.prog) (t := 58) (kt := 9) (e := 62) (s := keyB key) (by kernel_rfl) (by kernel_rfl) hM85 ok.map (.pointer (some ⟨one, 0, none⟩))
      have H90 := H85.upd 3 rfl hbut hobj
      refine ⟨T.t, 0, rfl, some T.mb, (H85.blk 2 rfl).cell 1, W90, hrun, T.t, 0, rfl, T.op, T.gs.length, T.oc, (H90.blk 2 rfl).cell 2, fun b96 w97 h96 => ?_⟩
      have H97 := H90.new h96
      have hlen := ok.len
      obtain ⟨p2, c2, W102, hrun2, H102⟩ := H97.append (ty := 59) (P := Try.prog) (q := some ⟨b96, 0, none⟩) (m := 1) (d' := 1) (news := [.pointer (some ⟨one, 0, none⟩)]) 1 rfl undPtrs tyPtr rfl (by decide) (Blk.new h96).at rfl (fun e => by cases e)
        (by intro u hu; simp at hu; subst hu; rfl) (by show ((T.gs.length + 1) + (T.gs.length + 1) / 4 + 192) * 8 ≤ _; omega) (by unfold maxLen; omega)
      refine ⟨p2, _, c2, W102, hrun2, T.t, 0, rfl, ⟨_, (H102.blk 3 rfl).cell 2⟩, H102.frz 3 rfl, fun W106 h106 => ?_⟩
      have H106 := H102.put 3 rfl h106
      rw [setS_new hlk] at hmap'
      have hkk' := hkk
      have tok' := tok_new (es := es') (ck := ck') (op := p2) (oc := c2) (one := one) (cb := cb) (kp := kp') ok (by omega) hkk (by omega) hno hmap'
      refine ⟨_, T.gs, [], ⟨one, kp', cb, ⟨key, newCols T.an⟩⟩, rfl, rfl, ?_, tok', rfl, rfl, rfl, hadd⟩
      refine H106.tail.permA ?_ ?_
      · refine perm_of_sum fun f => ?_
        have e1 : (newCols T.an).length = T.an := by simp [newCols]
        simp only [Tm.blks, Gm.blks, List.flatMap_append, List.flatMap_cons, List.flatMap_nil, List.map_append, List.map_cons, List.map_nil, List.sum_append, List.sum_cons, List.sum_nil, List.cons_append, List.nil_append, List.set_cons_zero, List.set_cons_succ, tob, mob,
          List.length_append, List.length_cons, List.length_nil, e1, setA, List.setIfInBounds_toArray, Nat.zero_add]
        omega
      · refine perm_of_sum fun f => ?_
        simp only [Tm.rows, Tm.ord, Tm.agg, Gm.row, Gm.ptr, List.map_append, List.map_cons, List.map_nil, List.sum_append, List.sum_cons, List.sum_nil, List.cons_append, List.nil_append, List.set_cons_zero, List.set_cons_succ, List.length_append, List.length_cons, List.length_nil, Nat.zero_add]
        omega
  · rcases hcase with ⟨rfl, _⟩ | ⟨g1, x, g2, hgs, hkx, rfl⟩
    · cases hn
    · have hpl : T.plain = g1.map Gm.g ++ x.g :: g2.map Gm.g := by unfold Tm.plain; rw [hgs]; simp
      refine ⟨T, g1, g2, x, hgs, rfl, H37, ok, rfl, rfl, hkx, ?_⟩
      have hin : hasK T.plain key = true := by rw [hpl, hasK_iff]; exact ⟨x.g, by simp, hkx⟩
      unfold addP
      rw [if_pos may, if_pos hin]
      have hd := ok.dist
      rw [hpl] at hd ⊢
      have := upd_split (vals := vals) hd
      rw [hkx] at this
      rw [this]
  rintro p W110 ⟨T', g1, g2, x, hgs, rfl, H110, ok', ht', ha', hkx, hadd⟩
  have hvl : vals.length = T'.an := by rw [fitsL_len hfit, ← ha', ok'.an]
  have hxc : x.g.cols.length = T'.an := ok'.cols x (by rw [hgs]; simp)
  have eT : T'.put g1 x g2 = T' := by unfold Tm.put; rw [← hgs]
  have hvn := (hv W110 _ _ H110).len
  have hvle := ok'.a16
  have hpm := perm_blks (fs := fs) T' g1 x g2
  rw [eT] at hpm
  have colsLen : ∀ k, k ≤ vn → (addCols (x.g.cols.take k) (vals.take k) ++ x.g.cols.drop k).length = T'.an := by
    intro k hk
    rw [List.length_append, addCols_length, List.length_take, List.length_take, List.length_drop]; omega
  refine ⟨fun i W' => ∃ k : Nat, i = (k : Int) ∧ k ≤ vn ∧ Hold w0 W' (Gm.ob x.one x.kp x.cb T'.an :: gblk x.cb [] ((addCols (x.g.cols.take k) (vals.take k) ++ x.g.cols.drop k).flatMap Gth.cs) [] :: (tob T' :: mob T' :: (g1.flatMap Gm.blks ++ g2.flatMap Gm.blks) ++ fs)) (T'.rows ++ ms),
    fun i _ => vn - i.toNat, ⟨0, rfl, Nat.zero_le _, ?_⟩, ?_⟩
  · have := H110.permA hpm (.refl _)
    rw [hxc] at this
    exact this
  rintro i W' ⟨k, rfl, hkn', HK⟩
  refine ⟨fun hlt => ?_, fun hge => ?_⟩
  · have g : vals[k]? = some (vals[k]'(by omega)) := List.getElem?_eq_getElem _
    have gc : x.g.cols[k]? = some (x.g.cols[k]'(by omega)) := List.getElem?_eq_getElem _
    generalize vals[k]'(by omega) = v at g
    generalize x.g.cols[k]'(by omega) = c at gc
    have hV : Vs W' vp vn vc vals := hv W' (Gm.ob x.one x.kp x.cb T'.an :: gblk x.cb [] ((addCols (x.g.cols.take k) (vals.take k) ++ x.g.cols.drop k).flatMap Gth.cs) [] :: (tob T' :: mob T' :: (g1.flatMap Gm.blks ++ g2.flatMap Gm.blks))) T'.rows HK
    obtain ⟨b, o, hp, c0, c1, c2⟩ := hV.val g
    simp only [Int.toNat_natCast]
    refine ⟨b, o, hp, by omega, by omega, _, c0, _, c1, _, c2, fun b123 w124 h123 => ?_⟩
    have H124 := HK.new h123
    refine ⟨⟨_, H124.get 0 rfl rfl⟩, H124.frz 0 rfl, ⟨_, H124.get 0 rfl rfl⟩, H124.frz 0 rfl, ⟨_, H124.get 0 rfl rfl⟩, H124.frz 0 rfl, fun w129 h129 w131 h131 => ?_⟩
    have H131 := (H124.put 0 rfl h129).step h131.ext
    refine ⟨x.one, 0, rfl, some ⟨x.cb, 0, none⟩, T'.an, T'.an, (H131.blk 1 rfl).cell 1, x.cb, 0, rfl, by omega, by omega, _, H131.get 0 rfl rfl, _, H131.get 0 rfl rfl, _, H131.get 0 rfl rfl, ?_⟩
    have hsplit : (addCols (x.g.cols.take k) (vals.take k) ++ x.g.cols.drop k).flatMap Gth.cs ++ [] = (addCols (x.g.cols.take k) (vals.take k)).flatMap Gth.cs ++ (c.cs ++ (x.g.cols.drop (k + 1)).flatMap Gth.cs) := by
      obtain ⟨hlt', rfl⟩ := List.getElem?_eq_some_iff.1 gc
      rw [List.append_nil, List.flatMap_append, List.drop_eq_getElem_cons hlt', List.flatMap_cons]
    have hpre : ((addCols (x.g.cols.take k) (vals.take k)).flatMap Gth.cs).length = k * 10 := by
      rw [flatMap_length Gth.cs_length, addCols_length, List.length_take, List.length_take]
      congr 1; omega
    have hblk : gblk x.cb [] ((addCols (x.g.cols.take k) (vals.take k) ++ x.g.cols.drop k).flatMap Gth.cs) [] = gblk x.cb ((addCols (x.g.cols.take k) (vals.take k)).flatMap Gth.cs) c.cs ((x.g.cols.drop (k + 1)).flatMap Gth.cs) := by
      unfold gblk
      rw [hsplit, List.nil_append]
    have HF : Hold w0 w131 (gblk x.cb ((addCols (x.g.cols.take k) (vals.take k)).flatMap Gth.cs) c.cs ((x.g.cols.drop (k + 1)).flatMap Gth.cs) :: (b123, .cells #[.int .i64 v.k, .int .i64 v.n, .string v.s] 42 (0, 0)) :: Gm.ob x.one x.kp x.cb T'.an :: (tob T' :: mob T' :: (g1.flatMap Gm.blks ++ g2.flatMap Gm.blks) ++ fs)) (T'.rows ++ ms) := by
      rw [← hblk]
      refine H131.permA ?_ (.refl _)
      refine perm_of_sum fun f => ?_
      simp only [List.map_cons, List.sum_cons, List.set_cons_zero, setA, List.setIfInBounds_toArray, List.set_cons_succ]
      omega
    have := gadd_ok c v HF
    rw [hpre] at this
    rw [Nat.zero_add]
    refine this.mono ?_
    rintro e W144 ⟨rfl, H144⟩
    refine ⟨rfl, ?_⟩
    rw [i64_next (by omega)]
    refine ⟨⟨k + 1, rfl, by omega, ?_⟩, by simp only [Int.toNat_natCast]; omega⟩
    have hblk2 : gblk x.cb ((addCols (x.g.cols.take k) (vals.take k)).flatMap Gth.cs) (c.add v).cs ((x.g.cols.drop (k + 1)).flatMap Gth.cs) = gblk x.cb [] ((addCols (x.g.cols.take (k + 1)) (vals.take (k + 1)) ++ x.g.cols.drop (k + 1)).flatMap Gth.cs) [] := by
      unfold gblk
      rw [addCols_take gc g, List.nil_append, List.append_nil, List.flatMap_append, List.flatMap_append]
      simp [List.append_assoc]
    rw [← hblk2]
    refine (H144.subA ((List.Sublist.cons _ (List.Sublist.refl _)).cons_cons _) (.refl _)).permA ?_ (.refl _)
    exact List.Perm.swap _ _ _
  · have hkv : k = vn := by omega
    subst hkv
    rw [List.take_of_length_le (by omega), List.take_of_length_le (by omega), List.drop_eq_nil_iff.2 (by omega), List.append_nil] at HK
    have hcl : (addCols x.g.cols vals).length = T'.an := by rw [addCols_length]; omega
    refine ⟨{ T' with gs := g1 ++ { x with g := ⟨x.g.key, addCols x.g.cols vals⟩ } :: g2 }, by rw [hadd], ?_, tok_upd ok' hgs hcl, ht', ha', ?_⟩
    · refine HK.permA ?_ ?_
      · have hl : T'.gs.length = (g1 ++ x :: g2).length := by rw [hgs]
        refine perm_of_sum fun f => ?_
        simp only [Tm.blks, Gm.blks, List.flatMap_append, List.flatMap_cons, List.map_append, List.map_cons, List.map_nil, List.sum_append, List.sum_cons, List.sum_nil, List.cons_append, List.nil_append, tob, mob, hl, hcl, List.length_append, List.length_cons]
        omega
      · refine perm_of_sum fun f => ?_
        simp only [Tm.rows, Tm.ord, Tm.agg, hgs, Gm.row, Gm.ptr, List.map_append, List.map_cons, List.map_nil, List.length_append, List.length_cons]
    · rw [hadd]
      unfold Tm.plain
      simp [hkx]
end
end Go.Proofs.Ytckfedekpkgcdaa

/- Growing rows of rows of values in the frame. -/
namespace Go.Vc
open Go Go.RowKit

def elR (te : TypeId) (h : Sl) (l : List Val) : Row := ⟨te, 3, h.p, h.n, h.c, l.flatMap Val.cs⟩
def hdR (th : TypeId) (p : Option Addr) (n c : Nat) (hs : List Sl) : Row := ⟨th, 1, p, n, c, hs.flatMap Sl.cs⟩
def rowsR (te th : TypeId) (p : Option Addr) (c : Nat) (bs : List (Sl × List Val)) : List Row := hdR th p bs.length c (bs.map (·.1)) :: bs.map fun b => elR te b.1 b.2
/-! ### Stores into a part of a thing; what append leaves -/
theorem Mine.putAt {B s o : Nat} {t : TypeId} {w : World} {p : Option Addr} {n c : Nat} {vs us : List Value} (h : Mine B t s w p n c vs) (ho : o + us.length ≤ n * s) (h0 : 0 < us.length) :
    ∃ b, p = some ⟨b, 0, none⟩ ∧ B ≤ b ∧ b < w.heap.size ∧ (∀ j, j < us.length → (∃ u, w.cell? ⟨b, o + j, none⟩ = some u) ∧ w.frozen? ⟨b, o + j, none⟩ = false) ∧
      ∀ w', Put w b o us w' → Mine B t s w' p n c (vs.take o ++ us ++ vs.drop (o + us.length)) := by
  have hn : 0 < n := by
    rcases Nat.eq_zero_or_pos n with rfl | h
    · omega
    · exact h
  obtain ⟨b, cur, hp, hB, hblk, hsz, htk⟩ := h.blk (.inl hn)
  have hcap := h.cap
  have hlen := h.len
  have h2 : n * s ≤ c * s := Nat.mul_le_mul_right s hcap.1
  refine ⟨b, hp, hB, hblk.lt, fun j hj => ⟨?_, hblk.frozen _⟩, fun w' hput => ?_⟩
  · rw [hblk.cell]; exact ⟨cur[o + j]'(by omega), by simp⟩
  · have hb' := hblk.put hput
    obtain ⟨s1, s2⟩ := setA_spec us cur o
    refine ⟨by simp only [List.length_append, List.length_take, List.length_drop]; omega, .inr ⟨b, c, _, by rw [hp], hB, hb', hcap.1, hcap.2, by rw [s1, hsz], ?_⟩⟩
    apply List.ext_getElem?
    intro k
    rw [List.getElem?_take]
    have hk2 : (setA cur o us).toList[k]? = (setA cur o us)[k]? := by simp
    rw [hk2, s2]
    have hvs : ∀ k, k < n * s → vs[k]? = cur[k]? := fun k hk => by rw [← htk, List.getElem?_take, if_pos hk]; simp
    by_cases hk : k < n * s
    · rw [if_pos hk]
      by_cases hc : o ≤ k ∧ k < o + us.length ∧ k < cur.size
      · rw [if_pos hc, List.append_assoc, List.getElem?_append_right (by simp; omega), List.getElem?_append_left (by simp; omega)]
        congr 1; simp; omega
      · rw [if_neg hc, ← hvs k hk]
        rcases Nat.lt_or_ge k o with hlt | hge
        · rw [List.append_assoc, List.getElem?_append_left (by simp; omega), List.getElem?_take, if_pos hlt]
        · rw [List.getElem?_append_right (by simp; omega), List.getElem?_drop]
          congr 1; simp; omega
    · rw [if_neg hk, List.getElem?_eq_none]
      simp only [List.length_append, List.length_take, List.length_drop]; omega
theorem Hold.putAt {w0 W : World} {fs : List (Nat × Obj)} {ms : List Row} {t : TypeId} {s o n c : Nat} {p : Option Addr} {vs us : List Value} (h : Hold w0 W fs ms) (i : Nat) (hi : ms[i]? = some ⟨t, s, p, n, c, vs⟩) (ho : o + us.length ≤ n * s) (h0 : 0 < us.length) :
    ∃ b, p = some ⟨b, 0, none⟩ ∧ (∀ q, q < us.length → (∃ v, W.cell? ⟨b, o + q, none⟩ = some v) ∧ W.frozen? ⟨b, o + q, none⟩ = false) ∧
      ∀ W', Put W b o us W' → Hold w0 W' fs (ms.set i ⟨t, s, p, n, c, vs.take o ++ us ++ vs.drop (o + us.length)⟩) := by
  obtain ⟨b, hb, h1, h2, h3, h4⟩ := (h.row i hi).putAt ho h0
  refine ⟨b, hb, h3, fun W' hput => h.updRow i hi (.inr ⟨b, hb, h1, hput.but⟩) (h4 W' hput) fun b' o' hp' => .inr ?_⟩
  rw [hb] at hp'; cases hp'; exact hb
/-- No block but the row's own has turned. -/
def Grew (p : Option Addr) (W W' : World) : Prop := (p = none ∧ Ext W W') ∨ ∃ b, p = some ⟨b, 0, none⟩ ∧ But b W W'
theorem Grew.same {p : Option Addr} {W W' wr : World} {l : List Nat} (h : Grew p W W') (hl : ∀ b o, p = some ⟨b, o, none⟩ → b ∉ l) : SameTo (some l) wr W W' := by
  rcases h with ⟨_, e⟩ | ⟨b, hb, e⟩
  · exact e.same
  · exact e.sameIn (hl b 0 hb)
theorem Hold.appendG {w0 W : World} {fs : List (Nat × Obj)} {ms : List Row} {t : TypeId} {s n c : Nat} {p : Option Addr} {vs : List Value} {P : Program} {t' ty : TypeId} {z : Ty} {q : Option Addr} {m d' : Nat} {news : List Value} (h : Hold w0 W fs ms) (i : Nat) (hi : ms[i]? = some ⟨t, s, p, n, c, vs⟩) (ht : P.underlying t' = some (.slice t)) (hz : tyOf P t = some z)
    (h1 : z.ls.length = s) (h0 : 0 < s) (hat : At W q news) (hm : news.length = m * s) (hq : q = none → m = 0 ∧ d' = 0) (hone : ∀ x ∈ news, x.oneCell' = true)
    (hroom : ((n + m) + (n + m) / 4 + 192) * z.bytes ≤ 281474976710656) (hlen : n + m ≤ maxLen) :
    ∃ p' c' W', (Builtin.append_ #[t', t'] ty #[.slice p n c, .slice q m d']).run P W = .ok (.slice p' (n + m) c') W' ∧ Hold w0 W' fs (ms.set i ⟨t, s, p', n + m, c', vs ++ news⟩) ∧ Grew p W W' := by
  obtain ⟨p', c', W', h2, h3, h4, h5⟩ := append_at (ty := ty) ht hz h1 h0 (h.row i hi) hat hm hq hone h.size hroom hlen
  refine ⟨p', c', W', h2, h.updRow i hi ((h.row i hi).grown h4) h3 h5, ?_⟩
  rcases (h.row i hi).grown h4 with h | ⟨b, h, _, e⟩
  · exact .inl h
  · exact .inr ⟨b, h, e⟩
section
variable {te th : TypeId} {w0 W W1 W2 : World} {fs : List (Nat × Obj)} {ms : List Row} {p q : Option Addr} {n c m d b : Nat} {bs : List (Sl × List Val)} {h : Sl} {l : List Val}
theorem Hold.nilR (H : Hold w0 W fs ms) (te th : TypeId) : Hold w0 W fs (rowsR te th none 0 [] ++ ms) := H.nilRow th 1
theorem Hold.elV (H : Hold w0 W fs ms) (hm : elR te h l ∈ ms) : Vs W h.p h.n h.c l := (H.ownM hm).ls Val.cs_length (by decide)
theorem Hold.rws (H : Hold w0 W fs ms) (hm : ∀ m ∈ rowsR te th p c bs, m ∈ ms) : Rws W p bs.length c (bs.map (·.1)) (bs.map (·.2)) := by
  refine ⟨(H.ownM (m := hdR th p bs.length c (bs.map (·.1))) (hm _ List.mem_cons_self)).ls Sl.cs_length (by decide), fun i x r hx hr => ?_, by simp⟩
  rw [List.getElem?_map] at hx hr
  cases hb : bs[i]? with
  | none => rw [hb] at hx; cases hx
  | some y =>
    rw [hb] at hx hr
    cases hx; cases hr
    exact H.elV (te := te) (hm _ (List.mem_cons_of_mem _ (List.mem_map.2 ⟨y, List.mem_of_getElem? hb, rfl⟩)))
theorem Hold.pushR {P : Program} {t' ty tb : TypeId} {z : Ty} (H : Hold w0 W fs (elR te h l :: (rowsR te th p c bs ++ ms))) (hu : P.underlying t' = some (.slice th)) (hz : tyOf P th = some z) (h1 : z.ls.length = 1) (hb : z.bytes = 24)
    (hn : New W (.cells #[.slice h.p h.n h.c] tb) b W2) (hlen : bs.length ≤ 1000000) :
    ∃ p' c' W3, (Builtin.append_ #[t', t'] ty #[.slice p bs.length c, .slice (some ⟨b, 0, Option.none⟩) 1 1]).run P W2 = .ok (.slice p' (bs.length + 1) c') W3 ∧ Hold w0 W3 fs (rowsR te th p' c' (bs ++ [(h, l)]) ++ ms) ∧ Grew p W2 W3 := by
  have H2 := H.step hn.ext
  obtain ⟨p', c', W3, hrn, H3, hg⟩ := H2.appendG (ty := ty) (P := P) (s := 1) (q := some ⟨b, 0, Option.none⟩) (m := 1) (d' := 1) (news := [.slice h.p h.n h.c]) 1 rfl hu hz h1 (by decide) (Blk.new hn).at rfl (fun e => by cases e)
    (by intro u hu; simp at hu; subst hu; rfl) (by rw [hb]; omega) (by unfold maxLen; omega)
  refine ⟨p', c', W3, hrn, H3.permA (.refl _) ?_, hg⟩
  refine perm_of_sum fun f => ?_
  simp only [rowsR, hdR, Sl.cs, List.flatMap_append, List.flatMap_cons, List.flatMap_nil, List.map_append, List.map_cons, List.map_nil, List.sum_append, List.sum_cons, List.sum_nil, List.cons_append, List.nil_append, List.set_cons_zero, List.set_cons_succ, List.length_append, List.length_cons, List.length_nil, Nat.zero_add, List.append_nil]
  omega
end
end Go.Vc

/- The contracts of Groups and Answer. -/
namespace Go.Vc
open Go Go.RowKit
def vals1 (aggs : List Int) (cols : List Gth) : List Val := List.zipWith (fun c a => (Gth.answer c a).1) cols aggs
def ok1 (aggs : List Int) (cols : List Gth) : Bool := (List.zipWith (fun c a => decide ((Gth.answer c a).2 = 0)) cols aggs).all id
def answerP (aggs : List Int) (gs : List Grp) : List (List Val) × List (List Val) × Int :=
  if gs.all fun g => ok1 aggs g.cols then (gs.map Grp.key, gs.map (fun g => vals1 aggs g.cols), 0) else ([], [], 100)
theorem answer_err (g : Gth) (a : Int) (h : (g.answer a).2 ≠ 0) : (g.answer a).2 = 100 := by
  revert h
  unfold Gth.answer
  split
  · intro h; exact absurd rfl h
  split
  · intro h; exact absurd rfl h
  split
  · intro h; exact absurd rfl h
  split
  · intro h; exact absurd rfl h
  split
  · intro h; exact absurd rfl h
  split
  · intro _; rfl
  · intro h; exact absurd rfl h
theorem zip_take {α β γ : Type} {f : α → β → γ} {l : List α} {r : List β} {k : Nat} {x : α} {y : β} (hx : l[k]? = some x) (hy : r[k]? = some y) : List.zipWith f (l.take (k + 1)) (r.take (k + 1)) = List.zipWith f (l.take k) (r.take k) ++ [f x y] := by
  rw [List.take_add_one, List.take_add_one, hx, hy]
  have hl : (l.take k).length = (r.take k).length := by
    have := (List.getElem?_eq_some_iff.1 hx).1
    have := (List.getElem?_eq_some_iff.1 hy).1
    rw [List.length_take, List.length_take]; omega
  rw [List.zipWith_append hl]
  rfl
theorem ok1_bad {aggs : List Int} {cols : List Gth} {k : Nat} {c : Gth} {a : Int} (hc : cols[k]? = some c) (ha : aggs[k]? = some a) (h : (c.answer a).2 ≠ 0) : ok1 aggs cols = false := by
  unfold ok1
  rw [List.all_eq_false]
  refine ⟨false, ?_, by simp⟩
  rw [List.mem_iff_getElem?]
  refine ⟨k, ?_⟩
  rw [List.getElem?_zipWith, hc, ha]
  simp [h]
end Go.Vc
namespace Go.Proofs.Ytckfedekpkgcdaa
open Go Go.Vc Go.RowKit
set_option maxRecDepth 20000
attribute [local irreducible] Calls Put Drew New

section
variable {w0 W : World} {fs : List (Nat × Obj)} {ms : List Row} {T : Tm}
/-- What Answer does. -/
def Answered (W : World) (r : List (List Val) × List (List Val) × Int) (e : Ending) (W' : World) : Prop :=
  ∃ p n c q m d hs ks, e = .returned (.tuple #[.slice p n c, .slice q m d, .int .i64 r.2.2]) ∧ Rws W' p n c hs r.1 ∧ Rws W' q m d ks r.2.1 ∧ Ext W W'

set_option maxHeartbeats 2000000 in
theorem tanswer_ok (H : Hold w0 W (T.blks ++ fs) (T.rows ++ ms)) (ok : Tok T) : Calls Try.prog 11 #[.pointer (some ⟨T.t, 0, none⟩)] W (Answered W (answerP T.aggs T.plain)) := by
  apply tanswer_vc
  unfold tanswer_T
  refine ⟨fun h => (by cases h), fun _ => ⟨T.t, 0, rfl, _, _, _, (T_blk H).cell 2, ?_⟩⟩
  have hlen := ok.len
  have bad : ∀ W', Ext W W' → (∃ x ∈ T.gs, ok1 T.aggs x.g.cols = false) → Answered W (answerP T.aggs T.plain) (.returned (.tuple #[.slice none 0 0, .slice none 0 0, .int .i64 100])) W' := by
    rintro W' e ⟨x, hx, hb⟩
    have : answerP T.aggs T.plain = ([], [], 100) := by
      unfold answerP
      rw [if_neg]
      rw [Bool.not_eq_true, List.all_eq_false]
      exact ⟨x.g, List.mem_map_of_mem hx, by simp [hb]⟩
    rw [this]
    exact ⟨_, _, _, _, _, _, _, _, rfl, .nothing _, .nothing _, e⟩
  refine ⟨fun p n c q m d i W' => ∃ (k : Nat) (bs ds : List (Sl × List Val)), i = (k : Int) ∧ k ≤ T.gs.length ∧ n = bs.length ∧ m = ds.length ∧ bs.map (·.2) = (T.gs.take k).map (fun x => x.g.key) ∧ ds.map (·.2) = (T.gs.take k).map (fun x => vals1 T.aggs x.g.cols) ∧ (∀ x ∈ T.gs.take k, ok1 T.aggs x.g.cols = true) ∧
    Hold W W' [] (rowsR 42 29 p c bs ++ (rowsR 42 29 q d ds ++ [])), fun _ _ _ _ _ _ i _ => T.gs.length - i.toNat, ⟨0, [], [], rfl, Nat.zero_le _, rfl, rfl, rfl, rfl, by simp, ((Hold.start .rfl).nilR _ _).nilR _ _⟩, ?_⟩
  rintro p n c q m d i W' ⟨k, bs, ds, rfl, hk, rfl, rfl, hbs, hds, hok, HK⟩
  have hbl : bs.length = k := by have := congrArg List.length hbs; simp only [List.length_map, List.length_take] at this; omega
  have hdl : ds.length = k := by have := congrArg List.length hds; simp only [List.length_map, List.length_take] at this; omega
  refine ⟨fun hlt => ?_, fun hge => ?_⟩
  · have g : T.gs[k]? = some (T.gs[k]'(by omega)) := List.getElem?_eq_getElem _
    obtain ⟨ob, oo, hop, hoc⟩ := ((T_ord H).ext HK.ext).get (i := k) (by rw [List.length_map]; omega)
    rw [List.getElem_map] at hoc
    generalize T.gs[k]'(by omega) = x at g hoc
    have hx := List.mem_of_getElem? g
    have hxc := ok.cols x hx
    have h16 := ok.a16
    have han := ok.an
    have hX : Blk W x.one 65 #[x.kp.v, .slice (some ⟨x.cb, 0, none⟩) T.an T.an] := hxc ▸ T_one H hx
    simp only [Int.toNat_natCast]
    refine ⟨ob, oo, hop, by omega, by omega, _, hoc, x.one, 0, rfl, _, _, _, (hX.ext HK.ext).cell 1, ?_⟩
    refine ⟨fun p n c j W2 => ∃ a : Nat, j = (a : Int) ∧ a ≤ T.an ∧ n = a ∧ ok1 (T.aggs.take a) (x.g.cols.take a) = true ∧ Hold W W2 [] (⟨42, 3, p, n, c, (vals1 (T.aggs.take a) (x.g.cols.take a)).flatMap Val.cs⟩ :: (rowsR 42 29 _ _ bs ++ (rowsR 42 29 _ _ ds ++ []))), fun _ _ _ j _ => T.an - j.toNat,
      ⟨0, rfl, Nat.zero_le _, rfl, rfl, HK.nilRow _ _⟩, ?_⟩
    rintro p3 n3 c3 j W2 ⟨a, rfl, ha, rfl, hoka, H2⟩
    refine ⟨fun hlt2 w37 h37 => ?_, fun hge2 => ?_⟩
    · have H37 := H2.step h37.ext
      have gc : x.g.cols[n3]? = some (x.g.cols[n3]'(by omega)) := List.getElem?_eq_getElem _
      have ga : T.aggs[n3]? = some (T.aggs[n3]'(by omega)) := List.getElem?_eq_getElem _
      obtain ⟨ab, ao, hap, hac⟩ := ((T_aggs H).ext H37.ext).getI (i := n3) (by omega)
      generalize x.g.cols[n3]'(by omega) = col at gc
      generalize T.aggs[n3]'(by omega) = ag at ga hac
      simp only [Int.toNat_natCast]
      have hblk : gblk x.cb [] (x.g.cols.flatMap Gth.cs) [] = gblk x.cb ((x.g.cols.take n3).flatMap Gth.cs) col.cs ((x.g.cols.drop (n3 + 1)).flatMap Gth.cs) := by
        unfold gblk
        obtain ⟨hlt', e⟩ := List.getElem?_eq_some_iff.1 gc
        have : x.g.cols.flatMap Gth.cs = (x.g.cols.take n3).flatMap Gth.cs ++ (col.cs ++ (x.g.cols.drop (n3 + 1)).flatMap Gth.cs) := by
          conv => lhs; rw [← List.take_append_drop n3 x.g.cols]
          rw [List.flatMap_append, List.drop_eq_getElem_cons hlt', e, List.flatMap_cons]
        rw [List.nil_append, List.append_nil, this]
      have hpre : ((x.g.cols.take n3).flatMap Gth.cs).length = n3 * 10 := by
        rw [flatMap_length Gth.cs_length, List.length_take]
        congr 1; omega
      have hcb : x.cb < W.heap.size := (Array.getElem?_eq_some_iff.1 (T_col H hx)).1
      have call : ∀ W3, Ext W W3 → Calls Try.prog 24 #[.pointer (some ⟨x.cb, 0 + n3 * 10, none⟩), .int .i64 ag] W3 fun e W4 => e = .returned (.tuple #[(col.answer ag).1.agg, .int .i64 (col.answer ag).2]) ∧ Ext W3 W4 := by
        intro W3 e3
        have := ganswer_ok col ag (((e3.block x.cb hcb).trans (T_col H hx)).trans (by rw [hblk]))
        rw [hpre] at this
        rw [Nat.zero_add]
        exact this
      have fin : ∀ (b60 : Nat) (W6 : World), Hold W W6 [(b60, .cells #[.int .i64 (col.answer ag).1.k, .int .i64 (col.answer ag).1.n, .string (col.answer ag).1.s] 42 (0, 0))] (⟨42, 3, p3, n3, c3, (vals1 (T.aggs.take n3) (x.g.cols.take n3)).flatMap Val.cs⟩ :: (rowsR 42 29 p c bs ++ (rowsR 42 29 q d ds ++ []))) → (col.answer ag).2 = 0 →
          ∀ (b73 : Nat) (w74 : World), New W6 (.cells #[.int .i64 (col.answer ag).1.k, .int .i64 (col.answer ag).1.n, .string (col.answer ag).1.s] 42) b73 w74 → ∃ p76 n77 c78 w79, (Builtin.append_ #[29, 29] 29 #[.slice p3 n3 c3, .slice (some ⟨b73, 0, none⟩) 1 1]).run Try.prog w74 = .ok (.slice p76 n77 c78) w79 ∧
            (∃ a : Nat, IntKind.i64.wrap ((n3 : Int) + 1) = (a : Int) ∧ a ≤ T.an ∧ n77 = a ∧ ok1 (T.aggs.take a) (x.g.cols.take a) = true ∧ Hold W w79 [] (⟨42, 3, p76, n77, c78, (vals1 (T.aggs.take a) (x.g.cols.take a)).flatMap Val.cs⟩ :: (rowsR 42 29 p c bs ++ (rowsR 42 29 q d ds ++ [])))) ∧
            T.an - (IntKind.i64.wrap ((n3 : Int) + 1)).toNat < T.an - (n3 : Int).toNat := by
        intro b60 W6 H6 h0 b73 w74 h74
        have H74 := H6.new h74
        obtain ⟨p76, c78, w79, hrun, H79⟩ := H74.append (ty := 29) (P := Try.prog) (s := 3) (q := some ⟨b73, 0, none⟩) (m := 1) (d' := 1) (news := (col.answer ag).1.cs) 0 rfl undRow tyVal rfl (by decide) (Blk.new h74).at rfl (fun e => by cases e)
          (Val.cs_one _) (by show ((n3 + 1) + (n3 + 1) / 4 + 192) * 32 ≤ _; omega) (by unfold maxLen; omega)
        refine ⟨p76, _, c78, w79, hrun, ?_, ?_⟩
        · refine ⟨n3 + 1, i64_next (by omega), by omega, rfl, ?_, ?_⟩
          · unfold ok1 at hoka ⊢
            rw [zip_take gc ga, List.all_append, hoka]
            simp [h0]
          · unfold vals1
            rw [zip_take gc ga, List.flatMap_append, List.flatMap_cons, List.flatMap_nil, List.append_nil]
            exact H79.subA (List.nil_sublist _) (.refl _)
        · rw [i64_next (by omega)]
          simp only [Int.toNat_natCast]; omega
      have over : ∀ W6, Ext W W6 → (col.answer ag).2 ≠ 0 → Answered W (answerP T.aggs T.plain) (.returned (.tuple #[.slice none 0 0, .slice none 0 0, .int .i64 (col.answer ag).2])) W6 := by
        intro W6 e6 hne
        rw [answer_err _ _ hne]
        exact bad W6 e6 ⟨x, hx, ok1_bad gc ga hne⟩
      refine ⟨x.one, 0, rfl, _, _, _, (hX.ext H37.ext).cell 1, x.cb, 0, rfl, by omega, by omega, T.t, 0, rfl, _, _, _, ((T_blk H).ext H37.ext).cell 0, ab, ao, hap, by omega, by omega, ag, hac, (call w37 H37.ext).mono ?_, fun b80 w81 h81 => ?_⟩
      · rintro e W4 ⟨rfl, e4⟩
        have H4 := H37.step e4
        refine ⟨_, _, _, _, rfl, fun b60 w61 h61 => ⟨h61.ext.same, ?_⟩⟩
        have H61 := H4.new h61
        refine ⟨⟨_, H61.get 0 rfl rfl⟩, H61.frz 0 rfl, ⟨_, H61.get 0 rfl rfl⟩, H61.frz 0 rfl, ⟨_, H61.get 0 rfl rfl⟩, H61.frz 0 rfl, fun w66 h66 => ?_⟩
        have H66 := H61.put 0 rfl h66
        refine ⟨fun hne => over _ H66.ext hne, fun he => ⟨_, H66.get 0 rfl rfl, _, H66.get 0 rfl rfl, _, H66.get 0 rfl rfl, fin b60 w66 H66 he⟩⟩
      · have H81 := H37.new h81
        refine ⟨h81.ext.same, (call w81 H81.ext).mono ?_⟩
        rintro e W4 ⟨rfl, e4⟩
        have H4 := H81.step e4
        refine ⟨_, _, _, _, rfl, ⟨_, H4.get 0 rfl rfl⟩, H4.frz 0 rfl, ⟨_, H4.get 0 rfl rfl⟩, H4.frz 0 rfl, ⟨_, H4.get 0 rfl rfl⟩, H4.frz 0 rfl, fun w66 h66 => ?_⟩
        have H66 := H4.put 0 rfl h66
        refine ⟨fun hne => over _ H66.ext hne, fun he => ⟨_, H66.get 0 rfl rfl, _, H66.get 0 rfl rfl, _, H66.get 0 rfl rfl, fin b80 w66 H66 he⟩⟩
    · have haa : n3 = T.an := by omega
      rw [List.take_of_length_le (by omega), List.take_of_length_le (by omega)] at hoka H2
      have hksz := ok.ksz x hx
      have hkv := (T_key H hx).ext H2.ext
      have hkl := hkv.len
      refine ⟨x.one, 0, rfl, _, _, _, (hX.ext H2.ext).cell 0, (clonerow_ok W2 hkv (by omega)).mono ?_⟩
      rintro e w113 ⟨p', c', rfl, _, e113, step⟩
      refine ⟨_, _, _, rfl, fun b117 w118 h118 => ?_⟩
      have Hk : Hold W w113 [] (elR 42 ⟨p', x.kp.n, c'⟩ x.g.key :: (rowsR 42 29 p c bs ++ (⟨42, 3, p3, n3, c3, (vals1 T.aggs x.g.cols).flatMap Val.cs⟩ :: (rowsR 42 29 q d ds ++ [])))) := by
        refine (step _ _ _ H2).permA (.refl _) ?_
        refine perm_of_sum fun f => ?_
        simp only [elR, List.map_append, List.map_cons, List.sum_append, List.sum_cons]
        omega
      obtain ⟨p5, c5, w123, hrun, H123, _⟩ := Hk.pushR (ty := 32) undRows tyRow rfl rfl h118 (by omega)
      refine ⟨p5, _, c5, w123, hrun, fun b124 w125 h125 => ?_⟩
      have Ho : Hold W w123 [] (elR 42 ⟨p3, n3, c3⟩ (vals1 T.aggs x.g.cols) :: (rowsR 42 29 q d ds ++ (rowsR 42 29 p5 c5 (bs ++ [(⟨p', x.kp.n, c'⟩, x.g.key)]) ++ []))) := by
        refine H123.permA (.refl _) ?_
        refine perm_of_sum fun f => ?_
        simp only [elR, List.map_append, List.map_cons, List.map_nil, List.sum_append, List.sum_cons, List.sum_nil]
        omega
      obtain ⟨p6, c6, w130, hrun6, H130, _⟩ := Ho.pushR (ty := 32) undRows tyRow rfl rfl h125 (by omega)
      refine ⟨p6, _, c6, w130, hrun6, ?_⟩
      rw [i64_next (by omega)]
      have htk : T.gs.take (k + 1) = T.gs.take k ++ [x] := by rw [List.take_add_one, g]; rfl
      refine ⟨⟨k + 1, bs ++ [(⟨p', x.kp.n, c'⟩, x.g.key)], ds ++ [(⟨p3, n3, c3⟩, vals1 T.aggs x.g.cols)], rfl, by omega, by simp, by simp, ?_, ?_, ?_, ?_⟩, by simp only [Int.toNat_natCast]; omega⟩
      · rw [htk, List.map_append, List.map_append, hbs]; rfl
      · rw [htk, List.map_append, List.map_append, hds]; rfl
      · intro y hy
        rw [htk] at hy
        rcases List.mem_append.1 hy with hy | hy
        · exact hok y hy
        · rw [List.mem_singleton] at hy; subst hy; exact hoka
      · refine H130.permA (.refl _) ?_
        refine perm_of_sum fun f => ?_
        simp only [List.map_append, List.map_nil, List.sum_append, List.sum_nil]
        omega
  · have hkk : k = T.gs.length := by omega
    rw [List.take_of_length_le (by omega)] at hbs hds hok
    have : answerP T.aggs T.plain = (bs.map (·.2), ds.map (·.2), 0) := by
      unfold answerP Tm.plain
      rw [if_pos, hbs, hds]
      · simp
      · rw [List.all_eq_true]
        intro g hg
        obtain ⟨x, hx, rfl⟩ := List.mem_map.1 hg
        exact hok x hx
    rw [this]
    exact ⟨_, _, _, _, _, _, _, _, rfl, HK.rws (te := 42) (th := 29) fun m hm => by simp [hm], HK.rws (te := 42) (th := 29) fun m hm => by simp [hm], HK.ext⟩
end
end Go.Proofs.Ytckfedekpkgcdaa

/- The document's table: what a row does to it; both tables answer alike. Plain Lean, no program. -/
namespace Go.Vc
open Go Go.RowKit

structure RG where
  key : List Val
  rows : List (List Val)
def RG.upd (key vals : List Val) (g : RG) : RG := if g.key = key then ⟨g.key, g.rows ++ [vals]⟩ else g
def hasR (gs : List RG) (key : List Val) : Bool := gs.any fun g => decide (g.key = key)
def addR (aggs : List Int) (gs : List RG) (key vals : List Val) : List RG × Int :=
  if mayP aggs (gs.head?.map RG.key) key vals then
    if hasR gs key then (gs.map (RG.upd key vals), 0)
    else if gs.length = 4096 then (gs, 130) else (gs ++ [⟨key, [vals]⟩], 0)
  else (gs, 2)
def RG.img (k : Nat) (g : RG) : Grp := ⟨g.key, g.rows.foldl addCols (newCols k)⟩
theorem head_img (k : Nat) (gs : List RG) : (gs.map (RG.img k)).head?.map Grp.key = gs.head?.map RG.key := by cases gs <;> rfl
theorem has_img (k : Nat) (gs : List RG) (key : List Val) : hasK (gs.map (RG.img k)) key = hasR gs key := by unfold hasK hasR; rw [List.any_map]; rfl
theorem sim (aggs : List Int) (gs : List RG) (key vals : List Val) : addP aggs (gs.map (RG.img aggs.length)) key vals = ((addR aggs gs key vals).1.map (RG.img aggs.length), (addR aggs gs key vals).2) := by
  unfold addP addR
  rw [head_img, has_img, List.length_map]
  split
  · split
    · simp only [List.map_map, Prod.mk.injEq, and_true]
      refine List.map_congr_left fun g _ => ?_
      by_cases h : g.key = key
      · simp [Grp.upd, RG.upd, RG.img, h]
      · simp [Grp.upd, RG.upd, RG.img, h]
    · split
      · rfl
      · simp [RG.img]
  · rfl
def colOf (rows : List (List Val)) (j : Nat) : List Val := rows.map fun r => r.getD j nullV
theorem foldl_cols : ∀ (rows : List (List Val)) (cols : List Gth), (∀ r ∈ rows, r.length = cols.length) → ∀ j, (rows.foldl addCols cols)[j]? = cols[j]?.map fun c => (colOf rows j).foldl Gth.add c
  | [], cols, _, j => by simp [colOf]
  | r :: rows, cols, h, j => by
    have hl : (addCols cols r).length = cols.length := by rw [addCols_length, h r (by simp)]; omega
    rw [List.foldl_cons, foldl_cols rows (addCols cols r) (fun x hx => by rw [hl]; exact h x (by simp [hx])) j]
    unfold addCols
    rw [List.getElem?_zipWith]
    cases hc : cols[j]? with
    | none => rfl
    | some c =>
      have hj := (List.getElem?_eq_some_iff.1 hc).1
      have hr : r[j]? = some (r.getD j nullV) := by
        rw [List.getD_eq_getElem?_getD, List.getElem?_eq_getElem (by rw [h r (by simp)]; exact hj)]; rfl
      rw [hr]
      rfl
/-- A group's columns, each by what came. -/
theorem img_cols {g : RG} {k : Nat} (h : ∀ r ∈ g.rows, r.length = k) : (g.img k).cols = (List.range k).map fun j => foldC (colOf g.rows j) := by
  apply List.ext_getElem?
  intro j
  show (g.rows.foldl addCols (newCols k))[j]? = _
  rw [foldl_cols _ _ (fun r hr => by rw [h r hr]; simp [newCols]) j]
  unfold newCols
  rw [List.getElem?_replicate, List.getElem?_map]
  by_cases hj : j < k
  · rw [if_pos hj, List.getElem?_range hj]; rfl
  · rw [if_neg hj, List.getElem?_eq_none (by simpa using hj)]; rfl
theorem least_unique {l : List Val} {x y : Val} (hx : Least l x) (hy : Least l y) : x = y := by
  by_cases hn : l = []
  · rw [hx.none hn, hy.none hn]
  · have h1 := hx.le y (hy.mem hn)
    have h2 := hy.le x (hx.mem hn)
    have := cmpV_cmp.anti x y
    exact cmpV_zero.1 (by omega)
theorem most_unique {l : List Val} {x y : Val} (hx : Most l x) (hy : Most l y) : x = y := by
  by_cases hn : l = []
  · rw [hx.none hn, hy.none hn]
  · have h1 := hx.le y (hy.mem hn)
    have h2 := hy.le x (hx.mem hn)
    have := cmpV_cmp.anti x y
    exact cmpV_zero.1 (by omega)

/-! ### Numbers in halves -/
end Go.Vc

/- The verification conditions of the functions, evaluated: printed by program. -/
namespace Go.Proofs.Ytckfedekpkgcdaa
open Go Go.Vc
set_option maxRecDepth 20000

set_option maxRecDepth 100000 in
def shown14_T (w : World) (R : Ending → World → Prop) : Prop :=
  ∀ b1 w'2, New w (Obj.cells #[.int .i64 1, .int .i64 3] 3) b1 w'2 → Calls Try.prog 13 #[.slice (some ⟨b1, 0, none⟩) 2 2] w'2 fun e4 w5 ↦
 ∃ (p6 : Option Addr), ∃ n7, e4 = .returned (.tuple #[.pointer p6, .int .i64 n7]) ∧ (n7 ≠ 0 ∨ p6.isNone = true → R (.returned (.bool false)) w5) ∧ (n7 = 0 ∧ p6.isNone = false → Calls Try.prog 23 #[.int .i64 7] w5 fun e10 w11 ↦
 ∃ n12, ∃ n13, ∃ s14, e10 = .returned (.agg #[.int .i64 n12, .int .i64 n13, .string s14]) ∧ ∀ b15 w'16, New w11 (Obj.cells #[.int .i64 n12, .int .i64 n13, .string s14] 42) b15 w'16 → Calls Try.prog 23 #[.int .i64 5] w'16 fun e18 w19 ↦
 ∃ n20, ∃ n21, ∃ s22, e18 = .returned (.agg #[.int .i64 n20, .int .i64 n21, .string s22]) ∧ ∀ b23 w'24, New w19
 (Obj.cells #[.int .i64 0, .int .i64 0, .string ⟨#[]⟩, .int .i64 n20, .int .i64 n21, .string s22]
 42)
 b23 w'24 → Calls Try.prog 14 #[.pointer p6, .slice (some ⟨b15, 0, none⟩) 1 1, .slice (some ⟨b23, 0, none⟩) 2 2] w'24 fun e26 w27 ↦
 ∃ n28, e26 = .returned (.int .i64 n28) ∧ Calls Try.prog 23 #[.int .i64 8] w27 fun e29 w30 ↦
 ∃ n31, ∃ n32, ∃ s33, e29 = .returned (.agg #[.int .i64 n31, .int .i64 n32, .string s33]) ∧ ∀ b34 w'35, New w30 (Obj.cells #[.int .i64 n31, .int .i64 n32, .string s33] 42) b34 w'35 → Calls Try.prog 23 #[.int .i64 1] w'35 fun e37 w38 ↦
 ∃ n39, ∃ n40, ∃ s41, e37 = .returned (.agg #[.int .i64 n39, .int .i64 n40, .string s41]) ∧ ∀ b42 w'43, New w38
 (Obj.cells #[.int .i64 0, .int .i64 0, .string ⟨#[]⟩, .int .i64 n39, .int .i64 n40, .string s41]
 42)
 b42 w'43 → Calls Try.prog 14 #[.pointer p6, .slice (some ⟨b34, 0, none⟩) 1 1, .slice (some ⟨b42, 0, none⟩) 2 2] w'43 fun e45 w46 ↦
 ∃ n47, e45 = .returned (.int .i64 n47) ∧ Calls Try.prog 23 #[.int .i64 7] w46 fun e48 w49 ↦
 ∃ n50, ∃ n51, ∃ s52, e48 = .returned (.agg #[.int .i64 n50, .int .i64 n51, .string s52]) ∧ ∀ b53 w'54, New w49 (Obj.cells #[.int .i64 n50, .int .i64 n51, .string s52] 42) b53 w'54 → ∀ b56 w'57, New w'54
 (Obj.cells
 #[.int .i64 0, .int .i64 0, .string ⟨#[]⟩, .int .i64 0, .int .i64 0, .string ⟨#[]⟩]
 42)
 b56 w'57 → Calls Try.prog 14 #[.pointer p6, .slice (some ⟨b53, 0, none⟩) 1 1, .slice (some ⟨b56, 0, none⟩) 2 2] w'57 fun e59 w60 ↦
 ∃ n61, e59 = .returned (.int .i64 n61) ∧ Calls Try.prog 11 #[.pointer p6] w60 fun e62 w63 ↦
 ∃ p64 n65 c66, ∃ p67 n68 c69, ∃ n70, e62 = .returned (.tuple #[.slice p64 n65 c66, .slice p67 n68 c69, .int .i64 n70]) ∧ ∀ w'71, Drew w63 w'71 → ((n70 = 0 ∧ (↑n65 : Int) = 2) ∧ (↑n68 : Int) = 2 → ∃ b74, ∃ o75, p64 = some ⟨b74, o75, none⟩ ∧ (0 : Int) ≤ 0 ∧ 0 < (↑n65 : Int) ∧ ∃ p76 n77 c78, w'71.cell? ⟨b74, (o75 + 0), none⟩ = some (.slice p76 n77 c78) ∧ ∃ b79, ∃ o80, p76 = some ⟨b79, o80, none⟩ ∧ (0 : Int) ≤ 0 ∧ 0 < (↑n77 : Int) ∧ ∃ n81, w'71.cell? ⟨b79, (o80 + 0), none⟩ = some (.int .i64 n81) ∧ ∃ n82, w'71.cell? ⟨b79, (o80 + 0 + 1), none⟩ = some (.int .i64 n82) ∧ ∃ s83, w'71.cell? ⟨b79, (o80 + 0 + 2), none⟩ = some (.string s83) ∧ Calls Try.prog 23 #[.int .i64 7] w'71 fun e84 w85 ↦
 ∃ n86, ∃ n87, ∃ s88, e84 = .returned (.agg #[.int .i64 n86, .int .i64 n87, .string s88]) ∧ SameTo none w'71 w'71 w85 ∧ (n81 = n86 ∧ n82 = n87 ∧ s83 = s88 → ∃ b90, ∃ o91, p67 = some ⟨b90, o91, none⟩ ∧ (0 : Int) ≤ 0 ∧ 0 < (↑n68 : Int) ∧ ∃ p92 n93 c94, w85.cell? ⟨b90, (o91 + 0), none⟩ = some (.slice p92 n93 c94) ∧ ∃ b95, ∃ o96, p92 = some ⟨b95, o96, none⟩ ∧ (0 : Int) ≤ 0 ∧ 0 < (↑n93 : Int) ∧ ∃ n97, w85.cell? ⟨b95, (o96 + 0), none⟩ = some (.int .i64 n97) ∧ ∃ n98, w85.cell? ⟨b95, (o96 + 0 + 1), none⟩ = some (.int .i64 n98) ∧ ∃ s99, w85.cell? ⟨b95, (o96 + 0 + 2), none⟩ = some (.string s99) ∧ Calls Try.prog 23 #[.int .i64 2] w85 fun e100 w101 ↦
 ∃ n102, ∃ n103, ∃ s104, e100 = .returned (.agg #[.int .i64 n102, .int .i64 n103, .string s104]) ∧ SameTo none w85 w85 w101 ∧ (n97 = n102 ∧ n98 = n103 ∧ s99 = s104 → ∃ b106, ∃ o107, p67 = some ⟨b106, o107, none⟩ ∧ (0 : Int) ≤ 0 ∧ 0 < (↑n68 : Int) ∧ ∃ p108 n109 c110, w101.cell? ⟨b106, (o107 + 0), none⟩ = some (.slice p108 n109 c110) ∧ ∃ b111, ∃ o112, p108 = some ⟨b111, o112, none⟩ ∧ (0 : Int) ≤ 1 ∧ 1 < (↑n109 : Int) ∧ ∃ n113, w101.cell? ⟨b111, (o112 + 3), none⟩ = some (.int .i64 n113) ∧ ∃ n114, w101.cell? ⟨b111, (o112 + 3 + 1), none⟩ = some (.int .i64 n114) ∧ ∃ s115, w101.cell? ⟨b111, (o112 + 3 + 2), none⟩ = some (.string s115) ∧ Calls Try.prog 23 #[.int .i64 5] w101 fun e116 w117 ↦
 ∃ n118, ∃ n119, ∃ s120, e116 = .returned (.agg #[.int .i64 n118, .int .i64 n119, .string s120]) ∧ SameTo none w101 w101 w117 ∧ R (.returned (.bool (decide (n113 = n118) && (decide (n114 = n119) && sEq s115 s120)))) w117) ∧ (n97 ≠ n102 ∨ n98 ≠ n103 ∨ s99 ≠ s104 → SameTo none w101 w101 w101 ∧ R (.returned (.bool false)) w101)) ∧ (n81 ≠ n86 ∨ n82 ≠ n87 ∨ s83 ≠ s88 → SameTo none w85 w85 w85 ∧ SameTo none w85 w85 w85 ∧ R (.returned (.bool false)) w85)) ∧ ((n70 ≠ 0 ∨ (↑n65 : Int) ≠ 2) ∨ (↑n68 : Int) ≠ 2 → SameTo none w'71 w'71 w'71 ∧ SameTo none w'71 w'71 w'71 ∧ SameTo none w'71 w'71 w'71 ∧ R (.returned (.bool false)) w'71))

set_option maxRecDepth 100000 in
theorem shown14_eq (w : World) (R : Ending → World → Prop) : shown14_T w R = vcFn Try.prog [] [(8, [2, 4, 6, 8, 10, 12, 14, 16, 18, 20, 22, 24, 26, 28, 30, 32, 34, 36, 39, 40, 42, 44, 46, 48, 50, 52, 54, 57, 58, 60, 62, 64, 66, 68, 70, 72, 75, 76, 78, 80, 0])] Try.f9 [] w R := by kernel_rfl

set_option maxRecDepth 100000 in
theorem shown14_vc (w : World) (R : Ending → World → Prop) (hvc : shown14_T w R) : Calls Try.prog 9 #[] w R :=
  calls_of_vc (args := []) [] [(8, [2, 4, 6, 8, 10, 12, 14, 16, 18, 20, 22, 24, 26, 28, 30, 32, 34, 36, 39, 40, 42, 44, 46, 48, 50, 52, 54, 57, 58, 60, 62, 64, 66, 68, 70, 72, 75, 76, 78, 80, 0])] Try.mixed Try.func9 (cast (shown14_eq w R) hvc)

set_option maxRecDepth 100000 in
def num14_T (n : Int) (w : World) (R : Ending → World → Prop) : Prop :=
  ∀ b1 w'2, New w (Obj.cells #[.int .i64 0, .int .i64 0, .string ⟨#[]⟩] 42) b1 w'2 → (∃ u4, w'2.cell? ⟨b1, 0, none⟩ = some u4) ∧ w'2.frozen? ⟨b1, 0, none⟩ = false ∧ (∃ u5, w'2.cell? ⟨b1, 1, none⟩ = some u5) ∧ w'2.frozen? ⟨b1, 1, none⟩ = false ∧ (∃ u6, w'2.cell? ⟨b1, 2, none⟩ = some u6) ∧ w'2.frozen? ⟨b1, 2, none⟩ = false ∧ ∀ w'7, Put w'2 b1 0 [.int .i64 1, .int .i64 n, .string ⟨#[]⟩] w'7 → ∃ n9, w'7.cell? ⟨b1, 0, none⟩ = some (.int .i64 n9) ∧ ∃ n10, w'7.cell? ⟨b1, 1, none⟩ = some (.int .i64 n10) ∧ ∃ s11, w'7.cell? ⟨b1, 2, none⟩ = some (.string s11) ∧ R (.returned (.agg #[.int .i64 n9, .int .i64 n10, .string s11])) w'7

set_option maxRecDepth 100000 in
theorem num14_eq (n : Int) (w : World) (R : Ending → World → Prop) : num14_T n w R = vcFn Try.prog [] [] Try.f23 [.int .i64 n] w R := by kernel_rfl

set_option maxRecDepth 100000 in
theorem num14_vc (n : Int) (w : World) (R : Ending → World → Prop) (hvc : num14_T n w R) : Calls Try.prog 23 #[.int .i64 n] w R :=
  calls_of_vc (args := [.int .i64 n]) [] [] Try.mixed Try.func23 (cast (num14_eq _ w R) hvc)

set_option maxRecDepth 100000 in
def filled14_T (aggs_p : Option Addr) (aggs_n : Nat) (aggs_c : Nat) (rows_p : Option Addr) (rows_n : Nat) (rows_c : Nat) (w : World) (R : Ending → World → Prop) : Prop :=
  Calls Try.prog 13 #[.slice aggs_p aggs_n aggs_c] w fun e1 w2 ↦
 ∃ (p3 : Option Addr), ∃ n4, e1 = .returned (.tuple #[.pointer p3, .int .i64 n4]) ∧ (n4 ≠ 0 ∨ p3.isNone = true → R (.returned (.tuple #[.pointer none, .bool false])) w2) ∧ (n4 = 0 ∧ p3.isNone = false → ∃ (I7 : Int → World → Prop), ∃ (M8 : Int → World → Nat), I7 0 w2 ∧ ∀ (n9 : Int) (w'10 : World), I7 n9 w'10 → (n9 < (↑rows_n : Int) → ∀ w'13, Drew w'10 w'13 → ∃ b15, ∃ o16, rows_p = some ⟨b15, o16, none⟩ ∧ 0 ≤ n9 ∧ n9 < (↑rows_n : Int) ∧ ∃ p17 n18 c19, w'13.cell? ⟨b15, (o16 + n9.toNat * 2), none⟩ = some (.slice p17 n18 c19) ∧ ∃ b20, ∃ o21, rows_p = some ⟨b20, o21, none⟩ ∧ 0 ≤ n9 ∧ n9 < (↑rows_n : Int) ∧ ∃ p22 n23 c24, w'13.cell? ⟨b20, (o21 + n9.toNat * 2 + 1), none⟩ = some (.slice p22 n23 c24) ∧ Calls Try.prog 14 #[.pointer p3, .slice p17 n18 c19, .slice p22 n23 c24] w'13 fun e25 w26 ↦
 ∃ n27, e25 = .returned (.int .i64 n27) ∧ I7 (IntKind.i64.wrap (n9 + 1)) w26 ∧ M8 (IntKind.i64.wrap (n9 + 1)) w26 < M8 n9 w'10) ∧ ((↑rows_n : Int) ≤ n9 → R (.returned (.tuple #[.pointer p3, .bool true])) w'10))

set_option maxRecDepth 100000 in
theorem filled14_eq (aggs_p : Option Addr) (aggs_n : Nat) (aggs_c : Nat) (rows_p : Option Addr) (rows_n : Nat) (rows_c : Nat) (w : World) (R : Ending → World → Prop) : filled14_T aggs_p aggs_n aggs_c rows_p rows_n rows_c w R = vcFn Try.prog [] [(7, [2, 4, 6, 8, 10, 12, 14, 16, 18, 20, 22, 24, 0])] Try.f10 [.slice aggs_p aggs_n aggs_c, .slice rows_p rows_n rows_c] w R := by kernel_rfl

set_option maxRecDepth 100000 in
theorem filled14_vc (aggs_p : Option Addr) (aggs_n : Nat) (aggs_c : Nat) (rows_p : Option Addr) (rows_n : Nat) (rows_c : Nat) (w : World) (R : Ending → World → Prop) (hvc : filled14_T aggs_p aggs_n aggs_c rows_p rows_n rows_c w R) : Calls Try.prog 10 #[.slice aggs_p aggs_n aggs_c, .slice rows_p rows_n rows_c] w R :=
  calls_of_vc (args := [.slice aggs_p aggs_n aggs_c, .slice rows_p rows_n rows_c]) [] [(7, [2, 4, 6, 8, 10, 12, 14, 16, 18, 20, 22, 24, 0])] Try.mixed Try.func10 (cast (filled14_eq _ _ _ _ _ _ w R) hvc)

set_option maxRecDepth 100000 in
def law14Order_T (aggs_p : Option Addr) (aggs_n : Nat) (aggs_c : Nat) (rows_p : Option Addr) (rows_n : Nat) (rows_c : Nat) (w : World) (R : Ending → World → Prop) : Prop :=
  Calls Try.prog 9 #[] w fun e1 w2 ↦
 ∃ b3, e1 = .returned (.bool b3) ∧ 0 ≤ mmI false (↑rows_n : Int) 200 ∧ mmI false (↑rows_n : Int) 200 ≤ (↑rows_c : Int) ∧ Calls Try.prog 10 #[.slice aggs_p aggs_n aggs_c, .slice rows_p (mmI false (↑rows_n : Int) 200).toNat rows_c] w2 fun e4 w5 ↦
 ∃ (p6 : Option Addr), ∃ b7, e4 = .returned (.tuple #[.pointer p6, .bool b7]) ∧ (b7 = false → R (.returned (.bool b3)) w5) ∧ (b7 = true → ∃ (I10 : Int → World → Prop), ∃ (M11 : Int → World → Nat), I10 0 w5 ∧ ∀ (n12 : Int) (w'13 : World), I10 n12 w'13 → (n12 < (↑(mmI false (↑rows_n : Int) 200).toNat : Int) → ∀ w'16, Drew w'13 w'16 → ∃ b18, ∃ o19, rows_p = some ⟨b18, o19, none⟩ ∧ 0 ≤ n12 ∧ n12 < (↑(mmI false (↑rows_n : Int) 200).toNat : Int) ∧ ∃ p20 n21 c22, w'16.cell? ⟨b18, (o19 + n12.toNat * 2), none⟩ = some (.slice p20 n21 c22) ∧ ∃ b23, ∃ o24, rows_p = some ⟨b23, o24, none⟩ ∧ (0 : Int) ≤ 0 ∧ 0 < (↑(mmI false (↑rows_n : Int) 200).toNat : Int) ∧ ∃ p25 n26 c27, w'16.cell? ⟨b23, (o24 + 0), none⟩ = some (.slice p25 n26 c27) ∧ ((↑n21 : Int) ≠ (↑n26 : Int) → R (.returned (.bool b3)) w'16) ∧ ((↑n21 : Int) = (↑n26 : Int) → I10 (IntKind.i64.wrap (n12 + 1)) w'16 ∧ M11 (IntKind.i64.wrap (n12 + 1)) w'16 < M11 n12 w'13)) ∧ ((↑(mmI false (↑rows_n : Int) 200).toNat : Int) ≤ n12 → ∃ (I31 : Option Addr → Nat → Nat → Int → World → Prop), ∃ (M32 : Option Addr → Nat → Nat → Int → World → Nat), I31 none 0 0 (IntKind.i64.wrap ((↑(mmI false (↑rows_n : Int) 200).toNat : Int) - 1)) w'13 ∧ ∀ (p33 : Option Addr) (n34 c35 : Nat) (n36 : Int) (w'37 : World), I31 p33 n34 c35 n36 w'37 → (0 ≤ n36 → ∃ b40, ∃ o41, rows_p = some ⟨b40, o41, none⟩ ∧ 0 ≤ n36 ∧ n36 < (↑(mmI false (↑rows_n : Int) 200).toNat : Int) ∧ ∃ p42 n43 c44, w'37.cell? ⟨b40, (o41 + n36.toNat * 2), none⟩ = some (.slice p42 n43 c44) ∧ ∃ p45 n46 c47, w'37.cell? ⟨b40, (o41 + n36.toNat * 2 + 1), none⟩ = some (.slice p45 n46 c47) ∧ ∀ b48 w'49, New w'37 (Obj.cells #[.slice p42 n43 c44, .slice p45 n46 c47] 31) b48 w'49 → ∃ p51 n52 c53, ∃ (w'54 : World), Sem.run Try.prog (Builtin.append_ #[23, 23] 23 #[.slice p33 n34 c35, .slice (some ⟨b48, 0, none⟩) 1 1]) w'49 = Result.ok (.slice p51 n52 c53) w'54 ∧ I31 p51 n52 c53 (IntKind.i64.wrap (n36 - 1)) w'54 ∧ M32 p51 n52 c53 (IntKind.i64.wrap (n36 - 1)) w'54 < M32 p33 n34 c35 n36 w'37) ∧ (n36 < 0 → Calls Try.prog 10 #[.slice aggs_p aggs_n aggs_c, .slice p33 n34 c35] w'37 fun e56 w57 ↦
 ∃ (p58 : Option Addr), ∃ b59, e56 = .returned (.tuple #[.pointer p58, .bool b59]) ∧ Calls Try.prog 11 #[.pointer p6] w57 fun e60 w61 ↦
 ∃ p62 n63 c64, ∃ p65 n66 c67, ∃ n68, e60 = .returned (.tuple #[.slice p62 n63 c64, .slice p65 n66 c67, .int .i64 n68]) ∧ Calls Try.prog 11 #[.pointer p58] w61 fun e69 w70 ↦
 ∃ p71 n72 c73, ∃ p74 n75 c76, ∃ n77, e69 = .returned (.tuple #[.slice p71 n72 c73, .slice p74 n75 c76, .int .i64 n77]) ∧ (((n68 ≠ n77 ∨ (↑n63 : Int) ≠ (↑n72 : Int)) ∨ (↑n66 : Int) ≠ (↑n75 : Int)) ∨ (↑n63 : Int) ≠ (↑n66 : Int) → R (.returned (.bool false)) w70) ∧ (((n68 = n77 ∧ (↑n63 : Int) = (↑n72 : Int)) ∧ (↑n66 : Int) = (↑n75 : Int)) ∧ (↑n63 : Int) = (↑n66 : Int) → ∃ (I80 : Int → World → Prop), ∃ (M81 : Int → World → Nat), I80 0 w70 ∧ ∀ (n82 : Int) (w'83 : World), I80 n82 w'83 → (n82 < (↑n63 : Int) → ∃ (I86 : Int → Int → World → Prop), ∃ (M87 : Int → Int → World → Nat), I86 0 0 w'83 ∧ ∀ (n88 n89 : Int) (w'90 : World), I86 n88 n89 w'90 → (n89 < (↑n72 : Int) → ∀ w'93, Drew w'90 w'93 → ∃ b95, ∃ o96, p62 = some ⟨b95, o96, none⟩ ∧ 0 ≤ n82 ∧ n82 < (↑n63 : Int) ∧ ∃ p97 n98 c99, w'93.cell? ⟨b95, (o96 + n82.toNat), none⟩ = some (.slice p97 n98 c99) ∧ ∃ b100, ∃ o101, p71 = some ⟨b100, o101, none⟩ ∧ 0 ≤ n89 ∧ n89 < (↑n72 : Int) ∧ ∃ p102 n103 c104, w'93.cell? ⟨b100, (o101 + n89.toNat), none⟩ = some (.slice p102 n103 c104) ∧ Calls Try.prog 12 #[.slice p97 n98 c99, .slice p102 n103 c104] w'93 fun e105 w106 ↦
 ∃ b107, e105 = .returned (.bool b107) ∧ (b107 = true → ∃ b109, ∃ o110, p65 = some ⟨b109, o110, none⟩ ∧ 0 ≤ n82 ∧ n82 < (↑n66 : Int) ∧ ∃ p111 n112 c113, w106.cell? ⟨b109, (o110 + n82.toNat), none⟩ = some (.slice p111 n112 c113) ∧ ∃ b114, ∃ o115, p74 = some ⟨b114, o115, none⟩ ∧ 0 ≤ n89 ∧ n89 < (↑n75 : Int) ∧ ∃ p116 n117 c118, w106.cell? ⟨b114, (o115 + n89.toNat), none⟩ = some (.slice p116 n117 c118) ∧ Calls Try.prog 12 #[.slice p111 n112 c113, .slice p116 n117 c118] w106 fun e119 w120 ↦
 ∃ b121, e119 = .returned (.bool b121) ∧ (b121 = true → I86 (IntKind.i64.wrap (n88 + 1)) (IntKind.i64.wrap (n89 + 1)) w120 ∧ M87 (IntKind.i64.wrap (n88 + 1)) (IntKind.i64.wrap (n89 + 1)) w120 < M87 n88 n89 w'90) ∧ (b121 = false → I86 n88 (IntKind.i64.wrap (n89 + 1)) w120 ∧ M87 n88 (IntKind.i64.wrap (n89 + 1)) w120 < M87 n88 n89 w'90)) ∧ (b107 = false → I86 n88 (IntKind.i64.wrap (n89 + 1)) w106 ∧ M87 n88 (IntKind.i64.wrap (n89 + 1)) w106 < M87 n88 n89 w'90)) ∧ ((↑n72 : Int) ≤ n89 → (n88 ≠ 1 → R (.returned (.bool false)) w'90) ∧ (n88 = 1 → I80 (IntKind.i64.wrap (n82 + 1)) w'90 ∧ M81 (IntKind.i64.wrap (n82 + 1)) w'90 < M81 n82 w'83))) ∧ ((↑n63 : Int) ≤ n82 → R (.returned (.bool b3)) w'83)))))

set_option maxRecDepth 100000 in
theorem law14Order_eq (aggs_p : Option Addr) (aggs_n : Nat) (aggs_c : Nat) (rows_p : Option Addr) (rows_n : Nat) (rows_c : Nat) (w : World) (R : Ending → World → Prop) : law14Order_T aggs_p aggs_n aggs_c rows_p rows_n rows_c w R = vcFn Try.prog [] [(9, [2, 4, 6, 8, 10, 12, 14, 16, 18, 20, 22, 24, 0]), (28, [2, 4, 6, 8, 10, 12, 14, 16, 18, 20, 22, 24, 26, 28, 30, 32, 34, 36, 38, 40, 0])] Try.f3 [.slice aggs_p aggs_n aggs_c, .slice rows_p rows_n rows_c] w R := by kernel_rfl

set_option maxRecDepth 100000 in
theorem law14Order_vc (aggs_p : Option Addr) (aggs_n : Nat) (aggs_c : Nat) (rows_p : Option Addr) (rows_n : Nat) (rows_c : Nat) (w : World) (R : Ending → World → Prop) (hvc : law14Order_T aggs_p aggs_n aggs_c rows_p rows_n rows_c w R) : Calls Try.prog 3 #[.slice aggs_p aggs_n aggs_c, .slice rows_p rows_n rows_c] w R :=
  calls_of_vc (args := [.slice aggs_p aggs_n aggs_c, .slice rows_p rows_n rows_c]) [] [(9, [2, 4, 6, 8, 10, 12, 14, 16, 18, 20, 22, 24, 0]), (28, [2, 4, 6, 8, 10, 12, 14, 16, 18, 20, 22, 24, 26, 28, 30, 32, 34, 36, 38, 40, 0])] Try.mixed Try.func3 (cast (law14Order_eq _ _ _ _ _ _ w R) hvc)


end Go.Proofs.Ytckfedekpkgcdaa

/- The contracts of the document's small functions: right, number, total, gathered. -/
namespace Go.Proofs.Ytckfedekpkgcdaa
open Go Go.Vc Go.RowKit
set_option maxRecDepth 20000
attribute [local irreducible] Calls Put Drew New

/-- Column j of rows that are long enough. -/
theorem col_get {rows : List (List Val)} {i j : Nat} {r : List Val} (hi : rows[i]? = some r) : (colOf rows j)[i]? = some (r.getD j nullV) := by unfold colOf; rw [List.getElem?_map, hi]; rfl
section
variable {w : World} {p : Option Addr} {n c j : Nat} {hs : List Sl} {rows : List (List Val)}
/-- The value in row k, column j. -/
theorem cell_at {W : World} (hR : Rws W p n c hs rows) (hw : ∀ r ∈ rows, j < r.length) {k : Nat} (hk : k < n) : ∃ (v : Val) (x : Sl) (b o b2 o2 : _), (colOf rows j)[k]? = some v ∧ p = some ⟨b, o, none⟩ ∧ W.cell? ⟨b, o + k, none⟩ = some (.slice x.p x.n x.c) ∧ x.p = some ⟨b2, o2, none⟩ ∧ j < x.n ∧
    W.cell? ⟨b2, o2 + j * 3, none⟩ = some (.int .i64 v.k) ∧ W.cell? ⟨b2, o2 + j * 3 + 1, none⟩ = some (.int .i64 v.n) ∧ W.cell? ⟨b2, o2 + j * 3 + 2, none⟩ = some (.string v.s) := by
  have hl := hR.len
  have g : rows[k]? = some (rows[k]'(by omega)) := List.getElem?_eq_getElem _
  generalize rows[k]'(by omega) = r at g
  have hj := hw r (List.mem_of_getElem? g)
  obtain ⟨x, hx, hv, b, o, hp, hc⟩ := hR.get g
  have gr : r[j]? = some (r[j]'hj) := List.getElem?_eq_getElem _
  obtain ⟨b2, o2, hp2, c0, c1, c2⟩ := hv.val gr
  refine ⟨r[j]'hj, x, b, o, b2, o2, ?_, hp, hc, hp2, by rw [← hv.len]; exact hj, c0, c1, c2⟩
  rw [col_get g, List.getD_eq_getElem?_getD, gr]; rfl

def totV (vs : List Val) : Val × Bool := if nn vs = [] then (nullV, true) else if fitB (sumN (nn vs)) then (numV (sumN (nn vs)), true) else (nullV, false)
end
end Go.Proofs.Ytckfedekpkgcdaa

/- The contract of the document's 'gathered'. -/
namespace Go.Vc
open Go Go.RowKit
structure Bst (agg : Int) (l : List Val) (x : Val) : Prop where
  ok : x.Ok
  least : agg = 4 → Least l x
  most : agg = 5 → Most l x
end Go.Vc
namespace Go.Proofs.Ytckfedekpkgcdaa
open Go Go.Vc Go.RowKit
set_option maxRecDepth 20000
attribute [local irreducible] Calls Put Drew New

/-- What a column of values answers in a way. -/
def colAns (agg : Int) (vs : List Val) : Val × Bool := (((foldC vs).answer agg).1, decide (((foldC vs).answer agg).2 = 0))
section
variable {w : World} {p : Option Addr} {n c j : Nat} {hs : List Sl} {rows : List (List Val)}
end
end Go.Proofs.Ytckfedekpkgcdaa

/- The contracts of the words that hold rows against one another. -/
namespace Go.Proofs.Ytckfedekpkgcdaa
open Go Go.Vc Go.RowKit
set_option maxRecDepth 20000

theorem samerow_ok (w : World) {p q : Option Addr} {n c m d : Nat} {a b : List Val} (ha : Vs w p n c a) (hb : Vs w q m d b) :
    Calls Try.prog 12 #[.slice p n c, .slice q m d] w fun e w' => e = .returned (.bool (decide (a = b))) ∧ Ext w w' := by
  apply samerow_vc
  unfold samerow_T
  have la := ha.len
  have lb := hb.len
  have hm : n ≤ 9223372036854775807 := ha.le
  refine ⟨fun h => ⟨?_, .rfl⟩, fun h => ?_⟩
  · have : a ≠ b := fun e => by subst e; omega
    simp [this]
  refine ⟨fun i w' => ∃ k : Nat, i = (k : Int) ∧ k ≤ n ∧ a.take k = b.take k ∧ Ext w w', fun i _ => n - i.toNat, ⟨0, rfl, Nat.zero_le _, by simp, .rfl⟩, ?_⟩
  rintro i w' ⟨k, rfl, hk, he, hx⟩
  refine ⟨fun hlt w9 h9 => ?_, fun hge => ⟨?_, hx⟩⟩
  · have hx9 := hx.trans h9.ext
    have ga : a[k]? = some (a[k]'(by omega)) := List.getElem?_eq_getElem _
    have gb : b[k]? = some (b[k]'(by omega)) := List.getElem?_eq_getElem _
    obtain ⟨b1, o1, hp, c0, c1, c2⟩ := (ha.ext hx9).val ga
    obtain ⟨b2, o2, hq, d0, d1, d2⟩ := (hb.ext hx9).val gb
    simp only [Int.toNat_natCast]
    refine ⟨b1, o1, hp, by omega, by omega, _, c0, _, c1, _, c2, b2, o2, hq, by omega, by omega, _, d0, _, d1, _, d2, fun hne => ⟨?_, hx9⟩, fun heq => ?_⟩
    · have : a ≠ b := fun e => by
        subst e
        rcases hne with h | h | h <;> exact h rfl
      simp [this]
    · rw [i64_next (by omega)]
      refine ⟨⟨k + 1, rfl, by omega, ?_, hx9⟩, by simp only [Int.toNat_natCast]; omega⟩
      rw [take_snoc ga, take_snoc gb, he, Val.ext'.2 heq]
  · have : k = n := by omega
    subst this
    rw [List.take_of_length_le (by omega), List.take_of_length_le (by omega)] at he
    simp [he]
end Go.Proofs.Ytckfedekpkgcdaa

/- The document's table in memory; the contracts of its New and Add. -/
namespace Go.Vc
open Go Go.RowKit
end Go.Vc
namespace Go.Proofs.Ytckfedekpkgcdaa
open Go Go.Vc Go.RowKit
set_option maxRecDepth 20000
attribute [local irreducible] Calls Put Drew New

structure Rm where
  kp : Sl
  vp : Option Addr
  vc : Nat
  key : List Val
  bs : List (Sl × List Val)
def Rm.cs (x : Rm) : List Value := [.slice x.kp.p x.kp.n x.kp.c, .slice x.vp x.bs.length x.vc]
theorem Rm.cs_length (x : Rm) : x.cs.length = 2 := rfl
theorem Rm.cs_one (x : Rm) : ∀ u ∈ x.cs, u.oneCell' = true := by
  intro u hu
  simp only [Rm.cs, List.mem_cons, List.not_mem_nil, or_false] at hu
  rcases hu with rfl | rfl <;> rfl
def Rm.vals (x : Rm) : List Row := rowsR 42 29 x.vp x.vc x.bs
def Rm.rows (x : Rm) : List Row := elR 42 x.kp x.key :: x.vals
def Rm.g (x : Rm) : RG := ⟨x.key, x.bs.map (·.2)⟩
structure RT where
  r : Nat
  ap : Option Addr
  an : Nat
  ac : Nat
  lp : Option Addr
  lc : Nat
  aggs : List Int
  gs : List Rm
def rob (R : RT) : Nat × Obj := (R.r, .cells #[.slice R.ap R.an R.ac, .slice R.lp R.gs.length R.lc] 51 (0, 0))
def RT.blks (R : RT) : List (Nat × Obj) := [rob R]
def RT.head (R : RT) : Row := ⟨80, 2, R.lp, R.gs.length, R.lc, R.gs.flatMap Rm.cs⟩
def RT.rows (R : RT) : List Row := R.head :: R.gs.flatMap Rm.rows
def RT.plain (R : RT) : List RG := R.gs.map Rm.g
structure Rok (w0 : World) (R : RT) (m : Nat) : Prop where
  agg : At w0 R.ap (vI .i64 R.aggs)
  an : R.aggs.length = R.an
  a16 : R.an ≤ 16
  ways : newOk R.aggs = true
  len : R.gs.length ≤ 4096
  cnt : ∀ x ∈ R.gs, x.bs.length ≤ m
  wid : ∀ g ∈ R.plain, ∀ r ∈ g.rows, fitsL R.aggs r = true ∧ ∀ v ∈ r, v.fit
  dist : (R.plain.map RG.key).Nodup

section
variable {w0 W : World} {fs : List (Nat × Obj)} {ms : List Row} {R : RT} {m : Nat}

/-- What the document's Add does. -/
def AddedR (w0 : World) (fs : List (Nat × Obj)) (ms : List Row) (R : RT) (m : Nat) (key vals : List Val) (e : Ending) (W' : World) : Prop :=
  ∃ R' : RT, e = .returned (.int .i64 (addR R.aggs R.plain key vals).2) ∧ Hold w0 W' (R'.blks ++ fs) (R'.rows ++ ms) ∧ Rok w0 R' (m + 1) ∧ R'.r = R.r ∧ R'.aggs = R.aggs ∧ R'.plain = (addR R.aggs R.plain key vals).1

end
end Go.Proofs.Ytckfedekpkgcdaa

/- The contract of the document's Add. -/
namespace Go.Proofs.Ytckfedekpkgcdaa
open Go Go.Vc Go.RowKit
set_option maxRecDepth 20000
attribute [local irreducible] Calls Put Drew New

section
variable {w0 W : World} {fs : List (Nat × Obj)} {ms : List Row} {R : RT} {m : Nat}
end
end Go.Proofs.Ytckfedekpkgcdaa

/- shown(), and the law of the nil table. -/
namespace Go.Proofs.Ytckfedekpkgcdaa
open Go Go.Vc Go.RowKit
set_option maxRecDepth 20000
attribute [local irreducible] Calls Put Drew New

section
variable {w0 W W1 : World} {fs : List (Nat × Obj)} {ms : List Row} {T : Tm}
theorem num14_ok (n : Int) (w : World) : Calls Try.prog 23 #[.int .i64 n] w fun e w' => e = .returned (numV n).agg ∧ Ext w w' := by
  apply num14_vc
  unfold num14_T
  intro b1 w2 h1
  have H := (Hold.start (Ext.rfl (w := w))).new h1
  exact H.ret3 0 rfl 1 n ⟨#[]⟩ fun W' e => ⟨rfl, e⟩

theorem lit_vs {b n : Nat} {cs : Array Value} {t : TypeId} {vals : List Val} (h : Blk W b t cs) (hcs : cs.toList = vals.flatMap Val.cs) (hl : vals.length = n) (hn : n ≤ 1000) : Vs W (some ⟨b, 0, none⟩) n n vals :=
  ⟨hl, ⟨Nat.le_refl _, by unfold maxLen; omega⟩, hcs ▸ h.at, fun e => by cases e⟩
/-- Add, of values that were just laid. -/
theorem tadd_lit {kp : Option Addr} {kn kc n b : Nat} {key vals : List Val} {cs : Array Value} {t : TypeId} (H : Hold w0 W (T.blks ++ fs) (T.rows ++ ms)) (ok : Tok T) (hn : New W (.cells cs t) b W1) (hk : Vs W kp kn kc key) (hkf : ∀ v ∈ key, v.fit) (hkn : kn ≤ 1048576)
    (hcs : cs.toList = vals.flatMap Val.cs) (hl : vals.length = n) (hn1 : n ≤ 1000) :
    Calls Try.prog 14 #[.pointer (some ⟨T.t, 0, none⟩), .slice kp kn kc, .slice (some ⟨b, 0, none⟩) n n] W1 (Added w0 fs ms T key vals) := by
  have H1 : Hold w0 W1 (T.blks ++ ((b, .cells cs t (0, 0)) :: fs)) (T.rows ++ ms) := (H.new hn).permA List.perm_middle.symm (.refl _)
  refine (tadd_ok H1 ok (hk.ext hn.ext) hkf hkn (vp := some ⟨b, 0, none⟩) (vn := n) (vc := n) (vals := vals) fun W' gs ns H' => ?_).mono ?_
  · exact lit_vs (H'.blkM (b := b) (cs := cs) (t := t) (by simp)) hcs hl hn1
  · rintro e W' ⟨T', he, H', h1, h2, h3, h4⟩
    exact ⟨T', he, H'.subA ((List.Sublist.cons _ (.refl _)).append_left _) (.refl _), h1, h2, h3, h4⟩

def sh1 : List Grp := (addP [1, 3] [] [numV 7] [nullV, numV 5]).1
def sh2 : List Grp := (addP [1, 3] sh1 [numV 8] [nullV, numV 1]).1
def sh3 : List Grp := (addP [1, 3] sh2 [numV 7] [nullV, nullV]).1
theorem sh_answer : answerP [1, 3] sh3 = ([[numV 7], [numV 8]], [[numV 2, numV 5], [numV 1, numV 1]], 0) := by decide +kernel
theorem numV_fit {n : Int} (h0 : -9223372036854775808 ≤ n) (h1 : n ≤ 9223372036854775807) : (numV n).fit := ⟨⟨(by decide : (-9223372036854775808 : Int) ≤ 1), (by decide : (1 : Int) ≤ 9223372036854775807)⟩, h0, h1⟩

set_option maxHeartbeats 2000000 in
theorem shown14_ok (w : World) : Calls Try.prog 9 #[] w fun e w' => e = .returned (.bool true) ∧ Ext w w' := by
  apply shown14_vc
  unfold shown14_T
  intro b1 w2 h1
  have H2 := (Hold.start (Ext.rfl (w := w))).new h1
  refine (gnew_ok (l := [1, 3]) H2 (Blk.new h1).at rfl (fun e => by cases e) (by decide)).mono ?_
  rintro e W5 (⟨hb, _⟩ | ⟨_, T, rfl, H5, ok, hag, hgs⟩)
  · exact absurd hb (by decide)
  have hp0 : T.plain = [] := by unfold Tm.plain; rw [hgs]; rfl
  refine ⟨_, _, rfl, fun h => ?_, fun _ => (num14_ok 7 W5).mono ?_⟩
  · rcases h with h | h
    · exact absurd rfl h
    · cases h
  rintro e W11 ⟨rfl, e11⟩
  refine ⟨_, _, _, rfl, fun b15 w16 h15 => (num14_ok 5 w16).mono ?_⟩
  rintro e W19 ⟨rfl, e19⟩
  have k1 := lit_vs (vals := [numV 7]) (n := 1) ((Blk.new h15).ext e19) rfl rfl (by decide)
  refine ⟨_, _, _, rfl, fun b23 w24 h23 => ?_⟩
  have H19 := (((H5.step e11).step h15.ext).step e19)
  refine (tadd_lit (vals := [nullV, numV 5]) H19 ok h23 k1 (by intro v hv; rw [List.mem_singleton] at hv; subst hv; exact numV_fit (by decide) (by decide)) (by decide) rfl rfl (by decide)).mono ?_
  rintro e W27 ⟨T1, rfl, H27, ok1, ht1, ha1, hp1⟩
  rw [hag] at ha1 hp1
  rw [hp0] at hp1
  refine ⟨_, rfl, (num14_ok 8 W27).mono ?_⟩
  rintro e W30 ⟨rfl, e30⟩
  refine ⟨_, _, _, rfl, fun b34 w35 h34 => (num14_ok 1 w35).mono ?_⟩
  rintro e W38 ⟨rfl, e38⟩
  have k2 := lit_vs (vals := [numV 8]) (n := 1) ((Blk.new h34).ext e38) rfl rfl (by decide)
  refine ⟨_, _, _, rfl, fun b42 w43 h42 => ?_⟩
  have H38 := (((H27.step e30).step h34.ext).step e38)
  rw [← ht1]
  refine (tadd_lit (vals := [nullV, numV 1]) H38 ok1 h42 k2 (by intro v hv; rw [List.mem_singleton] at hv; subst hv; exact numV_fit (by decide) (by decide)) (by decide) rfl rfl (by decide)).mono ?_
  rintro e W46 ⟨T2, rfl, H46, ok2, ht2, ha2, hp2⟩
  rw [ha1] at ha2 hp2
  rw [hp1] at hp2
  refine ⟨_, rfl, (num14_ok 7 W46).mono ?_⟩
  rintro e W49 ⟨rfl, e49⟩
  refine ⟨_, _, _, rfl, fun b53 w54 h53 b56 w57 h56 => ?_⟩
  have k3 := lit_vs (vals := [numV 7]) (n := 1) (Blk.new h53) rfl rfl (by decide)
  have H54 := (H46.step e49).step h53.ext
  rw [← ht2]
  refine (tadd_lit (vals := [nullV, nullV]) H54 ok2 h56 k3 (by intro v hv; rw [List.mem_singleton] at hv; subst hv; exact numV_fit (by decide) (by decide)) (by decide) rfl rfl (by decide)).mono ?_
  rintro e W60 ⟨T3, rfl, H60, ok3, ht3, ha3, hp3⟩
  rw [ha2] at ha3 hp3
  rw [hp2] at hp3
  refine ⟨_, rfl, ?_⟩
  rw [← ht3]
  refine (tanswer_ok H60 ok3).mono ?_
  rintro e W63 ⟨p, n, c, q, m, d, hs, ks, rfl, hR, hS, e63⟩
  have hans : answerP T3.aggs T3.plain = ([[numV 7], [numV 8]], [[numV 2, numV 5], [numV 1, numV 1]], 0) := by rw [ha3, hp3]; exact sh_answer
  rw [hans] at hR hS ⊢
  have hn : n = 2 := hR.len.symm
  have hm : m = 2 := hS.len.symm
  subst hn hm
  refine ⟨_, _, _, _, _, _, _, rfl, fun w71 h71 => ⟨fun _ => ?_, fun h => ?_⟩⟩
  · have H71 := (H60.step e63).step h71.ext
    have hR := hR.ext h71.ext
    have hS := hS.ext h71.ext
    obtain ⟨x, hx, hv, b, o, hp, hc⟩ := hR.get (i := 0) rfl
    obtain ⟨bb, oo, hpp, c0, c1, c2⟩ := hv.val (i := 0) rfl
    have hl := hv.len
    refine ⟨b, o, hp, by decide, by decide, _, _, _, hc, bb, oo, hpp, by decide, by rw [← hl]; decide, _, c0, _, c1, _, c2, (num14_ok 7 w71).mono ?_⟩
    rintro e W85 ⟨rfl, e85⟩
    refine ⟨_, _, _, rfl, e85.same, fun _ => ?_, fun h => ?_⟩
    · have hS := hS.ext e85
      obtain ⟨x, hx, hv, b, o, hp, hc⟩ := hS.get (i := 0) rfl
      obtain ⟨bb, oo, hpp, c0, c1, c2⟩ := hv.val (i := 0) rfl
      have hl := hv.len
      refine ⟨b, o, hp, by decide, by decide, _, _, _, hc, bb, oo, hpp, by decide, by rw [← hl]; decide, _, c0, _, c1, _, c2, (num14_ok 2 W85).mono ?_⟩
      rintro e W101 ⟨rfl, e101⟩
      refine ⟨_, _, _, rfl, e101.same, fun _ => ?_, fun h => ?_⟩
      · have hS := hS.ext e101
        obtain ⟨x, hx, hv, b, o, hp, hc⟩ := hS.get (i := 0) rfl
        obtain ⟨bb, oo, hpp, c0, c1, c2⟩ := hv.val (i := 1) rfl
        have hl := hv.len
        refine ⟨b, o, hp, by decide, by decide, _, _, _, hc, bb, oo, hpp, by decide, by rw [← hl]; decide, _, c0, _, c1, _, c2, (num14_ok 5 W101).mono ?_⟩
        rintro e W117 ⟨rfl, e117⟩
        exact ⟨_, _, _, rfl, e117.same, by simp [sEq_self], (((H71.step e85).step e101).step e117).ext⟩
      · rcases h with h | h | h <;> exact absurd rfl h
    · rcases h with h | h | h <;> exact absurd rfl h
  · rcases h with (h | h) | h <;> exact absurd rfl h

end
end Go.Proofs.Ytckfedekpkgcdaa

/- The arguments of law 14's statements, and what small ones give. -/
namespace Go.Proofs.Ytckfedekpkgcdaa
open Go Go.Vc Go.RowKit
set_option maxRecDepth 20000

theorem list_pick {α β : Type} {Q : α → β → Prop} : ∀ {hs : List α}, (∀ x ∈ hs, ∃ r, Q x r) → ∃ L : List β, L.length = hs.length ∧ ∀ (i : Nat) x r, hs[i]? = some x → L[i]? = some r → Q x r
  | [], _ => ⟨[], rfl, by simp⟩
  | x :: hs, h => by
    obtain ⟨r, hr⟩ := h x (by simp)
    obtain ⟨L, hl, hL⟩ := list_pick (hs := hs) fun y hy => h y (by simp [hy])
    refine ⟨r :: L, by simp [hl], fun i y s hy hs' => ?_⟩
    cases i with
    | zero => cases hy; cases hs'; exact hr
    | succ i => exact hL i y s (by simpa using hy) (by simpa using hs')
theorem arg_value {w : World} {cs : List Value} (h : Arg Try.prog w 42 cs) : ∃ v : Val, cs = v.cs ∧ v.fit :=
  arg_val (ti := 3) (tn := 2) (ts := 9) (by kernel_rfl) (by kernel_rfl) (by kernel_rfl) (by kernel_rfl) (by kernel_rfl) (by kernel_rfl) (by kernel_rfl) (by kernel_rfl) h
theorem arg_row {w : World} {v : Value} (h : Arg Try.prog w 29 [v]) : ∃ p n c r, v = .slice p n c ∧ Vs w p n c r ∧ r.length ≤ 4398046511104 ∧ ∀ x ∈ r, x.fit := by
  obtain ⟨p, n, c, l, rfl, hl, hf, hb⟩ := arg_ls (enc := Val.cs) (Q := Val.fit) undRow (by decide +kernel : 0 < Try.prog.cellsOf 42) (fun x hx => arg_value hx) (fun a => by rw [Val.cs_length]; kernel_rfl) h
  rw [show Try.prog.bytesOf 42 = 32 by kernel_rfl] at hb
  have := hl.cap
  exact ⟨p, n, c, l, rfl, hl, by rw [hl.len]; omega, hf⟩
theorem arg_headrow {w : World} {x : List Value} (hx : Arg Try.prog w 29 x) : ∃ a : Sl, x = a.cs ∧ ∃ r, Vs w a.p a.n a.c r ∧ ∀ v ∈ r, v.fit := by
  obtain ⟨p, n, c, css, he, _⟩ := Arg.slice undRow (by decide +kernel : 0 < Try.prog.cellsOf 42) hx
  subst he
  obtain ⟨p', n', c', r, he, h1, _, h3⟩ := arg_row hx
  cases he
  exact ⟨⟨p, n, c⟩, rfl, r, h1, h3⟩
theorem flatMap_ints (l : List Int) : l.flatMap (fun x : Int => [Value.int .i64 x]) = vI .i64 l := by
  induction l with
  | nil => rfl
  | cons x l ih => rw [List.flatMap_cons, ih]; rfl
theorem arg_ints {w : World} {v : Value} (h : Arg Try.prog w 22 [v]) : ∃ p n c l, v = .slice p n c ∧ At w p (vI .i64 l) ∧ l.length = n ∧ (p = none → n = 0 ∧ c = 0) ∧ n < 9223372036854775807 := by
  obtain ⟨p, n, c, l, rfl, hl, _, hb⟩ := arg_ls (enc := fun x : Int => [.int .i64 x]) (Q := fun _ => True) undInts (by decide +kernel : 0 < Try.prog.cellsOf 3)
    (fun x hx => by obtain ⟨n, e, _⟩ := Arg.int (k := .i64) (by kernel_rfl) hx; exact ⟨n, e, trivial⟩) (fun a => by kernel_rfl) h
  have hcap := hl.cap
  rw [show Try.prog.bytesOf 3 = 8 by kernel_rfl] at hb
  refine ⟨p, n, c, l, rfl, ?_, hl.len, hl.nil, by omega⟩
  have := hl.lies
  rwa [flatMap_ints] at this

/-! ### Pairs -/
structure Pr where
  a : Sl
  b : Sl
def Pr.cs (x : Pr) : List Value := [.slice x.a.p x.a.n x.a.c, .slice x.b.p x.b.n x.b.c]
theorem Pr.cs_length (x : Pr) : x.cs.length = 2 := rfl
theorem Pr.cs_one (x : Pr) : ∀ u ∈ x.cs, u.oneCell' = true := by
  intro u hu
  simp only [Pr.cs, List.mem_cons, List.not_mem_nil, or_false] at hu
  rcases hu with rfl | rfl <;> rfl
/-- Pairs of rows: their heads, what they hold. -/
structure Prs (w : World) (p : Option Addr) (n c : Nat) (hs : List Pr) (L : List (List Val × List Val)) : Prop where
  heads : Ls Pr.cs w p n c hs
  rows : ∀ (i : Nat) (h : Pr) r, hs[i]? = some h → L[i]? = some r → Vs w h.a.p h.a.n h.a.c r.1 ∧ Vs w h.b.p h.b.n h.b.c r.2
  len : L.length = n
section
variable {w w' : World} {p : Option Addr} {n c : Nat} {hs : List Pr} {L : List (List Val × List Val)}
theorem Prs.ext (h : Prs w p n c hs L) (e : Ext w w') : Prs w' p n c hs L := ⟨h.heads.ext e, fun i x r hx hr => ⟨(h.rows i x r hx hr).1.ext e, (h.rows i x r hx hr).2.ext e⟩, h.len⟩
theorem Prs.get (h : Prs w p n c hs L) {i : Nat} {r : List Val × List Val} (hi : L[i]? = some r) : ∃ x, hs[i]? = some x ∧ Vs w x.a.p x.a.n x.a.c r.1 ∧ Vs w x.b.p x.b.n x.b.c r.2 ∧ ∃ b o, p = some ⟨b, o, none⟩ ∧
    w.cell? ⟨b, o + i * 2, none⟩ = some (.slice x.a.p x.a.n x.a.c) ∧ w.cell? ⟨b, o + i * 2 + 1, none⟩ = some (.slice x.b.p x.b.n x.b.c) := by
  have hlt : i < hs.length := by rw [h.heads.len, ← h.len]; exact (List.getElem?_eq_some_iff.1 hi).1
  obtain ⟨b, o, hp, hc⟩ := h.heads.lies.things Pr.cs_length (by decide) (List.getElem?_eq_getElem hlt)
  obtain ⟨h1, h2⟩ := h.rows i _ _ (List.getElem?_eq_getElem hlt) hi
  exact ⟨hs[i], List.getElem?_eq_getElem hlt, h1, h2, b, o, hp, hc 0 _ rfl, hc 1 _ rfl⟩
theorem Prs.take (h : Prs w p n c hs L) {k : Nat} (hk : k ≤ n) : Prs w p k c (hs.take k) (L.take k) :=
  ⟨h.heads.take Pr.cs_length hk, fun i x r hx hr => h.rows i x r (by rw [List.getElem?_take] at hx; split at hx; exact hx; cases hx) (by rw [List.getElem?_take] at hr; split at hr; exact hr; cases hr), by rw [List.length_take, h.len]; omega⟩
end
theorem arg_pairs {w : World} {v : Value} (h : Arg Try.prog w 23 [v]) : ∃ p n c hs L, v = .slice p n c ∧ Prs w p n c hs L ∧ (∀ r ∈ L, (∀ x ∈ r.1, x.fit) ∧ ∀ x ∈ r.2, x.fit) := by
  obtain ⟨p, n, c, l, rfl, hl, hf, hb⟩ := arg_ls (enc := Pr.cs) (Q := fun x => ∃ r : List Val × List Val, (Vs w x.a.p x.a.n x.a.c r.1 ∧ ∀ v ∈ r.1, v.fit) ∧ (Vs w x.b.p x.b.n x.b.c r.2 ∧ ∀ v ∈ r.2, v.fit)) (e := 31) (by kernel_rfl) (by decide +kernel)
    (fun x hx => by
      obtain ⟨hl, hf⟩ := Arg.fields (by kernel_rfl : structOf Try.prog 31 = some [(29, 0), (29, 1)]) hx
      rw [show Try.prog.cellsOf 31 = 2 by kernel_rfl] at hl
      obtain ⟨a, b, rfl⟩ : ∃ a b, x = [a, b] := by
        match x, hl with
        | [a, b], _ => exact ⟨a, b, rfl⟩
      have f1 := hf (29, 0) (by simp)
      have f2 := hf (29, 1) (by simp)
      simp only [show Try.prog.cellsOf 29 = 1 by kernel_rfl] at f1 f2
      obtain ⟨x, e1, r, h1⟩ := arg_headrow f1
      obtain ⟨y, e2, s, h2⟩ := arg_headrow f2
      simp [Sl.cs] at e1 e2
      subst e1 e2
      exact ⟨⟨x, y⟩, rfl, (r, s), h1, h2⟩) (fun a => by rw [Pr.cs_length]; kernel_rfl) h
  obtain ⟨L, hL, hq⟩ := list_pick hf
  refine ⟨p, n, c, l, L, rfl, ⟨hl, fun i x r hx hr => ⟨(hq i x r hx hr).1.1, (hq i x r hx hr).2.1⟩, by rw [hL, hl.len]⟩, fun r hr => ?_⟩
  obtain ⟨i, hi⟩ := List.mem_iff_getElem?.1 hr
  have hlt := (List.getElem?_eq_some_iff.1 hi).1
  have := hq i _ r (List.getElem?_eq_getElem (by omega)) hi
  exact ⟨this.1.2, this.2.2⟩

/-! ### Small arguments -/
def Bulk (w : World) (t : TypeId) (cs : List Value) : Prop := ∃ (H : Type) (enc : TypeId × Value → H) (m : Nat) (d : DataW H) (ps : List MemPlace), DataW.trod enc Try.prog w 0 (fun _ => true) true m t cs = some (d, ps) ∧ Rows.uptoBulk d ≤ 1048576
theorem bulk_pos {H : Type} (x : DataW H) : 1 ≤ Rows.uptoBulk x := by
  cases x with
  | lit l => cases l <;> simp [Rows.uptoBulk]
  | nil => simp [Rows.uptoBulk]
  | ptr d => simp [Rows.uptoBulk]
  | slice elems spare => simp [Rows.uptoBulk]
  | agg parts => simp [Rows.uptoBulk]
  | iface t d => simp [Rows.uptoBulk]
  | map entries => simp [Rows.uptoBulk]
  | held h => simp [Rows.uptoBulk]
theorem bulk_len {H : Type} : ∀ l : List (DataW H), l.length ≤ Rows.uptoBulkAll l
  | [] => by simp
  | x :: r => by
    have := bulk_pos x
    have := bulk_len r
    simp only [Rows.uptoBulkAll, List.length_cons]; omega
theorem bulk_mem {H : Type} : ∀ {l : List (DataW H)} {x : DataW H}, x ∈ l → Rows.uptoBulk x ≤ Rows.uptoBulkAll l
  | y :: r, x, h => by
    simp only [Rows.uptoBulkAll]
    rcases List.mem_cons.1 h with rfl | h
    · omega
    · have := bulk_mem h; omega
theorem slice_bulk {H : Type} {enc : TypeId × Value → H} {P : Program} {W : World} {base : Nat} {spare : Nat → Bool} {held : Bool} {t e : TypeId} {p : Option Addr} {n c : Nat} {d : DataW H} {ps : List MemPlace} {m : Nat}
    (ht : P.underlying t = some (.slice e)) (h : DataW.trod enc P W base spare held m t [.slice p n c] = some (d, ps)) : n ≤ Rows.uptoBulk d := by
  rcases Go.Deep.open_slice ht h with ⟨e1, _⟩ | ⟨a, n', cap, m', k, D, Pl, e1, _, _, _, _, e2, _⟩
  · cases e1; omega
  · cases e1
    obtain ⟨rfl, _⟩ := Prod.mk.inj e2
    have := bulk_len ((List.range n).map D)
    simp only [List.length_map, List.length_range] at this
    simp only [Rows.uptoBulk]; omega
theorem Rws.small {w : World} {p : Option Addr} {n c : Nat} {hs : List Sl} {L : List (List Val)} (hR : Rws w p n c hs L) (hB : Bulk w 32 [.slice p n c]) : ∀ r ∈ L, r.length ≤ 1048576 := by
  intro r hr
  obtain ⟨i, hi⟩ := List.mem_iff_getElem?.1 hr
  have hin : i < n := by rw [← hR.len]; exact (List.getElem?_eq_some_iff.1 hi).1
  obtain ⟨x, hx, hv, b, o, hp, hc⟩ := hR.get hi
  obtain ⟨H, enc, m, d, ps, ht, hb⟩ := hB
  rcases Go.Deep.open_slice1 undRows (by kernel_rfl) ht with ⟨e1, _⟩ | ⟨a, len, cap, m', k, V, D, Pl, e1, _, _, _, hm, e2, hall⟩
  · cases e1; omega
  · cases e1
    obtain ⟨rfl, _⟩ := Prod.mk.inj e2
    cases hp
    simp only [if_true] at hm
    obtain ⟨c1, t1⟩ := hall i (by omega)
    rw [Addr.add_lit, hc] at c1
    rw [← Option.some.inj c1] at t1
    have h1 := slice_bulk undRow t1
    have h2 := bulk_mem (l := (List.range n).map D) (x := D i) (List.mem_map.2 ⟨i, by simpa using hin, rfl⟩)
    simp only [Rows.uptoBulk] at hb
    have := hv.len
    omega
theorem Prs.small {w : World} {p : Option Addr} {n c : Nat} {hs : List Pr} {L : List (List Val × List Val)} (hR : Prs w p n c hs L) (hB : Bulk w 23 [.slice p n c]) : ∀ r ∈ L, r.1.length ≤ 1048576 ∧ r.2.length ≤ 1048576 := by
  intro r hr
  obtain ⟨i, hi⟩ := List.mem_iff_getElem?.1 hr
  have hin : i < n := by rw [← hR.len]; exact (List.getElem?_eq_some_iff.1 hi).1
  obtain ⟨x, hx, hv, hv2, b, o, hp, hc, hc2⟩ := hR.get hi
  obtain ⟨H, enc, m, d, ps, ht, hb⟩ := hB
  obtain ⟨f0, f1, hst, o0, o1, t0, t1⟩ : ∃ f0 f1 : Field, Try.prog.underlying 31 = some (.struct #[f0, f1]) ∧ f0.offset = 0 ∧ f1.offset = 1 ∧ f0.type = 29 ∧ f1.type = 29 := by
    have h : structOf Try.prog 31 = some [(29, 0), (29, 1)] := by kernel_rfl
    unfold structOf at h
    split at h
    · rename_i fs hfs
      have h := Option.some.inj h
      obtain ⟨l⟩ := fs
      match l, h with
      | [f0, f1], h =>
        simp only [List.map_cons, List.map_nil, List.cons.injEq, Prod.mk.injEq, and_true] at h
        exact ⟨f0, f1, hfs, h.1.2, h.2.2, h.1.1, h.2.1⟩
    · cases h
  rcases Go.Deep.open_slice_pairs (e := 31) (by kernel_rfl) hst (by kernel_rfl) o0 o1 (by rw [t0]; kernel_rfl) (by rw [t1]; kernel_rfl) ht with ⟨e1, _⟩ | ⟨a, len, cap, m', k, V0, V1, D0, D1, P0, P1, e1, _, _, _, hm, e2, hall⟩
  · cases e1; omega
  · cases e1
    obtain ⟨rfl, _⟩ := Prod.mk.inj e2
    cases hp
    simp only [if_true] at hm
    obtain ⟨c1, c2, d1, d2⟩ := hall i (by omega)
    rw [Addr.add_lit] at c1 c2
    rw [hc] at c1
    rw [← Nat.add_assoc, hc2] at c2
    rw [t0, ← Option.some.inj c1] at d1
    rw [t1, ← Option.some.inj c2] at d2
    have h1 := slice_bulk undRow d1
    have h2 := slice_bulk undRow d2
    have h3 := bulk_mem (l := (List.range n).map fun i => DataW.agg [D0 i, D1 i]) (x := .agg [D0 i, D1 i]) (List.mem_map.2 ⟨i, by simpa using hin, rfl⟩)
    simp only [Rows.uptoBulk, Rows.uptoBulkAll] at hb h3
    have := hv.len
    have := hv2.len
    omega

end Go.Proofs.Ytckfedekpkgcdaa

/- The contracts of the words that hold rows against one another. -/
namespace Go.Proofs.Ytckfedekpkgcdaa
open Go Go.Vc Go.RowKit
set_option maxRecDepth 20000

end Go.Proofs.Ytckfedekpkgcdaa

/- The contract of the document's Answer; the law that both tables do the same. -/
namespace Go.Proofs.Ytckfedekpkgcdaa
open Go Go.Vc Go.RowKit
set_option maxRecDepth 20000
attribute [local irreducible] Calls Put Drew New

section
variable {w0 W : World} {fs : List (Nat × Obj)} {ms : List Row} {R : RT} {m : Nat}
end
end Go.Proofs.Ytckfedekpkgcdaa

/- Rows without those that came already. -/
namespace Go.Vc
open Go Go.RowKit
def dd (rows : List (List Val)) : List (List Val) := rows.foldl (fun out r => if r ∈ out then out else out ++ [r]) []
theorem dd_snoc (rows : List (List Val)) (r : List Val) : dd (rows ++ [r]) = if r ∈ dd rows then dd rows else dd rows ++ [r] := by unfold dd; rw [List.foldl_append]; rfl
theorem dd_take {rows : List (List Val)} {k : Nat} {r : List Val} (h : rows[k]? = some r) : dd (rows.take (k + 1)) = if r ∈ dd (rows.take k) then dd (rows.take k) else dd (rows.take k) ++ [r] := by
  rw [List.take_add_one, h]
  exact dd_snoc _ _
theorem mem_dd_take {rows : List (List Val)} : ∀ k, k ≤ rows.length → ∀ x, x ∈ dd (rows.take k) ↔ x ∈ rows.take k
  | 0, _, x => by simp [dd]
  | k + 1, hk, x => by
    have g : rows[k]? = some (rows[k]'(by omega)) := List.getElem?_eq_getElem _
    have ih := mem_dd_take (rows := rows) k (by omega)
    rw [dd_take g]
    have e : rows.take (k + 1) = rows.take k ++ [rows[k]'(by omega)] := by rw [List.take_add_one, g]; rfl
    generalize rows[k]'(by omega) = r at g e
    rw [e]
    split
    · rename_i hr
      rw [ih, List.mem_append, List.mem_singleton]
      constructor
      · exact .inl
      · rintro (h | rfl)
        · exact h
        · exact (ih _).1 hr
    · rw [List.mem_append, List.mem_append, ih]
theorem dd_len {rows : List (List Val)} : ∀ k, k ≤ rows.length → (dd (rows.take k)).length ≤ k
  | 0, _ => by simp [dd]
  | k + 1, hk => by
    have g : rows[k]? = some (rows[k]'(by omega)) := List.getElem?_eq_getElem _
    have ih := dd_len (rows := rows) k (by omega)
    rw [dd_take g]
    split
    · omega
    · rw [List.length_append, List.length_singleton]; omega
def onceP (rows : List (List Val)) : List (List Val) × Int := if rows.all rightL then (dd rows, 0) else ([], 2)
end Go.Vc
namespace Go.Proofs.Ytckfedekpkgcdaa
open Go Go.Vc Go.RowKit
set_option maxRecDepth 20000
attribute [local irreducible] Calls Put Drew New

def Onced (w : World) (r : List (List Val) × Int) (e : Ending) (w' : World) : Prop := ∃ q m d ks, e = .returned (.tuple #[.slice q m d, .int .i64 r.2]) ∧ Rws w' q m d ks r.1 ∧ Ext w w'
section
variable {w : World} {p : Option Addr} {n c : Nat} {hs : List Sl} {rows : List (List Val)}
end
end Go.Proofs.Ytckfedekpkgcdaa

/- The order in which rows come: plain Lean, no program. -/
namespace Go.Vc
open Go Go.RowKit

theorem mem_dd {l : List (List Val)} {x : List Val} : x ∈ dd l ↔ x ∈ l := by
  have := mem_dd_take (rows := l) l.length (Nat.le_refl _) x
  rwa [List.take_length] at this
theorem dd_length (l : List (List Val)) : (dd l).length ≤ l.length := by
  have := dd_len (rows := l) l.length (Nat.le_refl _)
  rwa [List.take_length] at this
theorem dd_nodup_take {l : List (List Val)} : ∀ k, k ≤ l.length → (dd (l.take k)).Nodup
  | 0, _ => by simp [dd]
  | k + 1, hk => by
    have g : l[k]? = some (l[k]'(by omega)) := List.getElem?_eq_getElem _
    have ih := dd_nodup_take (l := l) k (by omega)
    rw [dd_take g]
    split
    · exact ih
    · rename_i hn
      rw [List.nodup_append]
      refine ⟨ih, by simp, ?_⟩
      intro a ha b hb
      rw [List.mem_singleton] at hb
      subst hb
      rintro rfl
      exact hn ha
theorem dd_nodup (l : List (List Val)) : (dd l).Nodup := by
  have := dd_nodup_take (l := l) l.length (Nat.le_refl _)
  rwa [List.take_length] at this

abbrev Pt := List Val × List Val
def okP (aggs : List Int) (r : Pt) : Bool := rightL r.1 && fitsL aggs r.2
def accL (aggs : List Int) (L : List Pt) : List Pt := L.filter (okP aggs)
def grp (acc : List Pt) (x : List Val) : RG := ⟨x, (acc.filter fun r => decide (r.1 = x)).map (·.2)⟩
def Gl (acc : List Pt) : List RG := (dd (acc.map (·.1))).map (grp acc)
theorem grp_snoc (acc : List Pt) (r : Pt) (x : List Val) : grp (acc ++ [r]) x = RG.upd r.1 r.2 (grp acc x) := by
  unfold grp RG.upd
  by_cases h : x = r.1
  · subst h
    simp [List.filter_append]
  · have h2 : ¬ r.1 = x := fun e => h e.symm
    simp [List.filter_append, h, h2]
theorem grp_none {acc : List Pt} {x : List Val} (h : ¬ x ∈ acc.map (·.1)) : grp acc x = ⟨x, []⟩ := by
  unfold grp
  have : acc.filter (fun r => decide (r.1 = x)) = [] := by
    rw [List.filter_eq_nil_iff]
    intro r hr he
    exact h (List.mem_map.2 ⟨r, hr, of_decide_eq_true he⟩)
  rw [this]; rfl
theorem Gl_snoc (acc : List Pt) (r : Pt) : Gl (acc ++ [r]) = if r.1 ∈ acc.map (·.1) then (Gl acc).map (RG.upd r.1 r.2) else Gl acc ++ [⟨r.1, [r.2]⟩] := by
  unfold Gl
  rw [List.map_append, List.map_cons, List.map_nil, dd_snoc]
  by_cases h : r.1 ∈ acc.map (·.1)
  · rw [if_pos (mem_dd.2 h), if_pos h, List.map_map]
    exact List.map_congr_left fun x _ => grp_snoc acc r x
  · rw [if_neg fun h' => h (mem_dd.1 h'), if_neg h, List.map_append, List.map_cons, List.map_nil]
    congr 1
    · refine List.map_congr_left fun x hx => ?_
      rw [grp_snoc]
      unfold RG.upd
      rw [if_neg]
      intro e
      exact h (mem_dd.1 (e ▸ hx))
    · rw [grp_snoc, grp_none h]
      simp [RG.upd]
def stR (aggs : List Int) (L : List Pt) : List RG := L.foldl (fun gs r => (addR aggs gs r.1 r.2).1) []
def stP (aggs : List Int) (L : List Pt) : List Grp := L.foldl (fun gs r => (addP aggs gs r.1 r.2).1) []
theorem stR_snoc (aggs : List Int) (L : List Pt) (r : Pt) : stR aggs (L ++ [r]) = (addR aggs (stR aggs L) r.1 r.2).1 := by unfold stR; rw [List.foldl_append]; rfl
theorem stP_snoc (aggs : List Int) (L : List Pt) (r : Pt) : stP aggs (L ++ [r]) = (addP aggs (stP aggs L) r.1 r.2).1 := by unfold stP; rw [List.foldl_append]; rfl
theorem take_snoc' {α : Type} {l : List α} {k : Nat} {x : α} (h : l[k]? = some x) : l.take (k + 1) = l.take k ++ [x] := by rw [List.take_add_one, h]; rfl
theorem stP_img (aggs : List Int) (L : List Pt) : ∀ k, k ≤ L.length → stP aggs (L.take k) = (stR aggs (L.take k)).map (RG.img aggs.length)
  | 0, _ => by simp [stP, stR]
  | k + 1, hk => by
    have g : L[k]? = some (L[k]'(by omega)) := List.getElem?_eq_getElem _
    rw [take_snoc' g, stP_snoc, stR_snoc, stP_img aggs L k (by omega), sim]
theorem accL_keys {aggs : List Int} {L : List Pt} {x : List Val} (h : x ∈ (accL aggs L).map (·.1)) : ∃ r ∈ L, r.1 = x := by
  obtain ⟨r, hr, e⟩ := List.mem_map.1 h
  exact ⟨r, (List.mem_filter.1 hr).1, e⟩
theorem hasR_iff' {gs : List RG} {key : List Val} : hasR gs key = true ↔ ∃ g ∈ gs, g.key = key := by
  unfold hasR; rw [List.any_eq_true]; simp
theorem add_Gl {aggs : List Int} {acc : List Pt} {r : Pt} (hk : ∀ x ∈ acc.map (·.1), x.length = r.1.length) (hl : acc.length < 4096) : (addR aggs (Gl acc) r.1 r.2).1 = if okP aggs r then Gl (acc ++ [r]) else Gl acc := by
  have hhead : (match (Gl acc).head?.map RG.key with | none => true | some k => decide (r.1.length = k.length)) = true := by
    cases hd : dd (acc.map (·.1)) with
    | nil => unfold Gl; rw [hd]; rfl
    | cons x t =>
      have hx : x ∈ acc.map (·.1) := mem_dd.1 (by rw [hd]; simp)
      unfold Gl
      rw [hd]
      exact decide_eq_true (hk x hx).symm
  have hmay : mayP aggs ((Gl acc).head?.map RG.key) r.1 r.2 = okP aggs r := by
    have : mayP aggs ((Gl acc).head?.map RG.key) r.1 r.2 = (okP aggs r && (match (Gl acc).head?.map RG.key with | none => true | some k => decide (r.1.length = k.length))) := rfl
    rw [this, hhead, Bool.and_true]
  have hhas : hasR (Gl acc) r.1 = decide (r.1 ∈ acc.map (·.1)) := by
    rw [Bool.eq_iff_iff, hasR_iff', decide_eq_true_eq]
    unfold Gl
    constructor
    · rintro ⟨g, hg, e⟩
      obtain ⟨x, hx, rfl⟩ := List.mem_map.1 hg
      have : x = r.1 := e
      subst this
      exact mem_dd.1 hx
    · intro h
      exact ⟨grp acc r.1, List.mem_map.2 ⟨_, mem_dd.2 h, rfl⟩, rfl⟩
  have hgl : (Gl acc).length < 4096 := by
    unfold Gl
    rw [List.length_map]
    have := dd_length (acc.map (·.1))
    rw [List.length_map] at this
    omega
  unfold addR
  rw [hmay, hhas, Gl_snoc]
  cases okP aggs r with
  | false => rfl
  | true =>
    simp only [if_true]
    by_cases h : r.1 ∈ acc.map (·.1)
    · rw [if_pos (decide_eq_true h), if_pos h]
    · rw [if_neg (by simpa using h), if_neg (by omega), if_neg h]
theorem stR_Gl {aggs : List Int} {L : List Pt} {m : Nat} (hk : ∀ r ∈ L, r.1.length = m) (hl : L.length ≤ 4000) : ∀ k, k ≤ L.length → stR aggs (L.take k) = Gl (accL aggs (L.take k))
  | 0, _ => by simp [stR, accL, Gl, dd]
  | k + 1, h => by
    have g : L[k]? = some (L[k]'(by omega)) := List.getElem?_eq_getElem _
    have hm := hk _ (List.getElem_mem (by omega : k < L.length))
    have hlen : (accL aggs (L.take k)).length ≤ 4000 := by
      have := List.length_filter_le (okP aggs) (L.take k)
      unfold accL
      rw [List.length_take] at this; omega
    rw [take_snoc' g, stR_snoc, stR_Gl hk hl k (by omega), add_Gl (fun x hx => ?_) (by omega)]
    · have : accL aggs (L.take k ++ [L[k]'(by omega)]) = accL aggs (L.take k) ++ (if okP aggs (L[k]'(by omega)) then [L[k]'(by omega)] else []) := by
        unfold accL
        rw [List.filter_append]
        cases ho : okP aggs (L[k]'(by omega)) <;> simp [ho]
      rw [this]
      split <;> simp
    · obtain ⟨r, hr, rfl⟩ := accL_keys hx
      rw [hk r (List.mem_of_mem_take hr), hm]

/-! ### Turned round -/
theorem sumN_reverse (l : List Val) : sumN l.reverse = sumN l := by
  induction l with
  | nil => rfl
  | cons x l ih =>
    rw [List.reverse_cons, sumN_append, ih]
    unfold sumN
    simp only [List.map_cons, List.map_nil, List.sum_cons, List.sum_nil]
    omega
theorem nn_reverse (l : List Val) : nn l.reverse = (nn l).reverse := by unfold nn; rw [List.filter_reverse]
theorem ans_reverse {vs : List Val} (hl : vs.length ≤ 1000000) (hf : ∀ v ∈ vs, v.fit) (a : Int) : (foldC vs.reverse).answer a = (foldC vs).answer a := by
  have h1 := told_fold hl hf
  have h2 := told_fold (vs := vs.reverse) (by rw [List.length_reverse]; exact hl) fun v hv => hf v (List.mem_reverse.1 hv)
  have hL : (foldC vs.reverse).least = (foldC vs).least := by
    refine least_unique (l := nn vs) ?_ h1.least
    have := h2.least
    rw [nn_reverse] at this
    exact ⟨fun h => this.none (by rw [h]; rfl), fun h => List.mem_reverse.1 (this.mem fun e => h (List.reverse_eq_nil_iff.1 e)), fun v hv => this.le v (List.mem_reverse.2 hv)⟩
  have hM : (foldC vs.reverse).most = (foldC vs).most := by
    refine most_unique (l := nn vs) ?_ h1.most
    have := h2.most
    rw [nn_reverse] at this
    exact ⟨fun h => this.none (by rw [h]; rfl), fun h => List.mem_reverse.1 (this.mem fun e => h (List.reverse_eq_nil_iff.1 e)), fun v hv => this.le v (List.mem_reverse.2 hv)⟩
  rw [h1.answer, h2.answer, hL, hM, nn_reverse, sumN_reverse, List.length_reverse, List.length_reverse]
  simp only [List.reverse_eq_nil_iff]
theorem cols_same {aggs : List Int} {a b : List Gth} (hl : a.length = b.length) (h : ∀ (j : Nat) x y, a[j]? = some x → b[j]? = some y → ∀ w, x.answer w = y.answer w) : vals1 aggs a = vals1 aggs b ∧ ok1 aggs a = ok1 aggs b := by
  have key : ∀ {β : Type} (f : Val × Int → β), List.zipWith (fun c w => f (Gth.answer c w)) a aggs = List.zipWith (fun c w => f (Gth.answer c w)) b aggs := by
    intro β f
    apply List.ext_getElem?
    intro j
    rw [List.getElem?_zipWith, List.getElem?_zipWith]
    cases ha : a[j]? with
    | none =>
      have : b[j]? = none := by
        rw [List.getElem?_eq_none_iff] at ha ⊢
        omega
      rw [this]
    | some x =>
      have hj := (List.getElem?_eq_some_iff.1 ha).1
      have hb : b[j]? = some (b[j]'(by omega)) := List.getElem?_eq_getElem _
      rw [hb]
      cases aggs[j]? with
      | none => rfl
      | some w => simp only [h j x _ ha hb w]
  unfold vals1 ok1
  exact ⟨key Prod.fst, by rw [key fun r => decide (r.2 = 0)]⟩
def ansA (aggs : List Int) (acc : List Pt) (x : List Val) : List Val := vals1 aggs ((grp acc x).img aggs.length).cols
def ansO (aggs : List Int) (acc : List Pt) (x : List Val) : Bool := ok1 aggs ((grp acc x).img aggs.length).cols
theorem grp_reverse (acc : List Pt) (x : List Val) : grp acc.reverse x = ⟨x, (grp acc x).rows.reverse⟩ := by
  unfold grp
  rw [List.filter_reverse, List.map_reverse]
theorem ans_rev {aggs : List Int} {acc : List Pt} (hf : ∀ r ∈ acc, fitsL aggs r.2 = true ∧ ∀ v ∈ r.2, v.fit) (hl : acc.length ≤ 1000000) (x : List Val) : ansA aggs acc.reverse x = ansA aggs acc x ∧ ansO aggs acc.reverse x = ansO aggs acc x := by
  have hrows : ∀ r ∈ (grp acc x).rows, fitsL aggs r = true ∧ ∀ v ∈ r, v.fit := by
    intro r hr
    obtain ⟨y, hy, rfl⟩ := List.mem_map.1 hr
    exact hf y (List.mem_filter.1 hy).1
  have hlen : ∀ r ∈ (grp acc x).rows, r.length = aggs.length := fun r hr => fitsL_len (hrows r hr).1
  have hrl : (grp acc x).rows.length ≤ 1000000 := by
    unfold grp
    simp only [List.length_map]
    exact Nat.le_trans (List.length_filter_le _ _) hl
  have c1 := img_cols hlen
  have c2 : ((grp acc.reverse x).img aggs.length).cols = (List.range aggs.length).map fun j => foldC (colOf (grp acc x).rows j).reverse := by
    rw [grp_reverse, img_cols (g := ⟨x, (grp acc x).rows.reverse⟩) fun r hr => hlen r (List.mem_reverse.1 hr)]
    refine List.map_congr_left fun j _ => ?_
    unfold colOf
    rw [← List.map_reverse]
  unfold ansA ansO
  refine cols_same (by rw [c1, c2]; simp) fun j a b ha hb w => ?_
  rw [c2, List.getElem?_map] at ha
  rw [c1, List.getElem?_map] at hb
  by_cases hj : j < aggs.length
  · rw [List.getElem?_range hj] at ha hb
    cases ha; cases hb
    refine ans_reverse (vs := colOf (grp acc x).rows j) (by unfold colOf; rw [List.length_map]; exact hrl) (fun v hv => ?_) w
    obtain ⟨r, hr, rfl⟩ := List.mem_map.1 hv
    have hrn : r[j]? = some (r[j]'(by rw [hlen r hr]; exact hj)) := List.getElem?_eq_getElem _
    have e : r.getD j nullV = r[j]'(by rw [hlen r hr]; exact hj) := by rw [List.getD_eq_getElem?_getD, hrn]; rfl
    rw [e]
    exact (hrows r hr).2 _ (List.getElem_mem _)
  · rw [List.getElem?_eq_none (by simpa using hj)] at ha
    cases ha
theorem answer_Gl (aggs : List Int) (acc : List Pt) : answerP aggs ((Gl acc).map (RG.img aggs.length)) = if (dd (acc.map (·.1))).all (ansO aggs acc) then (dd (acc.map (·.1)), (dd (acc.map (·.1))).map (ansA aggs acc), 0) else ([], [], 100) := by
  unfold answerP Gl
  simp only [List.map_map, List.all_map]
  have e1 : ((fun g => ok1 aggs g.cols) ∘ RG.img aggs.length ∘ grp acc) = ansO aggs acc := rfl
  have e2 : (Grp.key ∘ RG.img aggs.length ∘ grp acc) = id := rfl
  have e3 : ((fun g => vals1 aggs g.cols) ∘ RG.img aggs.length ∘ grp acc) = ansA aggs acc := rfl
  rw [e1, e2, e3, List.map_id]
/-- What two tables answer that took the same rows, one of them turned round. -/
theorem order_law {aggs : List Int} {L : List Pt} {m : Nat} (hk : ∀ r ∈ L, r.1.length = m) (hl : L.length ≤ 4000) (hf : ∀ r ∈ L, ∀ v ∈ r.2, v.fit) :
    (answerP aggs (stP aggs L) = ([], [], 100) ∧ answerP aggs (stP aggs L.reverse) = ([], [], 100)) ∨
      ∃ (K M : List (List Val)) (A : List Val → List Val), K.Perm M ∧ M.Nodup ∧ answerP aggs (stP aggs L) = (K, K.map A, 0) ∧ answerP aggs (stP aggs L.reverse) = (M, M.map A, 0) := by
  have e1 : stP aggs L = (Gl (accL aggs L)).map (RG.img aggs.length) := by
    have h1 := stP_img aggs L L.length (Nat.le_refl _)
    have h2 := stR_Gl (aggs := aggs) hk hl L.length (Nat.le_refl _)
    rw [List.take_length] at h1 h2
    rw [h1, h2]
  have e2 : stP aggs L.reverse = (Gl (accL aggs L).reverse).map (RG.img aggs.length) := by
    have h1 := stP_img aggs L.reverse L.reverse.length (Nat.le_refl _)
    have h2 := stR_Gl (aggs := aggs) (L := L.reverse) (m := m) (fun r hr => hk r (List.mem_reverse.1 hr)) (by rw [List.length_reverse]; exact hl) L.reverse.length (Nat.le_refl _)
    rw [List.take_length] at h1 h2
    rw [h1, h2]
    unfold accL
    rw [List.filter_reverse]
  have hacc : ∀ r ∈ accL aggs L, fitsL aggs r.2 = true ∧ ∀ v ∈ r.2, v.fit := by
    intro r hr
    obtain ⟨h1, h2⟩ := List.mem_filter.1 hr
    unfold okP at h2
    rw [Bool.and_eq_true] at h2
    exact ⟨h2.2, hf r h1⟩
  have hal : (accL aggs L).length ≤ 1000000 := by
    have := List.length_filter_le (okP aggs) L
    unfold accL; omega
  have hrev := ans_rev hacc hal
  have hA : ansA aggs (accL aggs L).reverse = ansA aggs (accL aggs L) := funext fun x => (hrev x).1
  have hO : ansO aggs (accL aggs L).reverse = ansO aggs (accL aggs L) := funext fun x => (hrev x).2
  rw [e1, e2, answer_Gl, answer_Gl, hA, hO]
  have hmem : ∀ x, x ∈ dd ((accL aggs L).map (·.1)) ↔ x ∈ dd ((accL aggs L).reverse.map (·.1)) := by
    intro x
    rw [mem_dd, mem_dd, List.map_reverse, List.mem_reverse]
  have hall : (dd ((accL aggs L).reverse.map (·.1))).all (ansO aggs (accL aggs L)) = (dd ((accL aggs L).map (·.1))).all (ansO aggs (accL aggs L)) := by
    rw [Bool.eq_iff_iff, List.all_eq_true, List.all_eq_true]
    exact ⟨fun h x hx => h x ((hmem x).1 hx), fun h x hx => h x ((hmem x).2 hx)⟩
  rw [hall]
  split
  · exact .inr ⟨_, _, _, (List.perm_ext_iff_of_nodup (dd_nodup _) (dd_nodup _)).2 hmem, dd_nodup _, rfl, rfl⟩
  · exact .inl ⟨rfl, rfl⟩
/-- Each is met just once. -/
theorem count_once {K M : List (List Val)} {A : List Val → List Val} (hp : K.Perm M) (hn : M.Nodup) {i : Nat} {x : List Val} (hi : K[i]? = some x) : (M.map fun y => (y, A y)).count (x, A x) = 1 := by
  have hm : x ∈ M := hp.mem_iff.1 (List.mem_of_getElem? hi)
  have hn' : (M.map fun y => (y, A y)).Nodup := by
    rw [List.Nodup, List.pairwise_map]
    refine List.Pairwise.imp ?_ hn
    intro a b hab he
    exact hab (congrArg Prod.fst he)
  have h1 := List.nodup_iff_count.1 hn' (x, A x)
  have h2 : 0 < (M.map fun y => (y, A y)).count (x, A x) := List.count_pos_iff.2 (List.mem_map.2 ⟨x, hm, rfl⟩)
  omega
end Go.Vc

/- The document's Once; the law of rows without those that came already. -/
namespace Go.Proofs.Ytckfedekpkgcdaa
open Go Go.Vc Go.RowKit
set_option maxRecDepth 20000
attribute [local irreducible] Calls Put Drew New

section
variable {w : World} {p : Option Addr} {n c : Nat} {hs : List Sl} {rows : List (List Val)}
end
theorem mmI_min (n k : Nat) : mmI false (n : Int) (k : Int) = ((min n k : Nat) : Int) := by unfold mmI; dsimp only; split <;> omega
end Go.Proofs.Ytckfedekpkgcdaa
