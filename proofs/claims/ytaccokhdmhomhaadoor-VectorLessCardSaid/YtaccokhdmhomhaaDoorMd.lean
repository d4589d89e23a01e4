/- Texts of the proof, one behind the other. -/
import Derived.Test.YtaccokhdmhomhaaDoorMc
import Derived.Lib.LaidTab
import Derived.Test.YtaccokhdmhomhaaDoorRows
import Derived.JoinedOf
set_option linter.unusedVariables false
set_option linter.unusedSimpArgs false
/- The verification conditions of the functions, evaluated: printed by program. -/
namespace Go.Proofs.YtaccokhdmhomhaaDoor
open Go Go.Vc
set_option maxRecDepth 20000

set_option maxRecDepth 100000 in
def nodes_T (x0 : Int) (x1 : ByteArray) (x2 : Int) (x3 : Int) (x4 : ByteArray) (x5_p : Option Addr) (x5_n : Nat) (x5_c : Nat) (depth : Int) (w : World) (R : Ending → World → Prop) : Prop :=
  ∀ b1 w'2, New w (Obj.cells #[.int .i64 x0, .string x1, .int .i64 x2, .int .i64 x3, .string x4, .slice x5_p x5_n x5_c] 29) b1
 w'2 → ∀ b4 w'5, New w'2 (Obj.cells #[.int .i64 depth] 3) b4 w'5 → R (.returned (.func (Fn.func 78) #[] #[.pointer (some ⟨b4, 0, none⟩), .pointer (some ⟨b1, 0, none⟩)])) w'5

set_option maxRecDepth 100000 in
theorem nodes_eq (x0 : Int) (x1 : ByteArray) (x2 : Int) (x3 : Int) (x4 : ByteArray) (x5_p : Option Addr) (x5_n : Nat) (x5_c : Nat) (depth : Int) (w : World) (R : Ending → World → Prop) : nodes_T x0 x1 x2 x3 x4 x5_p x5_n x5_c depth w R = vcFn Tryd.prog [] [] Tryd.f59 [Value.agg
 #[.int .i64 x0, .string x1, .int .i64 x2, .int .i64 x3, .string x4, .slice x5_p x5_n x5_c], .int .i64 depth] w R := by kernel_rfl

set_option maxRecDepth 100000 in
theorem nodes_vc (x0 : Int) (x1 : ByteArray) (x2 : Int) (x3 : Int) (x4 : ByteArray) (x5_p : Option Addr) (x5_n : Nat) (x5_c : Nat) (depth : Int) (w : World) (R : Ending → World → Prop) (hvc : nodes_T x0 x1 x2 x3 x4 x5_p x5_n x5_c depth w R) : Calls Tryd.prog 59 #[Value.agg
 #[.int .i64 x0, .string x1, .int .i64 x2, .int .i64 x3, .string x4, .slice x5_p x5_n x5_c], .int .i64 depth] w R :=
  calls_of_vc (args := [Value.agg
 #[.int .i64 x0, .string x1, .int .i64 x2, .int .i64 x3, .string x4, .slice x5_p x5_n x5_c], .int .i64 depth]) [] [] Tryd.mixed Tryd.func59 (cast (nodes_eq _ _ _ _ _ _ _ _ _ w R) hvc)

set_option maxRecDepth 100000 in
def nodes1_T (l0 : Nat) (fv0 : Nat) (fv1 : Nat) (w : World) (R : Ending → World → Prop) : Prop :=
  ∀ b1 w'2, New w (Obj.cells #[.func (Fn.yield l0) #[] #[]] 110) b1 w'2 → ∃ v4, w'2.cell? ⟨b1, 0, none⟩ = some v4 ∧ ∃ n5, w'2.cell? ⟨fv0, 0, none⟩ = some (.int .i64 n5) ∧ ∃ n6, w'2.cell? ⟨fv1, 0, none⟩ = some (.int .i64 n6) ∧ ∃ s7, w'2.cell? ⟨fv1, 1, none⟩ = some (.string s7) ∧ ∃ n8, w'2.cell? ⟨fv1, 2, none⟩ = some (.int .i64 n8) ∧ ∃ n9, w'2.cell? ⟨fv1, 3, none⟩ = some (.int .i64 n9) ∧ ∃ s10, w'2.cell? ⟨fv1, 4, none⟩ = some (.string s10) ∧ ∃ p11 n12 c13, w'2.cell? ⟨fv1, 5, none⟩ = some (.slice p11 n12 c13) ∧ ∃ l14, v4 = .func (Fn.yield l14) #[] #[] ∧ Yield Tryd.prog l14
 #[.int .i64 n5, .agg #[.int .i64 n6, .string s7, .int .i64 n8, .int .i64 n9, .string s10, .slice p11 n12 c13]]
 w'2 fun (b15 : Bool) (w16 : World) ↦
 (b15 = false → R (.returned (.tuple #[])) w16) ∧ (b15 = true → ∃ n19, w16.cell? ⟨fv0, 0, none⟩ = some (.int .i64 n19) ∧ (40 < n19 → R (.returned (.tuple #[])) w16) ∧ (n19 ≤ 40 → ∃ p22 n23 c24, w16.cell? ⟨fv1, 5, none⟩ = some (.slice p22 n23 c24) ∧ ∃ (I25 : Int → World → Prop), ∃ (M26 : Int → World → Nat), ∃ B27, I25 0 w16 ∧ Vc.Open B27 [] w16 ∧ ∀ (n28 : Int) (w'29 : World), I25 n28 w'29 → ∀ (ds'31 : List Nat), Vc.Open B27 ds'31 w'29 → (n28 < (↑n23 : Int) → ∃ b34, ∃ o35, p22 = some ⟨b34, o35, none⟩ ∧ 0 ≤ n28 ∧ n28 < (↑n23 : Int) ∧ ∃ n36, w'29.cell? ⟨b34, (o35 + n28.toNat * 6), none⟩ = some (.int .i64 n36) ∧ ∃ s37, w'29.cell? ⟨b34, (o35 + n28.toNat * 6 + 1), none⟩ = some (.string s37) ∧ ∃ n38, w'29.cell? ⟨b34, (o35 + n28.toNat * 6 + 2), none⟩ = some (.int .i64 n38) ∧ ∃ n39, w'29.cell? ⟨b34, (o35 + n28.toNat * 6 + 3), none⟩ = some (.int .i64 n39) ∧ ∃ s40, w'29.cell? ⟨b34, (o35 + n28.toNat * 6 + 4), none⟩ = some (.string s40) ∧ ∃ p41 n42 c43, w'29.cell? ⟨b34, (o35 + n28.toNat * 6 + 5), none⟩ = some (.slice p41 n42 c43) ∧ ∀ b44 w'45, New w'29
 (Obj.cells
 #[.int .i64 0, .string ⟨#[]⟩, .int .i64 0, .int .i64 0, .string ⟨#[]⟩, .slice none 0 0] 29)
 b44 w'45 → (∃ u47, w'45.cell? ⟨b44, 0, none⟩ = some u47) ∧ w'45.frozen? ⟨b44, 0, none⟩ = false ∧ (∃ u48, w'45.cell? ⟨b44, 1, none⟩ = some u48) ∧ w'45.frozen? ⟨b44, 1, none⟩ = false ∧ (∃ u49, w'45.cell? ⟨b44, 2, none⟩ = some u49) ∧ w'45.frozen? ⟨b44, 2, none⟩ = false ∧ (∃ u50, w'45.cell? ⟨b44, 3, none⟩ = some u50) ∧ w'45.frozen? ⟨b44, 3, none⟩ = false ∧ (∃ u51, w'45.cell? ⟨b44, 4, none⟩ = some u51) ∧ w'45.frozen? ⟨b44, 4, none⟩ = false ∧ (∃ u52, w'45.cell? ⟨b44, 5, none⟩ = some u52) ∧ w'45.frozen? ⟨b44, 5, none⟩ = false ∧ ∀ w'53, Put w'45 b44 0 [.int .i64 n36, .string s37, .int .i64 n38, .int .i64 n39, .string s40, .slice p41 n42 c43] w'53 → ∃ n55, w'53.cell? ⟨b44, 0, none⟩ = some (.int .i64 n55) ∧ ∃ s56, w'53.cell? ⟨b44, 1, none⟩ = some (.string s56) ∧ ∃ n57, w'53.cell? ⟨b44, 2, none⟩ = some (.int .i64 n57) ∧ ∃ n58, w'53.cell? ⟨b44, 3, none⟩ = some (.int .i64 n58) ∧ ∃ s59, w'53.cell? ⟨b44, 4, none⟩ = some (.string s59) ∧ ∃ p60 n61 c62, w'53.cell? ⟨b44, 5, none⟩ = some (.slice p60 n61 c62) ∧ ∃ n63, w'53.cell? ⟨fv0, 0, none⟩ = some (.int .i64 n63) ∧ Calls Tryd.prog 59
 #[.agg #[.int .i64 n55, .string s56, .int .i64 n57, .int .i64 n58, .string s59, .slice p60 n61 c62], .int .i64 (IntKind.i64.wrap (n63 + 1))]
 w'53 fun e64 w65 ↦
 ∃ v66, e64 = .returned v66 ∧ ∃ (g67 : FuncId), ∃ (lb68 : Array Value), v66 = .func (Fn.func g67) #[] lb68 ∧ enterable Tryd.prog g67 = true ∧ ∀ (r69 : Nat → Loop) (d70 l71 : Nat) (w172 : World), Began w65 r69 d70 l71 w172 → (∀ (n74 n75 : Int) (s76 : ByteArray) (n77 n78 : Int) (s79 : ByteArray) (p80 : Option Addr) (n81 c82 : Nat) (W83 : World) (R84 : Bool → World → Prop), Rec r69 l71 0 W83 → (∀ b86 w'87, New W83
 (Obj.cells
 #[.int .i64 0, .string ⟨#[]⟩, .int .i64 0, .int .i64 0, .string ⟨#[]⟩, .slice none 0 0] 29)
 b86 w'87 → (∃ u89, w'87.cell? ⟨b86, 0, none⟩ = some u89) ∧ w'87.frozen? ⟨b86, 0, none⟩ = false ∧ (∃ u90, w'87.cell? ⟨b86, 1, none⟩ = some u90) ∧ w'87.frozen? ⟨b86, 1, none⟩ = false ∧ (∃ u91, w'87.cell? ⟨b86, 2, none⟩ = some u91) ∧ w'87.frozen? ⟨b86, 2, none⟩ = false ∧ (∃ u92, w'87.cell? ⟨b86, 3, none⟩ = some u92) ∧ w'87.frozen? ⟨b86, 3, none⟩ = false ∧ (∃ u93, w'87.cell? ⟨b86, 4, none⟩ = some u93) ∧ w'87.frozen? ⟨b86, 4, none⟩ = false ∧ (∃ u94, w'87.cell? ⟨b86, 5, none⟩ = some u94) ∧ w'87.frozen? ⟨b86, 5, none⟩ = false ∧ ∀ w'95, Put w'87 b86 0 [.int .i64 n75, .string s76, .int .i64 n77, .int .i64 n78, .string s79, .slice p80 n81 c82] w'95 → Rec r69 l71 0 w'95 ∧ ∀ (Wb97 : World), Wb97 = turn r69 l71 1 w'95 → ∃ v99, Wb97.cell? ⟨b1, 0, none⟩ = some v99 ∧ ∃ n100, Wb97.cell? ⟨b86, 0, none⟩ = some (.int .i64 n100) ∧ ∃ s101, Wb97.cell? ⟨b86, 1, none⟩ = some (.string s101) ∧ ∃ n102, Wb97.cell? ⟨b86, 2, none⟩ = some (.int .i64 n102) ∧ ∃ n103, Wb97.cell? ⟨b86, 3, none⟩ = some (.int .i64 n103) ∧ ∃ s104, Wb97.cell? ⟨b86, 4, none⟩ = some (.string s104) ∧ ∃ p105 n106 c107, Wb97.cell? ⟨b86, 5, none⟩ = some (.slice p105 n106 c107) ∧ ∃ l108, v99 = .func (Fn.yield l108) #[] #[] ∧ Yield Tryd.prog l108
 #[.int .i64 n74, .agg #[.int .i64 n100, .string s101, .int .i64 n102, .int .i64 n103, .string s104, .slice p105 n106 c107]]
 Wb97 fun (b109 : Bool) (w110 : World) ↦
 (b109 = false → Rec r69 l71 1 w110 ∧ R84 false (turn r69 l71 3 w110)) ∧ (b109 = true → Rec r69 l71 1 w110 ∧ R84 true (turn r69 l71 0 w110))) → Yield Tryd.prog l71
 #[.int .i64 n74, .agg #[.int .i64 n75, .string s76, .int .i64 n77, .int .i64 n78, .string s79, .slice p80 n81 c82]]
 W83 fun (b114 : Bool) (w115 : World) ↦ R84 b114 w115) → Calls Tryd.prog g67 (.func (Fn.yield l71) #[] #[] :: lb68.1).toArray w172 fun e117 w118 ↦
 (∃ v119, e117 = .returned v119) ∧ (Rec r69 l71 0 w118 ∧ Vc.Open B27 (d70 :: ds'31) (turn r69 l71 2 w118) ∧ I25 (IntKind.i64.wrap (n28 + 1)) (turn r69 l71 2 w118) ∧ M26 (IntKind.i64.wrap (n28 + 1)) (turn r69 l71 2 w118) < M26 n28 w'29 ∨
 (Rec r69 l71 3 w118 ∧ (turn r69 l71 4 w118).heap[d70]? = some (Obj.deferred (some [])) ∧ unD ds'31 ((turn r69 l71 4 w118).putObj d70 (Obj.deferred none)) fun (w122 : World) ↦ R (.returned (.tuple #[])) w122) ∨
 False)) ∧ ((↑n23 : Int) ≤ n28 → unD ds'31 w'29 fun (w124 : World) ↦ R (.returned (.tuple #[])) w124)))

set_option maxRecDepth 100000 in
theorem nodes1_eq (l0 : Nat) (fv0 : Nat) (fv1 : Nat) (w : World) (R : Ending → World → Prop) : nodes1_T l0 fv0 fv1 w R = vcFn Tryd.prog [] [] Tryd.f78 [.func (Fn.yield l0) #[] #[], .pointer (some ⟨fv0, 0, none⟩), .pointer (some ⟨fv1, 0, none⟩)] w R := by kernel_rfl

set_option maxRecDepth 100000 in
theorem nodes1_vc (l0 : Nat) (fv0 : Nat) (fv1 : Nat) (w : World) (R : Ending → World → Prop) (hvc : nodes1_T l0 fv0 fv1 w R) : Calls Tryd.prog 78 #[.func (Fn.yield l0) #[] #[], .pointer (some ⟨fv0, 0, none⟩), .pointer (some ⟨fv1, 0, none⟩)] w R :=
  calls_of_vc (args := [.func (Fn.yield l0) #[] #[], .pointer (some ⟨fv0, 0, none⟩), .pointer (some ⟨fv1, 0, none⟩)]) [] [] Tryd.mixed Tryd.func78 (cast (nodes1_eq _ _ _ w R) hvc)

set_option maxRecDepth 100000 in
def xformed_T (x0 : Int) (x1 : ByteArray) (x2 : Int) (x3 : Int) (x4 : ByteArray) (x5_p : Option Addr) (x5_n : Nat) (x5_c : Nat) (w : World) (R : Ending → World → Prop) : Prop :=
  ∀ b1 w'2, New w (Obj.cells #[.int .i64 x0, .string x1, .int .i64 x2, .int .i64 x3, .string x4, .slice x5_p x5_n x5_c] 29) b1
 w'2 → ∀ b4 w'5, New w'2 (Obj.cells #[.bool false] 4) b4 w'5 → ∀ b7 w'8, New w'5 (Obj.cells #[.int .i64 0] 3) b7 w'8 → (∃ u10, w'8.cell? ⟨b7, 0, none⟩ = some u10) ∧ w'8.frozen? ⟨b7, 0, none⟩ = false ∧ ∀ w'11, Put w'8 b7 0 [.int .i64 0] w'11 → ∃ n13, w'11.cell? ⟨b1, 0, none⟩ = some (.int .i64 n13) ∧ ∃ s14, w'11.cell? ⟨b1, 1, none⟩ = some (.string s14) ∧ ∃ n15, w'11.cell? ⟨b1, 2, none⟩ = some (.int .i64 n15) ∧ ∃ n16, w'11.cell? ⟨b1, 3, none⟩ = some (.int .i64 n16) ∧ ∃ s17, w'11.cell? ⟨b1, 4, none⟩ = some (.string s17) ∧ ∃ p18 n19 c20, w'11.cell? ⟨b1, 5, none⟩ = some (.slice p18 n19 c20) ∧ Calls Tryd.prog 59
 #[.agg #[.int .i64 n13, .string s14, .int .i64 n15, .int .i64 n16, .string s17, .slice p18 n19 c20], .int .i64 1]
 w'11 fun e21 w22 ↦
 ∃ v23, e21 = .returned v23 ∧ ∃ (g24 : FuncId), ∃ (lb25 : Array Value), v23 = .func (Fn.func g24) #[] lb25 ∧ enterable Tryd.prog g24 = true ∧ ∀ (r26 : Nat → Loop) (d27 l28 : Nat) (w129 : World), Began w22 r26 d27 l28 w129 → (∀ (n31 n32 : Int) (s33 : ByteArray) (n34 n35 : Int) (s36 : ByteArray) (p37 : Option Addr) (n38 c39 : Nat) (W40 : World) (R41 : Bool → World → Prop), Rec r26 l28 0 W40 → (∀ b43 w'44, New W40
 (Obj.cells
 #[.int .i64 0, .string ⟨#[]⟩, .int .i64 0, .int .i64 0, .string ⟨#[]⟩, .slice none 0 0] 29)
 b43 w'44 → (∃ u46, w'44.cell? ⟨b43, 0, none⟩ = some u46) ∧ w'44.frozen? ⟨b43, 0, none⟩ = false ∧ (∃ u47, w'44.cell? ⟨b43, 1, none⟩ = some u47) ∧ w'44.frozen? ⟨b43, 1, none⟩ = false ∧ (∃ u48, w'44.cell? ⟨b43, 2, none⟩ = some u48) ∧ w'44.frozen? ⟨b43, 2, none⟩ = false ∧ (∃ u49, w'44.cell? ⟨b43, 3, none⟩ = some u49) ∧ w'44.frozen? ⟨b43, 3, none⟩ = false ∧ (∃ u50, w'44.cell? ⟨b43, 4, none⟩ = some u50) ∧ w'44.frozen? ⟨b43, 4, none⟩ = false ∧ (∃ u51, w'44.cell? ⟨b43, 5, none⟩ = some u51) ∧ w'44.frozen? ⟨b43, 5, none⟩ = false ∧ ∀ w'52, Put w'44 b43 0 [.int .i64 n32, .string s33, .int .i64 n34, .int .i64 n35, .string s36, .slice p37 n38 c39] w'52 → Rec r26 l28 0 w'52 ∧ ∀ (Wb54 : World), Wb54 = turn r26 l28 1 w'52 → ∃ n56, Wb54.cell? ⟨b7, 0, none⟩ = some (.int .i64 n56) ∧ (∃ u57, Wb54.cell? ⟨b7, 0, none⟩ = some u57) ∧ Wb54.frozen? ⟨b7, 0, none⟩ = false ∧ ∀ w'58, Put Wb54 b7 0 [.int .i64 (IntKind.i64.wrap (n56 + 1))] w'58 → ∀ w'60, Drew w'58 w'60 → (40 < n31 → (∃ u63, w'60.cell? ⟨b4, 0, none⟩ = some u63) ∧ w'60.frozen? ⟨b4, 0, none⟩ = false ∧ ∀ w'64, Put w'60 b4 0 [.bool false] w'64 → Rec r26 l28 1 w'64 ∧ R41 false (turn r26 l28 3 w'64)) ∧ (n31 ≤ 40 → ∃ n67, w'60.cell? ⟨b7, 0, none⟩ = some (.int .i64 n67) ∧ (400 < n67 → (∃ u69, w'60.cell? ⟨b4, 0, none⟩ = some u69) ∧ w'60.frozen? ⟨b4, 0, none⟩ = false ∧ ∀ w'70, Put w'60 b4 0 [.bool false] w'70 → Rec r26 l28 1 w'70 ∧ R41 false (turn r26 l28 3 w'70)) ∧ (n67 ≤ 400 → ∃ n73, w'60.cell? ⟨b43, 0, none⟩ = some (.int .i64 n73) ∧ (n73 < 1 → (∃ u75, w'60.cell? ⟨b4, 0, none⟩ = some u75) ∧ w'60.frozen? ⟨b4, 0, none⟩ = false ∧ ∀ w'76, Put w'60 b4 0 [.bool false] w'76 → Rec r26 l28 1 w'76 ∧ R41 false (turn r26 l28 3 w'76)) ∧ (1 ≤ n73 → ∃ n79, w'60.cell? ⟨b43, 0, none⟩ = some (.int .i64 n79) ∧ (17 ≤ n79 → (∃ u81, w'60.cell? ⟨b4, 0, none⟩ = some u81) ∧ w'60.frozen? ⟨b4, 0, none⟩ = false ∧ ∀ w'82, Put w'60 b4 0 [.bool false] w'82 → Rec r26 l28 1 w'82 ∧ R41 false (turn r26 l28 3 w'82)) ∧ (n79 < 17 → ∃ p85 n86 c87, w'60.cell? ⟨b43, 5, none⟩ = some (.slice p85 n86 c87) ∧ ∃ n88, w'60.cell? ⟨b43, 0, none⟩ = some (.int .i64 n88) ∧ 0 ≤ n88 ∧ n88 < 17 ∧ ∃ n89, w'60.cell? ⟨0, (0 + n88.toNat * 3), none⟩ = some (.int .i64 n89) ∧ ((↑n86 : Int) ≠ n89 → (∃ u91, w'60.cell? ⟨b4, 0, none⟩ = some u91) ∧ w'60.frozen? ⟨b4, 0, none⟩ = false ∧ ∀ w'92, Put w'60 b4 0 [.bool false] w'92 → Rec r26 l28 1 w'92 ∧ R41 false (turn r26 l28 3 w'92)) ∧ ((↑n86 : Int) = n89 → ∃ n95, w'60.cell? ⟨b43, 0, none⟩ = some (.int .i64 n95) ∧ (n95 ≠ 1 → ∃ s97, w'60.cell? ⟨b43, 1, none⟩ = some (.string s97) ∧ (s97 ≠ ByteArray.mk #[] → (∃ u99, w'60.cell? ⟨b4, 0, none⟩ = some u99) ∧ w'60.frozen? ⟨b4, 0, none⟩ = false ∧ ∀ w'100, Put w'60 b4 0 [.bool false] w'100 → Rec r26 l28 1 w'100 ∧ R41 false (turn r26 l28 3 w'100)) ∧ (s97 = ByteArray.mk #[] → ∃ n103, w'60.cell? ⟨b43, 0, none⟩ = some (.int .i64 n103) ∧ (n103 ≠ 2 → ∃ n105, w'60.cell? ⟨b43, 2, none⟩ = some (.int .i64 n105) ∧ ∃ n106, w'60.cell? ⟨b43, 3, none⟩ = some (.int .i64 n106) ∧ ∃ s107, w'60.cell? ⟨b43, 4, none⟩ = some (.string s107) ∧ (n105 ≠ 0 ∨ n106 ≠ 0 ∨ s107 ≠ ByteArray.mk #[] → (∃ u109, w'60.cell? ⟨b4, 0, none⟩ = some u109) ∧ w'60.frozen? ⟨b4, 0, none⟩ = false ∧ ∀ w'110, Put w'60 b4 0 [.bool false] w'110 → Rec r26 l28 1 w'110 ∧ R41 false (turn r26 l28 3 w'110)) ∧ (n105 = 0 ∧ n106 = 0 ∧ s107 = ByteArray.mk #[] → ∃ n113, w'60.cell? ⟨b43, 2, none⟩ = some (.int .i64 n113) ∧ ∃ n114, w'60.cell? ⟨b43, 3, none⟩ = some (.int .i64 n114) ∧ ∃ s115, w'60.cell? ⟨b43, 4, none⟩ = some (.string s115) ∧ Calls Tryd.prog 60 #[.agg #[.int .i64 n113, .int .i64 n114, .string s115]] w'60 fun e116 w117 ↦
 ∃ b118, e116 = .returned (.bool b118) ∧ (b118 = false → (∃ u120, w117.cell? ⟨b4, 0, none⟩ = some u120) ∧ w117.frozen? ⟨b4, 0, none⟩ = false ∧ ∀ w'121, Put w117 b4 0 [.bool false] w'121 → Rec r26 l28 1 w'121 ∧ R41 false (turn r26 l28 3 w'121)) ∧ (b118 = true → Rec r26 l28 1 w117 ∧ R41 true (turn r26 l28 0 w117)))) ∧ (n103 = 2 → ∃ n125, w'60.cell? ⟨b43, 2, none⟩ = some (.int .i64 n125) ∧ ∃ n126, w'60.cell? ⟨b43, 3, none⟩ = some (.int .i64 n126) ∧ ∃ s127, w'60.cell? ⟨b43, 4, none⟩ = some (.string s127) ∧ Calls Tryd.prog 60 #[.agg #[.int .i64 n125, .int .i64 n126, .string s127]] w'60 fun e128 w129 ↦
 ∃ b130, e128 = .returned (.bool b130) ∧ (b130 = false → (∃ u132, w129.cell? ⟨b4, 0, none⟩ = some u132) ∧ w129.frozen? ⟨b4, 0, none⟩ = false ∧ ∀ w'133, Put w129 b4 0 [.bool false] w'133 → Rec r26 l28 1 w'133 ∧ R41 false (turn r26 l28 3 w'133)) ∧ (b130 = true → Rec r26 l28 1 w129 ∧ R41 true (turn r26 l28 0 w129))))) ∧ (n95 = 1 → ∃ n137, w'60.cell? ⟨b43, 0, none⟩ = some (.int .i64 n137) ∧ (n137 ≠ 2 → ∃ n139, w'60.cell? ⟨b43, 2, none⟩ = some (.int .i64 n139) ∧ ∃ n140, w'60.cell? ⟨b43, 3, none⟩ = some (.int .i64 n140) ∧ ∃ s141, w'60.cell? ⟨b43, 4, none⟩ = some (.string s141) ∧ (n139 ≠ 0 ∨ n140 ≠ 0 ∨ s141 ≠ ByteArray.mk #[] → (∃ u143, w'60.cell? ⟨b4, 0, none⟩ = some u143) ∧ w'60.frozen? ⟨b4, 0, none⟩ = false ∧ ∀ w'144, Put w'60 b4 0 [.bool false] w'144 → Rec r26 l28 1 w'144 ∧ R41 false (turn r26 l28 3 w'144)) ∧ (n139 = 0 ∧ n140 = 0 ∧ s141 = ByteArray.mk #[] → ∃ n147, w'60.cell? ⟨b43, 2, none⟩ = some (.int .i64 n147) ∧ ∃ n148, w'60.cell? ⟨b43, 3, none⟩ = some (.int .i64 n148) ∧ ∃ s149, w'60.cell? ⟨b43, 4, none⟩ = some (.string s149) ∧ Calls Tryd.prog 60 #[.agg #[.int .i64 n147, .int .i64 n148, .string s149]] w'60 fun e150 w151 ↦
 ∃ b152, e150 = .returned (.bool b152) ∧ (b152 = false → (∃ u154, w151.cell? ⟨b4, 0, none⟩ = some u154) ∧ w151.frozen? ⟨b4, 0, none⟩ = false ∧ ∀ w'155, Put w151 b4 0 [.bool false] w'155 → Rec r26 l28 1 w'155 ∧ R41 false (turn r26 l28 3 w'155)) ∧ (b152 = true → Rec r26 l28 1 w151 ∧ R41 true (turn r26 l28 0 w151)))) ∧ (n137 = 2 → ∃ n159, w'60.cell? ⟨b43, 2, none⟩ = some (.int .i64 n159) ∧ ∃ n160, w'60.cell? ⟨b43, 3, none⟩ = some (.int .i64 n160) ∧ ∃ s161, w'60.cell? ⟨b43, 4, none⟩ = some (.string s161) ∧ Calls Tryd.prog 60 #[.agg #[.int .i64 n159, .int .i64 n160, .string s161]] w'60 fun e162 w163 ↦
 ∃ b164, e162 = .returned (.bool b164) ∧ (b164 = false → (∃ u166, w163.cell? ⟨b4, 0, none⟩ = some u166) ∧ w163.frozen? ⟨b4, 0, none⟩ = false ∧ ∀ w'167, Put w163 b4 0 [.bool false] w'167 → Rec r26 l28 1 w'167 ∧ R41 false (turn r26 l28 3 w'167)) ∧ (b164 = true → Rec r26 l28 1 w163 ∧ R41 true (turn r26 l28 0 w163)))))))))) → Yield Tryd.prog l28
 #[.int .i64 n31, .agg #[.int .i64 n32, .string s33, .int .i64 n34, .int .i64 n35, .string s36, .slice p37 n38 c39]]
 W40 fun (b171 : Bool) (w172 : World) ↦ R41 b171 w172) → Calls Tryd.prog g24 (.func (Fn.yield l28) #[] #[] :: lb25.1).toArray w129 fun e174 w175 ↦
 (∃ v176, e174 = .returned v176) ∧ ((Rec r26 l28 0 w175 ∧ (∃ u177, (turn r26 l28 2 w175).cell? ⟨b4, 0, none⟩ = some u177) ∧ (turn r26 l28 2 w175).frozen? ⟨b4, 0, none⟩ = false ∧ ∀ w'178, Put (turn r26 l28 2 w175) b4 0 [.bool true] w'178 → w'178.heap[d27]? = some (Obj.deferred (some [])) ∧ ∃ b182, (w'178.putObj d27 (Obj.deferred none)).cell? ⟨b4, 0, none⟩ = some (.bool b182) ∧ R (.returned (.bool b182)) (w'178.putObj d27 (Obj.deferred none))) ∨
 (Rec r26 l28 3 w175 ∧ (turn r26 l28 4 w175).heap[d27]? = some (Obj.deferred (some [])) ∧ ∃ b185, ((turn r26 l28 4 w175).putObj d27 (Obj.deferred none)).cell? ⟨b4, 0, none⟩ = some (.bool b185) ∧ R (.returned (.bool b185)) ((turn r26 l28 4 w175).putObj d27 (Obj.deferred none))) ∨
 False)

set_option maxRecDepth 100000 in
theorem xformed_eq (x0 : Int) (x1 : ByteArray) (x2 : Int) (x3 : Int) (x4 : ByteArray) (x5_p : Option Addr) (x5_n : Nat) (x5_c : Nat) (w : World) (R : Ending → World → Prop) : xformed_T x0 x1 x2 x3 x4 x5_p x5_n x5_c w R = vcFn Tryd.prog [] [(6, [2, 4, 6, 8, 10, 12, 14, 16, 18, 20, 22, 24, 26, 28, 30, 32, 34, 36, 38, 40, 42, 44, 46, 48, 50, 52, 54, 0])] Tryd.f37 [Value.agg
 #[.int .i64 x0, .string x1, .int .i64 x2, .int .i64 x3, .string x4, .slice x5_p x5_n x5_c]] w R := by kernel_rfl

set_option maxRecDepth 100000 in
theorem xformed_vc (x0 : Int) (x1 : ByteArray) (x2 : Int) (x3 : Int) (x4 : ByteArray) (x5_p : Option Addr) (x5_n : Nat) (x5_c : Nat) (w : World) (R : Ending → World → Prop) (hvc : xformed_T x0 x1 x2 x3 x4 x5_p x5_n x5_c w R) : Calls Tryd.prog 37 #[Value.agg
 #[.int .i64 x0, .string x1, .int .i64 x2, .int .i64 x3, .string x4, .slice x5_p x5_n x5_c]] w R :=
  calls_of_vc (args := [Value.agg
 #[.int .i64 x0, .string x1, .int .i64 x2, .int .i64 x3, .string x4, .slice x5_p x5_n x5_c]]) [] [(6, [2, 4, 6, 8, 10, 12, 14, 16, 18, 20, 22, 24, 26, 28, 30, 32, 34, 36, 38, 40, 42, 44, 46, 48, 50, 52, 54, 0])] Tryd.mixed Tryd.func37 (cast (xformed_eq _ _ _ _ _ _ _ _ w R) hvc)

set_option maxRecDepth 100000 in
def alike_T (a : Int) (b : Int) (w : World) (R : Ending → World → Prop) : Prop :=
  R (.returned (.bool (decide (a = b) || decide (a = 0) || decide (b = 0)))) w

set_option maxRecDepth 100000 in
theorem alike_eq (a : Int) (b : Int) (w : World) (R : Ending → World → Prop) : alike_T a b w R = vcFn Tryd.prog [] [] Tryd.f61 [.int .i64 a, .int .i64 b] w R := by kernel_rfl

set_option maxRecDepth 100000 in
theorem alike_vc (a : Int) (b : Int) (w : World) (R : Ending → World → Prop) (hvc : alike_T a b w R) : Calls Tryd.prog 61 #[.int .i64 a, .int .i64 b] w R :=
  calls_of_vc (args := [.int .i64 a, .int .i64 b]) [] [] Tryd.mixed Tryd.func61 (cast (alike_eq _ _ w R) hvc)

set_option maxRecDepth 100000 in
def xkind_T (cols_p : Option Addr) (cols_n : Nat) (cols_c : Nat) (x0 : Int) (x1 : ByteArray) (x2 : Int) (x3 : Int) (x4 : ByteArray) (x5_p : Option Addr) (x5_n : Nat) (x5_c : Nat) (w : World) (R : Ending → World → Prop) : Prop :=
  ∀ b1 w'2, New w (Obj.cells #[.int .i64 x0, .string x1, .int .i64 x2, .int .i64 x3, .string x4, .slice x5_p x5_n x5_c] 29) b1
 w'2 → ∃ n4, w'2.cell? ⟨b1, 0, none⟩ = some (.int .i64 n4) ∧ 0 ≤ n4 ∧ n4 < 17 ∧ ∃ n5, w'2.cell? ⟨0, (0 + n4.toNat * 3), none⟩ = some (.int .i64 n5) ∧ ∃ n6, w'2.cell? ⟨0, (0 + n4.toNat * 3 + 1), none⟩ = some (.int .i64 n6) ∧ ∃ n7, w'2.cell? ⟨0, (0 + n4.toNat * 3 + 2), none⟩ = some (.int .i64 n7) ∧ ∀ b8 w'9, New w'2 (Obj.cells #[.int .i64 0, .int .i64 0, .int .i64 0] 90) b8 w'9 → (∃ u11, w'9.cell? ⟨b8, 0, none⟩ = some u11) ∧ w'9.frozen? ⟨b8, 0, none⟩ = false ∧ (∃ u12, w'9.cell? ⟨b8, 1, none⟩ = some u12) ∧ w'9.frozen? ⟨b8, 1, none⟩ = false ∧ (∃ u13, w'9.cell? ⟨b8, 2, none⟩ = some u13) ∧ w'9.frozen? ⟨b8, 2, none⟩ = false ∧ ∀ w'14, Put w'9 b8 0 [.int .i64 n5, .int .i64 n6, .int .i64 n7] w'14 → ∀ b16 w'17, New w'14 (Obj.cells #[.int .i64 0, .int .i64 0] 93) b16 w'17 → ∃ p19 n20 c21, w'17.cell? ⟨b1, 5, none⟩ = some (.slice p19 n20 c21) ∧ ∃ (I22 : Int → World → Prop), ∃ (M23 : Int → World → Nat), I22 0 w'17 ∧ ∀ (n24 : Int) (w'25 : World), I22 n24 w'25 → (n24 < (↑n20 : Int) → ∃ b28, ∃ o29, p19 = some ⟨b28, o29, none⟩ ∧ 0 ≤ n24 ∧ n24 < (↑n20 : Int) ∧ ∃ n30, w'25.cell? ⟨b28, (o29 + n24.toNat * 6), none⟩ = some (.int .i64 n30) ∧ ∃ s31, w'25.cell? ⟨b28, (o29 + n24.toNat * 6 + 1), none⟩ = some (.string s31) ∧ ∃ n32, w'25.cell? ⟨b28, (o29 + n24.toNat * 6 + 2), none⟩ = some (.int .i64 n32) ∧ ∃ n33, w'25.cell? ⟨b28, (o29 + n24.toNat * 6 + 3), none⟩ = some (.int .i64 n33) ∧ ∃ s34, w'25.cell? ⟨b28, (o29 + n24.toNat * 6 + 4), none⟩ = some (.string s34) ∧ ∃ p35 n36 c37, w'25.cell? ⟨b28, (o29 + n24.toNat * 6 + 5), none⟩ = some (.slice p35 n36 c37) ∧ ∀ b38 w'39, New w'25
 (Obj.cells
 #[.int .i64 0, .string ⟨#[]⟩, .int .i64 0, .int .i64 0, .string ⟨#[]⟩, .slice none 0 0] 29)
 b38 w'39 → (∃ u41, w'39.cell? ⟨b38, 0, none⟩ = some u41) ∧ w'39.frozen? ⟨b38, 0, none⟩ = false ∧ (∃ u42, w'39.cell? ⟨b38, 1, none⟩ = some u42) ∧ w'39.frozen? ⟨b38, 1, none⟩ = false ∧ (∃ u43, w'39.cell? ⟨b38, 2, none⟩ = some u43) ∧ w'39.frozen? ⟨b38, 2, none⟩ = false ∧ (∃ u44, w'39.cell? ⟨b38, 3, none⟩ = some u44) ∧ w'39.frozen? ⟨b38, 3, none⟩ = false ∧ (∃ u45, w'39.cell? ⟨b38, 4, none⟩ = some u45) ∧ w'39.frozen? ⟨b38, 4, none⟩ = false ∧ (∃ u46, w'39.cell? ⟨b38, 5, none⟩ = some u46) ∧ w'39.frozen? ⟨b38, 5, none⟩ = false ∧ ∀ w'47, Put w'39 b38 0 [.int .i64 n30, .string s31, .int .i64 n32, .int .i64 n33, .string s34, .slice p35 n36 c37] w'47 → ∃ n49, w'47.cell? ⟨b38, 0, none⟩ = some (.int .i64 n49) ∧ ∃ s50, w'47.cell? ⟨b38, 1, none⟩ = some (.string s50) ∧ ∃ n51, w'47.cell? ⟨b38, 2, none⟩ = some (.int .i64 n51) ∧ ∃ n52, w'47.cell? ⟨b38, 3, none⟩ = some (.int .i64 n52) ∧ ∃ s53, w'47.cell? ⟨b38, 4, none⟩ = some (.string s53) ∧ ∃ p54 n55 c56, w'47.cell? ⟨b38, 5, none⟩ = some (.slice p54 n55 c56) ∧ Calls Tryd.prog 38
 #[.slice cols_p cols_n cols_c, .agg #[.int .i64 n49, .string s50, .int .i64 n51, .int .i64 n52, .string s53, .slice p54 n55 c56]]
 w'47 fun e57 w58 ↦
 ∃ n59, ∃ n60, e57 = .returned (.tuple #[.int .i64 n59, .int .i64 n60]) ∧ (n60 ≠ 0 → R (.returned (.tuple #[.int .i64 0, .int .i64 n60])) w58) ∧ (n60 = 0 → 0 ≤ n24 ∧ n24 < 2 ∧ (∃ u63, w58.cell? ⟨b16, (0 + n24.toNat), none⟩ = some u63) ∧ w58.frozen? ⟨b16, (0 + n24.toNat), none⟩ = false ∧ ∀ w'64, Put w58 b16 (0 + n24.toNat) [.int .i64 n59] w'64 → I22 (IntKind.i64.wrap (n24 + 1)) w'64 ∧ M23 (IntKind.i64.wrap (n24 + 1)) w'64 < M23 n24 w'25)) ∧ ((↑n20 : Int) ≤ n24 → ∃ p67 n68 c69, w'25.cell? ⟨b1, 5, none⟩ = some (.slice p67 n68 c69) ∧ ∃ (I70 : Int → World → Prop), ∃ (M71 : Int → World → Nat), I70 0 w'25 ∧ ∀ (n72 : Int) (w'73 : World), I70 n72 w'73 → (n72 < (↑n68 : Int) → ∀ w'76, Drew w'73 w'76 → ∃ n78, w'76.cell? ⟨b8, 1, none⟩ = some (.int .i64 n78) ∧ (n78 ≠ 0 → 0 ≤ n72 ∧ n72 < 2 ∧ ∃ n80, w'76.cell? ⟨b16, (0 + n72.toNat), none⟩ = some (.int .i64 n80) ∧ ∃ n81, w'76.cell? ⟨b8, 1, none⟩ = some (.int .i64 n81) ∧ Calls Tryd.prog 61 #[.int .i64 n80, .int .i64 n81] w'76 fun e82 w83 ↦
 ∃ b84, e82 = .returned (.bool b84) ∧ (b84 = false → R (.returned (.tuple #[.int .i64 0, .int .i64 121])) w83) ∧ (b84 = true → I70 (IntKind.i64.wrap (n72 + 1)) w83 ∧ M71 (IntKind.i64.wrap (n72 + 1)) w83 < M71 n72 w'73)) ∧ (n78 = 0 → I70 (IntKind.i64.wrap (n72 + 1)) w'76 ∧ M71 (IntKind.i64.wrap (n72 + 1)) w'76 < M71 n72 w'73)) ∧ ((↑n68 : Int) ≤ n72 → ∃ n89, w'73.cell? ⟨b1, 0, none⟩ = some (.int .i64 n89) ∧ (n89 = 1 → ∃ s91, w'73.cell? ⟨b1, 1, none⟩ = some (.string s91) ∧ Calls Tryd.prog 43 #[.slice cols_p cols_n cols_c, .string s91] w'73 fun e92 w93 ↦
 ∃ n94, e92 = .returned (.int .i64 n94) ∧ (n94 < 0 → R (.returned (.tuple #[.int .i64 0, .int .i64 120])) w93) ∧ (0 ≤ n94 → ∃ b97, ∃ o98, cols_p = some ⟨b97, o98, none⟩ ∧ 0 ≤ n94 ∧ n94 < (↑cols_n : Int) ∧ ∃ n99, w93.cell? ⟨b97, (o98 + n94.toNat * 3 + 1), none⟩ = some (.int .i64 n99) ∧ R (.returned (.tuple #[.int .i64 n99, .int .i64 0])) w93)) ∧ (n89 ≠ 1 → (n89 = 2 → ∃ n102, w'73.cell? ⟨b1, 2, none⟩ = some (.int .i64 n102) ∧ R (.returned (.tuple #[.int .i64 n102, .int .i64 0])) w'73) ∧ (n89 ≠ 2 → (n89 = 9 → (n89 = 9 → (0 : Int) ≤ 0 ∧ (0 : Int) < 2 ∧ ∃ n106, w'73.cell? ⟨b16, 0, none⟩ = some (.int .i64 n106) ∧ (0 : Int) ≤ 1 ∧ (1 : Int) < 2 ∧ ∃ n107, w'73.cell? ⟨b16, 1, none⟩ = some (.int .i64 n107) ∧ Calls Tryd.prog 61 #[.int .i64 n106, .int .i64 n107] w'73 fun e108 w109 ↦
 ∃ b110, e108 = .returned (.bool b110) ∧ (b110 = false → R (.returned (.tuple #[.int .i64 0, .int .i64 121])) w109) ∧ (b110 = true → ∃ n113, w109.cell? ⟨b8, 2, none⟩ = some (.int .i64 n113) ∧ R (.returned (.tuple #[.int .i64 n113, .int .i64 0])) w109)) ∧ (n89 ≠ 9 → ∃ n115, w'73.cell? ⟨b8, 2, none⟩ = some (.int .i64 n115) ∧ R (.returned (.tuple #[.int .i64 n115, .int .i64 0])) w'73)) ∧ (n89 ≠ 9 → (n89 = 10 → (n89 = 10 → (0 : Int) ≤ 0 ∧ (0 : Int) < 2 ∧ ∃ n119, w'73.cell? ⟨b16, 0, none⟩ = some (.int .i64 n119) ∧ (0 : Int) ≤ 1 ∧ (1 : Int) < 2 ∧ ∃ n120, w'73.cell? ⟨b16, 1, none⟩ = some (.int .i64 n120) ∧ Calls Tryd.prog 61 #[.int .i64 n119, .int .i64 n120] w'73 fun e121 w122 ↦
 ∃ b123, e121 = .returned (.bool b123) ∧ (b123 = false → R (.returned (.tuple #[.int .i64 0, .int .i64 121])) w122) ∧ (b123 = true → ∃ n126, w122.cell? ⟨b8, 2, none⟩ = some (.int .i64 n126) ∧ R (.returned (.tuple #[.int .i64 n126, .int .i64 0])) w122)) ∧ (n89 ≠ 10 → ∃ n128, w'73.cell? ⟨b8, 2, none⟩ = some (.int .i64 n128) ∧ R (.returned (.tuple #[.int .i64 n128, .int .i64 0])) w'73)) ∧ (n89 ≠ 10 → (n89 = 11 → (0 : Int) ≤ 0 ∧ (0 : Int) < 2 ∧ ∃ n131, w'73.cell? ⟨b16, 0, none⟩ = some (.int .i64 n131) ∧ (0 : Int) ≤ 1 ∧ (1 : Int) < 2 ∧ ∃ n132, w'73.cell? ⟨b16, 1, none⟩ = some (.int .i64 n132) ∧ Calls Tryd.prog 61 #[.int .i64 n131, .int .i64 n132] w'73 fun e133 w134 ↦
 ∃ b135, e133 = .returned (.bool b135) ∧ (b135 = false → R (.returned (.tuple #[.int .i64 0, .int .i64 121])) w134) ∧ (b135 = true → ∃ n138, w134.cell? ⟨b8, 2, none⟩ = some (.int .i64 n138) ∧ R (.returned (.tuple #[.int .i64 n138, .int .i64 0])) w134)) ∧ (n89 ≠ 11 → ∃ n140, w'73.cell? ⟨b8, 2, none⟩ = some (.int .i64 n140) ∧ R (.returned (.tuple #[.int .i64 n140, .int .i64 0])) w'73)))))))

set_option maxRecDepth 100000 in
theorem xkind_eq (cols_p : Option Addr) (cols_n : Nat) (cols_c : Nat) (x0 : Int) (x1 : ByteArray) (x2 : Int) (x3 : Int) (x4 : ByteArray) (x5_p : Option Addr) (x5_n : Nat) (x5_c : Nat) (w : World) (R : Ending → World → Prop) : xkind_T cols_p cols_n cols_c x0 x1 x2 x3 x4 x5_p x5_n x5_c w R = vcFn Tryd.prog [] [(14, [2, 4, 6, 8, 10, 12, 14, 16, 18, 20, 22, 24, 0])] Tryd.f38 [.slice cols_p cols_n cols_c, Value.agg
 #[.int .i64 x0, .string x1, .int .i64 x2, .int .i64 x3, .string x4, .slice x5_p x5_n x5_c]] w R := by kernel_rfl

set_option maxRecDepth 100000 in
theorem xkind_vc (cols_p : Option Addr) (cols_n : Nat) (cols_c : Nat) (x0 : Int) (x1 : ByteArray) (x2 : Int) (x3 : Int) (x4 : ByteArray) (x5_p : Option Addr) (x5_n : Nat) (x5_c : Nat) (w : World) (R : Ending → World → Prop) (hvc : xkind_T cols_p cols_n cols_c x0 x1 x2 x3 x4 x5_p x5_n x5_c w R) : Calls Tryd.prog 38 #[.slice cols_p cols_n cols_c, Value.agg
 #[.int .i64 x0, .string x1, .int .i64 x2, .int .i64 x3, .string x4, .slice x5_p x5_n x5_c]] w R :=
  calls_of_vc (args := [.slice cols_p cols_n cols_c, Value.agg
 #[.int .i64 x0, .string x1, .int .i64 x2, .int .i64 x3, .string x4, .slice x5_p x5_n x5_c]]) [] [(14, [2, 4, 6, 8, 10, 12, 14, 16, 18, 20, 22, 24, 0])] Tryd.mixed Tryd.func38 (cast (xkind_eq _ _ _ _ _ _ _ _ _ _ _ w R) hvc)

set_option maxRecDepth 100000 in
def xtype_T (cols_p : Option Addr) (cols_n : Nat) (cols_c : Nat) (x0 : Int) (x1 : ByteArray) (x2 : Int) (x3 : Int) (x4 : ByteArray) (x5_p : Option Addr) (x5_n : Nat) (x5_c : Nat) (w : World) (R : Ending → World → Prop) : Prop :=
  ∀ b1 w'2, New w (Obj.cells #[.int .i64 x0, .string x1, .int .i64 x2, .int .i64 x3, .string x4, .slice x5_p x5_n x5_c] 29) b1
 w'2 → Calls Tryd.prog 27 #[.slice cols_p cols_n cols_c] w'2 fun e4 w5 ↦
 ∃ b6, e4 = .returned (.bool b6) ∧ (b6 = false → R (.returned (.tuple #[.int .i64 0, .int .i64 50])) w5) ∧ (b6 = true → ∃ n9, w5.cell? ⟨b1, 0, none⟩ = some (.int .i64 n9) ∧ ∃ s10, w5.cell? ⟨b1, 1, none⟩ = some (.string s10) ∧ ∃ n11, w5.cell? ⟨b1, 2, none⟩ = some (.int .i64 n11) ∧ ∃ n12, w5.cell? ⟨b1, 3, none⟩ = some (.int .i64 n12) ∧ ∃ s13, w5.cell? ⟨b1, 4, none⟩ = some (.string s13) ∧ ∃ p14 n15 c16, w5.cell? ⟨b1, 5, none⟩ = some (.slice p14 n15 c16) ∧ Calls Tryd.prog 37
 #[.agg #[.int .i64 n9, .string s10, .int .i64 n11, .int .i64 n12, .string s13, .slice p14 n15 c16]] w5
 fun e17 w18 ↦
 ∃ b19, e17 = .returned (.bool b19) ∧ (b19 = false → R (.returned (.tuple #[.int .i64 0, .int .i64 122])) w18) ∧ (b19 = true → ∃ n22, w18.cell? ⟨b1, 0, none⟩ = some (.int .i64 n22) ∧ ∃ s23, w18.cell? ⟨b1, 1, none⟩ = some (.string s23) ∧ ∃ n24, w18.cell? ⟨b1, 2, none⟩ = some (.int .i64 n24) ∧ ∃ n25, w18.cell? ⟨b1, 3, none⟩ = some (.int .i64 n25) ∧ ∃ s26, w18.cell? ⟨b1, 4, none⟩ = some (.string s26) ∧ ∃ p27 n28 c29, w18.cell? ⟨b1, 5, none⟩ = some (.slice p27 n28 c29) ∧ Calls Tryd.prog 38
 #[.slice cols_p cols_n cols_c, .agg #[.int .i64 n22, .string s23, .int .i64 n24, .int .i64 n25, .string s26, .slice p27 n28 c29]]
 w18 fun e30 w31 ↦
 ∃ n32, ∃ n33, e30 = .returned (.tuple #[.int .i64 n32, .int .i64 n33]) ∧ R (.returned (.tuple #[.int .i64 n32, .int .i64 n33])) w31))

set_option maxRecDepth 100000 in
theorem xtype_eq (cols_p : Option Addr) (cols_n : Nat) (cols_c : Nat) (x0 : Int) (x1 : ByteArray) (x2 : Int) (x3 : Int) (x4 : ByteArray) (x5_p : Option Addr) (x5_n : Nat) (x5_c : Nat) (w : World) (R : Ending → World → Prop) : xtype_T cols_p cols_n cols_c x0 x1 x2 x3 x4 x5_p x5_n x5_c w R = vcFn Tryd.prog [] [] Tryd.f18 [.slice cols_p cols_n cols_c, Value.agg
 #[.int .i64 x0, .string x1, .int .i64 x2, .int .i64 x3, .string x4, .slice x5_p x5_n x5_c]] w R := by kernel_rfl

set_option maxRecDepth 100000 in
theorem xtype_vc (cols_p : Option Addr) (cols_n : Nat) (cols_c : Nat) (x0 : Int) (x1 : ByteArray) (x2 : Int) (x3 : Int) (x4 : ByteArray) (x5_p : Option Addr) (x5_n : Nat) (x5_c : Nat) (w : World) (R : Ending → World → Prop) (hvc : xtype_T cols_p cols_n cols_c x0 x1 x2 x3 x4 x5_p x5_n x5_c w R) : Calls Tryd.prog 18 #[.slice cols_p cols_n cols_c, Value.agg
 #[.int .i64 x0, .string x1, .int .i64 x2, .int .i64 x3, .string x4, .slice x5_p x5_n x5_c]] w R :=
  calls_of_vc (args := [.slice cols_p cols_n cols_c, Value.agg
 #[.int .i64 x0, .string x1, .int .i64 x2, .int .i64 x3, .string x4, .slice x5_p x5_n x5_c]]) [] [] Tryd.mixed Tryd.func18 (cast (xtype_eq _ _ _ _ _ _ _ _ _ _ _ w R) hvc)

set_option maxRecDepth 100000 in
def xtruth_T (b : Bool) (w : World) (R : Ending → World → Prop) : Prop :=
  ∀ b1 w'2, New w (Obj.cells #[.int .i64 0, .int .i64 0, .string ⟨#[]⟩] 26) b1 w'2 → (b = true → (∃ u5, w'2.cell? ⟨b1, 0, none⟩ = some u5) ∧ w'2.frozen? ⟨b1, 0, none⟩ = false ∧ (∃ u6, w'2.cell? ⟨b1, 1, none⟩ = some u6) ∧ w'2.frozen? ⟨b1, 1, none⟩ = false ∧ (∃ u7, w'2.cell? ⟨b1, 2, none⟩ = some u7) ∧ w'2.frozen? ⟨b1, 2, none⟩ = false ∧ ∀ w'8, Put w'2 b1 0 [.int .i64 2, .int .i64 1, .string ⟨#[]⟩] w'8 → ∃ n10, w'8.cell? ⟨b1, 0, none⟩ = some (.int .i64 n10) ∧ ∃ n11, w'8.cell? ⟨b1, 1, none⟩ = some (.int .i64 n11) ∧ ∃ s12, w'8.cell? ⟨b1, 2, none⟩ = some (.string s12) ∧ R (.returned (.agg #[.int .i64 n10, .int .i64 n11, .string s12])) w'8) ∧ (b = false → (∃ u14, w'2.cell? ⟨b1, 0, none⟩ = some u14) ∧ w'2.frozen? ⟨b1, 0, none⟩ = false ∧ (∃ u15, w'2.cell? ⟨b1, 1, none⟩ = some u15) ∧ w'2.frozen? ⟨b1, 1, none⟩ = false ∧ (∃ u16, w'2.cell? ⟨b1, 2, none⟩ = some u16) ∧ w'2.frozen? ⟨b1, 2, none⟩ = false ∧ ∀ w'17, Put w'2 b1 0 [.int .i64 2, .int .i64 0, .string ⟨#[]⟩] w'17 → ∃ n19, w'17.cell? ⟨b1, 0, none⟩ = some (.int .i64 n19) ∧ ∃ n20, w'17.cell? ⟨b1, 1, none⟩ = some (.int .i64 n20) ∧ ∃ s21, w'17.cell? ⟨b1, 2, none⟩ = some (.string s21) ∧ R (.returned (.agg #[.int .i64 n19, .int .i64 n20, .string s21])) w'17)

set_option maxRecDepth 100000 in
theorem xtruth_eq (b : Bool) (w : World) (R : Ending → World → Prop) : xtruth_T b w R = vcFn Tryd.prog [] [] Tryd.f79 [.bool b] w R := by kernel_rfl

set_option maxRecDepth 100000 in
theorem xtruth_vc (b : Bool) (w : World) (R : Ending → World → Prop) (hvc : xtruth_T b w R) : Calls Tryd.prog 79 #[.bool b] w R :=
  calls_of_vc (args := [.bool b]) [] [] Tryd.mixed Tryd.func79 (cast (xtruth_eq _ w R) hvc)

set_option maxRecDepth 100000 in
def times_T (a : Int) (b : Int) (w : World) (R : Ending → World → Prop) : Prop :=
  Calls Tryd.prog 108 #[.int .i64 a] w fun e1 w2 ↦
 ∃ n3, e1 = .returned (.int .u64 n3) ∧ Calls Tryd.prog 108 #[.int .i64 b] w2 fun e4 w5 ↦
 ∃ n6, e4 = .returned (.int .u64 n6) ∧ Calls Tryd.prog 109 #[.int .u64 n3, .int .u64 n6] w5 fun e7 w8 ↦
 ∃ n9, ∃ n10, e7 = .returned (.tuple #[.int .u64 n9, .int .u64 n10]) ∧ (n9 ≠ 0 → R (.returned (.tuple #[.int .i64 0, .bool false])) w8) ∧ (n9 = 0 → (decide (a < 0) ≠ decide (b < 0) → R (.returned (.tuple #[.int .i64 (IntKind.i64.wrap (0 - IntKind.i64.wrap n10)), .bool (decide (n10 ≤ 9223372036854775808))])) w8) ∧ (decide (a < 0) = decide (b < 0) → R (.returned (.tuple #[.int .i64 (IntKind.i64.wrap n10), .bool (decide (n10 < 9223372036854775808))])) w8))

set_option maxRecDepth 100000 in
theorem times_eq (a : Int) (b : Int) (w : World) (R : Ending → World → Prop) : times_T a b w R = vcFn Tryd.prog [] [] Tryd.f99 [.int .i64 a, .int .i64 b] w R := by kernel_rfl

set_option maxRecDepth 100000 in
theorem times_vc (a : Int) (b : Int) (w : World) (R : Ending → World → Prop) (hvc : times_T a b w R) : Calls Tryd.prog 99 #[.int .i64 a, .int .i64 b] w R :=
  calls_of_vc (args := [.int .i64 a, .int .i64 b]) [] [] Tryd.mixed Tryd.func99 (cast (times_eq _ _ w R) hvc)

set_option maxRecDepth 100000 in
def times1_T (n : Int) (w : World) (R : Ending → World → Prop) : Prop :=
  (n < 0 → R (.returned (.int .u64 (IntKind.u64.wrap (0 - IntKind.u64.wrap n)))) w) ∧ (0 ≤ n → R (.returned (.int .u64 (IntKind.u64.wrap n))) w)

set_option maxRecDepth 100000 in
theorem times1_eq (n : Int) (w : World) (R : Ending → World → Prop) : times1_T n w R = vcFn Tryd.prog [] [] Tryd.f108 [.int .i64 n] w R := by kernel_rfl

set_option maxRecDepth 100000 in
theorem times1_vc (n : Int) (w : World) (R : Ending → World → Prop) (hvc : times1_T n w R) : Calls Tryd.prog 108 #[.int .i64 n] w R :=
  calls_of_vc (args := [.int .i64 n]) [] [] Tryd.mixed Tryd.func108 (cast (times1_eq _ w R) hvc)

set_option maxRecDepth 100000 in
def mul64_T (x : Int) (y : Int) (w : World) (R : Ending → World → Prop) : Prop :=
  R
 (.returned
 (Value.tuple
 #[Value.int IntKind.u64
 (IntKind.u64.wrap
 (IntKind.u64.wrap
 (IntKind.u64.wrap (shrI IntKind.u64 x 32 * shrI IntKind.u64 y 32) +
 shrI IntKind.u64
 (IntKind.u64.wrap
 (IntKind.u64.wrap (shrI IntKind.u64 x 32 * bits BinOp.and IntKind.u64 y 4294967295) +
 shrI IntKind.u64 (IntKind.u64.wrap (bits BinOp.and IntKind.u64 x 4294967295 * bits BinOp.and IntKind.u64 y 4294967295)) 32))
 32) +
 shrI IntKind.u64
 (IntKind.u64.wrap
 (bits BinOp.and IntKind.u64
 (IntKind.u64.wrap
 (IntKind.u64.wrap (shrI IntKind.u64 x 32 * bits BinOp.and IntKind.u64 y 4294967295) +
 shrI IntKind.u64 (IntKind.u64.wrap (bits BinOp.and IntKind.u64 x 4294967295 * bits BinOp.and IntKind.u64 y 4294967295)) 32))
 4294967295 +
 IntKind.u64.wrap (bits BinOp.and IntKind.u64 x 4294967295 * shrI IntKind.u64 y 32)))
 32)), .int .u64 (IntKind.u64.wrap (x * y))]))
 w

set_option maxRecDepth 100000 in
theorem mul64_eq (x : Int) (y : Int) (w : World) (R : Ending → World → Prop) : mul64_T x y w R = vcFn Tryd.prog [] [] Tryd.f109 [.int .u64 x, .int .u64 y] w R := by kernel_rfl

set_option maxRecDepth 100000 in
theorem mul64_vc (x : Int) (y : Int) (w : World) (R : Ending → World → Prop) (hvc : mul64_T x y w R) : Calls Tryd.prog 109 #[.int .u64 x, .int .u64 y] w R :=
  calls_of_vc (args := [.int .u64 x, .int .u64 y]) [] [] Tryd.mixed Tryd.func109 (cast (mul64_eq _ _ w R) hvc)

set_option maxRecDepth 100000 in
def xarith_T (op : Int) (a : Int) (b : Int) (w : World) (R : Ending → World → Prop) : Prop :=
  ((op = 6 ∨ op = 7) ∧ b = 0 → R (.returned (.tuple #[.int .i64 0, .int .i64 101])) w) ∧ (op ≠ 6 ∧ op ≠ 7 ∨ b ≠ 0 → (op = 3 → (bits BinOp.and IntKind.i64 (bits BinOp.xor IntKind.i64 a (IntKind.i64.wrap (a + b))) (bits BinOp.xor IntKind.i64 b (IntKind.i64.wrap (a + b))) < 0 → R (.returned (.tuple #[.int .i64 0, .int .i64 100])) w) ∧ (0 ≤ bits BinOp.and IntKind.i64 (bits BinOp.xor IntKind.i64 a (IntKind.i64.wrap (a + b))) (bits BinOp.xor IntKind.i64 b (IntKind.i64.wrap (a + b))) → R (.returned (.tuple #[.int .i64 (IntKind.i64.wrap (a + b)), .int .i64 0])) w)) ∧ (op ≠ 3 → (op = 4 → (bits BinOp.and IntKind.i64 (bits BinOp.xor IntKind.i64 a b) (bits BinOp.xor IntKind.i64 a (IntKind.i64.wrap (a - b))) < 0 → R (.returned (.tuple #[.int .i64 0, .int .i64 100])) w) ∧ (0 ≤ bits BinOp.and IntKind.i64 (bits BinOp.xor IntKind.i64 a b) (bits BinOp.xor IntKind.i64 a (IntKind.i64.wrap (a - b))) → R (.returned (.tuple #[.int .i64 (IntKind.i64.wrap (a - b)), .int .i64 0])) w)) ∧ (op ≠ 4 → (op = 5 → Calls Tryd.prog 99 #[.int .i64 a, .int .i64 b] w fun e12 w13 ↦
 ∃ n14, ∃ b15, e12 = .returned (.tuple #[.int .i64 n14, .bool b15]) ∧ (b15 = false → R (.returned (.tuple #[.int .i64 0, .int .i64 100])) w13) ∧ (b15 = true → R (.returned (.tuple #[.int .i64 n14, .int .i64 0])) w13)) ∧ (op ≠ 5 → (op = 6 → b ≠ 0 ∧ (a = -9223372036854775808 ∧ b = -1 → R (.returned (.tuple #[.int .i64 0, .int .i64 100])) w) ∧ (a ≠ -9223372036854775808 ∨ b ≠ -1 → R (.returned (.tuple #[.int .i64 (quoI IntKind.i64 a b), .int .i64 0])) w)) ∧ (op ≠ 6 → (op = 7 → b ≠ 0 ∧ R (.returned (.tuple #[.int .i64 (remI a b), .int .i64 0])) w) ∧ (op ≠ 7 → R (.returned (.tuple #[.int .i64 0, .int .i64 0])) w))))))

set_option maxRecDepth 100000 in
theorem xarith_eq (op : Int) (a : Int) (b : Int) (w : World) (R : Ending → World → Prop) : xarith_T op a b w R = vcFn Tryd.prog [] [] Tryd.f83 [.int .i64 op, .int .i64 a, .int .i64 b] w R := by kernel_rfl

set_option maxRecDepth 100000 in
theorem xarith_vc (op : Int) (a : Int) (b : Int) (w : World) (R : Ending → World → Prop) (hvc : xarith_T op a b w R) : Calls Tryd.prog 83 #[.int .i64 op, .int .i64 a, .int .i64 b] w R :=
  calls_of_vc (args := [.int .i64 op, .int .i64 a, .int .i64 b]) [] [] Tryd.mixed Tryd.func83 (cast (xarith_eq _ _ _ w R) hvc)

set_option maxRecDepth 100000 in
def third_T (v0 : Int) (v1 : Int) (v2 : ByteArray) (w : World) (R : Ending → World → Prop) : Prop :=
  ∀ b1 w'2, New w (Obj.cells #[.int .i64 v0, .int .i64 v1, .string v2] 26) b1 w'2 → ∃ n4, w'2.cell? ⟨b1, 0, none⟩ = some (.int .i64 n4) ∧ (n4 = 0 → R (.returned (.int .i64 2)) w'2) ∧ (n4 ≠ 0 → ∃ n7, w'2.cell? ⟨b1, 1, none⟩ = some (.int .i64 n7) ∧ R (.returned (.int .i64 n7)) w'2)

set_option maxRecDepth 100000 in
theorem third_eq (v0 : Int) (v1 : Int) (v2 : ByteArray) (w : World) (R : Ending → World → Prop) : third_T v0 v1 v2 w R = vcFn Tryd.prog [] [] Tryd.f81 [.agg #[.int .i64 v0, .int .i64 v1, .string v2]] w R := by kernel_rfl

set_option maxRecDepth 100000 in
theorem third_vc (v0 : Int) (v1 : Int) (v2 : ByteArray) (w : World) (R : Ending → World → Prop) (hvc : third_T v0 v1 v2 w R) : Calls Tryd.prog 81 #[.agg #[.int .i64 v0, .int .i64 v1, .string v2]] w R :=
  calls_of_vc (args := [.agg #[.int .i64 v0, .int .i64 v1, .string v2]]) [] [] Tryd.mixed Tryd.func81 (cast (third_eq _ _ _ w R) hvc)

set_option maxRecDepth 100000 in
def answer_T (n : Int) (w : World) (R : Ending → World → Prop) : Prop :=
  ∀ b1 w'2, New w (Obj.cells #[.int .i64 0, .int .i64 0, .string ⟨#[]⟩] 26) b1 w'2 → (n = 2 → (∃ u5, w'2.cell? ⟨b1, 0, none⟩ = some u5) ∧ w'2.frozen? ⟨b1, 0, none⟩ = false ∧ (∃ u6, w'2.cell? ⟨b1, 1, none⟩ = some u6) ∧ w'2.frozen? ⟨b1, 1, none⟩ = false ∧ (∃ u7, w'2.cell? ⟨b1, 2, none⟩ = some u7) ∧ w'2.frozen? ⟨b1, 2, none⟩ = false ∧ ∀ w'8, Put w'2 b1 0 [.int .i64 0, .int .i64 0, .string ⟨#[]⟩] w'8 → ∃ n10, w'8.cell? ⟨b1, 0, none⟩ = some (.int .i64 n10) ∧ ∃ n11, w'8.cell? ⟨b1, 1, none⟩ = some (.int .i64 n11) ∧ ∃ s12, w'8.cell? ⟨b1, 2, none⟩ = some (.string s12) ∧ R (.returned (.agg #[.int .i64 n10, .int .i64 n11, .string s12])) w'8) ∧ (n ≠ 2 → Calls Tryd.prog 79 #[.bool (decide (n = 1))] w'2 fun e14 w15 ↦
 ∃ n16, ∃ n17, ∃ s18, e14 = .returned (.agg #[.int .i64 n16, .int .i64 n17, .string s18]) ∧ (∃ u19, w15.cell? ⟨b1, 0, none⟩ = some u19) ∧ w15.frozen? ⟨b1, 0, none⟩ = false ∧ (∃ u20, w15.cell? ⟨b1, 1, none⟩ = some u20) ∧ w15.frozen? ⟨b1, 1, none⟩ = false ∧ (∃ u21, w15.cell? ⟨b1, 2, none⟩ = some u21) ∧ w15.frozen? ⟨b1, 2, none⟩ = false ∧ ∀ w'22, Put w15 b1 0 [.int .i64 n16, .int .i64 n17, .string s18] w'22 → ∃ n24, w'22.cell? ⟨b1, 0, none⟩ = some (.int .i64 n24) ∧ ∃ n25, w'22.cell? ⟨b1, 1, none⟩ = some (.int .i64 n25) ∧ ∃ s26, w'22.cell? ⟨b1, 2, none⟩ = some (.string s26) ∧ R (.returned (.agg #[.int .i64 n24, .int .i64 n25, .string s26])) w'22)

set_option maxRecDepth 100000 in
theorem answer_eq (n : Int) (w : World) (R : Ending → World → Prop) : answer_T n w R = vcFn Tryd.prog [] [] Tryd.f80 [.int .i64 n] w R := by kernel_rfl

set_option maxRecDepth 100000 in
theorem answer_vc (n : Int) (w : World) (R : Ending → World → Prop) (hvc : answer_T n w R) : Calls Tryd.prog 80 #[.int .i64 n] w R :=
  calls_of_vc (args := [.int .i64 n]) [] [] Tryd.mixed Tryd.func80 (cast (answer_eq _ w R) hvc)

set_option maxRecDepth 100000 in
def xpair_T (op : Int) (a0 : Int) (a1 : Int) (a2 : ByteArray) (b0 : Int) (b1 : Int) (b2 : ByteArray) (w : World) (R : Ending → World → Prop) : Prop :=
  ∀ b1_1 w'2, New w (Obj.cells #[.int .i64 a0, .int .i64 a1, .string a2] 26) b1_1 w'2 → ∀ b4 w'5, New w'2 (Obj.cells #[.int .i64 b0, .int .i64 b1, .string b2] 26) b4 w'5 → ∀ b7 w'8, New w'5 (Obj.cells #[.int .i64 0, .int .i64 0, .string ⟨#[]⟩] 26) b7 w'8 → (op = 12 → ∀ w'11, Drew w'8 w'11 → ∃ n13, w'11.cell? ⟨b1_1, 0, none⟩ = some (.int .i64 n13) ∧ ∃ n14, w'11.cell? ⟨b1_1, 1, none⟩ = some (.int .i64 n14) ∧ ∃ s15, w'11.cell? ⟨b1_1, 2, none⟩ = some (.string s15) ∧ ∃ n16, w'11.cell? ⟨b4, 0, none⟩ = some (.int .i64 n16) ∧ ∃ n17, w'11.cell? ⟨b4, 1, none⟩ = some (.int .i64 n17) ∧ ∃ s18, w'11.cell? ⟨b4, 2, none⟩ = some (.string s18) ∧ Calls Tryd.prog 81 #[.agg #[.int .i64 n13, .int .i64 n14, .string s15]] w'11 fun e19 w20 ↦
 ∃ n21, e19 = .returned (.int .i64 n21) ∧ SameTo (some [b4, b1_1]) w'11 w'11 w20 ∧ 0 ≤ n21 ∧ n21 < 3 ∧ Calls Tryd.prog 81 #[.agg #[.int .i64 n16, .int .i64 n17, .string s18]] w20 fun e22 w23 ↦
 ∃ n24, e22 = .returned (.int .i64 n24) ∧ 0 ≤ n24 ∧ n24 < 3 ∧ ∃ n25, w23.cell? ⟨1, (0 + n21.toNat * 3 + n24.toNat), none⟩ = some (.int .i64 n25) ∧ Calls Tryd.prog 80 #[.int .i64 n25] w23 fun e26 w27 ↦
 ∃ n28, ∃ n29, ∃ s30, e26 = .returned (.agg #[.int .i64 n28, .int .i64 n29, .string s30]) ∧ (∃ u31, w27.cell? ⟨b7, 0, none⟩ = some u31) ∧ w27.frozen? ⟨b7, 0, none⟩ = false ∧ (∃ u32, w27.cell? ⟨b7, 1, none⟩ = some u32) ∧ w27.frozen? ⟨b7, 1, none⟩ = false ∧ (∃ u33, w27.cell? ⟨b7, 2, none⟩ = some u33) ∧ w27.frozen? ⟨b7, 2, none⟩ = false ∧ ∀ w'34, Put w27 b7 0 [.int .i64 n28, .int .i64 n29, .string s30] w'34 → ∃ n36, w'34.cell? ⟨b7, 0, none⟩ = some (.int .i64 n36) ∧ ∃ n37, w'34.cell? ⟨b7, 1, none⟩ = some (.int .i64 n37) ∧ ∃ s38, w'34.cell? ⟨b7, 2, none⟩ = some (.string s38) ∧ R (.returned (.tuple #[.agg #[.int .i64 n36, .int .i64 n37, .string s38], .int .i64 0])) w'34) ∧ (op ≠ 12 → (op = 13 → ∀ w'41, Drew w'8 w'41 → ∃ n43, w'41.cell? ⟨b1_1, 0, none⟩ = some (.int .i64 n43) ∧ ∃ n44, w'41.cell? ⟨b1_1, 1, none⟩ = some (.int .i64 n44) ∧ ∃ s45, w'41.cell? ⟨b1_1, 2, none⟩ = some (.string s45) ∧ ∃ n46, w'41.cell? ⟨b4, 0, none⟩ = some (.int .i64 n46) ∧ ∃ n47, w'41.cell? ⟨b4, 1, none⟩ = some (.int .i64 n47) ∧ ∃ s48, w'41.cell? ⟨b4, 2, none⟩ = some (.string s48) ∧ Calls Tryd.prog 81 #[.agg #[.int .i64 n43, .int .i64 n44, .string s45]] w'41 fun e49 w50 ↦
 ∃ n51, e49 = .returned (.int .i64 n51) ∧ SameTo (some [b4, b1_1]) w'41 w'41 w50 ∧ 0 ≤ n51 ∧ n51 < 3 ∧ Calls Tryd.prog 81 #[.agg #[.int .i64 n46, .int .i64 n47, .string s48]] w50 fun e52 w53 ↦
 ∃ n54, e52 = .returned (.int .i64 n54) ∧ 0 ≤ n54 ∧ n54 < 3 ∧ ∃ n55, w53.cell? ⟨2, (0 + n51.toNat * 3 + n54.toNat), none⟩ = some (.int .i64 n55) ∧ Calls Tryd.prog 80 #[.int .i64 n55] w53 fun e56 w57 ↦
 ∃ n58, ∃ n59, ∃ s60, e56 = .returned (.agg #[.int .i64 n58, .int .i64 n59, .string s60]) ∧ (∃ u61, w57.cell? ⟨b7, 0, none⟩ = some u61) ∧ w57.frozen? ⟨b7, 0, none⟩ = false ∧ (∃ u62, w57.cell? ⟨b7, 1, none⟩ = some u62) ∧ w57.frozen? ⟨b7, 1, none⟩ = false ∧ (∃ u63, w57.cell? ⟨b7, 2, none⟩ = some u63) ∧ w57.frozen? ⟨b7, 2, none⟩ = false ∧ ∀ w'64, Put w57 b7 0 [.int .i64 n58, .int .i64 n59, .string s60] w'64 → ∃ n66, w'64.cell? ⟨b7, 0, none⟩ = some (.int .i64 n66) ∧ ∃ n67, w'64.cell? ⟨b7, 1, none⟩ = some (.int .i64 n67) ∧ ∃ s68, w'64.cell? ⟨b7, 2, none⟩ = some (.string s68) ∧ R (.returned (.tuple #[.agg #[.int .i64 n66, .int .i64 n67, .string s68], .int .i64 0])) w'64) ∧ (op ≠ 13 → ∃ n70, w'8.cell? ⟨b1_1, 0, none⟩ = some (.int .i64 n70) ∧ (n70 = 0 → (∃ u72, w'8.cell? ⟨b7, 0, none⟩ = some u72) ∧ w'8.frozen? ⟨b7, 0, none⟩ = false ∧ (∃ u73, w'8.cell? ⟨b7, 1, none⟩ = some u73) ∧ w'8.frozen? ⟨b7, 1, none⟩ = false ∧ (∃ u74, w'8.cell? ⟨b7, 2, none⟩ = some u74) ∧ w'8.frozen? ⟨b7, 2, none⟩ = false ∧ ∀ w'75, Put w'8 b7 0 [.int .i64 0, .int .i64 0, .string ⟨#[]⟩] w'75 → ∃ n77, w'75.cell? ⟨b7, 0, none⟩ = some (.int .i64 n77) ∧ ∃ n78, w'75.cell? ⟨b7, 1, none⟩ = some (.int .i64 n78) ∧ ∃ s79, w'75.cell? ⟨b7, 2, none⟩ = some (.string s79) ∧ R (.returned (.tuple #[.agg #[.int .i64 n77, .int .i64 n78, .string s79], .int .i64 0])) w'75) ∧ (n70 ≠ 0 → ∃ n81, w'8.cell? ⟨b4, 0, none⟩ = some (.int .i64 n81) ∧ (n81 = 0 → (∃ u83, w'8.cell? ⟨b7, 0, none⟩ = some u83) ∧ w'8.frozen? ⟨b7, 0, none⟩ = false ∧ (∃ u84, w'8.cell? ⟨b7, 1, none⟩ = some u84) ∧ w'8.frozen? ⟨b7, 1, none⟩ = false ∧ (∃ u85, w'8.cell? ⟨b7, 2, none⟩ = some u85) ∧ w'8.frozen? ⟨b7, 2, none⟩ = false ∧ ∀ w'86, Put w'8 b7 0 [.int .i64 0, .int .i64 0, .string ⟨#[]⟩] w'86 → ∃ n88, w'86.cell? ⟨b7, 0, none⟩ = some (.int .i64 n88) ∧ ∃ n89, w'86.cell? ⟨b7, 1, none⟩ = some (.int .i64 n89) ∧ ∃ s90, w'86.cell? ⟨b7, 2, none⟩ = some (.string s90) ∧ R (.returned (.tuple #[.agg #[.int .i64 n88, .int .i64 n89, .string s90], .int .i64 0])) w'86) ∧ (n81 ≠ 0 → ∃ n92, w'8.cell? ⟨b1_1, 0, none⟩ = some (.int .i64 n92) ∧ ∃ n93, w'8.cell? ⟨b1_1, 1, none⟩ = some (.int .i64 n93) ∧ ∃ s94, w'8.cell? ⟨b1_1, 2, none⟩ = some (.string s94) ∧ ∃ n95, w'8.cell? ⟨b4, 0, none⟩ = some (.int .i64 n95) ∧ ∃ n96, w'8.cell? ⟨b4, 1, none⟩ = some (.int .i64 n96) ∧ ∃ s97, w'8.cell? ⟨b4, 2, none⟩ = some (.string s97) ∧ Calls Tryd.prog 82
 #[.agg #[.int .i64 n92, .int .i64 n93, .string s94], .agg #[.int .i64 n95, .int .i64 n96, .string s97]]
 w'8 fun e98 w99 ↦
 ∃ n100, e98 = .returned (.int .i64 n100) ∧ (op = 9 → Calls Tryd.prog 79 #[.bool (decide (n100 = 0))] w99 fun e102 w103 ↦
 ∃ n104, ∃ n105, ∃ s106, e102 = .returned (.agg #[.int .i64 n104, .int .i64 n105, .string s106]) ∧ (∃ u107, w103.cell? ⟨b7, 0, none⟩ = some u107) ∧ w103.frozen? ⟨b7, 0, none⟩ = false ∧ (∃ u108, w103.cell? ⟨b7, 1, none⟩ = some u108) ∧ w103.frozen? ⟨b7, 1, none⟩ = false ∧ (∃ u109, w103.cell? ⟨b7, 2, none⟩ = some u109) ∧ w103.frozen? ⟨b7, 2, none⟩ = false ∧ ∀ w'110, Put w103 b7 0 [.int .i64 n104, .int .i64 n105, .string s106] w'110 → ∃ n112, w'110.cell? ⟨b7, 0, none⟩ = some (.int .i64 n112) ∧ ∃ n113, w'110.cell? ⟨b7, 1, none⟩ = some (.int .i64 n113) ∧ ∃ s114, w'110.cell? ⟨b7, 2, none⟩ = some (.string s114) ∧ R (.returned (.tuple #[.agg #[.int .i64 n112, .int .i64 n113, .string s114], .int .i64 0])) w'110) ∧ (op ≠ 9 → (op = 10 → Calls Tryd.prog 79 #[.bool (decide (n100 < 0))] w99 fun e117 w118 ↦
 ∃ n119, ∃ n120, ∃ s121, e117 = .returned (.agg #[.int .i64 n119, .int .i64 n120, .string s121]) ∧ (∃ u122, w118.cell? ⟨b7, 0, none⟩ = some u122) ∧ w118.frozen? ⟨b7, 0, none⟩ = false ∧ (∃ u123, w118.cell? ⟨b7, 1, none⟩ = some u123) ∧ w118.frozen? ⟨b7, 1, none⟩ = false ∧ (∃ u124, w118.cell? ⟨b7, 2, none⟩ = some u124) ∧ w118.frozen? ⟨b7, 2, none⟩ = false ∧ ∀ w'125, Put w118 b7 0 [.int .i64 n119, .int .i64 n120, .string s121] w'125 → ∃ n127, w'125.cell? ⟨b7, 0, none⟩ = some (.int .i64 n127) ∧ ∃ n128, w'125.cell? ⟨b7, 1, none⟩ = some (.int .i64 n128) ∧ ∃ s129, w'125.cell? ⟨b7, 2, none⟩ = some (.string s129) ∧ R (.returned (.tuple #[.agg #[.int .i64 n127, .int .i64 n128, .string s129], .int .i64 0])) w'125) ∧ (op ≠ 10 → (op = 11 → Calls Tryd.prog 79 #[.bool (decide (n100 ≤ 0))] w99 fun e132 w133 ↦
 ∃ n134, ∃ n135, ∃ s136, e132 = .returned (.agg #[.int .i64 n134, .int .i64 n135, .string s136]) ∧ (∃ u137, w133.cell? ⟨b7, 0, none⟩ = some u137) ∧ w133.frozen? ⟨b7, 0, none⟩ = false ∧ (∃ u138, w133.cell? ⟨b7, 1, none⟩ = some u138) ∧ w133.frozen? ⟨b7, 1, none⟩ = false ∧ (∃ u139, w133.cell? ⟨b7, 2, none⟩ = some u139) ∧ w133.frozen? ⟨b7, 2, none⟩ = false ∧ ∀ w'140, Put w133 b7 0 [.int .i64 n134, .int .i64 n135, .string s136] w'140 → ∃ n142, w'140.cell? ⟨b7, 0, none⟩ = some (.int .i64 n142) ∧ ∃ n143, w'140.cell? ⟨b7, 1, none⟩ = some (.int .i64 n143) ∧ ∃ s144, w'140.cell? ⟨b7, 2, none⟩ = some (.string s144) ∧ R (.returned (.tuple #[.agg #[.int .i64 n142, .int .i64 n143, .string s144], .int .i64 0])) w'140) ∧ (op ≠ 11 → ∃ n146, w99.cell? ⟨b1_1, 1, none⟩ = some (.int .i64 n146) ∧ ∃ n147, w99.cell? ⟨b4, 1, none⟩ = some (.int .i64 n147) ∧ Calls Tryd.prog 83 #[.int .i64 op, .int .i64 n146, .int .i64 n147] w99 fun e148 w149 ↦
 ∃ n150, ∃ n151, e148 = .returned (.tuple #[.int .i64 n150, .int .i64 n151]) ∧ (n151 ≠ 0 → (∃ u153, w149.cell? ⟨b7, 0, none⟩ = some u153) ∧ w149.frozen? ⟨b7, 0, none⟩ = false ∧ (∃ u154, w149.cell? ⟨b7, 1, none⟩ = some u154) ∧ w149.frozen? ⟨b7, 1, none⟩ = false ∧ (∃ u155, w149.cell? ⟨b7, 2, none⟩ = some u155) ∧ w149.frozen? ⟨b7, 2, none⟩ = false ∧ ∀ w'156, Put w149 b7 0 [.int .i64 0, .int .i64 0, .string ⟨#[]⟩] w'156 → ∃ n158, w'156.cell? ⟨b7, 0, none⟩ = some (.int .i64 n158) ∧ ∃ n159, w'156.cell? ⟨b7, 1, none⟩ = some (.int .i64 n159) ∧ ∃ s160, w'156.cell? ⟨b7, 2, none⟩ = some (.string s160) ∧ R (.returned (.tuple #[.agg #[.int .i64 n158, .int .i64 n159, .string s160], .int .i64 n151])) w'156) ∧ (n151 = 0 → (∃ u162, w149.cell? ⟨b7, 0, none⟩ = some u162) ∧ w149.frozen? ⟨b7, 0, none⟩ = false ∧ (∃ u163, w149.cell? ⟨b7, 1, none⟩ = some u163) ∧ w149.frozen? ⟨b7, 1, none⟩ = false ∧ (∃ u164, w149.cell? ⟨b7, 2, none⟩ = some u164) ∧ w149.frozen? ⟨b7, 2, none⟩ = false ∧ ∀ w'165, Put w149 b7 0 [.int .i64 1, .int .i64 n150, .string ⟨#[]⟩] w'165 → ∃ n167, w'165.cell? ⟨b7, 0, none⟩ = some (.int .i64 n167) ∧ ∃ n168, w'165.cell? ⟨b7, 1, none⟩ = some (.int .i64 n168) ∧ ∃ s169, w'165.cell? ⟨b7, 2, none⟩ = some (.string s169) ∧ R (.returned (.tuple #[.agg #[.int .i64 n167, .int .i64 n168, .string s169], .int .i64 0])) w'165))))))))

set_option maxRecDepth 100000 in
theorem xpair_eq (op : Int) (a0 : Int) (a1 : Int) (a2 : ByteArray) (b0 : Int) (b1 : Int) (b2 : ByteArray) (w : World) (R : Ending → World → Prop) : xpair_T op a0 a1 a2 b0 b1 b2 w R = vcFn Tryd.prog [] [(2, [2, 6, 5, 10, 8, 12, 14, 16, 18, 20, 0]), (4, [2, 6, 5, 10, 8, 12, 14, 16, 18, 20, 0])] Tryd.f63 [.int .i64 op, .agg #[.int .i64 a0, .int .i64 a1, .string a2], .agg #[.int .i64 b0, .int .i64 b1, .string b2]] w R := by kernel_rfl

set_option maxRecDepth 100000 in
theorem xpair_vc (op : Int) (a0 : Int) (a1 : Int) (a2 : ByteArray) (b0 : Int) (b1 : Int) (b2 : ByteArray) (w : World) (R : Ending → World → Prop) (hvc : xpair_T op a0 a1 a2 b0 b1 b2 w R) : Calls Tryd.prog 63 #[.int .i64 op, .agg #[.int .i64 a0, .int .i64 a1, .string a2], .agg #[.int .i64 b0, .int .i64 b1, .string b2]] w R :=
  calls_of_vc (args := [.int .i64 op, .agg #[.int .i64 a0, .int .i64 a1, .string a2], .agg #[.int .i64 b0, .int .i64 b1, .string b2]]) [] [(2, [2, 6, 5, 10, 8, 12, 14, 16, 18, 20, 0]), (4, [2, 6, 5, 10, 8, 12, 14, 16, 18, 20, 0])] Tryd.mixed Tryd.func63 (cast (xpair_eq _ _ _ _ _ _ _ w R) hvc)

set_option maxRecDepth 100000 in
def xsingle_T (op : Int) (v0 : Int) (v1 : Int) (v2 : ByteArray) (w : World) (R : Ending → World → Prop) : Prop :=
  ∀ b1 w'2, New w (Obj.cells #[.int .i64 v0, .int .i64 v1, .string v2] 26) b1 w'2 → ∀ b4 w'5, New w'2 (Obj.cells #[.int .i64 0, .int .i64 0, .string ⟨#[]⟩] 26) b4 w'5 → (op = 15 → ∃ n8, w'5.cell? ⟨b1, 0, none⟩ = some (.int .i64 n8) ∧ Calls Tryd.prog 79 #[.bool (decide (n8 = 0))] w'5 fun e9 w10 ↦
 ∃ n11, ∃ n12, ∃ s13, e9 = .returned (.agg #[.int .i64 n11, .int .i64 n12, .string s13]) ∧ (∃ u14, w10.cell? ⟨b4, 0, none⟩ = some u14) ∧ w10.frozen? ⟨b4, 0, none⟩ = false ∧ (∃ u15, w10.cell? ⟨b4, 1, none⟩ = some u15) ∧ w10.frozen? ⟨b4, 1, none⟩ = false ∧ (∃ u16, w10.cell? ⟨b4, 2, none⟩ = some u16) ∧ w10.frozen? ⟨b4, 2, none⟩ = false ∧ ∀ w'17, Put w10 b4 0 [.int .i64 n11, .int .i64 n12, .string s13] w'17 → ∃ n19, w'17.cell? ⟨b4, 0, none⟩ = some (.int .i64 n19) ∧ ∃ n20, w'17.cell? ⟨b4, 1, none⟩ = some (.int .i64 n20) ∧ ∃ s21, w'17.cell? ⟨b4, 2, none⟩ = some (.string s21) ∧ R (.returned (.tuple #[.agg #[.int .i64 n19, .int .i64 n20, .string s21], .int .i64 0])) w'17) ∧ (op ≠ 15 → ∃ n23, w'5.cell? ⟨b1, 0, none⟩ = some (.int .i64 n23) ∧ (n23 = 0 → ∃ n25, w'5.cell? ⟨b1, 0, none⟩ = some (.int .i64 n25) ∧ ∃ n26, w'5.cell? ⟨b1, 1, none⟩ = some (.int .i64 n26) ∧ ∃ s27, w'5.cell? ⟨b1, 2, none⟩ = some (.string s27) ∧ (∃ u28, w'5.cell? ⟨b4, 0, none⟩ = some u28) ∧ w'5.frozen? ⟨b4, 0, none⟩ = false ∧ (∃ u29, w'5.cell? ⟨b4, 1, none⟩ = some u29) ∧ w'5.frozen? ⟨b4, 1, none⟩ = false ∧ (∃ u30, w'5.cell? ⟨b4, 2, none⟩ = some u30) ∧ w'5.frozen? ⟨b4, 2, none⟩ = false ∧ ∀ w'31, Put w'5 b4 0 [.int .i64 n25, .int .i64 n26, .string s27] w'31 → ∃ n33, w'31.cell? ⟨b4, 0, none⟩ = some (.int .i64 n33) ∧ ∃ n34, w'31.cell? ⟨b4, 1, none⟩ = some (.int .i64 n34) ∧ ∃ s35, w'31.cell? ⟨b4, 2, none⟩ = some (.string s35) ∧ R (.returned (.tuple #[.agg #[.int .i64 n33, .int .i64 n34, .string s35], .int .i64 0])) w'31) ∧ (n23 ≠ 0 → (op = 14 → ∃ n38, w'5.cell? ⟨b1, 1, none⟩ = some (.int .i64 n38) ∧ Calls Tryd.prog 79 #[.bool (decide (n38 = 0))] w'5 fun e39 w40 ↦
 ∃ n41, ∃ n42, ∃ s43, e39 = .returned (.agg #[.int .i64 n41, .int .i64 n42, .string s43]) ∧ (∃ u44, w40.cell? ⟨b4, 0, none⟩ = some u44) ∧ w40.frozen? ⟨b4, 0, none⟩ = false ∧ (∃ u45, w40.cell? ⟨b4, 1, none⟩ = some u45) ∧ w40.frozen? ⟨b4, 1, none⟩ = false ∧ (∃ u46, w40.cell? ⟨b4, 2, none⟩ = some u46) ∧ w40.frozen? ⟨b4, 2, none⟩ = false ∧ ∀ w'47, Put w40 b4 0 [.int .i64 n41, .int .i64 n42, .string s43] w'47 → ∃ n49, w'47.cell? ⟨b4, 0, none⟩ = some (.int .i64 n49) ∧ ∃ n50, w'47.cell? ⟨b4, 1, none⟩ = some (.int .i64 n50) ∧ ∃ s51, w'47.cell? ⟨b4, 2, none⟩ = some (.string s51) ∧ R (.returned (.tuple #[.agg #[.int .i64 n49, .int .i64 n50, .string s51], .int .i64 0])) w'47) ∧ (op ≠ 14 → (op = 16 → ∃ s54, w'5.cell? ⟨b1, 2, none⟩ = some (.string s54) ∧ (∃ u55, w'5.cell? ⟨b4, 0, none⟩ = some u55) ∧ w'5.frozen? ⟨b4, 0, none⟩ = false ∧ (∃ u56, w'5.cell? ⟨b4, 1, none⟩ = some u56) ∧ w'5.frozen? ⟨b4, 1, none⟩ = false ∧ (∃ u57, w'5.cell? ⟨b4, 2, none⟩ = some u57) ∧ w'5.frozen? ⟨b4, 2, none⟩ = false ∧ ∀ w'58, Put w'5 b4 0 [.int .i64 1, .int .i64 (↑s54.size : Int), .string ⟨#[]⟩] w'58 → ∃ n60, w'58.cell? ⟨b4, 0, none⟩ = some (.int .i64 n60) ∧ ∃ n61, w'58.cell? ⟨b4, 1, none⟩ = some (.int .i64 n61) ∧ ∃ s62, w'58.cell? ⟨b4, 2, none⟩ = some (.string s62) ∧ R (.returned (.tuple #[.agg #[.int .i64 n60, .int .i64 n61, .string s62], .int .i64 0])) w'58) ∧ (op ≠ 16 → ∃ n64, w'5.cell? ⟨b1, 0, none⟩ = some (.int .i64 n64) ∧ ∃ n65, w'5.cell? ⟨b1, 1, none⟩ = some (.int .i64 n65) ∧ ∃ s66, w'5.cell? ⟨b1, 2, none⟩ = some (.string s66) ∧ Calls Tryd.prog 63
 #[.int .i64 4, .agg #[.int .i64 1, .int .i64 0, .string ⟨#[]⟩], .agg #[.int .i64 n64, .int .i64 n65, .string s66]]
 w'5 fun e67 w68 ↦
 ∃ n69, ∃ n70, ∃ s71, ∃ n72, e67 = .returned (.tuple #[.agg #[.int .i64 n69, .int .i64 n70, .string s71], .int .i64 n72]) ∧ (∃ u73, w68.cell? ⟨b4, 0, none⟩ = some u73) ∧ w68.frozen? ⟨b4, 0, none⟩ = false ∧ (∃ u74, w68.cell? ⟨b4, 1, none⟩ = some u74) ∧ w68.frozen? ⟨b4, 1, none⟩ = false ∧ (∃ u75, w68.cell? ⟨b4, 2, none⟩ = some u75) ∧ w68.frozen? ⟨b4, 2, none⟩ = false ∧ ∀ w'76, Put w68 b4 0 [.int .i64 n69, .int .i64 n70, .string s71] w'76 → ∃ n78, w'76.cell? ⟨b4, 0, none⟩ = some (.int .i64 n78) ∧ ∃ n79, w'76.cell? ⟨b4, 1, none⟩ = some (.int .i64 n79) ∧ ∃ s80, w'76.cell? ⟨b4, 2, none⟩ = some (.string s80) ∧ R (.returned (.tuple #[.agg #[.int .i64 n78, .int .i64 n79, .string s80], .int .i64 n72])) w'76))))

set_option maxRecDepth 100000 in
theorem xsingle_eq (op : Int) (v0 : Int) (v1 : Int) (v2 : ByteArray) (w : World) (R : Ending → World → Prop) : xsingle_T op v0 v1 v2 w R = vcFn Tryd.prog [] [] Tryd.f62 [.int .i64 op, .agg #[.int .i64 v0, .int .i64 v1, .string v2]] w R := by kernel_rfl

set_option maxRecDepth 100000 in
theorem xsingle_vc (op : Int) (v0 : Int) (v1 : Int) (v2 : ByteArray) (w : World) (R : Ending → World → Prop) (hvc : xsingle_T op v0 v1 v2 w R) : Calls Tryd.prog 62 #[.int .i64 op, .agg #[.int .i64 v0, .int .i64 v1, .string v2]] w R :=
  calls_of_vc (args := [.int .i64 op, .agg #[.int .i64 v0, .int .i64 v1, .string v2]]) [] [] Tryd.mixed Tryd.func62 (cast (xsingle_eq _ _ _ _ w R) hvc)

set_option maxRecDepth 100000 in
def xeval_T (cols_p : Option Addr) (cols_n : Nat) (cols_c : Nat) (row_p : Option Addr) (row_n : Nat) (row_c : Nat) (x0 : Int) (x1 : ByteArray) (x2 : Int) (x3 : Int) (x4 : ByteArray) (x5_p : Option Addr) (x5_n : Nat) (x5_c : Nat) (w : World) (R : Ending → World → Prop) : Prop :=
  ∀ b1 w'2, New w (Obj.cells #[.int .i64 x0, .string x1, .int .i64 x2, .int .i64 x3, .string x4, .slice x5_p x5_n x5_c] 29) b1
 w'2 → ∀ b4 w'5, New w'2 (Obj.cells #[.int .i64 0, .int .i64 0, .string ⟨#[]⟩] 26) b4 w'5 → ∀ b7 w'8, New w'5
 (Obj.cells
 #[.int .i64 0, .int .i64 0, .string ⟨#[]⟩, .int .i64 0, .int .i64 0, .string ⟨#[]⟩]
 95)
 b7 w'8 → ∃ p10 n11 c12, w'8.cell? ⟨b1, 5, none⟩ = some (.slice p10 n11 c12) ∧ ∃ (I13 : Int → World → Prop), ∃ (M14 : Int → World → Nat), I13 0 w'8 ∧ ∀ (n15 : Int) (w'16 : World), I13 n15 w'16 → (n15 < (↑n11 : Int) → ∃ b19, ∃ o20, p10 = some ⟨b19, o20, none⟩ ∧ 0 ≤ n15 ∧ n15 < (↑n11 : Int) ∧ ∃ n21, w'16.cell? ⟨b19, (o20 + n15.toNat * 6), none⟩ = some (.int .i64 n21) ∧ ∃ s22, w'16.cell? ⟨b19, (o20 + n15.toNat * 6 + 1), none⟩ = some (.string s22) ∧ ∃ n23, w'16.cell? ⟨b19, (o20 + n15.toNat * 6 + 2), none⟩ = some (.int .i64 n23) ∧ ∃ n24, w'16.cell? ⟨b19, (o20 + n15.toNat * 6 + 3), none⟩ = some (.int .i64 n24) ∧ ∃ s25, w'16.cell? ⟨b19, (o20 + n15.toNat * 6 + 4), none⟩ = some (.string s25) ∧ ∃ p26 n27 c28, w'16.cell? ⟨b19, (o20 + n15.toNat * 6 + 5), none⟩ = some (.slice p26 n27 c28) ∧ ∀ b29 w'30, New w'16
 (Obj.cells
 #[.int .i64 0, .string ⟨#[]⟩, .int .i64 0, .int .i64 0, .string ⟨#[]⟩, .slice none 0 0] 29)
 b29 w'30 → (∃ u32, w'30.cell? ⟨b29, 0, none⟩ = some u32) ∧ w'30.frozen? ⟨b29, 0, none⟩ = false ∧ (∃ u33, w'30.cell? ⟨b29, 1, none⟩ = some u33) ∧ w'30.frozen? ⟨b29, 1, none⟩ = false ∧ (∃ u34, w'30.cell? ⟨b29, 2, none⟩ = some u34) ∧ w'30.frozen? ⟨b29, 2, none⟩ = false ∧ (∃ u35, w'30.cell? ⟨b29, 3, none⟩ = some u35) ∧ w'30.frozen? ⟨b29, 3, none⟩ = false ∧ (∃ u36, w'30.cell? ⟨b29, 4, none⟩ = some u36) ∧ w'30.frozen? ⟨b29, 4, none⟩ = false ∧ (∃ u37, w'30.cell? ⟨b29, 5, none⟩ = some u37) ∧ w'30.frozen? ⟨b29, 5, none⟩ = false ∧ ∀ w'38, Put w'30 b29 0 [.int .i64 n21, .string s22, .int .i64 n23, .int .i64 n24, .string s25, .slice p26 n27 c28] w'38 → ∃ n40, w'38.cell? ⟨b29, 0, none⟩ = some (.int .i64 n40) ∧ ∃ s41, w'38.cell? ⟨b29, 1, none⟩ = some (.string s41) ∧ ∃ n42, w'38.cell? ⟨b29, 2, none⟩ = some (.int .i64 n42) ∧ ∃ n43, w'38.cell? ⟨b29, 3, none⟩ = some (.int .i64 n43) ∧ ∃ s44, w'38.cell? ⟨b29, 4, none⟩ = some (.string s44) ∧ ∃ p45 n46 c47, w'38.cell? ⟨b29, 5, none⟩ = some (.slice p45 n46 c47) ∧ Calls Tryd.prog 39
 #[.slice cols_p cols_n cols_c, .slice row_p row_n row_c, .agg #[.int .i64 n40, .string s41, .int .i64 n42, .int .i64 n43, .string s44, .slice p45 n46 c47]]
 w'38 fun e48 w49 ↦
 ∃ n50, ∃ n51, ∃ s52, ∃ n53, e48 = .returned (.tuple #[.agg #[.int .i64 n50, .int .i64 n51, .string s52], .int .i64 n53]) ∧ ∀ b54 w'55, New w49 (Obj.cells #[.int .i64 0, .int .i64 0, .string ⟨#[]⟩] 26) b54 w'55 → (∃ u57, w'55.cell? ⟨b54, 0, none⟩ = some u57) ∧ w'55.frozen? ⟨b54, 0, none⟩ = false ∧ (∃ u58, w'55.cell? ⟨b54, 1, none⟩ = some u58) ∧ w'55.frozen? ⟨b54, 1, none⟩ = false ∧ (∃ u59, w'55.cell? ⟨b54, 2, none⟩ = some u59) ∧ w'55.frozen? ⟨b54, 2, none⟩ = false ∧ ∀ w'60, Put w'55 b54 0 [.int .i64 n50, .int .i64 n51, .string s52] w'60 → (n53 ≠ 0 → (∃ u63, w'60.cell? ⟨b4, 0, none⟩ = some u63) ∧ w'60.frozen? ⟨b4, 0, none⟩ = false ∧ (∃ u64, w'60.cell? ⟨b4, 1, none⟩ = some u64) ∧ w'60.frozen? ⟨b4, 1, none⟩ = false ∧ (∃ u65, w'60.cell? ⟨b4, 2, none⟩ = some u65) ∧ w'60.frozen? ⟨b4, 2, none⟩ = false ∧ ∀ w'66, Put w'60 b4 0 [.int .i64 0, .int .i64 0, .string ⟨#[]⟩] w'66 → ∃ n68, w'66.cell? ⟨b4, 0, none⟩ = some (.int .i64 n68) ∧ ∃ n69, w'66.cell? ⟨b4, 1, none⟩ = some (.int .i64 n69) ∧ ∃ s70, w'66.cell? ⟨b4, 2, none⟩ = some (.string s70) ∧ R (.returned (.tuple #[.agg #[.int .i64 n68, .int .i64 n69, .string s70], .int .i64 n53])) w'66) ∧ (n53 = 0 → ∃ n72, w'60.cell? ⟨b54, 0, none⟩ = some (.int .i64 n72) ∧ ∃ n73, w'60.cell? ⟨b54, 1, none⟩ = some (.int .i64 n73) ∧ ∃ s74, w'60.cell? ⟨b54, 2, none⟩ = some (.string s74) ∧ 0 ≤ n15 ∧ n15 < 2 ∧ (∃ u75, w'60.cell? ⟨b7, (0 + n15.toNat * 3), none⟩ = some u75) ∧ w'60.frozen? ⟨b7, (0 + n15.toNat * 3), none⟩ = false ∧ (∃ u76, w'60.cell? ⟨b7, (0 + n15.toNat * 3 + 1), none⟩ = some u76) ∧ w'60.frozen? ⟨b7, (0 + n15.toNat * 3 + 1), none⟩ = false ∧ (∃ u77, w'60.cell? ⟨b7, (0 + n15.toNat * 3 + 2), none⟩ = some u77) ∧ w'60.frozen? ⟨b7, (0 + n15.toNat * 3 + 2), none⟩ = false ∧ ∀ w'78, Put w'60 b7 (0 + n15.toNat * 3) [.int .i64 n72, .int .i64 n73, .string s74] w'78 → I13 (IntKind.i64.wrap (n15 + 1)) w'78 ∧ M14 (IntKind.i64.wrap (n15 + 1)) w'78 < M14 n15 w'16)) ∧ ((↑n11 : Int) ≤ n15 → ∃ n81, w'16.cell? ⟨b1, 0, none⟩ = some (.int .i64 n81) ∧ (n81 = 1 → ∃ s83, w'16.cell? ⟨b1, 1, none⟩ = some (.string s83) ∧ Calls Tryd.prog 43 #[.slice cols_p cols_n cols_c, .string s83] w'16 fun e84 w85 ↦
 ∃ n86, e84 = .returned (.int .i64 n86) ∧ ∃ b87, ∃ o88, row_p = some ⟨b87, o88, none⟩ ∧ 0 ≤ n86 ∧ n86 < (↑row_n : Int) ∧ ∃ n89, w85.cell? ⟨b87, (o88 + n86.toNat * 3), none⟩ = some (.int .i64 n89) ∧ ∃ n90, w85.cell? ⟨b87, (o88 + n86.toNat * 3 + 1), none⟩ = some (.int .i64 n90) ∧ ∃ s91, w85.cell? ⟨b87, (o88 + n86.toNat * 3 + 2), none⟩ = some (.string s91) ∧ (∃ u92, w85.cell? ⟨b4, 0, none⟩ = some u92) ∧ w85.frozen? ⟨b4, 0, none⟩ = false ∧ (∃ u93, w85.cell? ⟨b4, 1, none⟩ = some u93) ∧ w85.frozen? ⟨b4, 1, none⟩ = false ∧ (∃ u94, w85.cell? ⟨b4, 2, none⟩ = some u94) ∧ w85.frozen? ⟨b4, 2, none⟩ = false ∧ ∀ w'95, Put w85 b4 0 [.int .i64 n89, .int .i64 n90, .string s91] w'95 → ∃ n97, w'95.cell? ⟨b4, 0, none⟩ = some (.int .i64 n97) ∧ ∃ n98, w'95.cell? ⟨b4, 1, none⟩ = some (.int .i64 n98) ∧ ∃ s99, w'95.cell? ⟨b4, 2, none⟩ = some (.string s99) ∧ R (.returned (.tuple #[.agg #[.int .i64 n97, .int .i64 n98, .string s99], .int .i64 0])) w'95) ∧ (n81 ≠ 1 → ∃ n101, w'16.cell? ⟨b1, 0, none⟩ = some (.int .i64 n101) ∧ (n101 = 2 → ∃ n103, w'16.cell? ⟨b1, 2, none⟩ = some (.int .i64 n103) ∧ ∃ n104, w'16.cell? ⟨b1, 3, none⟩ = some (.int .i64 n104) ∧ ∃ s105, w'16.cell? ⟨b1, 4, none⟩ = some (.string s105) ∧ (∃ u106, w'16.cell? ⟨b4, 0, none⟩ = some u106) ∧ w'16.frozen? ⟨b4, 0, none⟩ = false ∧ (∃ u107, w'16.cell? ⟨b4, 1, none⟩ = some u107) ∧ w'16.frozen? ⟨b4, 1, none⟩ = false ∧ (∃ u108, w'16.cell? ⟨b4, 2, none⟩ = some u108) ∧ w'16.frozen? ⟨b4, 2, none⟩ = false ∧ ∀ w'109, Put w'16 b4 0 [.int .i64 n103, .int .i64 n104, .string s105] w'109 → ∃ n111, w'109.cell? ⟨b4, 0, none⟩ = some (.int .i64 n111) ∧ ∃ n112, w'109.cell? ⟨b4, 1, none⟩ = some (.int .i64 n112) ∧ ∃ s113, w'109.cell? ⟨b4, 2, none⟩ = some (.string s113) ∧ R (.returned (.tuple #[.agg #[.int .i64 n111, .int .i64 n112, .string s113], .int .i64 0])) w'109) ∧ (n101 ≠ 2 → ∃ p115 n116 c117, w'16.cell? ⟨b1, 5, none⟩ = some (.slice p115 n116 c117) ∧ ((↑n116 : Int) = 1 → ∃ n119, w'16.cell? ⟨b1, 0, none⟩ = some (.int .i64 n119) ∧ (0 : Int) ≤ 0 ∧ (0 : Int) < 2 ∧ ∃ n120, w'16.cell? ⟨b7, 0, none⟩ = some (.int .i64 n120) ∧ ∃ n121, w'16.cell? ⟨b7, 1, none⟩ = some (.int .i64 n121) ∧ ∃ s122, w'16.cell? ⟨b7, 2, none⟩ = some (.string s122) ∧ Calls Tryd.prog 62 #[.int .i64 n119, .agg #[.int .i64 n120, .int .i64 n121, .string s122]] w'16
 fun e123 w124 ↦
 ∃ n125, ∃ n126, ∃ s127, ∃ n128, e123 = .returned (.tuple #[.agg #[.int .i64 n125, .int .i64 n126, .string s127], .int .i64 n128]) ∧ (∃ u129, w124.cell? ⟨b4, 0, none⟩ = some u129) ∧ w124.frozen? ⟨b4, 0, none⟩ = false ∧ (∃ u130, w124.cell? ⟨b4, 1, none⟩ = some u130) ∧ w124.frozen? ⟨b4, 1, none⟩ = false ∧ (∃ u131, w124.cell? ⟨b4, 2, none⟩ = some u131) ∧ w124.frozen? ⟨b4, 2, none⟩ = false ∧ ∀ w'132, Put w124 b4 0 [.int .i64 n125, .int .i64 n126, .string s127] w'132 → ∃ n134, w'132.cell? ⟨b4, 0, none⟩ = some (.int .i64 n134) ∧ ∃ n135, w'132.cell? ⟨b4, 1, none⟩ = some (.int .i64 n135) ∧ ∃ s136, w'132.cell? ⟨b4, 2, none⟩ = some (.string s136) ∧ R (.returned (.tuple #[.agg #[.int .i64 n134, .int .i64 n135, .string s136], .int .i64 n128])) w'132) ∧ ((↑n116 : Int) ≠ 1 → ∃ n138, w'16.cell? ⟨b1, 0, none⟩ = some (.int .i64 n138) ∧ (0 : Int) ≤ 0 ∧ (0 : Int) < 2 ∧ ∃ n139, w'16.cell? ⟨b7, 0, none⟩ = some (.int .i64 n139) ∧ ∃ n140, w'16.cell? ⟨b7, 1, none⟩ = some (.int .i64 n140) ∧ ∃ s141, w'16.cell? ⟨b7, 2, none⟩ = some (.string s141) ∧ (0 : Int) ≤ 1 ∧ (1 : Int) < 2 ∧ ∃ n142, w'16.cell? ⟨b7, 3, none⟩ = some (.int .i64 n142) ∧ ∃ n143, w'16.cell? ⟨b7, 4, none⟩ = some (.int .i64 n143) ∧ ∃ s144, w'16.cell? ⟨b7, 5, none⟩ = some (.string s144) ∧ Calls Tryd.prog 63
 #[.int .i64 n138, .agg #[.int .i64 n139, .int .i64 n140, .string s141], .agg #[.int .i64 n142, .int .i64 n143, .string s144]]
 w'16 fun e145 w146 ↦
 ∃ n147, ∃ n148, ∃ s149, ∃ n150, e145 = .returned (.tuple #[.agg #[.int .i64 n147, .int .i64 n148, .string s149], .int .i64 n150]) ∧ (∃ u151, w146.cell? ⟨b4, 0, none⟩ = some u151) ∧ w146.frozen? ⟨b4, 0, none⟩ = false ∧ (∃ u152, w146.cell? ⟨b4, 1, none⟩ = some u152) ∧ w146.frozen? ⟨b4, 1, none⟩ = false ∧ (∃ u153, w146.cell? ⟨b4, 2, none⟩ = some u153) ∧ w146.frozen? ⟨b4, 2, none⟩ = false ∧ ∀ w'154, Put w146 b4 0 [.int .i64 n147, .int .i64 n148, .string s149] w'154 → ∃ n156, w'154.cell? ⟨b4, 0, none⟩ = some (.int .i64 n156) ∧ ∃ n157, w'154.cell? ⟨b4, 1, none⟩ = some (.int .i64 n157) ∧ ∃ s158, w'154.cell? ⟨b4, 2, none⟩ = some (.string s158) ∧ R (.returned (.tuple #[.agg #[.int .i64 n156, .int .i64 n157, .string s158], .int .i64 n150])) w'154))))

set_option maxRecDepth 100000 in
theorem xeval_eq (cols_p : Option Addr) (cols_n : Nat) (cols_c : Nat) (row_p : Option Addr) (row_n : Nat) (row_c : Nat) (x0 : Int) (x1 : ByteArray) (x2 : Int) (x3 : Int) (x4 : ByteArray) (x5_p : Option Addr) (x5_n : Nat) (x5_c : Nat) (w : World) (R : Ending → World → Prop) : xeval_T cols_p cols_n cols_c row_p row_n row_c x0 x1 x2 x3 x4 x5_p x5_n x5_c w R = vcFn Tryd.prog [] [] Tryd.f39 [.slice cols_p cols_n cols_c, .slice row_p row_n row_c, Value.agg
 #[.int .i64 x0, .string x1, .int .i64 x2, .int .i64 x3, .string x4, .slice x5_p x5_n x5_c]] w R := by kernel_rfl

set_option maxRecDepth 100000 in
theorem xeval_vc (cols_p : Option Addr) (cols_n : Nat) (cols_c : Nat) (row_p : Option Addr) (row_n : Nat) (row_c : Nat) (x0 : Int) (x1 : ByteArray) (x2 : Int) (x3 : Int) (x4 : ByteArray) (x5_p : Option Addr) (x5_n : Nat) (x5_c : Nat) (w : World) (R : Ending → World → Prop) (hvc : xeval_T cols_p cols_n cols_c row_p row_n row_c x0 x1 x2 x3 x4 x5_p x5_n x5_c w R) : Calls Tryd.prog 39 #[.slice cols_p cols_n cols_c, .slice row_p row_n row_c, Value.agg
 #[.int .i64 x0, .string x1, .int .i64 x2, .int .i64 x3, .string x4, .slice x5_p x5_n x5_c]] w R :=
  calls_of_vc (args := [.slice cols_p cols_n cols_c, .slice row_p row_n row_c, Value.agg
 #[.int .i64 x0, .string x1, .int .i64 x2, .int .i64 x3, .string x4, .slice x5_p x5_n x5_c]]) [] [] Tryd.mixed Tryd.func39 (cast (xeval_eq _ _ _ _ _ _ _ _ _ _ _ _ _ _ w R) hvc)

set_option maxRecDepth 100000 in
def xEval_T (cols_p : Option Addr) (cols_n : Nat) (cols_c : Nat) (row_p : Option Addr) (row_n : Nat) (row_c : Nat) (x0 : Int) (x1 : ByteArray) (x2 : Int) (x3 : Int) (x4 : ByteArray) (x5_p : Option Addr) (x5_n : Nat) (x5_c : Nat) (w : World) (R : Ending → World → Prop) : Prop :=
  ∀ b1 w'2, New w (Obj.cells #[.int .i64 x0, .string x1, .int .i64 x2, .int .i64 x3, .string x4, .slice x5_p x5_n x5_c] 29) b1
 w'2 → ∀ b4 w'5, New w'2 (Obj.cells #[.int .i64 0, .int .i64 0, .string ⟨#[]⟩] 26) b4 w'5 → ∃ n7, w'5.cell? ⟨b1, 0, none⟩ = some (.int .i64 n7) ∧ ∃ s8, w'5.cell? ⟨b1, 1, none⟩ = some (.string s8) ∧ ∃ n9, w'5.cell? ⟨b1, 2, none⟩ = some (.int .i64 n9) ∧ ∃ n10, w'5.cell? ⟨b1, 3, none⟩ = some (.int .i64 n10) ∧ ∃ s11, w'5.cell? ⟨b1, 4, none⟩ = some (.string s11) ∧ ∃ p12 n13 c14, w'5.cell? ⟨b1, 5, none⟩ = some (.slice p12 n13 c14) ∧ Calls Tryd.prog 18
 #[.slice cols_p cols_n cols_c, .agg #[.int .i64 n7, .string s8, .int .i64 n9, .int .i64 n10, .string s11, .slice p12 n13 c14]]
 w'5 fun e15 w16 ↦
 ∃ n17, ∃ n18, e15 = .returned (.tuple #[.int .i64 n17, .int .i64 n18]) ∧ (n18 ≠ 0 → (∃ u20, w16.cell? ⟨b4, 0, none⟩ = some u20) ∧ w16.frozen? ⟨b4, 0, none⟩ = false ∧ (∃ u21, w16.cell? ⟨b4, 1, none⟩ = some u21) ∧ w16.frozen? ⟨b4, 1, none⟩ = false ∧ (∃ u22, w16.cell? ⟨b4, 2, none⟩ = some u22) ∧ w16.frozen? ⟨b4, 2, none⟩ = false ∧ ∀ w'23, Put w16 b4 0 [.int .i64 0, .int .i64 0, .string ⟨#[]⟩] w'23 → ∃ n25, w'23.cell? ⟨b4, 0, none⟩ = some (.int .i64 n25) ∧ ∃ n26, w'23.cell? ⟨b4, 1, none⟩ = some (.int .i64 n26) ∧ ∃ s27, w'23.cell? ⟨b4, 2, none⟩ = some (.string s27) ∧ R (.returned (.tuple #[.agg #[.int .i64 n25, .int .i64 n26, .string s27], .int .i64 n18])) w'23) ∧ (n18 = 0 → Calls Tryd.prog 30 #[.slice cols_p cols_n cols_c, .slice row_p row_n row_c] w16 fun e29 w30 ↦
 ∃ b31, e29 = .returned (.bool b31) ∧ (b31 = false → (∃ u33, w30.cell? ⟨b4, 0, none⟩ = some u33) ∧ w30.frozen? ⟨b4, 0, none⟩ = false ∧ (∃ u34, w30.cell? ⟨b4, 1, none⟩ = some u34) ∧ w30.frozen? ⟨b4, 1, none⟩ = false ∧ (∃ u35, w30.cell? ⟨b4, 2, none⟩ = some u35) ∧ w30.frozen? ⟨b4, 2, none⟩ = false ∧ ∀ w'36, Put w30 b4 0 [.int .i64 0, .int .i64 0, .string ⟨#[]⟩] w'36 → ∃ n38, w'36.cell? ⟨b4, 0, none⟩ = some (.int .i64 n38) ∧ ∃ n39, w'36.cell? ⟨b4, 1, none⟩ = some (.int .i64 n39) ∧ ∃ s40, w'36.cell? ⟨b4, 2, none⟩ = some (.string s40) ∧ R (.returned (.tuple #[.agg #[.int .i64 n38, .int .i64 n39, .string s40], .int .i64 2])) w'36) ∧ (b31 = true → ∃ n42, w30.cell? ⟨b1, 0, none⟩ = some (.int .i64 n42) ∧ ∃ s43, w30.cell? ⟨b1, 1, none⟩ = some (.string s43) ∧ ∃ n44, w30.cell? ⟨b1, 2, none⟩ = some (.int .i64 n44) ∧ ∃ n45, w30.cell? ⟨b1, 3, none⟩ = some (.int .i64 n45) ∧ ∃ s46, w30.cell? ⟨b1, 4, none⟩ = some (.string s46) ∧ ∃ p47 n48 c49, w30.cell? ⟨b1, 5, none⟩ = some (.slice p47 n48 c49) ∧ Calls Tryd.prog 39
 #[.slice cols_p cols_n cols_c, .slice row_p row_n row_c, .agg #[.int .i64 n42, .string s43, .int .i64 n44, .int .i64 n45, .string s46, .slice p47 n48 c49]]
 w30 fun e50 w51 ↦
 ∃ n52, ∃ n53, ∃ s54, ∃ n55, e50 = .returned (.tuple #[.agg #[.int .i64 n52, .int .i64 n53, .string s54], .int .i64 n55]) ∧ (∃ u56, w51.cell? ⟨b4, 0, none⟩ = some u56) ∧ w51.frozen? ⟨b4, 0, none⟩ = false ∧ (∃ u57, w51.cell? ⟨b4, 1, none⟩ = some u57) ∧ w51.frozen? ⟨b4, 1, none⟩ = false ∧ (∃ u58, w51.cell? ⟨b4, 2, none⟩ = some u58) ∧ w51.frozen? ⟨b4, 2, none⟩ = false ∧ ∀ w'59, Put w51 b4 0 [.int .i64 n52, .int .i64 n53, .string s54] w'59 → ∃ n61, w'59.cell? ⟨b4, 0, none⟩ = some (.int .i64 n61) ∧ ∃ n62, w'59.cell? ⟨b4, 1, none⟩ = some (.int .i64 n62) ∧ ∃ s63, w'59.cell? ⟨b4, 2, none⟩ = some (.string s63) ∧ R (.returned (.tuple #[.agg #[.int .i64 n61, .int .i64 n62, .string s63], .int .i64 n55])) w'59))

set_option maxRecDepth 100000 in
theorem xEval_eq (cols_p : Option Addr) (cols_n : Nat) (cols_c : Nat) (row_p : Option Addr) (row_n : Nat) (row_c : Nat) (x0 : Int) (x1 : ByteArray) (x2 : Int) (x3 : Int) (x4 : ByteArray) (x5_p : Option Addr) (x5_n : Nat) (x5_c : Nat) (w : World) (R : Ending → World → Prop) : xEval_T cols_p cols_n cols_c row_p row_n row_c x0 x1 x2 x3 x4 x5_p x5_n x5_c w R = vcFn Tryd.prog [] [] Tryd.f19 [.slice cols_p cols_n cols_c, .slice row_p row_n row_c, Value.agg
 #[.int .i64 x0, .string x1, .int .i64 x2, .int .i64 x3, .string x4, .slice x5_p x5_n x5_c]] w R := by kernel_rfl

set_option maxRecDepth 100000 in
theorem xEval_vc (cols_p : Option Addr) (cols_n : Nat) (cols_c : Nat) (row_p : Option Addr) (row_n : Nat) (row_c : Nat) (x0 : Int) (x1 : ByteArray) (x2 : Int) (x3 : Int) (x4 : ByteArray) (x5_p : Option Addr) (x5_n : Nat) (x5_c : Nat) (w : World) (R : Ending → World → Prop) (hvc : xEval_T cols_p cols_n cols_c row_p row_n row_c x0 x1 x2 x3 x4 x5_p x5_n x5_c w R) : Calls Tryd.prog 19 #[.slice cols_p cols_n cols_c, .slice row_p row_n row_c, Value.agg
 #[.int .i64 x0, .string x1, .int .i64 x2, .int .i64 x3, .string x4, .slice x5_p x5_n x5_c]] w R :=
  calls_of_vc (args := [.slice cols_p cols_n cols_c, .slice row_p row_n row_c, Value.agg
 #[.int .i64 x0, .string x1, .int .i64 x2, .int .i64 x3, .string x4, .slice x5_p x5_n x5_c]]) [] [] Tryd.mixed Tryd.func19 (cast (xEval_eq _ _ _ _ _ _ _ _ _ _ _ _ _ _ w R) hvc)


end Go.Proofs.YtaccokhdmhomhaaDoor

/- The contracts of package expr: the walk over an expression's nodes. -/
namespace Go.Proofs.YtaccokhdmhomhaaDoor
open Go Go.Vc Go.RowKit
set_option maxRecDepth 20000

/-- What a caller of the walk promises: each node may be handed to it, whatever else is held. -/
def Rounds (L : List (Nat × Ex)) (l0 : Nat) (wc : World) (Q : Nat → List (Nat × Obj) → Prop) (S : List (Nat × Obj) → Prop) : Prop :=
  ∀ (k : Nat) (p : Nat × Ex) (ncs : List Value) (gs fs : List (Nat × Obj)) (W : World) (R : Bool → World → Prop), L[k]? = some p → ExAt wc p.2 ncs → Q k fs → Hold wc W (fs ++ gs) [] →
    (∀ fs' W', Q (k + 1) fs' → Hold wc W' (fs' ++ gs) [] → R true W') → (∀ fs' W', S fs' → Hold wc W' (fs' ++ gs) [] → R false W') → Yield Tryd.prog l0 #[.int .i64 (p.1 : Int), .agg ncs.toArray] W R

theorem nodes_ok (x : Ex) {cs : List Value} {w w0 : World} (h : ExAt w0 x cs) (d : Int) : Calls Tryd.prog 59 #[.agg cs.toArray, .int .i64 d] w fun e w' => ∃ b1 b4, e = .returned (.func (.func 78) #[] #[.pointer (some ⟨b4, 0, none⟩), .pointer (some ⟨b1, 0, none⟩)]) ∧
    ∀ fs ms w0, Hold w0 w fs ms → Hold w0 w' ((b4, .cells #[.int .i64 d] 3) :: (b1, .cells cs.toArray 29) :: fs) ms := by
  obtain ⟨p, n, c, rfl, _⟩ := h.six
  apply nodes_vc
  unfold nodes_T
  intro b1 w2 h1 b4 w5 h4
  exact ⟨b1, b4, rfl, fun fs ms w0 h => (h.new h1).new h4⟩

theorem perm3 {α : Type} (a b c : List α) : (a ++ (b ++ c)).Perm (b ++ (a ++ c)) := by
  rw [← List.append_assoc, ← List.append_assoc]
  exact List.perm_append_comm.append_right c
set_option maxHeartbeats 4000000 in
theorem nodes1_ok : ∀ (N : Nat) (x : Ex) (d l0 fv0 fv1 : Nat) (wc : World) (cs : List Value) (Q : Nat → List (Nat × Obj) → Prop) (S : List (Nat × Obj) → Prop) (gs fs : List (Nat × Obj)) (w : World) (M : Nat), depthT x ≤ N → d ≤ 41 → ExAt wc x cs →
    (∀ k fs, Q k fs → (∀ y ∈ fs, y.1 < M) ∧ (fv0, .cells #[.int .i64 (d : Int)] 3 (0, 0)) ∈ fs ∧ (fv1, .cells cs.toArray 29 (0, 0)) ∈ fs) → (∀ fs, S fs → ∀ y ∈ fs, y.1 < M) → M ≤ w.heap.size →
    Rounds (walkT x d) l0 wc Q S → Q 0 fs → Hold wc w (fs ++ gs) [] →
    Calls Tryd.prog 78 #[.func (.yield l0) #[] #[], .pointer (some ⟨fv0, 0, none⟩), .pointer (some ⟨fv1, 0, none⟩)] w fun e W' => e = .returned (.tuple #[]) ∧ ((∃ fs', Q (walkT x d).length fs' ∧ Hold wc W' (fs' ++ gs) []) ∨ ∃ fs', S fs' ∧ Hold wc W' (fs' ++ gs) []) := by
  intro N
  induction N with
  | zero => intro x d l0 fv0 fv1 wc cs Q S gs fs w M hd; cases x; unfold depthT at hd; omega
  | succ N ih =>
  intro x d l0 fv0 fv1 wc cs Q S gs fs w M hdep hd hx hQ hS hM hR q0 hH
  obtain ⟨p, n, c, rfl, hkl, hn, hkid⟩ := hx.six
  apply nodes1_vc
  unfold nodes1_T
  intro b1 w2 h1
  have hb1 : b1 = w.heap.size := h1.1
  have H2 := hH.new h1
  have gsM : ∀ y ∈ gs, y.1 < w.heap.size := fun y hy => hH.ltM (List.mem_append_right _ hy)
  obtain ⟨_, m0, m1⟩ := hQ 0 fs q0
  have B0 := H2.blkM (List.mem_cons_of_mem _ (List.mem_append_left gs m0))
  have B1 := H2.blkM (List.mem_cons_of_mem _ (List.mem_append_left gs m1))
  obtain ⟨c0, c1, c2, c3, c4, c5⟩ := B1.c6
  have hhead : (walkT x d)[0]? = some (d, x) := by cases x; rfl
  refine ⟨_, (H2.blk 0 rfl).one, _, B0.one, _, c0, _, c1, _, c2, _, c3, _, c4, _, _, _, c5, l0, rfl, ?_⟩
  refine hR 0 (d, x) _ ((b1, .cells #[.func (.yield l0) #[] #[]] 110 (0, 0)) :: gs) fs w2 _ hhead hx q0 (Hold.swap (a := [_]) H2) (fun fs' W' q H => ⟨fun h => (by cases h), fun _ => ?_⟩)
    (fun fs' W' s H => ⟨fun _ => ⟨rfl, .inr ⟨fs', s, H.sub ((List.Sublist.refl fs').append (List.sublist_cons_self _ _))⟩⟩, fun h => (by cases h)⟩)
  obtain ⟨_, m0, m1⟩ := hQ 1 fs' q
  have B0 := H.blkM (List.mem_append_left _ m0)
  have B1 := H.blkM (List.mem_append_left _ m1)
  obtain ⟨_, _, _, _, _, c5⟩ := B1.c6
  refine ⟨_, B0.one, fun hgt => ⟨rfl, .inl ⟨fs', ?_, H.sub ((List.Sublist.refl fs').append (List.sublist_cons_self _ _))⟩⟩, fun hle => ?_⟩
  · have : (walkT x d).length = 1 := by cases x; unfold walkT; rw [if_pos (by omega)]; rfl
    rw [this]; exact q
  have hL : walkT x d = (d, x) :: walkTs x.kids (d + 1) := by cases x; unfold walkT; rw [if_neg (by omega)]; rfl
  let Y : Nat × Obj := (b1, .cells #[.func (.yield l0) #[] #[]] 110 (0, 0))
  let off : Nat → Nat := fun j => 1 + (walkTs (x.kids.take j) (d + 1)).length
  have H' : Hold wc W' (Y :: (fs' ++ gs)) [] := H.perm List.perm_middle
  refine ⟨_, _, _, c5, fun i W => ∃ (j : Nat) (fs : List (Nat × Obj)), i = (j : Int) ∧ j ≤ n ∧ Q (off j) fs ∧ Hold wc W (Y :: (fs ++ gs)) [], fun i _ => n - i.toNat, w.heap.size, ⟨0, fs', rfl, Nat.zero_le _, by simpa [off, walkTs] using q, H'⟩, ⟨by simp, by simp⟩, ?_⟩
  clear H' H B0 B1 c5 q m0 m1 c0 c1 c2 c3 c4 hhead
  rintro i W ⟨j, fs, rfl, hj, q, H⟩ ds ho
  have hwc : wc.heap.size ≤ w.heap.size := hH.size
  have low : ∀ k fs, Q k fs → ∀ y ∈ fs ++ gs, y.1 < w.heap.size := fun k fs q y hy => by
    rcases List.mem_append.1 hy with hy | hy
    · have := (hQ k fs q).1 y hy; omega
    · exact gsM y hy
  have lowS : ∀ fs, S fs → ∀ y ∈ fs ++ gs, y.1 < w.heap.size := fun fs s y hy => by
    rcases List.mem_append.1 hy with hy | hy
    · have := hS fs s y hy; omega
    · exact gsM y hy
  refine ⟨fun hlt => ?_, fun hge => ?_⟩
  · have g : x.kids[j]? = some (x.kids[j]'(by omega)) := List.getElem?_eq_getElem _
    generalize x.kids[j]'(by omega) = k at g
    obtain ⟨kc, b, o, hk, hp, hc⟩ := hkid H.ext g
    obtain ⟨kp, kn, kcap, hkc, _⟩ := hk.six
    simp only [Int.toNat_natCast]
    have e0 := hc 0 _ (by rw [hkc]; rfl)
    have e1 := hc 1 _ (by rw [hkc]; rfl)
    have e2 := hc 2 _ (by rw [hkc]; rfl)
    have e3 := hc 3 _ (by rw [hkc]; rfl)
    have e4 := hc 4 _ (by rw [hkc]; rfl)
    have e5 := hc 5 _ (by rw [hkc]; rfl)
    have Ho : Hold wc W (dfs ds ++ (Y :: (fs ++ gs))) [] := H.addOpen ho hwc fun y hy => by
      rcases List.mem_cons.1 hy with rfl | hy
      · exact .inr (by simp [Y])
      · exact .inl (low _ _ q y hy)
    have Ho : Hold wc W (Y :: (fs ++ (dfs ds ++ gs))) [] := by
      refine Ho.perm ?_
      refine List.perm_middle.trans (List.Perm.cons _ ?_)
      rw [← List.append_assoc, ← List.append_assoc]
      exact List.perm_append_comm.append_right gs
    refine ⟨b, o, hp, by omega, by omega, _, e0, _, e1, _, e2, _, e3, _, e4, _, _, _, e5, fun b43 w44 h43 => ?_⟩
    have H44 := Ho.new h43
    refine (H44.blk 0 rfl).w6 fun w52 h52 => ?_
    have H52 := H44.put 0 rfl h52
    have Bk : Blk w52 b43 29 #[.int .i64 k.op, .string k.name, .int .i64 k.v.k, .int .i64 k.v.n, .string k.v.s, .slice kp kn kcap] := H52.blk 0 rfl
    obtain ⟨a0, a1, a2, a3, a4, a5⟩ := Bk.c6
    obtain ⟨_, m0, m1⟩ := hQ _ fs q
    have Bd := H52.blkM (List.mem_cons_of_mem _ (List.mem_cons_of_mem _ (List.mem_append_left (dfs ds ++ gs) m0)))
    refine ⟨_, a0, _, a1, _, a2, _, a3, _, a4, _, _, _, a5, _, Bd.one, ?_⟩
    rw [i64_next (by omega)]
    subst hkc
    refine (nodes_ok k hk ((d + 1 : Nat) : Int)).mono ?_
    rintro e w64 ⟨bx, bd, rfl, hH64⟩
    have H64 := hH64 _ _ _ H52
    refine ⟨_, rfl, _, _, rfl, by kernel_rfl, fun r d70 l71 w171 hB hY => ?_⟩
    have HB := H64.began hB
    have hd70 : w.heap.size ≤ d70 := by
      have h3 : b1 < w64.heap.size := H64.lt 3 rfl
      have := hB.sizes.1
      omega
    let own : Nat → List (Nat × Obj) := fun q => [(l71, .loop (r q)), (d70, .deferred (some [])), (bd, .cells #[.int .i64 ((d + 1 : Nat) : Int)] 3 (0, 0)),
      (bx, .cells #[.int .i64 k.op, .string k.name, .int .i64 k.v.k, .int .i64 k.v.n, .string k.v.s, .slice kp kn kcap] 29 (0, 0)),
      (b43, .cells #[.int .i64 k.op, .string k.name, .int .i64 k.v.k, .int .i64 k.v.n, .string k.v.s, .slice kp kn kcap] 29 (0, 0)), Y]
    have HB : Hold wc w171 ((own 0 ++ fs) ++ (dfs ds ++ gs)) [] := HB
    have ownM : ∀ q, ∀ y ∈ own q, y.1 < w171.heap.size := by
      intro q y hy
      have : ∀ y ∈ own 0, y.1 < w171.heap.size := fun y hy => HB.ltM (List.mem_append_left _ (List.mem_append_left _ hy))
      simp only [own, List.mem_cons, List.not_mem_nil, or_false] at hy this
      rcases hy with rfl | hy
      · exact this (l71, .loop (r 0)) (.inl rfl)
      · exact this y (.inr hy)
    have hMw : M ≤ w171.heap.size := by
      have := HB.ltM (x := Y) (by simp [own])
      have : b1 < w171.heap.size := this
      omega
    refine (ih k (d + 1) l71 bd bx wc _ (fun k' fs2 => ∃ fs, Q (off j + k') fs ∧ fs2 = own 0 ++ fs) (fun fs2 => ∃ fs, S fs ∧ fs2 = own 3 ++ fs) (dfs ds ++ gs) _ w171 w171.heap.size ?_ (by omega) hk ?_ ?_ (Nat.le_refl _) ?_ ⟨fs, q, rfl⟩ HB).mono ?_
    · have := depthTs_get g
      cases x
      unfold depthT at hdep
      simp only [Ex.kids] at this
      omega
    · rintro k' fs2 ⟨fs3, q3, rfl⟩
      refine ⟨fun y hy => ?_, by simp [own], by simp [own]⟩
      rcases List.mem_append.1 hy with hy | hy
      · exact ownM 0 y hy
      · have := (hQ _ _ q3).1 y hy; omega
    · rintro fs2 ⟨fs3, s3, rfl⟩ y hy
      rcases List.mem_append.1 hy with hy | hy
      · exact ownM 3 y hy
      · have := hS _ s3 y hy; omega
    · rintro k' pn ncs gs2 fs2 W2 R2 hLk hE ⟨fs3, q3, rfl⟩ H2 yes no
      obtain ⟨np, nn, ncap, rfl, _⟩ := hE.six
      refine hY _ _ _ _ _ _ _ _ _ W2 R2 (H2.loop 0 rfl) fun b85 w86 h86 => ?_
      have H86 := H2.new h86
      refine (H86.blk 0 rfl).w6 fun w94 h94 => ?_
      have H94 := H86.put 0 rfl h94
      refine ⟨H94.loop 1 rfl, ?_⟩
      rintro Wb rfl
      have H96 := H94.turn 1 1 rfl
      let nb : Nat × Obj := (b85, .cells #[.int .i64 pn.2.op, .string pn.2.name, .int .i64 pn.2.v.k, .int .i64 pn.2.v.n, .string pn.2.v.s, .slice np nn ncap] 29 (0, 0))
      have H96 : Hold wc (turn r l71 1 w94) (([nb] ++ own 1 ++ fs3) ++ gs2) [] := H96
      have Bn : Blk (turn r l71 1 w94) b85 29 #[.int .i64 pn.2.op, .string pn.2.name, .int .i64 pn.2.v.k, .int .i64 pn.2.v.n, .string pn.2.v.s, .slice np nn ncap] := H96.blk 0 rfl
      obtain ⟨a0, a1, a2, a3, a4, a5⟩ := Bn.c6
      refine ⟨_, (H96.blk 6 rfl).one, _, a0, _, a1, _, a2, _, a3, _, a4, _, _, _, a5, l0, rfl, ?_⟩
      have hLk' : (walkT x d)[off j + k']? = some pn := by
        rw [hL, show off j + k' = ((walkTs (x.kids.take j) (d + 1)).length + k') + 1 by simp only [off]; omega, List.getElem?_cons_succ]
        exact walkTs_at g hLk
      refine hR (off j + k') pn _ (([nb] ++ own 1) ++ gs2) fs3 _ _ hLk' hE q3 H96.swap (fun fs' W' q' H' => ⟨fun h => (by cases h), fun _ => ?_⟩) (fun fs' W' s' H' => ⟨fun _ => ?_, fun h => (by cases h)⟩)
      · have H' : Hold wc W' (([nb] ++ own 1) ++ (fs' ++ gs2)) [] := by
          rw [← List.append_assoc] at H'
          exact H'.swap
        refine ⟨H'.loop 1 rfl, yes _ _ ⟨fs', q', rfl⟩ ?_⟩
        exact (H'.turn 1 0 rfl).tail
      · have H' : Hold wc W' (([nb] ++ own 1) ++ (fs' ++ gs2)) [] := by
          rw [← List.append_assoc] at H'
          exact H'.swap
        refine ⟨H'.loop 1 rfl, no _ _ ⟨fs', s', rfl⟩ ?_⟩
        exact (H'.turn 1 3 rfl).tail
    · rintro e W3 ⟨rfl, hI | hS3⟩
      · obtain ⟨_, ⟨fs3, q3, rfl⟩, H3⟩ := hI
        refine ⟨⟨_, rfl⟩, .inl ⟨H3.loop 0 rfl, ?_⟩⟩
        have H4 := H3.turn 0 2 rfl
        have H4 : Hold wc (turn r l71 2 W3) ((own 2 ++ fs3) ++ (dfs ds ++ gs)) [] := H4
        have hop : Vc.Open w.heap.size (d70 :: ds) (turn r l71 2 W3) := by
          refine Hold.opened (w0 := wc) (fs := ((l71, Obj.loop (r 2)) :: ((own 2).drop 2 ++ fs3)) ++ gs) ?_ fun y hy => ?_
          · exact H4.perm ((List.Perm.swap _ _ _).trans (List.Perm.cons _ (perm3 ((l71, Obj.loop (r 2)) :: ((own 2).drop 2 ++ fs3)) (dfs ds) gs)))
          · rcases List.mem_cons.1 hy with rfl | hy
            · exact hd70
            · exact (ho.2 y hy).1
        refine ⟨hop, ⟨j + 1, fs3, by rw [i64_next (by omega)], by omega, ?_, ?_⟩, ?_⟩
        · have : off (j + 1) = off j + (walkT k (d + 1)).length := by
            simp only [off]; rw [walkTs_take _ g, List.length_append]; omega
          rw [this]; exact q3
        · exact H4.tail.tail.tail.tail.tail.sub (((List.Sublist.refl fs3).append (List.sublist_append_right _ _)).cons_cons Y)
        · rw [i64_next (by omega)]; simp only [Int.toNat_natCast]; omega
      · obtain ⟨_, ⟨fs3, s3, rfl⟩, H3⟩ := hS3
        refine ⟨⟨_, rfl⟩, .inr (.inl ⟨H3.loop 0 rfl, ?_⟩)⟩
        have H4 := H3.turn 0 4 rfl
        have H5 := H4.shut 1 rfl
        have H5 : Hold wc _ (((l71, .loop (r 4)) :: (d70, .deferred none) :: ((own 3).drop 2 ++ fs3)) ++ (dfs ds ++ gs)) [] := H5
        refine ⟨H4.dfr 1 rfl, unD_hold (w0 := wc) (fs := fs3 ++ gs) hwc (lowS _ s3) (fun W' H' => ⟨by trivial, .inr ⟨fs3, s3, H'⟩⟩) ds _ (Hold.opened (w0 := wc) (H5.perm (perm3 _ _ _)) fun y hy => (ho.2 y hy).1) ?_⟩
        exact H5.tail.tail.tail.tail.tail.tail.sub ((List.Sublist.refl fs3).append (List.sublist_append_right _ _))
  · have hjn : j = n := by omega
    refine unD_hold (w0 := wc) (fs := fs ++ gs) hwc (low _ _ q) (fun W' H' => ⟨rfl, .inl ⟨fs, ?_, H'⟩⟩) ds W ho H.tail
    have : (walkT x d).length = off j := by
      rw [hL, hjn, ← hkl]; simp [off]; omega
    rw [this]; exact q
end Go.Proofs.YtaccokhdmhomhaaDoor

/- The contracts of package expr: which expressions are well formed. -/
namespace Go.Proofs.YtaccokhdmhomhaaDoor
open Go Go.Vc Go.RowKit
set_option maxRecDepth 20000

/-- The table of shapes lies in memory. -/
def Tab (w : World) : Prop := CellsAt w 0 0 shapesA
theorem Tab.ext {w w' : World} (h : Tab w) (e : Ext w w') : Tab w' := fun k v hk => cell_ext (h k v hk) e
theorem Tab.at {w : World} (h : Tab w) {op : Int} (h1 : 0 ≤ op) (h2 : op < 17) : w.cell? ⟨0, 0 + op.toNat * 3, none⟩ = some (.int .i64 (manyOf op)) ∧ w.cell? ⟨0, 0 + op.toNat * 3 + 1, none⟩ = some (.int .i64 (wantOf op)) ∧
    w.cell? ⟨0, 0 + op.toNat * 3 + 2, none⟩ = some (.int .i64 (kindOf op)) := by
  obtain ⟨i, rfl⟩ := Int.eq_ofNat_of_zero_le h1
  obtain ⟨a, b, c⟩ := shapes_at (i := i) (by omega)
  rw [Int.toNat_natCast]
  exact ⟨h _ _ a, by rw [Nat.add_assoc]; exact h _ _ b, by rw [Nat.add_assoc]; exact h _ _ c⟩

set_option maxHeartbeats 4000000 in
theorem xformed_ok {w : World} (hT : Tab w) (x : Ex) {cs : List Value} (hx : ExAt w x cs) : Calls Tryd.prog 37 #[.agg cs.toArray] w fun e w' => e = .returned (.bool (formedB x)) ∧ Ext w w' := by
  obtain ⟨p, n, c, rfl, hkl, hn, hkid⟩ := hx.six
  apply xformed_vc
  unfold xformed_T
  intro b1 w2 h1 b4 w5 h4 b7 w8 h7
  have H8 := (((Hold.start (Ext.rfl (w := w))).new h1).new h4).new h7
  refine ⟨⟨_, (H8.blk 0 rfl).one⟩, (H8.blk 0 rfl).frozen 0, fun w11 h11 => ?_⟩
  have H11 := H8.box 0 rfl h11
  have B1 : Blk w11 b1 29 #[.int .i64 x.op, .string x.name, .int .i64 x.v.k, .int .i64 x.v.n, .string x.v.s, .slice p n c] := H11.blk 2 rfl
  obtain ⟨a0, a1, a2, a3, a4, a5⟩ := B1.c6
  refine ⟨_, a0, _, a1, _, a2, _, a3, _, a4, _, _, _, a5, (nodes_ok x hx 1).mono ?_⟩
  rintro e w22 ⟨bx, bd, rfl, hH⟩
  have H22 := hH _ _ _ H11
  refine ⟨_, rfl, _, _, rfl, by kernel_rfl, fun r d l w29 hB hY => ?_⟩
  have HB := H22.began hB
  let fs : Nat → Int → List (Nat × Obj) := fun q m => [(l, .loop (r q)), (d, .deferred (some [])), (bd, .cells #[.int .i64 1] 3 (0, 0)), (bx, .cells #[.int .i64 x.op, .string x.name, .int .i64 x.v.k, .int .i64 x.v.n, .string x.v.s, .slice p n c] 29 (0, 0)),
    (b7, .cells #[.int .i64 m] 3 (0, 0)), (b4, .cells #[.bool false] 4 (0, 0)), (b1, .cells #[.int .i64 x.op, .string x.name, .int .i64 x.v.k, .int .i64 x.v.n, .string x.v.s, .slice p n c] 29 (0, 0))]
  have HB : Hold w w29 (fs 0 0 ++ []) [] := HB
  have fsM : ∀ q m, ∀ y ∈ fs q m, y.1 < w29.heap.size := by
    intro q m y hy
    have : ∀ y ∈ fs 0 0, y.1 < w29.heap.size := fun y hy => HB.ltM (List.mem_append_left _ hy)
    simp only [fs, List.mem_cons, List.not_mem_nil, or_false] at hy this
    rcases hy with rfl | rfl | rfl | rfl | rfl | rfl | rfl
    · exact this (l, .loop (r 0)) (.inl rfl)
    · exact this _ (.inr (.inl rfl))
    · exact this _ (.inr (.inr (.inl rfl)))
    · exact this _ (.inr (.inr (.inr (.inl rfl))))
    · exact this (b7, .cells #[.int .i64 0] 3 (0, 0)) (.inr (.inr (.inr (.inr (.inl rfl)))))
    · exact this _ (.inr (.inr (.inr (.inr (.inr (.inl rfl))))))
    · exact this _ (.inr (.inr (.inr (.inr (.inr (.inr rfl))))))
  refine (nodes1_ok (depthT x) x 1 l bd bx w _ (fun k f => f = fs 0 (k : Int) ∧ k ≤ 400 ∧ goW ((walkT x 1).drop k) k = formedB x) (fun f => (∃ m, f = fs 3 m) ∧ formedB x = false) [] (fs 0 0) w29 w29.heap.size (Nat.le_refl _) (by omega) hx ?_ ?_ (Nat.le_refl _) ?_ ⟨rfl, by omega, goW_formed x⟩ HB).mono ?_
  · rintro k f ⟨rfl, _, _⟩
    exact ⟨fsM _ _, by simp [fs], by simp [fs]⟩
  · rintro f ⟨⟨m, rfl⟩, _⟩ y hy
    exact fsM _ _ y hy
  · rintro k pn ncs gs f W R hL hE ⟨rfl, hk, hg⟩ H yes no
    obtain ⟨np, nn, ncap, rfl, hkn, _⟩ := hE.six
    have hgd : goW ((walkT x 1).drop k) k = if 40 < pn.1 ∨ 400 < k + 1 ∨ ¬ NodeOk pn.2 then false else goW ((walkT x 1).drop (k + 1)) (k + 1) := by
      obtain ⟨hk', rfl⟩ := List.getElem?_eq_some_iff.1 hL
      rw [List.drop_eq_getElem_cons hk']; rfl
    refine hY _ _ _ _ _ _ _ _ _ W R (H.loop 0 rfl) fun b43 w44 h43 => ?_
    have H44 := H.new h43
    refine (H44.blk 0 rfl).w6 fun w52 h52 => ?_
    have H52 := H44.put 0 rfl h52
    refine ⟨H52.loop 1 rfl, ?_⟩
    rintro Wb rfl
    have H54 := H52.turn 1 1 rfl
    refine ⟨_, (H54.blk 5 rfl).one, ⟨_, (H54.blk 5 rfl).one⟩, (H54.blk 5 rfl).frozen 0, fun w58 h58 w60 h60 => ?_⟩
    have H60 := (H54.box 5 rfl h58).step h60.ext
    rw [i64_next (by omega)] at H60
    let nb : Nat × Obj := (b43, .cells #[.int .i64 pn.2.op, .string pn.2.name, .int .i64 pn.2.v.k, .int .i64 pn.2.v.n, .string pn.2.v.s, .slice np nn ncap] 29 (0, 0))
    have H60 : Hold w w60 (nb :: (fs 1 ((k + 1 : Nat) : Int) ++ gs)) [] := H60
    -- the walk is left
    have stop : ∀ W', Ext w60 W' → formedB x = false → (∃ u, W'.cell? ⟨b4, 0, none⟩ = some u) ∧ W'.frozen? ⟨b4, 0, none⟩ = false ∧ ∀ w64 : World, Put W' b4 0 [.bool false] w64 → Rec r l 1 w64 ∧ R false (turn r l 3 w64) := by
      intro W' e hf
      have HW := H60.step e
      refine ⟨⟨_, (HW.blk 6 rfl).one⟩, (HW.blk 6 rfl).frozen 0, fun w64 h64 => ?_⟩
      have H64 := HW.box 6 rfl h64
      exact ⟨H64.loop 1 rfl, no _ _ ⟨⟨_, rfl⟩, hf⟩ (H64.turn 1 3 rfl).tail⟩
    have go : ∀ W', Ext w60 W' → pn.1 ≤ 40 → k + 1 ≤ 400 → NodeOk pn.2 → Rec r l 1 W' ∧ R true (turn r l 0 W') := by
      intro W' e h1 h2 h3
      have HW := H60.step e
      refine ⟨HW.loop 1 rfl, yes _ _ ⟨rfl, h2, ?_⟩ (HW.turn 1 0 rfl).tail⟩
      rw [← hg, hgd, if_neg]
      rintro (h | h | h)
      · omega
      · omega
      · exact h h3
    have hf : (40 < pn.1 ∨ 400 < k + 1 ∨ ¬ NodeOk pn.2) → formedB x = false := fun h => by rw [← hg, hgd, if_pos h]
    have bad : ¬ NodeOk pn.2 → formedB x = false := fun h => hf (.inr (.inr h))
    have B : Blk w60 b43 29 #[.int .i64 pn.2.op, .string pn.2.name, .int .i64 pn.2.v.k, .int .i64 pn.2.v.n, .string pn.2.v.s, .slice np nn ncap] := H60.blk 0 rfl
    obtain ⟨a0, a1, a2, a3, a4, a5⟩ := B.c6
    have hT60 := hT.ext H60.ext
    refine ⟨fun hd => stop w60 .rfl (hf (.inl (by omega))), fun hd => ⟨_, (H60.blk 5 rfl).one, fun hm => stop w60 .rfl (hf (.inr (.inl (by omega)))), fun hm => ⟨_, a0, fun ho => stop w60 .rfl (bad ?_), fun ho => ⟨_, a0, fun ho' => stop w60 .rfl (bad ?_), fun ho' => ?_⟩⟩⟩⟩
    · rintro ⟨h, _⟩
      have := many_range (op := pn.2.op) (by omega)
      omega
    · rintro ⟨h, _⟩
      have := many_range (op := pn.2.op) (by omega)
      omega
    · obtain ⟨t0, _, _⟩ := hT60.at (op := pn.2.op) (by omega) ho'
      refine ⟨_, _, _, a5, _, a0, by omega, ho', _, t0, fun hne => stop w60 .rfl (bad ?_), fun he => ?_⟩
      · rintro ⟨h, _⟩; omega
      have vcall : ∀ (hnm : pn.2.op = 1 ∨ pn.2.name = ⟨#[]⟩) (hvv : pn.2.op = 2 ∨ pn.2.v = nullV), Calls Tryd.prog 60 #[.agg #[.int .i64 pn.2.v.k, .int .i64 pn.2.v.n, .string pn.2.v.s]] w60 fun (e : Ending) (w' : World) => ∃ b : Bool, e = .returned (.bool b) ∧
          (b = false → (∃ u, w'.cell? ⟨b4, 0, none⟩ = some u) ∧ w'.frozen? ⟨b4, 0, none⟩ = false ∧ ∀ w64 : World, Put w' b4 0 [.bool false] w64 → Rec r l 1 w64 ∧ R false (turn r l 3 w64)) ∧ (b = true → Rec r l 1 w' ∧ R true (turn r l 0 w')) := by
        intro hnm hvv
        refine (vright_ok pn.2.v w60).mono ?_
        rintro e w' ⟨rfl, e'⟩
        refine ⟨_, rfl, fun hb => stop w' e' (bad ?_), fun hb => go w' e' (by omega) (by omega) ⟨by omega, hnm, hvv, of_decide_eq_true hb⟩⟩
        rintro ⟨_, _, _, h⟩
        exact absurd h (of_decide_eq_false hb)
      have nullI : pn.2.v = nullV ↔ pn.2.v.k = 0 ∧ pn.2.v.n = 0 ∧ pn.2.v.s = ⟨#[]⟩ := Val.ext'
      refine ⟨_, a0, fun h1 => ⟨_, a1, fun hnm => stop w60 .rfl (bad ?_), fun hnm => ⟨_, a0, fun h2 => ⟨_, a2, _, a3, _, a4, fun hv => stop w60 .rfl (bad ?_), fun hv => ⟨_, a2, _, a3, _, a4, vcall (.inr hnm) (.inr (nullI.2 hv))⟩⟩, fun h2 => ⟨_, a2, _, a3, _, a4, vcall (.inr hnm) (.inl h2)⟩⟩⟩,
        fun h1 => ⟨_, a0, fun h2 => ⟨_, a2, _, a3, _, a4, fun hv => stop w60 .rfl (bad ?_), fun hv => ⟨_, a2, _, a3, _, a4, vcall (.inl h1) (.inr (nullI.2 hv))⟩⟩, fun h2 => ⟨_, a2, _, a3, _, a4, vcall (.inl h1) (.inl h2)⟩⟩⟩
      · rintro ⟨_, h, _⟩
        rcases h with h | h
        · exact h1 h
        · exact hnm h
      · rintro ⟨_, _, h, _⟩
        rcases h with h | h
        · exact h2 h
        · have := nullI.1 h
          rcases hv with hv | hv | hv
          · exact hv this.1
          · exact hv this.2.1
          · exact hv this.2.2
      · rintro ⟨_, _, h, _⟩
        rcases h with h | h
        · exact h2 h
        · have := nullI.1 h
          rcases hv with hv | hv | hv
          · exact hv this.1
          · exact hv this.2.1
          · exact hv this.2.2
  · rintro e W ⟨rfl, hI | hS⟩
    · obtain ⟨_, ⟨rfl, hk, hg⟩, H⟩ := hI
      refine ⟨⟨_, rfl⟩, .inl ⟨H.loop 0 rfl, ?_⟩⟩
      have H2 := H.turn 0 2 rfl
      refine ⟨⟨_, (H2.blk 5 rfl).one⟩, (H2.blk 5 rfl).frozen 0, fun w82 h82 => ?_⟩
      have H82 := H2.box 5 rfl h82
      have H83 := H82.shut 1 rfl
      refine ⟨H82.dfr 1 rfl, _, (H83.blk 5 rfl).one, ?_, H83.ext⟩
      rw [List.drop_length] at hg
      rw [← hg]; rfl
    · obtain ⟨_, ⟨⟨m, rfl⟩, hf⟩, H⟩ := hS
      refine ⟨⟨_, rfl⟩, .inr (.inl ⟨H.loop 0 rfl, ?_⟩)⟩
      have H2 := H.turn 0 4 rfl
      have H83 := H2.shut 1 rfl
      refine ⟨H2.dfr 1 rfl, _, (H83.blk 5 rfl).one, ?_, H83.ext⟩
      rw [hf]
end Go.Proofs.YtaccokhdmhomhaaDoor

/- The contracts of package expr: numbers, truths, one node. -/
namespace Go.Proofs.YtaccokhdmhomhaaDoor
open Go Go.Vc Go.RowKit
set_option maxRecDepth 20000

/-- The tables of and, or. -/
def Tab2 (w : World) : Prop := CellsAt w 1 0 (tabA andI) ∧ CellsAt w 2 0 (tabA orJ)
theorem Tab2.ext {w w' : World} (h : Tab2 w) (e : Ext w w') : Tab2 w' := ⟨fun k v hk => cell_ext (h.1 k v hk) e, fun k v hk => cell_ext (h.2 k v hk) e⟩

theorem xtruth_ok (b : Bool) (w : World) : Calls Tryd.prog 79 #[.bool b] w fun e w' => e = .returned (truthV b).agg ∧ Ext w w' := by
  apply xtruth_vc
  unfold xtruth_T
  intro b1 w2 h1
  have H := (Hold.start (Ext.rfl (w := w))).new h1
  obtain ⟨q0, q1, q2⟩ := (H.blk 0 rfl).c3
  refine ⟨fun hb => ⟨⟨_, q0⟩, (H.blk 0 rfl).frozen _, ⟨_, q1⟩, (H.blk 0 rfl).frozen _, ⟨_, q2⟩, (H.blk 0 rfl).frozen _, fun w8 h8 => ?_⟩, fun hb => ⟨⟨_, q0⟩, (H.blk 0 rfl).frozen _, ⟨_, q1⟩, (H.blk 0 rfl).frozen _, ⟨_, q2⟩, (H.blk 0 rfl).frozen _, fun w8 h8 => ?_⟩⟩
  · have H8 := H.put 0 rfl h8
    have B : Blk w8 b1 26 #[.int .i64 2, .int .i64 1, .string ⟨#[]⟩] := H8.blk 0 rfl
    obtain ⟨q0, q1, q2⟩ := B.c3
    exact ⟨_, q0, _, q1, _, q2, by rw [hb]; rfl, H8.ext⟩
  · have H8 := H.put 0 rfl h8
    have B : Blk w8 b1 26 #[.int .i64 2, .int .i64 0, .string ⟨#[]⟩] := H8.blk 0 rfl
    obtain ⟨q0, q1, q2⟩ := B.c3
    exact ⟨_, q0, _, q1, _, q2, by rw [hb]; rfl, H8.ext⟩

theorem times1_ok {n : Int} (h : fitI n) (w : World) : Calls Tryd.prog 108 #[.int .i64 n] w fun e w' => e = .returned (.int .u64 ((n.natAbs : Nat) : Int)) ∧ Ext w w' := by
  apply times1_vc
  unfold times1_T
  unfold fitI at h
  refine ⟨fun hn => ⟨?_, .rfl⟩, fun hn => ⟨?_, .rfl⟩⟩
  · rw [u64_wrap, u64_wrap, show (0 - n % 18446744073709551616) % 18446744073709551616 = ((n.natAbs : Nat) : Int) by omega]
  · rw [u64_wrap, show n % 18446744073709551616 = ((n.natAbs : Nat) : Int) by omega]
theorem mul64_ok {x y : Nat} (hx : x < 18446744073709551616) (hy : y < 18446744073709551616) (w : World) :
    Calls Tryd.prog 109 #[.int .u64 (x : Int), .int .u64 (y : Int)] w fun e w' => e = .returned (.tuple #[.int .u64 ((x * y / 18446744073709551616 : Nat) : Int), .int .u64 ((x * y % 18446744073709551616 : Nat) : Int)]) ∧ Ext w w' := by
  apply mul64_vc
  unfold mul64_T
  refine ⟨?_, .rfl⟩
  rw [mul64_hi hx hy, u64_wrap, ← Int.natCast_mul]
  rfl
theorem mul_abs (a b : Int) : (decide (a < 0) ≠ decide (b < 0) → a * b = -((a.natAbs * b.natAbs : Nat) : Int)) ∧ (decide (a < 0) = decide (b < 0) → a * b = ((a.natAbs * b.natAbs : Nat) : Int)) := by
  rw [Int.natCast_mul]
  rcases Int.lt_or_le a 0 with ha | ha <;> rcases Int.lt_or_le b 0 with hb | hb
  · rw [Int.ofNat_natAbs_of_nonpos (by omega), Int.ofNat_natAbs_of_nonpos (by omega), Int.neg_mul_neg]
    simp [ha, hb]
  · rw [Int.ofNat_natAbs_of_nonpos (by omega), Int.natAbs_of_nonneg hb, Int.neg_mul, Int.neg_neg]
    have : ¬ b < 0 := by omega
    simp [ha, this]
  · rw [Int.natAbs_of_nonneg ha, Int.ofNat_natAbs_of_nonpos (by omega), Int.mul_neg, Int.neg_neg]
    have : ¬ a < 0 := by omega
    simp [hb, this]
  · rw [Int.natAbs_of_nonneg ha, Int.natAbs_of_nonneg hb]
    simp [Int.not_lt.2 ha, Int.not_lt.2 hb]
theorem times_ok {a b : Int} (ha : fitI a) (hb : fitI b) (w : World) : Calls Tryd.prog 99 #[.int .i64 a, .int .i64 b] w fun e w' => ∃ n : Int, e = .returned (.tuple #[.int .i64 n, .bool (decide (fitI (a * b)))]) ∧ (fitI (a * b) → n = a * b) ∧ Ext w w' := by
  apply times_vc
  unfold times_T
  have ha' : a.natAbs ≤ 9223372036854775808 := by unfold fitI at ha; omega
  have hb' : b.natAbs ≤ 9223372036854775808 := by unfold fitI at hb; omega
  refine (times1_ok ha w).mono ?_
  rintro e w2 ⟨rfl, e2⟩
  refine ⟨_, rfl, (times1_ok hb w2).mono ?_⟩
  rintro e w5 ⟨rfl, e5⟩
  refine ⟨_, rfl, (mul64_ok (by omega) (by omega) w5).mono ?_⟩
  rintro e w8 ⟨rfl, e8⟩
  have hx := (e2.trans e5).trans e8
  obtain ⟨m1, m2⟩ := mul_abs a b
  generalize a.natAbs * b.natAbs = P at m1 m2
  refine ⟨_, _, rfl, fun hne => ⟨0, ?_, fun hf => ?_, hx⟩, fun h0 => ⟨fun hs => ⟨IntKind.i64.wrap (0 - IntKind.i64.wrap ((P % 18446744073709551616 : Nat) : Int)), ?_, fun hf => ?_, hx⟩, fun hs => ⟨IntKind.i64.wrap ((P % 18446744073709551616 : Nat) : Int), ?_, fun hf => ?_, hx⟩⟩⟩
  · have : ¬ fitI (a * b) := by
      unfold fitI
      by_cases hs : decide (a < 0) = decide (b < 0)
      · rw [m2 hs]; omega
      · rw [m1 hs]; omega
    rw [decide_eq_false this]
  · unfold fitI at hf
    exfalso
    by_cases hs : decide (a < 0) = decide (b < 0)
    · rw [m2 hs] at hf; omega
    · rw [m1 hs] at hf; omega
  · have hP : P % 18446744073709551616 = P := by omega
    have : decide (((P % 18446744073709551616 : Nat) : Int) ≤ 9223372036854775808) = decide (fitI (a * b)) := by
      rw [m1 hs, hP, decide_eq_decide]; unfold fitI; omega
    rw [this]
  · rw [m1 hs] at hf ⊢
    unfold fitI at hf
    rw [IntKind.wrap_i64, IntKind.wrap_i64]; omega
  · have hP : P % 18446744073709551616 = P := by omega
    have : decide (((P % 18446744073709551616 : Nat) : Int) < 9223372036854775808) = decide (fitI (a * b)) := by
      rw [m2 hs, hP, decide_eq_decide]; unfold fitI; omega
    rw [this]
  · rw [m2 hs] at hf ⊢
    unfold fitI at hf
    rw [IntKind.wrap_i64]; omega

theorem xarith_ok (op : Int) {a b : Int} (ha : fitI a) (hb : fitI b) (w : World) : Calls Tryd.prog 83 #[.int .i64 op, .int .i64 a, .int .i64 b] w fun e w' => e = .returned (.tuple #[.int .i64 (arithF op a b).1, .int .i64 (arithF op a b).2]) ∧ Ext w w' := by
  apply xarith_vc
  unfold xarith_T
  have ew : ∀ x, fitI x → IntKind.i64.wrap x = x := fun x hx => by unfold fitI at hx; exact i64_fit hx.1 hx.2
  refine ⟨fun h => ⟨?_, .rfl⟩, fun hz => ⟨fun h3 => ⟨fun h => ⟨?_, .rfl⟩, fun h => ⟨?_, .rfl⟩⟩, fun h3 => ⟨fun h4 => ⟨fun h => ⟨?_, .rfl⟩, fun h => ⟨?_, .rfl⟩⟩, fun h4 => ⟨fun h5 => (times_ok ha hb w).mono ?_, fun h5 => ⟨fun h6 => ⟨?_, fun h => ⟨?_, .rfl⟩, fun h => ⟨?_, .rfl⟩⟩, fun h6 => ⟨fun h7 => ⟨?_, ?_, .rfl⟩, fun h7 => ⟨?_, .rfl⟩⟩⟩⟩⟩⟩⟩
  · unfold arithF; rw [if_pos h]
  · have := (add_over ha hb).1 h
    unfold arithF overF; rw [if_neg (by omega), if_pos h3, if_neg this]
  · have : fitI (a + b) := Decidable.not_not.1 fun hn => by have := (add_over ha hb).2 hn; omega
    rw [ew _ this]
    unfold arithF overF; rw [if_neg (by omega), if_pos h3, if_pos this]
  · have := (sub_over ha hb).1 h
    unfold arithF overF; rw [if_neg (by omega), if_neg h3, if_pos h4, if_neg this]
  · have : fitI (a - b) := Decidable.not_not.1 fun hn => by have := (sub_over ha hb).2 hn; omega
    rw [ew _ this]
    unfold arithF overF; rw [if_neg (by omega), if_neg h3, if_pos h4, if_pos this]
  · rintro e w13 ⟨n, rfl, hn, e13⟩
    refine ⟨_, _, rfl, fun hf => ⟨?_, e13⟩, fun hf => ⟨?_, e13⟩⟩
    · unfold arithF overF; rw [if_neg (by omega), if_neg h3, if_neg h4, if_pos h5, if_neg (of_decide_eq_false hf)]
    · rw [hn (of_decide_eq_true hf)]
      unfold arithF overF; rw [if_neg (by omega), if_neg h3, if_neg h4, if_pos h5, if_pos (of_decide_eq_true hf)]
  · omega
  · have : ¬ fitI (a.tdiv b) := fun hf => ((tdiv_fit ha (by omega)).1 hf) h
    unfold arithF overF; rw [if_neg (by omega), if_neg h3, if_neg h4, if_neg h5, if_pos h6, if_neg this]
  · have : fitI (a.tdiv b) := (tdiv_fit ha (by omega)).2 (by omega)
    unfold quoI
    rw [ew _ this]
    unfold arithF overF; rw [if_neg (by omega), if_neg h3, if_neg h4, if_neg h5, if_pos h6, if_pos this]
  · omega
  · unfold arithF remI; rw [if_neg (by omega), if_neg h3, if_neg h4, if_neg h5, if_neg h6, if_pos h7]
  · unfold arithF; rw [if_neg (by omega), if_neg h3, if_neg h4, if_neg h5, if_neg h6, if_neg h7]

theorem third_ok (v : Val) (w : World) : Calls Tryd.prog 81 #[v.agg] w fun e w' => e = .returned (.int .i64 (thirdI v)) ∧ Ext w w' := by
  apply third_vc
  unfold third_T
  intro b1 w2 h1
  obtain ⟨q0, q1, q2⟩ := (Blk.new h1).c3
  refine ⟨_, q0, fun h => ⟨?_, h1.ext⟩, fun h => ⟨_, q1, ?_, h1.ext⟩⟩
  · unfold thirdI; rw [if_pos h]
  · unfold thirdI; rw [if_neg h]
theorem answer_ok (n : Int) (w : World) : Calls Tryd.prog 80 #[.int .i64 n] w fun e w' => e = .returned (answerV n).agg ∧ Ext w w' := by
  apply answer_vc
  unfold answer_T
  intro b1 w2 h1
  have H := (Hold.start (Ext.rfl (w := w))).new h1
  obtain ⟨q0, q1, q2⟩ := (H.blk 0 rfl).c3
  refine ⟨fun h => ⟨⟨_, q0⟩, (H.blk 0 rfl).frozen _, ⟨_, q1⟩, (H.blk 0 rfl).frozen _, ⟨_, q2⟩, (H.blk 0 rfl).frozen _, fun w8 h8 => ?_⟩, fun h => (xtruth_ok _ w2).mono ?_⟩
  · have H8 := H.put 0 rfl h8
    have B : Blk w8 b1 26 #[.int .i64 0, .int .i64 0, .string ⟨#[]⟩] := H8.blk 0 rfl
    obtain ⟨q0, q1, q2⟩ := B.c3
    exact ⟨_, q0, _, q1, _, q2, by unfold answerV; rw [if_pos h]; rfl, H8.ext⟩
  · rintro e w15 ⟨rfl, e15⟩
    have H15 := H.step e15
    obtain ⟨q0, q1, q2⟩ := (H15.blk 0 rfl).c3
    refine ⟨_, _, _, rfl, ⟨_, q0⟩, (H15.blk 0 rfl).frozen _, ⟨_, q1⟩, (H15.blk 0 rfl).frozen _, ⟨_, q2⟩, (H15.blk 0 rfl).frozen _, fun w22 h22 => ?_⟩
    have H22 := H15.put 0 rfl h22
    have B : Blk w22 b1 26 #[.int .i64 (truthV (decide (n = 1))).k, .int .i64 (truthV (decide (n = 1))).n, .string (truthV (decide (n = 1))).s] := H22.blk 0 rfl
    obtain ⟨q0, q1, q2⟩ := B.c3
    exact ⟨_, q0, _, q1, _, q2, by unfold answerV; rw [if_neg h]; rfl, H22.ext⟩
end Go.Proofs.YtaccokhdmhomhaaDoor

/- The contracts of package expr: a node of one kid, of two. -/
namespace Go.Proofs.YtaccokhdmhomhaaDoor
open Go Go.Vc Go.RowKit
set_option maxRecDepth 20000

def trio (i : Int) : Prop := 0 ≤ i ∧ i < 3
theorem Tab2.and {w : World} (h : Tab2 w) {i j : Int} (hi : trio i) (hj : trio j) : w.cell? ⟨1, 0 + i.toNat * 3 + j.toNat, none⟩ = some (.int .i64 (andI i j)) := by
  obtain ⟨a, rfl⟩ := Int.eq_ofNat_of_zero_le hi.1
  obtain ⟨b, rfl⟩ := Int.eq_ofNat_of_zero_le hj.1
  unfold trio at hi hj
  rw [Int.toNat_natCast, Int.toNat_natCast, Nat.add_assoc]
  exact h.1 _ _ (tabA_at andI (by omega) (by omega))
theorem Tab2.or {w : World} (h : Tab2 w) {i j : Int} (hi : trio i) (hj : trio j) : w.cell? ⟨2, 0 + i.toNat * 3 + j.toNat, none⟩ = some (.int .i64 (orJ i j)) := by
  obtain ⟨a, rfl⟩ := Int.eq_ofNat_of_zero_le hi.1
  obtain ⟨b, rfl⟩ := Int.eq_ofNat_of_zero_le hj.1
  unfold trio at hi hj
  rw [Int.toNat_natCast, Int.toNat_natCast, Nat.add_assoc]
  exact h.2 _ _ (tabA_at orJ (by omega) (by omega))

theorem xpair_ok (op : Int) (a b : Val) (w : World) (hT : Tab2 w) (ha : fitI a.n) (hb : fitI b.n) (ht : op = 12 ∨ op = 13 → trio (thirdI a) ∧ trio (thirdI b)) :
    Calls Tryd.prog 63 #[.int .i64 op, a.agg, b.agg] w fun e w' => e = .returned (.tuple #[(pairF op a b).1.agg, .int .i64 (pairF op a b).2]) ∧ Ext w w' := by
  apply xpair_vc
  unfold xpair_T
  intro ba w2 h1 bb w5 h4 br w8 h7
  have H8 := (((Hold.start (Ext.rfl (w := w))).new h1).new h4).new h7
  have hT8 := hT.ext H8.ext
  have Ba : Blk w8 ba 26 #[.int .i64 a.k, .int .i64 a.n, .string a.s] := H8.blk 2 rfl
  have Bb : Blk w8 bb 26 #[.int .i64 b.k, .int .i64 b.n, .string b.s] := H8.blk 1 rfl
  refine ⟨fun hop w11 h11 => ?_, fun h12 => ⟨fun hop w11 h11 => ?_, fun h13 => ?_⟩⟩
  · obtain ⟨t1, t2⟩ := ht (.inl hop)
    have H11 := H8.step h11.ext
    obtain ⟨a0, a1, a2⟩ := (Ba.ext h11.ext).c3
    obtain ⟨b0, b1, b2⟩ := (Bb.ext h11.ext).c3
    refine ⟨_, a0, _, a1, _, a2, _, b0, _, b1, _, b2, (third_ok a w11).mono ?_⟩
    rintro e w20 ⟨rfl, e20⟩
    refine ⟨_, rfl, e20.same, t1.1, t1.2, (third_ok b w20).mono ?_⟩
    rintro e w23 ⟨rfl, e23⟩
    have H23 := (H11.step e20).step e23
    refine ⟨_, rfl, t2.1, t2.2, _, (hT.ext H23.ext).and t1 t2, (answer_ok _ w23).mono ?_⟩
    rintro e w27 ⟨rfl, e27⟩
    refine ⟨_, _, _, rfl, (H23.step e27).ret3 0 rfl _ _ _ fun W' hx => ⟨?_, hx⟩⟩
    unfold pairF; rw [if_pos hop]; rfl
  · obtain ⟨t1, t2⟩ := ht (.inr hop)
    have H11 := H8.step h11.ext
    obtain ⟨a0, a1, a2⟩ := (Ba.ext h11.ext).c3
    obtain ⟨b0, b1, b2⟩ := (Bb.ext h11.ext).c3
    refine ⟨_, a0, _, a1, _, a2, _, b0, _, b1, _, b2, (third_ok a w11).mono ?_⟩
    rintro e w20 ⟨rfl, e20⟩
    refine ⟨_, rfl, e20.same, t1.1, t1.2, (third_ok b w20).mono ?_⟩
    rintro e w23 ⟨rfl, e23⟩
    have H23 := (H11.step e20).step e23
    refine ⟨_, rfl, t2.1, t2.2, _, (hT.ext H23.ext).or t1 t2, (answer_ok _ w23).mono ?_⟩
    rintro e w27 ⟨rfl, e27⟩
    refine ⟨_, _, _, rfl, (H23.step e27).ret3 0 rfl _ _ _ fun W' hx => ⟨?_, hx⟩⟩
    unfold pairF; rw [if_neg h12, if_pos hop]; rfl
  · obtain ⟨a0, a1, a2⟩ := Ba.c3
    obtain ⟨b0, b1, b2⟩ := Bb.c3
    refine ⟨_, a0, fun hz => H8.ret3 0 rfl _ _ _ fun W' hx => ⟨?_, hx⟩, fun hz => ⟨_, b0, fun hz' => H8.ret3 0 rfl _ _ _ fun W' hx => ⟨?_, hx⟩, fun hz' => ⟨_, a0, _, a1, _, a2, _, b0, _, b1, _, b2, (vcompare_ok a b w8).mono ?_⟩⟩⟩
    · unfold pairF; rw [if_neg h12, if_neg h13, if_pos (.inl hz)]; rfl
    · unfold pairF; rw [if_neg h12, if_neg h13, if_pos (.inr hz')]; rfl
    rintro e w99 ⟨rfl, e99⟩
    have H99 := H8.step e99
    have hz2 : ¬ (a.k = 0 ∨ b.k = 0) := by omega
    refine ⟨_, rfl, fun h9 => (xtruth_ok _ w99).mono ?_, fun h9 => ⟨fun h10 => (xtruth_ok _ w99).mono ?_, fun h10 => ⟨fun h11 => (xtruth_ok _ w99).mono ?_, fun h11 => ?_⟩⟩⟩
    · rintro e w103 ⟨rfl, e103⟩
      refine ⟨_, _, _, rfl, (H99.step e103).ret3 0 rfl _ _ _ fun W' hx => ⟨?_, hx⟩⟩
      unfold pairF; rw [if_neg h12, if_neg h13, if_neg hz2, if_pos h9]; rfl
    · rintro e w103 ⟨rfl, e103⟩
      refine ⟨_, _, _, rfl, (H99.step e103).ret3 0 rfl _ _ _ fun W' hx => ⟨?_, hx⟩⟩
      unfold pairF; rw [if_neg h12, if_neg h13, if_neg hz2, if_neg h9, if_pos h10]; rfl
    · rintro e w103 ⟨rfl, e103⟩
      refine ⟨_, _, _, rfl, (H99.step e103).ret3 0 rfl _ _ _ fun W' hx => ⟨?_, hx⟩⟩
      unfold pairF; rw [if_neg h12, if_neg h13, if_neg hz2, if_neg h9, if_neg h10, if_pos h11]; rfl
    · refine ⟨_, cell_ext a1 e99, _, cell_ext b1 e99, (xarith_ok op ha hb w99).mono ?_⟩
      rintro e w149 ⟨rfl, e149⟩
      refine ⟨_, _, rfl, fun hne => (H99.step e149).ret3 0 rfl _ _ _ fun W' hx => ⟨?_, hx⟩, fun he => (H99.step e149).ret3 0 rfl _ _ _ fun W' hx => ⟨?_, hx⟩⟩
      · unfold pairF; rw [if_neg h12, if_neg h13, if_neg hz2, if_neg h9, if_neg h10, if_neg h11, if_pos hne]; rfl
      · unfold pairF; rw [if_neg h12, if_neg h13, if_neg hz2, if_neg h9, if_neg h10, if_neg h11, if_neg (by simpa using he)]; rfl

theorem xsingle_ok (op : Int) (v : Val) (w : World) (hT : Tab2 w) (hv : fitI v.n) :
    Calls Tryd.prog 62 #[.int .i64 op, v.agg] w fun e w' => e = .returned (.tuple #[(singleF op v).1.agg, .int .i64 (singleF op v).2]) ∧ Ext w w' := by
  apply xsingle_vc
  unfold xsingle_T
  intro bv w2 h1 br w5 h4
  have H5 := ((Hold.start (Ext.rfl (w := w))).new h1).new h4
  have Bv : Blk w5 bv 26 #[.int .i64 v.k, .int .i64 v.n, .string v.s] := H5.blk 1 rfl
  obtain ⟨a0, a1, a2⟩ := Bv.c3
  refine ⟨fun h15 => ⟨_, a0, (xtruth_ok _ w5).mono ?_⟩, fun h15 => ⟨_, a0, fun hz => ⟨_, a0, _, a1, _, a2, H5.ret3 0 rfl _ _ _ fun W' hx => ⟨?_, hx⟩⟩, fun hz => ⟨fun h14 => ⟨_, a1, (xtruth_ok _ w5).mono ?_⟩, fun h14 => ⟨fun h16 => ⟨_, a2, H5.ret3 0 rfl _ _ _ fun W' hx => ⟨?_, hx⟩⟩,
    fun h16 => ⟨_, a0, _, a1, _, a2, (xpair_ok 4 (numV 0) v w5 (hT.ext H5.ext) (by decide) hv (fun h => by omega)).mono ?_⟩⟩⟩⟩⟩
  · rintro e w10 ⟨rfl, e10⟩
    refine ⟨_, _, _, rfl, (H5.step e10).ret3 0 rfl _ _ _ fun W' hx => ⟨?_, hx⟩⟩
    unfold singleF; rw [if_pos h15]; rfl
  · unfold singleF; rw [if_neg h15, if_pos hz]; rfl
  · rintro e w10 ⟨rfl, e10⟩
    refine ⟨_, _, _, rfl, (H5.step e10).ret3 0 rfl _ _ _ fun W' hx => ⟨?_, hx⟩⟩
    unfold singleF; rw [if_neg h15, if_neg hz, if_pos h14]; rfl
  · unfold singleF; rw [if_neg h15, if_neg hz, if_neg h14, if_pos h16]; rfl
  · rintro e w68 ⟨rfl, e68⟩
    refine ⟨_, _, _, _, rfl, (H5.step e68).ret3 0 rfl _ _ _ fun W' hx => ⟨?_, hx⟩⟩
    unfold singleF; rw [if_neg h15, if_neg hz, if_neg h14, if_neg h16]; rfl
end Go.Proofs.YtaccokhdmhomhaaDoor

/- The contracts of package expr: kinds. -/
namespace Go.Proofs.YtaccokhdmhomhaaDoor
open Go Go.Vc Go.RowKit
set_option maxRecDepth 20000

theorem many_le (op : Int) : manyOf op ≤ 2 := by
  unfold manyOf
  split
  · omega
  · split
    · omega
    · split <;> omega
theorem alike_ok (a b : Int) (w : World) : Calls Tryd.prog 61 #[.int .i64 a, .int .i64 b] w fun e w' => e = .returned (.bool (alikeB a b)) ∧ Ext w w' := by
  apply alike_vc
  unfold alike_T
  exact ⟨rfl, .rfl⟩

set_option maxHeartbeats 4000000 in
theorem xkind_ok : ∀ (N : Nat) (x : Ex) {w : World} {p : Option Addr} {n c : Nat} {cols : List Col} {cs : List Value}, depthT x ≤ N → (∀ y ∈ nodesT x, NodeOk y) → Tab w → Cols w p n c cols → ExAt w x cs →
    Calls Tryd.prog 38 #[.slice p n c, .agg cs.toArray] w fun e w' => e = .returned (.tuple #[.int .i64 (kindF cols x).1, .int .i64 (kindF cols x).2]) ∧ Ext w w' := by
  intro N
  induction N with
  | zero => intro x w p n c cols cs hd; cases x; unfold depthT at hd; omega
  | succ N ih =>
  intro x w p n c cols cs hd hno hT hc hx
  obtain ⟨xp, xn, xc, rfl, hkl, hxn, hkid⟩ := hx.six
  obtain ⟨hmany, _⟩ := hno x (self_node x)
  have h2 := many_le x.op
  have hop := many_range (op := x.op) (by omega)
  have hl := hc.len
  apply xkind_vc
  unfold xkind_T
  intro b1 w2 h1
  have H2 := (Hold.start (Ext.rfl (w := w))).new h1
  have B1 : Blk w2 b1 29 #[.int .i64 x.op, .string x.name, .int .i64 x.v.k, .int .i64 x.v.n, .string x.v.s, .slice xp xn xc] := H2.blk 0 rfl
  obtain ⟨a0, a1, a2, a3, a4, a5⟩ := B1.c6
  obtain ⟨t0, t1, t2⟩ := (hT.ext H2.ext).at (op := x.op) (by omega) (by omega)
  refine ⟨_, a0, by omega, by omega, _, t0, _, t1, _, t2, fun b8 w9 h8 => ?_⟩
  have H9 := H2.new h8
  obtain ⟨q0, q1, q2⟩ := (H9.blk 0 rfl).c3
  refine ⟨⟨_, q0⟩, (H9.blk 0 rfl).frozen _, ⟨_, q1⟩, (H9.blk 0 rfl).frozen _, ⟨_, q2⟩, (H9.blk 0 rfl).frozen _, fun w14 h14 b16 w17 h16 => ?_⟩
  have H17 := (H9.put 0 rfl h14).new h16
  let fs : List Int → List (Nat × Obj) := fun L => [(b16, .cells #[.int .i64 (L.getD 0 0), .int .i64 (L.getD 1 0)] 93 (0, 0)), (b8, .cells #[.int .i64 (manyOf x.op), .int .i64 (wantOf x.op), .int .i64 (kindOf x.op)] 90 (0, 0)),
    (b1, .cells #[.int .i64 x.op, .string x.name, .int .i64 x.v.k, .int .i64 x.v.n, .string x.v.s, .slice xp xn xc] 29 (0, 0))]
  have H17 : Hold w w17 (fs []) [] := H17
  have c5 : ∀ {L : List Int} {W : World}, Hold w W (fs L) [] → W.cell? ⟨b1, 5, none⟩ = some (.slice xp xn xc) := fun H => by rw [(H.blk 2 rfl).cell]; rfl
  refine ⟨_, _, _, c5 H17, fun i W => ∃ j : Nat, i = (j : Int) ∧ j ≤ xn ∧ (runL (kindF cols) (x.kids.take j)).2 = 0 ∧ Hold w W (fs (runL (kindF cols) (x.kids.take j)).1) [], fun i _ => xn - i.toNat, ⟨0, rfl, Nat.zero_le _, rfl, H17⟩, ?_⟩
  rintro i W ⟨j, rfl, hj, hrun, H⟩
  refine ⟨fun hlt => ?_, fun hge => ?_⟩
  · have g : x.kids[j]? = some (x.kids[j]'(by omega)) := List.getElem?_eq_getElem _
    generalize x.kids[j]'(by omega) = k at g
    obtain ⟨kc, b, o, hk, hp, hcell⟩ := hkid H.ext g
    obtain ⟨kp, kn, kcap, hkc, _⟩ := hk.six
    simp only [Int.toNat_natCast]
    have e0 := hcell 0 _ (by rw [hkc]; rfl)
    have e1 := hcell 1 _ (by rw [hkc]; rfl)
    have e2 := hcell 2 _ (by rw [hkc]; rfl)
    have e3 := hcell 3 _ (by rw [hkc]; rfl)
    have e4 := hcell 4 _ (by rw [hkc]; rfl)
    have e5 := hcell 5 _ (by rw [hkc]; rfl)
    refine ⟨b, o, hp, by omega, by omega, _, e0, _, e1, _, e2, _, e3, _, e4, _, _, _, e5, fun b38 w39 h38 => ?_⟩
    have H39 := H.new h38
    refine (H39.blk 0 rfl).w6 fun w47 h47 => ?_
    have H47 := H39.put 0 rfl h47
    have Bk : Blk w47 b38 29 #[.int .i64 k.op, .string k.name, .int .i64 k.v.k, .int .i64 k.v.n, .string k.v.s, .slice kp kn kcap] := H47.blk 0 rfl
    obtain ⟨a0, a1, a2, a3, a4, a5⟩ := Bk.c6
    subst hkc
    refine ⟨_, a0, _, a1, _, a2, _, a3, _, a4, _, _, _, a5, (ih k (by have := kid_depth g; omega) (fun y hy => hno y (kid_node g hy)) (hT.ext H47.ext) (hc.ext H47.ext) (hk.ext H47.ext)).mono ?_⟩
    rintro e w58 ⟨rfl, e58⟩
    have H58 := H47.step e58
    refine ⟨_, _, rfl, fun hne => ⟨?_, H58.ext⟩, fun he => ⟨by omega, by omega, ?_⟩⟩
    · rw [kindF_eq cols x, runL_stop g hrun hne, if_pos hne]
    · have H58 : Hold w w58 ((b38, _) :: fs (runL (kindF cols) (x.kids.take j)).1) [] := H58
      have hnx := runL_take (f := kindF cols) g hrun
      rw [if_neg (by simpa using he)] at hnx
      have hlen := runL_len hrun
      rw [List.length_take, Nat.min_eq_left (by omega)] at hlen
      have Bq := H58.blk 1 rfl
      have hcellj : ∃ u, w58.cell? ⟨b16, 0 + j, none⟩ = some u := by
        rcases (by omega : j = 0 ∨ j = 1) with rfl | rfl
        · exact ⟨_, by rw [Bq.cell]; rfl⟩
        · exact ⟨_, by rw [Bq.cell]; rfl⟩
      refine ⟨hcellj, Bq.frozen _, fun w64 h64 => ?_⟩
      have H64 := (H58.put 1 rfl h64).tail
      rw [i64_next (by omega)]
      refine ⟨⟨j + 1, rfl, by omega, by rw [hnx], ?_⟩, by simp only [Int.toNat_natCast]; omega⟩
      rw [hnx]
      generalize (runL (kindF cols) (x.kids.take j)).1 = L at hlen H64 ⊢
      rcases (by omega : j = 0 ∨ j = 1) with rfl | rfl
      · rw [List.length_eq_zero_iff] at hlen
        subst hlen
        exact H64
      · obtain ⟨g0, rfl⟩ := List.length_eq_one_iff.1 hlen
        exact H64
  · have hjn : j = xn := by omega
    subst hjn
    rw [List.take_of_length_le (by omega)] at hrun H
    have hlen := runL_len hrun
    generalize hL : (runL (kindF cols) x.kids).1 = L at hlen H
    have hkf : kindF cols x = kindN cols x.op x.name x.v L := by rw [kindF_eq, if_neg (by simpa using hrun), hL]
    refine ⟨_, _, _, c5 H, fun i W => ∃ k : Nat, i = (k : Int) ∧ k ≤ j ∧ (wantOf x.op ≠ 0 → ∀ g ∈ L.take k, alikeB g (wantOf x.op) = true) ∧ Hold w W (fs L) [], fun i _ => j - i.toNat, ⟨0, rfl, Nat.zero_le _, by simp, H⟩, ?_⟩
    clear H
    rintro i W ⟨k, rfl, hk, hal, H⟩
    refine ⟨fun hlt w76 h76 => ?_, fun hge => ?_⟩
    · have H76 := H.step h76.ext
      have Bs : Blk w76 b8 90 #[.int .i64 (manyOf x.op), .int .i64 (wantOf x.op), .int .i64 (kindOf x.op)] := H76.blk 1 rfl
      obtain ⟨s0, s1, s2⟩ := Bs.c3
      have g : L[k]? = some (L[k]'(by omega)) := List.getElem?_eq_getElem _
      generalize L[k]'(by omega) = gk at g
      have hck : w76.cell? ⟨b16, 0 + k, none⟩ = some (.int .i64 gk) := by
        have Bq := H76.blk 0 rfl
        rw [Bq.cell]
        rcases (by omega : k = 0 ∨ k = 1) with rfl | rfl
        · show some (Value.int .i64 (L.getD 0 0)) = _
          rw [List.getD_eq_getElem?_getD, g]; rfl
        · show some (Value.int .i64 (L.getD 1 0)) = _
          rw [List.getD_eq_getElem?_getD, g]; rfl
      have nxt : ∀ W', Ext w76 W' → (wantOf x.op ≠ 0 → alikeB gk (wantOf x.op) = true) → (∃ k' : Nat, IntKind.i64.wrap ((k : Int) + 1) = (k' : Int) ∧ k' ≤ j ∧ (wantOf x.op ≠ 0 → ∀ g ∈ L.take k', alikeB g (wantOf x.op) = true) ∧ Hold w W' (fs L) []) ∧
          j - (IntKind.i64.wrap ((k : Int) + 1)).toNat < j - k := by
        intro W' e hb
        rw [i64_next (by omega)]
        refine ⟨⟨k + 1, rfl, by omega, fun hw y hy => ?_, H76.step e⟩, by simp only [Int.toNat_natCast]; omega⟩
        rw [List.take_add_one, g] at hy
        rcases List.mem_append.1 hy with hy | hy
        · exact hal hw y hy
        · simp at hy; subst hy; exact hb hw
      simp only [Int.toNat_natCast]
      refine ⟨_, s1, fun hw => ⟨by omega, by omega, _, hck, _, s1, (alike_ok gk (wantOf x.op) w76).mono ?_⟩, fun hw => nxt w76 .rfl fun h => absurd hw h⟩
      rintro e w83 ⟨rfl, e83⟩
      refine ⟨_, rfl, fun hb => ⟨?_, (H76.step e83).ext⟩, fun hb => nxt w83 e83 fun _ => hb⟩
      rw [hkf]
      unfold kindN
      rw [if_pos ⟨hw, fun hall => by rw [hall gk (List.mem_of_getElem? g)] at hb; cases hb⟩]
    · have hkj : k = j := by omega
      rw [hkj, List.take_of_length_le (by omega)] at hal
      have hwant : ¬ (wantOf x.op ≠ 0 ∧ ¬ (∀ g ∈ L, alikeB g (wantOf x.op) = true)) := fun h => h.2 (hal h.1)
      have B1 : Blk W b1 29 #[.int .i64 x.op, .string x.name, .int .i64 x.v.k, .int .i64 x.v.n, .string x.v.s, .slice xp j xc] := H.blk 2 rfl
      obtain ⟨a0, a1, a2, a3, a4, a5⟩ := B1.c6
      have Bs : Blk W b8 90 #[.int .i64 (manyOf x.op), .int .i64 (wantOf x.op), .int .i64 (kindOf x.op)] := H.blk 1 rfl
      obtain ⟨s0, s1, s2⟩ := Bs.c3
      have Bq := H.blk 0 rfl
      have k0 : W.cell? ⟨b16, 0, none⟩ = some (.int .i64 (L.getD 0 0)) := by rw [Bq.cell]; rfl
      have k1 : W.cell? ⟨b16, 1, none⟩ = some (.int .i64 (L.getD 1 0)) := by rw [Bq.cell]; rfl
      have plain : x.op ≠ 1 → x.op ≠ 2 → ¬ ((x.op = 9 ∨ x.op = 10 ∨ x.op = 11) ∧ alikeB (L.getD 0 0) (L.getD 1 0) = false) → kindF cols x = (kindOf x.op, 0) := fun h1 h2 h9 => by
        rw [hkf]; unfold kindN; rw [if_neg hwant, if_neg h1, if_neg h2, if_neg h9]
      refine ⟨_, a0, fun h1 => ⟨_, a1, (sfind_ok (hc.ext H.ext) x.name).mono ?_⟩, fun h1 => ⟨fun h2 => ⟨_, a2, ?_, H.ext⟩, fun h2 => ?_⟩⟩
      · rintro e w93 ⟨rfl, e93⟩
        have hx93 := H.ext.trans e93
        refine ⟨_, rfl, fun hneg => ⟨?_, hx93⟩, fun hpos => ?_⟩
        · rw [hkf]; unfold kindN; rw [if_neg hwant, if_pos h1, if_pos hneg]
        · obtain ⟨y, hy, hyn⟩ := findC_get hpos
          obtain ⟨b, o, hp, d0, d1, d2⟩ := (hc.ext hx93).col hy
          have hrg := findC_range cols x.name
          refine ⟨b, o, hp, hpos, by omega, _, d1, ?_, hx93⟩
          rw [hkf]; unfold kindN; rw [if_neg hwant, if_pos h1, if_neg (by omega), hy]; rfl
      · rw [hkf]; unfold kindN; rw [if_neg hwant, if_neg h1, if_pos h2]
      · refine ⟨fun h9 => ⟨fun _ => ?_, fun h => absurd h9 h⟩, fun h9 => ⟨fun h10 => ⟨fun _ => ?_, fun h => absurd h10 h⟩, fun h10 => ⟨fun h11 => ?_, fun h11 => ⟨_, s2, ?_, H.ext⟩⟩⟩⟩
        rotate_left 3
        · rw [plain h1 h2 (by omega)]
        all_goals
          refine ⟨by omega, by omega, _, k0, by omega, by omega, _, k1, (alike_ok _ _ W).mono ?_⟩
          rintro e w109 ⟨rfl, e109⟩
          refine ⟨_, rfl, fun hb => ⟨?_, H.ext.trans e109⟩, fun hb => ⟨_, cell_ext s2 e109, ?_, H.ext.trans e109⟩⟩
          · rw [hkf]; unfold kindN; rw [if_neg hwant, if_neg h1, if_neg h2, if_pos ⟨by omega, hb⟩]
          · rw [plain h1 h2 (fun h => by rw [h.2] at hb; cases hb)]

theorem xtype_ok (x : Ex) {w : World} {p : Option Addr} {n c : Nat} {cols : List Col} {cs : List Value} (hT : Tab w) (hc : Cols w p n c cols) (hx : ExAt w x cs) :
    Calls Tryd.prog 18 #[.slice p n c, .agg cs.toArray] w fun e w' => e = .returned (.tuple #[.int .i64 (typeF cols x).1, .int .i64 (typeF cols x).2]) ∧ Ext w w' := by
  obtain ⟨xp, xn, xc, hcs, _⟩ := hx.six
  have hcs' := hcs
  subst hcs
  apply xtype_vc
  unfold xtype_T
  intro b1 w2 h1
  have H2 := (Hold.start (Ext.rfl (w := w))).new h1
  refine (sright_ok (hc.ext H2.ext)).mono ?_
  rintro e w5 ⟨rfl, e5⟩
  have H5 := H2.step e5
  refine ⟨_, rfl, fun hb => ⟨by unfold typeF; rw [if_pos hb], H5.ext⟩, fun hb => ?_⟩
  have B1 : Blk w5 b1 29 #[.int .i64 x.op, .string x.name, .int .i64 x.v.k, .int .i64 x.v.n, .string x.v.s, .slice xp xn xc] := H5.blk 0 rfl
  obtain ⟨a0, a1, a2, a3, a4, a5⟩ := B1.c6
  refine ⟨_, a0, _, a1, _, a2, _, a3, _, a4, _, _, _, a5, (xformed_ok (hT.ext H5.ext) x (hx.ext H5.ext)).mono ?_⟩
  rintro e w18 ⟨rfl, e18⟩
  have H18 := H5.step e18
  refine ⟨_, rfl, fun hf => ⟨by unfold typeF; rw [if_neg (by simp [hb]), if_pos hf], H18.ext⟩, fun hf => ?_⟩
  have hfp : FormedP x := of_decide_eq_true hf
  refine ⟨_, cell_ext a0 e18, _, cell_ext a1 e18, _, cell_ext a2 e18, _, cell_ext a3 e18, _, cell_ext a4 e18, _, _, _, cell_ext a5 e18, (xkind_ok _ x (Nat.le_refl _) hfp.1 (hT.ext H18.ext) (hc.ext H18.ext) (hx.ext H18.ext)).mono ?_⟩
  rintro e w31 ⟨rfl, e31⟩
  exact ⟨_, _, rfl, by unfold typeF; rw [if_neg (by simp [hb]), if_neg (by simp [hf])], (H18.step e31).ext⟩
end Go.Proofs.YtaccokhdmhomhaaDoor

/- The contracts of package expr: values. -/
namespace Go.Proofs.YtaccokhdmhomhaaDoor
open Go Go.Vc Go.RowKit
set_option maxRecDepth 20000

theorem GoodV.trio' {v : Val} (h : GoodV 2 v) : trio (thirdI v) := Go.Vc.GoodV.trio h
set_option maxHeartbeats 4000000 in
theorem xeval_ok : ∀ (N : Nat) (x : Ex) {w : World} {p rp : Option Addr} {n c rn rc : Nat} {cols : List Col} {row : List Val} {cs : List Value}, depthT x ≤ N → (∀ y ∈ nodesT x, NodeOk y ∧ fitI y.v.n) → (kindF cols x).2 = 0 → fitsL cols row = true → (∀ u ∈ row, fitI u.n) →
    Tab2 w → Cols w p n c cols → Vs w rp rn rc row → ExAt w x cs →
    Calls Tryd.prog 39 #[.slice p n c, .slice rp rn rc, .agg cs.toArray] w fun e w' => e = .returned (.tuple #[(valueF cols row x).1.agg, .int .i64 (valueF cols row x).2]) ∧ Ext w w' := by
  intro N
  induction N with
  | zero => intro x w p rp n c rn rc cols row cs hd; cases x; unfold depthT at hd; omega
  | succ N ih =>
  intro x w p rp n c rn rc cols row cs hd hno hkind hfits hfit hT hc hr hx
  obtain ⟨xp, xn, xc, rfl, hkl, hxn, hkid⟩ := hx.six
  obtain ⟨hxo, hxf⟩ := hno x (self_node x)
  have h2 := many_le x.op
  have hmany := hxo.1
  have hrl := hr.len
  obtain ⟨hk1, hk2⟩ := kids_kinds hkind
  have hgood : ∀ (i : Nat) k, x.kids[i]? = some k → Go.Vc.Good (kindF cols k).1 (valueF cols row k) := fun i k hi => typed hfits hfit _ k (Nat.le_refl _) (fun y hy => hno y (kid_node hi hy)) (runL_get hk1 hi).1
  apply xeval_vc
  unfold xeval_T
  intro b1 w2 h1 b4 w5 h4 b7 w8 h7
  have H8 := (((Hold.start (Ext.rfl (w := w))).new h1).new h4).new h7
  let fs : List Val → List (Nat × Obj) := fun L => [(b7, .cells #[.int .i64 (L.getD 0 nullV).k, .int .i64 (L.getD 0 nullV).n, .string (L.getD 0 nullV).s, .int .i64 (L.getD 1 nullV).k, .int .i64 (L.getD 1 nullV).n, .string (L.getD 1 nullV).s] 95 (0, 0)),
    (b4, .cells #[.int .i64 0, .int .i64 0, .string ⟨#[]⟩] 26 (0, 0)), (b1, .cells #[.int .i64 x.op, .string x.name, .int .i64 x.v.k, .int .i64 x.v.n, .string x.v.s, .slice xp xn xc] 29 (0, 0))]
  have H8 : Hold w w8 (fs []) [] := H8
  have c5 : ∀ {L : List Val} {W : World}, Hold w W (fs L) [] → W.cell? ⟨b1, 5, none⟩ = some (.slice xp xn xc) := fun H => by rw [(H.blk 2 rfl).cell]; rfl
  refine ⟨_, _, _, c5 H8, fun i W => ∃ j : Nat, i = (j : Int) ∧ j ≤ xn ∧ (runL (valueF cols row) (x.kids.take j)).2 = 0 ∧ Hold w W (fs (runL (valueF cols row) (x.kids.take j)).1) [], fun i _ => xn - i.toNat, ⟨0, rfl, Nat.zero_le _, rfl, H8⟩, ?_⟩
  rintro i W ⟨j, rfl, hj, hrun, H⟩
  refine ⟨fun hlt => ?_, fun hge => ?_⟩
  · have g : x.kids[j]? = some (x.kids[j]'(by omega)) := List.getElem?_eq_getElem _
    generalize x.kids[j]'(by omega) = k at g
    obtain ⟨kc, b, o, hk, hp, hcell⟩ := hkid H.ext g
    obtain ⟨kp, kn, kcap, hkc, _⟩ := hk.six
    simp only [Int.toNat_natCast]
    have e0 := hcell 0 _ (by rw [hkc]; rfl)
    have e1 := hcell 1 _ (by rw [hkc]; rfl)
    have e2 := hcell 2 _ (by rw [hkc]; rfl)
    have e3 := hcell 3 _ (by rw [hkc]; rfl)
    have e4 := hcell 4 _ (by rw [hkc]; rfl)
    have e5 := hcell 5 _ (by rw [hkc]; rfl)
    refine ⟨b, o, hp, by omega, by omega, _, e0, _, e1, _, e2, _, e3, _, e4, _, _, _, e5, fun b29 w30 h29 => ?_⟩
    have H30 := H.new h29
    refine (H30.blk 0 rfl).w6 fun w38 h38 => ?_
    have H38 := H30.put 0 rfl h38
    have Bk : Blk w38 b29 29 #[.int .i64 k.op, .string k.name, .int .i64 k.v.k, .int .i64 k.v.n, .string k.v.s, .slice kp kn kcap] := H38.blk 0 rfl
    obtain ⟨a0, a1, a2, a3, a4, a5⟩ := Bk.c6
    subst hkc
    refine ⟨_, a0, _, a1, _, a2, _, a3, _, a4, _, _, _, a5, (ih k (by have := kid_depth g; omega) (fun y hy => hno y (kid_node g hy)) (runL_get hk1 g).1 hfits hfit (hT.ext H38.ext) (hc.ext H38.ext) (hr.ext H38.ext) (hk.ext H38.ext)).mono ?_⟩
    rintro e w49 ⟨rfl, e49⟩
    have H49 := (H38.step e49).tail
    refine ⟨_, _, _, _, rfl, fun b54 w55 h54 => ?_⟩
    have H55 := H49.new h54
    obtain ⟨q0, q1, q2⟩ := (H55.blk 0 rfl).c3
    refine ⟨⟨_, q0⟩, (H55.blk 0 rfl).frozen _, ⟨_, q1⟩, (H55.blk 0 rfl).frozen _, ⟨_, q2⟩, (H55.blk 0 rfl).frozen _, fun w60 h60 => ?_⟩
    have H60 := H55.put 0 rfl h60
    have Bv : Blk w60 b54 26 #[.int .i64 (valueF cols row k).1.k, .int .i64 (valueF cols row k).1.n, .string (valueF cols row k).1.s] := H60.blk 0 rfl
    obtain ⟨v0, v1, v2⟩ := Bv.c3
    refine ⟨fun hne => H60.ret3 2 rfl _ _ _ fun W' hx => ⟨?_, hx⟩, fun he => ⟨_, v0, _, v1, _, v2, by omega, by omega, ?_⟩⟩
    · rw [valueF_eq cols row x, runL_stop g hrun hne, if_pos hne]; rfl
    · have H60 : Hold w w60 ((b54, _) :: fs (runL (valueF cols row) (x.kids.take j)).1) [] := H60
      have hnx := runL_take (f := valueF cols row) g hrun
      rw [if_neg (by simpa using he)] at hnx
      have hlen := runL_len hrun
      rw [List.length_take, Nat.min_eq_left (by omega)] at hlen
      have Bq := H60.blk 1 rfl
      have hcells : ∀ i, i < 3 → ∃ u, w60.cell? ⟨b7, 0 + j * 3 + i, none⟩ = some u := by
        intro i hi
        rw [Bq.cell]
        exact ⟨_, Array.getElem?_eq_getElem (by simp; omega)⟩
      refine ⟨hcells 0 (by decide), Bq.frozen _, hcells 1 (by decide), Bq.frozen _, hcells 2 (by decide), Bq.frozen _, fun w78 h78 => ?_⟩
      have H78 := (H60.put 1 rfl h78).tail
      rw [i64_next (by omega)]
      refine ⟨⟨j + 1, rfl, by omega, by rw [hnx], ?_⟩, by simp only [Int.toNat_natCast]; omega⟩
      rw [hnx]
      generalize (runL (valueF cols row) (x.kids.take j)).1 = L at hlen H78 ⊢
      rcases (by omega : j = 0 ∨ j = 1) with rfl | rfl
      · rw [List.length_eq_zero_iff] at hlen
        subst hlen
        exact H78
      · obtain ⟨g0, rfl⟩ := List.length_eq_one_iff.1 hlen
        exact H78
  · have hjn : j = xn := by omega
    subst hjn
    rw [List.take_of_length_le (by omega)] at hrun H
    have hlen := runL_len hrun
    have hlk := runL_len hk1
    have hrel : ∀ (i : Nat) g u, (runL (kindF cols) x.kids).1[i]? = some g → (runL (valueF cols row) x.kids).1[i]? = some u → GoodV g u := by
      intro i g u hg hu
      have hi : i < x.kids.length := by rw [← hlk]; exact (List.getElem?_eq_some_iff.1 hg).1
      have hki : x.kids[i]? = some x.kids[i] := List.getElem?_eq_getElem hi
      have e1 := runL_get hk1 hki
      have e2 := runL_get hrun hki
      rw [hg] at e1
      rw [hu] at e2
      have := hgood i _ hki
      cases e1.2
      cases e2.2
      rcases this with h | h
      · exact h.2
      · have := e2.1; omega
    obtain ⟨_, htrio, hcol⟩ := node_good (by rw [hlen]; exact hmany) (by omega) hxo.2.2.2 hxf hrel (by rw [← hk2]; exact hkind) hfits hfit
    have hfitL : ∀ (i : Nat) u, (runL (valueF cols row) x.kids).1[i]? = some u → GoodV u.k u := by
      intro i u hu
      have hi : i < (runL (kindF cols) x.kids).1.length := by rw [hlk, ← hlen]; exact (List.getElem?_eq_some_iff.1 hu).1
      obtain ⟨a, b, _⟩ := hrel i _ u (List.getElem?_eq_getElem hi) hu
      exact ⟨a, b, .inr rfl⟩
    generalize hL : (runL (valueF cols row) x.kids).1 = L at hlen H hfitL htrio
    have hvf : valueF cols row x = valueN cols row x.op x.name x.v L := by rw [valueF_eq, if_neg (by simpa using hrun), hL]
    have B1 : Blk W b1 29 #[.int .i64 x.op, .string x.name, .int .i64 x.v.k, .int .i64 x.v.n, .string x.v.s, .slice xp j xc] := H.blk 2 rfl
    obtain ⟨a0, a1, a2, a3, a4, a5⟩ := B1.c6
    have Bq : Blk W b7 95 #[.int .i64 (L.getD 0 nullV).k, .int .i64 (L.getD 0 nullV).n, .string (L.getD 0 nullV).s, .int .i64 (L.getD 1 nullV).k, .int .i64 (L.getD 1 nullV).n, .string (L.getD 1 nullV).s] := H.blk 0 rfl
    obtain ⟨s0, s1, s2, s3, s4, s5⟩ := Bq.c6
    refine ⟨_, a0, fun h1 => ⟨_, a1, (sfind_ok (hc.ext H.ext) x.name).mono ?_⟩, fun h1 => ⟨_, a0, fun h2 => ⟨_, a2, _, a3, _, a4, H.ret3 1 rfl _ _ _ fun W' hx => ⟨?_, hx⟩⟩, fun h2 => ⟨_, _, _, a5, fun hone => ?_, fun hone => ?_⟩⟩⟩
    · rintro e w85 ⟨rfl, e85⟩
      have H85 := H.step e85
      have hcol' := hcol h1
      have gu : row[(findC cols x.name).toNat]? = some (row[(findC cols x.name).toNat]'(by omega)) := List.getElem?_eq_getElem _
      generalize row[(findC cols x.name).toNat]'(by omega) = u at gu
      obtain ⟨b, o, hp, d0, d1, d2⟩ := (hr.ext H85.ext).val gu
      refine ⟨_, rfl, b, o, hp, hcol'.1, by omega, _, d0, _, d1, _, d2, H85.ret3 1 rfl _ _ _ fun W' hx => ⟨?_, hx⟩⟩
      rw [hvf]; unfold valueN; rw [if_pos h1, gu]; rfl
    · rw [hvf]; unfold valueN; rw [if_neg h1, if_pos h2]; rfl
    · have hl1 : L.length = 1 := by omega
      have g0 : L[0]? = some (L.getD 0 nullV) := by rw [List.getD_eq_getElem?_getD, List.getElem?_eq_getElem (by omega : 0 < L.length)]; rfl
      refine ⟨_, a0, by omega, by omega, _, s0, _, s1, _, s2, (xsingle_ok x.op (L.getD 0 nullV) W (hT.ext H.ext) (hfitL _ _ g0).2.1).mono ?_⟩
      rintro e w124 ⟨rfl, e124⟩
      refine ⟨_, _, _, _, rfl, (H.step e124).ret3 1 rfl _ _ _ fun W' hx => ⟨?_, hx⟩⟩
      rw [hvf]; unfold valueN; rw [if_neg h1, if_neg h2, if_pos hl1]; rfl
    · have hl2 : L.length = 2 := by
        have : manyOf x.op ≠ 0 := by unfold manyOf; rw [if_neg (by omega)]; split
                                     · omega
                                     · split <;> omega
        omega
      have g0 : L[0]? = some (L.getD 0 nullV) := by rw [List.getD_eq_getElem?_getD, List.getElem?_eq_getElem (by omega : 0 < L.length)]; rfl
      have g1 : L[1]? = some (L.getD 1 nullV) := by rw [List.getD_eq_getElem?_getD, List.getElem?_eq_getElem (by omega : 1 < L.length)]; rfl
      refine ⟨_, a0, by omega, by omega, _, s0, _, s1, _, s2, by omega, by omega, _, s3, _, s4, _, s5, (xpair_ok x.op (L.getD 0 nullV) (L.getD 1 nullV) W (hT.ext H.ext) (hfitL _ _ g0).2.1 (hfitL _ _ g1).2.1 (fun h => ⟨GoodV.trio' (htrio h _ (List.mem_of_getElem? g0)), GoodV.trio' (htrio h _ (List.mem_of_getElem? g1))⟩)).mono ?_⟩
      rintro e w146 ⟨rfl, e146⟩
      refine ⟨_, _, _, _, rfl, (H.step e146).ret3 1 rfl _ _ _ fun W' hx => ⟨?_, hx⟩⟩
      rw [hvf]; unfold valueN; rw [if_neg h1, if_neg h2, if_neg (by omega)]; rfl

theorem xEval_ok (x : Ex) {w : World} {p rp : Option Addr} {n c rn rc : Nat} {cols : List Col} {row : List Val} {cs : List Value} (hT : Tab w) (hT2 : Tab2 w) (hc : Cols w p n c cols) (hr : Vs w rp rn rc row) (hx : ExAt w x cs) (hfit : ∀ u ∈ row, fitI u.n) (hxf : ∀ y ∈ nodesT x, fitI y.v.n) :
    Calls Tryd.prog 19 #[.slice p n c, .slice rp rn rc, .agg cs.toArray] w fun e w' => e = .returned (.tuple #[(evalF cols row x).1.agg, .int .i64 (evalF cols row x).2]) ∧ Ext w w' := by
  obtain ⟨xp, xn, xc, hcs, _⟩ := hx.six
  subst hcs
  apply xEval_vc
  unfold xEval_T
  intro b1 w2 h1 b4 w5 h4
  have H5 := ((Hold.start (Ext.rfl (w := w))).new h1).new h4
  have B1 : Blk w5 b1 29 #[.int .i64 x.op, .string x.name, .int .i64 x.v.k, .int .i64 x.v.n, .string x.v.s, .slice xp xn xc] := H5.blk 1 rfl
  obtain ⟨a0, a1, a2, a3, a4, a5⟩ := B1.c6
  refine ⟨_, a0, _, a1, _, a2, _, a3, _, a4, _, _, _, a5, (xtype_ok x (hT.ext H5.ext) (hc.ext H5.ext) (hx.ext H5.ext)).mono ?_⟩
  rintro e w16 ⟨rfl, e16⟩
  have H16 := H5.step e16
  refine ⟨_, _, rfl, fun hne => H16.ret3 0 rfl _ _ _ fun W' hx => ⟨?_, hx⟩, fun he => (sfits_ok (hc.ext H16.ext) (hr.ext H16.ext)).mono ?_⟩
  · unfold evalF; rw [if_pos hne]; rfl
  · rintro e w30 ⟨rfl, e30⟩
    have H30 := H16.step e30
    have e130 := e16.trans e30
    refine ⟨_, rfl, fun hb => H30.ret3 0 rfl _ _ _ fun W' hx => ⟨?_, hx⟩, fun hb => ?_⟩
    · unfold evalF; rw [if_neg (by simpa using he), if_pos hb]; rfl
    · have hform : formedB x = true := by
        unfold typeF at he
        split at he
        · exact absurd he (by decide)
        · split at he
          · exact absurd he (by decide)
          · simpa using ‹¬ formedB x = false›
      have hk : (kindF cols x).2 = 0 := by
        unfold typeF at he
        split at he
        · exact absurd he (by decide)
        · rwa [if_neg (by simp [hform])] at he
      have hfits : fitsL cols row = true := by
        unfold fitsC at hb
        rw [Bool.and_eq_true] at hb
        exact hb.2
      have hfp : FormedP x := of_decide_eq_true hform
      refine ⟨_, cell_ext a0 e130, _, cell_ext a1 e130, _, cell_ext a2 e130, _, cell_ext a3 e130, _, cell_ext a4 e130, _, _, _, cell_ext a5 e130,
        (xeval_ok _ x (Nat.le_refl _) (fun y hy => ⟨hfp.1 y hy, hxf y hy⟩) hk hfits hfit (hT2.ext H30.ext) (hc.ext H30.ext) (hr.ext H30.ext) (hx.ext H30.ext)).mono ?_⟩
      rintro e w51 ⟨rfl, e51⟩
      refine ⟨_, _, _, _, rfl, (H30.step e51).ret3 0 rfl _ _ _ fun W' hx => ⟨?_, hx⟩⟩
      unfold evalF; rw [if_neg (by simpa using he), if_neg (by simp [hb])]; rfl
end Go.Proofs.YtaccokhdmhomhaaDoor

/- The contracts of the document's answer for expressions: which are well formed. -/
namespace Go.Proofs.YtaccokhdmhomhaaDoor
open Go Go.Vc Go.RowKit
set_option maxRecDepth 20000

end Go.Proofs.YtaccokhdmhomhaaDoor

/- The contracts of the document's answer for expressions: kinds. -/
namespace Go.Proofs.YtaccokhdmhomhaaDoor
open Go Go.Vc Go.RowKit
set_option maxRecDepth 20000

end Go.Proofs.YtaccokhdmhomhaaDoor

/- The contracts of the document's answer: a row of a batch, a right batch; numbers held against one another. -/
namespace Go.Proofs.YtaccokhdmhomhaaDoor
open Go Go.Vc Go.RowKit
set_option maxRecDepth 20000
attribute [local irreducible] Calls Put Drew New

section
variable {w : World} {p bp cp : Option Addr} {n c bn bc cn cc : Nat} {hs : List Sl} {B : List (List Val)} {cols : List Col} {ch : List Int}
end
end Go.Proofs.YtaccokhdmhomhaaDoor

/- The contract of vector.Turn. -/
namespace Go.Proofs.YtaccokhdmhomhaaDoor
open Go Go.Vc Go.RowKit
set_option maxRecDepth 20000
attribute [local irreducible] Calls Put Drew New

theorem vcolT_ok {w : World} {n f0 : Nat} {L : List (List Val)} (hn : n ≤ 1024) (hl : L.length = n)
    (H0 : ∀ {W : World} {i : Nat} {r : List Val}, Ext w W → L[i]? = some r → Calls Tryd.prog 32 #[.int .i64 (i : Int), .pointer (some ⟨f0, 0, none⟩)] W fun e W' => ∃ (q : Option Addr) (m d : Nat), e = .returned (.slice q m d) ∧ Mine W.heap.size 26 3 W' q m d (r.flatMap Val.cs) ∧ Ext W W') :
    Calls Tryd.prog 31 #[.int .i64 (n : Int), .func (.func 32) #[] #[.pointer (some ⟨f0, 0, none⟩)]] w fun e w' => ∃ (p : Option Addr) (c : Nat) (hs : List Sl), e = .returned (.slice p n c) ∧ Rws w' p n c hs L ∧ Ext w w' := by
  apply vcolT_vc
  unfold vcolT_T
  simp only [Int.toNat_natCast]
  refine ⟨by omega, by omega, by omega, by omega, ?_⟩
  intro b1 w2 h1
  have Hs := (Hold.start (Ext.rfl (w := w))).madeRow (s := 1) (cap := n) h1 (by unfold maxLen; omega) (by simp [size_madeCells])
  refine ⟨fun q k d i W => ∃ (j : Nat) (hs : List Sl) (rl : List Row), i = (j : Int) ∧ j ≤ n ∧ k = j ∧ hs.length = j ∧ rl.length = j ∧ Hold w W [] (rl ++ [⟨31, 1, q, k, d, hs.flatMap Sl.cs⟩]) ∧
    ∀ (i : Nat) x r, hs[i]? = some x → L[i]? = some r → (⟨26, 3, x.p, x.n, x.c, r.flatMap Val.cs⟩ : Row) ∈ rl, fun _ _ _ i _ => n - i.toNat, ⟨0, [], [], rfl, Nat.zero_le _, rfl, rfl, rfl, Hs, by simp⟩, ?_⟩
  clear Hs
  rintro q j d i W ⟨_, hs, rl, rfl, hj, rfl, hhs, hrl, H, hrows⟩
  refine ⟨fun hlt => ?_, fun hge => ?_⟩
  · have g : L[j]? = some (L[j]'(by omega)) := List.getElem?_eq_getElem _
    generalize L[j]'(by omega) = r at g
    refine (H0 H.ext g).mono ?_
    rintro e W1 ⟨qp, m, d1, rfl, hmine, eX⟩
    have H1 := H.addRow eX hmine
    refine ⟨_, _, _, rfl, ?_⟩
    intro b18 w19 h18
    have h18' := h18
    have H2 := H1.step h18.ext
    have hidx : (⟨26, 3, qp, m, d1, r.flatMap Val.cs⟩ :: (rl ++ [(⟨31, 1, q, j, d, hs.flatMap Sl.cs⟩ : Row)]))[rl.length + 1]? = some ⟨31, 1, q, j, d, hs.flatMap Sl.cs⟩ := by simp
    obtain ⟨p', c', w26, hrn, H26⟩ := H2.append (ty := 23) (P := Tryd.prog) (s := 1) (q := some ⟨b18, 0, none⟩) (m := 1) (d' := 1) (news := [.slice qp m d1]) (rl.length + 1) hidx undBatch tyVals rfl (by decide) (Blk.new h18').at rfl (fun e => by cases e)
      (by intro u hu; simp at hu; subst hu; rfl) (by show ((j + 1) + (j + 1) / 4 + 192) * 24 ≤ 281474976710656; omega) (by unfold maxLen; omega)
    refine ⟨p', _, c', w26, hrn, ?_⟩
    rw [i64_next (by omega)]
    refine ⟨⟨j + 1, hs ++ [⟨qp, m, d1⟩], ⟨26, 3, qp, m, d1, r.flatMap Val.cs⟩ :: rl, rfl, by omega, rfl, by simp [hhs], by simp [hrl], ?_, ?_⟩, by simp only [Int.toNat_natCast]; omega⟩
    · have e : (⟨26, 3, qp, m, d1, r.flatMap Val.cs⟩ :: (rl ++ [(⟨31, 1, q, j, d, hs.flatMap Sl.cs⟩ : Row)])).set (rl.length + 1) ⟨31, 1, p', j + 1, c', hs.flatMap Sl.cs ++ [.slice qp m d1]⟩
          = (⟨26, 3, qp, m, d1, r.flatMap Val.cs⟩ :: rl) ++ [⟨31, 1, p', j + 1, c', (hs ++ [(⟨qp, m, d1⟩ : Sl)]).flatMap Sl.cs⟩] := by
        simp [Sl.cs]
      rw [e] at H26
      exact H26
    · intro i x r' hx hr'
      rcases Nat.lt_or_ge i j with hi | hi
      · rw [List.getElem?_append_left (by omega)] at hx
        exact List.mem_cons_of_mem _ (hrows i x r' hx hr')
      · have hlt := (List.getElem?_eq_some_iff.1 hx).1
        simp [hhs] at hlt
        have : i = j := by omega
        subst this
        rw [List.getElem?_append_right (by omega), show i - hs.length = 0 by omega] at hx
        rw [g] at hr'
        cases hr'
        cases hx
        exact List.mem_cons_self
  · have hjn : j = n := by omega
    subst hjn
    have hm : Mine w.heap.size 31 1 W q j d (hs.flatMap Sl.cs) := H.row rl.length (by simp)
    refine ⟨q, d, hs, rfl, ⟨hm.ls Sl.cs_length (by decide), fun i x r hx hr => ?_, hl⟩, H.ext⟩
    obtain ⟨k, hk⟩ := List.mem_iff_getElem?.1 (hrows i x r hx hr)
    have hkl := (List.getElem?_eq_some_iff.1 hk).1
    exact (H.row k (by rw [List.getElem?_append_left hkl]; exact hk)).ls Val.cs_length (by decide)

section
variable {w : World} {p : Option Addr} {n c : Nat} {hs : List Sl} {L : List (List Val)} {cols : List Col}
theorem vturn1_ok {f0 cn cc : Nat} {cp q : Option Addr} {k d : Nat} {r : List Val} (hc : Cols w cp cn cc cols) (hr : Vs w q k d r) (h0 : w.cell? ⟨f0, 0, none⟩ = some (.slice cp cn cc)) :
    Calls Tryd.prog 29 #[.slice q k d, .pointer (some ⟨f0, 0, none⟩)] w fun e w' => e = .returned (.bool (!(fitsC cols r))) ∧ Ext w w' := by
  apply vturn1_vc
  unfold vturn1_T
  refine ⟨_, _, _, h0, (sfits_ok hc hr).mono ?_⟩
  rintro e w5 ⟨rfl, e5⟩
  exact ⟨_, rfl, rfl, e5⟩
theorem crow_ok {f0 cn cc : Nat} {cp : Option Addr} (hL : Rws w p n c hs L) (hc : Cols w cp cn cc cols) (h0 : w.cell? ⟨f0, 0, none⟩ = some (.slice cp cn cc)) :
    Calls Tryd.prog 28 #[.slice p n c, .func (.func 29) #[] #[.pointer (some ⟨f0, 0, none⟩)]] w fun e w' => ∃ b : Bool, e = .returned (.bool b) ∧ (b = false ↔ ∀ r ∈ L, fitsC cols r = true) ∧ Ext w w' := by
  have hl := hL.len
  have hm := hL.le
  unfold maxLen at hm
  apply crow_vc
  unfold crow_T
  apply irow_vc
  unfold irow_T
  refine ⟨fun i W => ∃ k : Nat, i = (k : Int) ∧ k ≤ n ∧ (∀ r ∈ L.take k, fitsC cols r = true) ∧ Ext w W, fun i _ => n - i.toNat, ⟨0, rfl, Nat.zero_le _, by simp, .rfl⟩, ?_⟩
  rintro i W ⟨k, rfl, hk, ha, hx⟩
  refine ⟨fun hlt => ?_, fun hge => ⟨_, rfl, false, rfl, ⟨fun _ => ?_, fun _ => rfl⟩, hx⟩⟩
  · have g : L[k]? = some (L[k]'(by omega)) := List.getElem?_eq_getElem _
    generalize L[k]'(by omega) = r at g
    obtain ⟨x, _, hvs, b, o, hp, hcell⟩ := (hL.ext hx).get g
    simp only [Int.toNat_natCast]
    refine ⟨b, o, hp, by omega, by omega, _, _, _, hcell, (vturn1_ok (hc.ext hx) hvs (cell_ext h0 hx)).mono ?_⟩
    rintro e W1 ⟨rfl, eX⟩
    refine ⟨_, rfl, fun hb => ⟨_, rfl, true, ?_, ⟨fun h => (by cases h), fun h => ?_⟩, hx.trans eX⟩, fun hb => ?_⟩
    · rw [decide_eq_true (by omega : (0 : Int) ≤ (k : Int))]
    · rw [h r (List.mem_of_getElem? g)] at hb
      cases hb
    · rw [i64_next (by omega)]
      refine ⟨⟨k + 1, rfl, by omega, fun q hq => ?_, hx.trans eX⟩, by simp only [Int.toNat_natCast]; omega⟩
      rw [List.take_add_one, g] at hq
      rcases List.mem_append.1 hq with hq | hq
      · exact ha q hq
      · simp at hq
        subst hq
        simpa using hb
  · rw [List.take_of_length_le (by omega)] at ha
    exact ha
theorem vturn21_ok {f0 f1 i j : Nat} {r : List Val} {v : Val} (hL : Rws w p n c hs L) (h0 : w.cell? ⟨f0, 0, none⟩ = some (.slice p n c)) (h1 : w.cell? ⟨f1, 0, none⟩ = some (.int .i64 (i : Int))) (hr : L[j]? = some r) (hv : r[i]? = some v) :
    Calls Tryd.prog 34 #[.int .i64 (j : Int), .pointer (some ⟨f0, 0, none⟩), .pointer (some ⟨f1, 0, none⟩)] w fun e w' => e = .returned v.agg ∧ Ext w w' := by
  apply vturn21_vc
  unfold vturn21_T
  intro b1 w2 hN
  have H := (Hold.start (Ext.rfl (w := w))).new hN
  intro w4 hD
  replace H := H.step (Drew.ext hD)
  have hl := hL.len
  have hj := (List.getElem?_eq_some_iff.1 hr).1
  obtain ⟨x, _, hvs, b, o, hp, hcell⟩ := (hL.ext H.ext).get hr
  have hvl := hvs.len
  have hi := (List.getElem?_eq_some_iff.1 hv).1
  obtain ⟨vb, vo, hvp, c0, c1, c2⟩ := hvs.val hv
  simp only [Int.toNat_natCast]
  refine ⟨_, _, _, cell_ext h0 H.ext, b, o, hp, by omega, by omega, _, _, _, hcell, _, cell_ext h1 H.ext, vb, vo, hvp, by omega, by omega, _, c0, _, c1, _, c2, ?_⟩
  repeat (first
    | (intro _ _ hS; replace H := H.new hS; clear hS)
    | (intro _ hS; (first | replace H := H.put 0 rfl hS | replace H := H.put 1 rfl hS | replace H := H.put 2 rfl hS | replace H := H.put 3 rfl hS | replace H := H.put 4 rfl hS | replace H := H.put 5 rfl hS | replace H := H.put 6 rfl hS | replace H := H.put 7 rfl hS); clear hS; try simp only [setA, List.setIfInBounds_toArray, List.set_cons_zero, List.set_cons_succ, Nat.zero_add, Nat.reduceAdd] at H)
    | (intro _ hS; replace H := H.step (Drew.ext hS); clear hS)
    | (first | refine ⟨⟨_, H.get 0 rfl rfl⟩, ?_⟩ | refine ⟨⟨_, H.get 1 rfl rfl⟩, ?_⟩ | refine ⟨⟨_, H.get 2 rfl rfl⟩, ?_⟩ | refine ⟨⟨_, H.get 3 rfl rfl⟩, ?_⟩ | refine ⟨⟨_, H.get 4 rfl rfl⟩, ?_⟩ | refine ⟨⟨_, H.get 5 rfl rfl⟩, ?_⟩ | refine ⟨⟨_, H.get 6 rfl rfl⟩, ?_⟩ | refine ⟨⟨_, H.get 7 rfl rfl⟩, ?_⟩)
    | (first | refine ⟨H.frz 0 rfl, ?_⟩ | refine ⟨H.frz 1 rfl, ?_⟩ | refine ⟨H.frz 2 rfl, ?_⟩ | refine ⟨H.frz 3 rfl, ?_⟩ | refine ⟨H.frz 4 rfl, ?_⟩ | refine ⟨H.frz 5 rfl, ?_⟩ | refine ⟨H.frz 6 rfl, ?_⟩ | refine ⟨H.frz 7 rfl, ?_⟩)
    | (first | refine ⟨_, H.get 0 rfl rfl, ?_⟩ | refine ⟨_, H.get 1 rfl rfl, ?_⟩ | refine ⟨_, H.get 2 rfl rfl, ?_⟩ | refine ⟨_, H.get 3 rfl rfl, ?_⟩ | refine ⟨_, H.get 4 rfl rfl, ?_⟩ | refine ⟨_, H.get 5 rfl rfl, ?_⟩ | refine ⟨_, H.get 6 rfl rfl, ?_⟩ | refine ⟨_, H.get 7 rfl rfl, ?_⟩)
    | (first | refine ⟨_, _, _, H.get 0 rfl rfl, ?_⟩ | refine ⟨_, _, _, H.get 1 rfl rfl, ?_⟩ | refine ⟨_, _, _, H.get 2 rfl rfl, ?_⟩ | refine ⟨_, _, _, H.get 3 rfl rfl, ?_⟩ | refine ⟨_, _, _, H.get 4 rfl rfl, ?_⟩ | refine ⟨_, _, _, H.get 5 rfl rfl, ?_⟩ | refine ⟨_, _, _, H.get 6 rfl rfl, ?_⟩ | refine ⟨_, _, _, H.get 7 rfl rfl, ?_⟩))
  exact ⟨rfl, H.ext⟩
theorem vturn2_ok {f0 i : Nat} (hL : Rws w p n c hs L) (hn : n ≤ 1024) (h0 : w.cell? ⟨f0, 0, none⟩ = some (.slice p n c)) (hi : ∀ r ∈ L, i < r.length) :
    Calls Tryd.prog 32 #[.int .i64 (i : Int), .pointer (some ⟨f0, 0, none⟩)] w fun e w' => ∃ (q : Option Addr) (m d : Nat), e = .returned (.slice q m d) ∧ Mine w.heap.size 26 3 w' q m d ((L.map fun r => (r[i]?).getD nullV).flatMap Val.cs) ∧ Ext w w' := by
  have hl := hL.len
  apply vturn2_vc
  unfold vturn2_T
  intro b1 w2 hN
  have H := (Hold.start (Ext.rfl (w := w))).new hN
  refine ⟨_, _, _, cell_ext h0 H.ext, ?_⟩
  refine (vcolU_ok (l := L.map fun r => (r[i]?).getD nullV) hn (by simp [hl]) fun {W j v} e hv => ?_).mono ?_
  · rw [List.getElem?_map] at hv
    have hj : j < L.length := by
      rcases Nat.lt_or_ge j L.length with h | h
      · exact h
      · rw [List.getElem?_eq_none h] at hv; cases hv
    have hr : L[j]? = some L[j] := List.getElem?_eq_getElem hj
    have hij := hi _ (List.getElem_mem hj)
    rw [hr] at hv
    have hv' : (L[j])[i]? = some v := by
      have e : ((L[j])[i]?).getD nullV = v := Option.some.inj hv
      rw [List.getElem?_eq_getElem hij] at e ⊢
      rw [← e]; rfl
    exact vturn21_ok (hL.ext (H.ext.trans e)) (cell_ext h0 (H.ext.trans e)) ((H.step e).get 0 rfl rfl) hr hv'
  · rintro e w11 ⟨q, d, rfl, hm, _, eX⟩
    exact ⟨_, _, _, rfl, q, _, d, rfl, hm.mono H.size, H.ext.trans eX⟩
theorem vturn_ok {cn cc : Nat} {cp : Option Addr} (hc : Cols w cp cn cc cols) (hL : Rws w p n c hs L) :
    Calls Tryd.prog 16 #[.slice cp cn cc, .slice p n c] w fun e w' => ∃ (q : Option Addr) (k d : Nat) (hs' : List Sl), e = .returned (.tuple #[.slice q k d, .int .i64 (turnB cols L).2]) ∧ Rws w' q k d hs' (turnB cols L).1 ∧ Ext w w' := by
  have hl := hL.len
  have hcl := hc.len
  apply vturn_vc
  unfold vturn_T
  intro b1 w2 h1
  have H := (Hold.start (Ext.rfl (w := w))).new h1
  intro b4 w5 h4
  replace H := H.new h4
  refine ⟨_, _, _, H.get 1 rfl rfl, (sright_ok (hc.ext H.ext)).mono ?_⟩
  rintro e W ⟨rfl, eX⟩
  replace H := H.step eX
  refine ⟨_, rfl, fun hr => ?_, fun hr => ⟨_, _, _, H.get 0 rfl rfl, fun hbig => ?_, fun hsm => ⟨_, _, _, H.get 0 rfl rfl, ?_⟩⟩⟩
  · have : turnB cols L = ([], 50) := by unfold turnB; rw [if_pos hr]
    rw [this]
    exact ⟨none, 0, 0, [], rfl, Rws.nothing _, H.ext⟩
  · have : turnB cols L = ([], 2) := by unfold turnB; rw [if_neg (by simp [hr]), if_pos (.inl (by omega))]
    rw [this]
    exact ⟨none, 0, 0, [], rfl, Rws.nothing _, H.ext⟩
  refine (crow_ok (hL.ext H.ext) (hc.ext H.ext) (H.get 1 rfl rfl)).mono ?_
  rintro e W1 ⟨bb, rfl, hbb, eX⟩
  replace H := H.step eX
  refine ⟨_, rfl, fun ht => ?_, fun hf => ?_⟩
  · have : turnB cols L = ([], 2) := by
      unfold turnB
      have hne : ¬ ∀ r ∈ L, fitsC cols r = true := fun h => by
        have := hbb.2 h
        subst this
        cases ht
      rw [if_neg (by simp [hr]), if_pos (.inr hne)]
    rw [this]
    exact ⟨none, 0, 0, [], rfl, Rws.nothing _, H.ext⟩
  have hall := hbb.1 hf
  have hfl : ∀ r ∈ L, r.length = cols.length := fun r hr => by
    have := hall r hr
    unfold fitsC at this
    rw [Bool.and_eq_true] at this
    exact (fitsL_length this.2).symm
  obtain ⟨r1, r2⟩ := right_len hr
  refine ⟨_, _, _, H.get 1 rfl rfl, ?_⟩
  refine (vcolT_ok (L := (List.range cols.length).map fun i => L.map fun r => (r[i]?).getD nullV) (by omega) (by simp [hcl]) fun {W i r} e hr => ?_).mono ?_
  · rw [List.getElem?_map] at hr
    have hi : i < cols.length := by
      rcases Nat.lt_or_ge i cols.length with h | h
      · exact h
      · rw [List.getElem?_eq_none (by simpa using h)] at hr; cases hr
    rw [List.getElem?_range hi] at hr
    cases hr
    exact vturn2_ok (hL.ext (H.ext.trans e)) (by omega) ((H.step e).get 0 rfl rfl) fun q hq => by rw [hfl q hq]; exact hi
  · rintro e W2 ⟨q, d, hs', rfl, hR, eX⟩
    refine ⟨_, _, _, rfl, q, cn, d, hs', ?_⟩
    rw [turned hr (by omega) hall]
    exact ⟨rfl, hR, H.ext.trans eX⟩
end
end Go.Proofs.YtaccokhdmhomhaaDoor

/- The contracts of vector: plain, chosen. -/
namespace Go.Proofs.YtaccokhdmhomhaaDoor
open Go Go.Vc Go.RowKit
set_option maxRecDepth 20000
attribute [local irreducible] Calls Put Drew New

theorem chosen_len {n : Nat} {ch : List Int} (h : ∀ i, i < ch.length → chosenAt n ch i = true) : ch.length ≤ n := by
  have hs := chosen_sorted h
  have key : ∀ i (hi : i < ch.length), (i : Int) ≤ ch[i] := by
    intro i
    induction i with
    | zero => intro hi; have := (ch_get hi (h 0 hi)).1; simpa using this
    | succ i ih =>
      intro hi
      have := ih (by omega)
      have := (List.pairwise_iff_getElem.1 hs) i (i + 1) (by omega) hi (by omega)
      omega
  rcases Nat.eq_zero_or_pos ch.length with h0 | h0
  · omega
  · have a := key (ch.length - 1) (by omega)
    have b := (ch_get (show ch.length - 1 < ch.length by omega) (h _ (by omega))).2
    omega
theorem right_all {cols : List Col} {B : List (List Val)} {ch : List Int} (h : rightB cols B ch = true) : ch.length ≤ 1024 ∧ ∀ i ∈ ch, 0 ≤ i ∧ i < (highB B : Int) ∧ fitsC cols (rowB B i.toNat) = true ∧ ∀ r ∈ B, i.toNat < r.length := by
  obtain ⟨⟨h1, h2⟩, h3, h4, h5⟩ := rightB_iff.1 h
  refine ⟨Nat.le_trans (chosen_len h5) h2, fun i hi => ?_⟩
  obtain ⟨a, b⟩ := chosen_mem h5 hi
  exact ⟨a, b, h4 _ (by omega), fun r hr => by rw [h3 r hr]; omega⟩
section
variable {w : World} {p bp cp : Option Addr} {n c bn bc cn cc : Nat} {hs : List Sl} {B : List (List Val)} {cols : List Col} {ch : List Int}
theorem vplain1_ok {f0 f1 f2 i : Nat} {k : Int} {z : Int} {r : List Val} {v : Val} (hB : Rws w bp bn bc hs B) (hch : Is w cp cn cc ch) (h0 : w.cell? ⟨f0, 0, none⟩ = some (.slice bp bn bc)) (h1 : w.cell? ⟨f1, 0, none⟩ = some (.int .i64 k)) (h2 : w.cell? ⟨f2, 0, none⟩ = some (.slice cp cn cc))
    (hk : 0 ≤ k) (hr : B[k.toNat]? = some r) (hz : ch[i]? = some z) (hz0 : 0 ≤ z) (hv : r[z.toNat]? = some v) :
    Calls Tryd.prog 44 #[.int .i64 (i : Int), .pointer (some ⟨f0, 0, none⟩), .pointer (some ⟨f1, 0, none⟩), .pointer (some ⟨f2, 0, none⟩)] w fun e w' => e = .returned v.agg ∧ Ext w w' := by
  apply vplain1_vc
  unfold vplain1_T
  intro b1 w2 hN
  have H := (Hold.start (Ext.rfl (w := w))).new hN
  intro w4 hD
  replace H := H.step (Drew.ext hD)
  have hl := hB.len
  have hcl := hch.len
  have hj := (List.getElem?_eq_some_iff.1 hr).1
  have hi := (List.getElem?_eq_some_iff.1 hz).1
  obtain ⟨x, _, hvs, b, o, hp, hcell⟩ := (hB.ext H.ext).get hr
  have hvl := hvs.len
  have hzr := (List.getElem?_eq_some_iff.1 hv).1
  obtain ⟨vb, vo, hvp, c0, c1, c2⟩ := hvs.val hv
  obtain ⟨cb, co, hcp, d0⟩ := (hch.ext H.ext).int hz
  simp only [Int.toNat_natCast]
  refine ⟨_, _, _, cell_ext h0 H.ext, _, cell_ext h1 H.ext, b, o, hp, hk, by omega, _, _, _, hcell, _, _, _, cell_ext h2 H.ext, cb, co, hcp, by omega, by omega, _, d0, vb, vo, hvp, hz0, by omega, _, c0, _, c1, _, c2, ?_⟩
  repeat (first
    | (intro _ _ hS; replace H := H.new hS; clear hS)
    | (intro _ hS; (first | replace H := H.put 0 rfl hS | replace H := H.put 1 rfl hS | replace H := H.put 2 rfl hS | replace H := H.put 3 rfl hS | replace H := H.put 4 rfl hS | replace H := H.put 5 rfl hS | replace H := H.put 6 rfl hS | replace H := H.put 7 rfl hS); clear hS; try simp only [setA, List.setIfInBounds_toArray, List.set_cons_zero, List.set_cons_succ, Nat.zero_add, Nat.reduceAdd] at H)
    | (intro _ hS; replace H := H.step (Drew.ext hS); clear hS)
    | (first | refine ⟨⟨_, H.get 0 rfl rfl⟩, ?_⟩ | refine ⟨⟨_, H.get 1 rfl rfl⟩, ?_⟩ | refine ⟨⟨_, H.get 2 rfl rfl⟩, ?_⟩ | refine ⟨⟨_, H.get 3 rfl rfl⟩, ?_⟩ | refine ⟨⟨_, H.get 4 rfl rfl⟩, ?_⟩ | refine ⟨⟨_, H.get 5 rfl rfl⟩, ?_⟩ | refine ⟨⟨_, H.get 6 rfl rfl⟩, ?_⟩ | refine ⟨⟨_, H.get 7 rfl rfl⟩, ?_⟩)
    | (first | refine ⟨H.frz 0 rfl, ?_⟩ | refine ⟨H.frz 1 rfl, ?_⟩ | refine ⟨H.frz 2 rfl, ?_⟩ | refine ⟨H.frz 3 rfl, ?_⟩ | refine ⟨H.frz 4 rfl, ?_⟩ | refine ⟨H.frz 5 rfl, ?_⟩ | refine ⟨H.frz 6 rfl, ?_⟩ | refine ⟨H.frz 7 rfl, ?_⟩)
    | (first | refine ⟨_, H.get 0 rfl rfl, ?_⟩ | refine ⟨_, H.get 1 rfl rfl, ?_⟩ | refine ⟨_, H.get 2 rfl rfl, ?_⟩ | refine ⟨_, H.get 3 rfl rfl, ?_⟩ | refine ⟨_, H.get 4 rfl rfl, ?_⟩ | refine ⟨_, H.get 5 rfl rfl, ?_⟩ | refine ⟨_, H.get 6 rfl rfl, ?_⟩ | refine ⟨_, H.get 7 rfl rfl, ?_⟩)
    | (first | refine ⟨_, _, _, H.get 0 rfl rfl, ?_⟩ | refine ⟨_, _, _, H.get 1 rfl rfl, ?_⟩ | refine ⟨_, _, _, H.get 2 rfl rfl, ?_⟩ | refine ⟨_, _, _, H.get 3 rfl rfl, ?_⟩ | refine ⟨_, _, _, H.get 4 rfl rfl, ?_⟩ | refine ⟨_, _, _, H.get 5 rfl rfl, ?_⟩ | refine ⟨_, _, _, H.get 6 rfl rfl, ?_⟩ | refine ⟨_, _, _, H.get 7 rfl rfl, ?_⟩))
  exact ⟨rfl, H.ext⟩
theorem vplain2_ok {f0 : Nat} {x : Ex} {i : Int} {y z u : Value} (hb : Blk w f0 29 #[y, z, .int .i64 x.v.k, .int .i64 x.v.n, .string x.v.s, u]) :
    Calls Tryd.prog 45 #[.int .i64 i, .pointer (some ⟨f0, 0, none⟩)] w fun e w' => e = .returned x.v.agg ∧ Ext w w' := by
  apply vplain2_vc
  unfold vplain2_T
  intro b1 w2 hN
  have H := (Hold.start (Ext.rfl (w := w))).new hN
  obtain ⟨_, _, a2, a3, a4, _⟩ := Blk.c6 (hb.ext H.ext)
  refine ⟨_, a2, _, a3, _, a4, ?_⟩
  repeat (first
    | (intro _ _ hS; replace H := H.new hS; clear hS)
    | (intro _ hS; (first | replace H := H.put 0 rfl hS | replace H := H.put 1 rfl hS | replace H := H.put 2 rfl hS | replace H := H.put 3 rfl hS | replace H := H.put 4 rfl hS | replace H := H.put 5 rfl hS | replace H := H.put 6 rfl hS | replace H := H.put 7 rfl hS); clear hS; try simp only [setA, List.setIfInBounds_toArray, List.set_cons_zero, List.set_cons_succ, Nat.zero_add, Nat.reduceAdd] at H)
    | (intro _ hS; replace H := H.step (Drew.ext hS); clear hS)
    | (first | refine ⟨⟨_, H.get 0 rfl rfl⟩, ?_⟩ | refine ⟨⟨_, H.get 1 rfl rfl⟩, ?_⟩ | refine ⟨⟨_, H.get 2 rfl rfl⟩, ?_⟩ | refine ⟨⟨_, H.get 3 rfl rfl⟩, ?_⟩ | refine ⟨⟨_, H.get 4 rfl rfl⟩, ?_⟩ | refine ⟨⟨_, H.get 5 rfl rfl⟩, ?_⟩ | refine ⟨⟨_, H.get 6 rfl rfl⟩, ?_⟩ | refine ⟨⟨_, H.get 7 rfl rfl⟩, ?_⟩)
    | (first | refine ⟨H.frz 0 rfl, ?_⟩ | refine ⟨H.frz 1 rfl, ?_⟩ | refine ⟨H.frz 2 rfl, ?_⟩ | refine ⟨H.frz 3 rfl, ?_⟩ | refine ⟨H.frz 4 rfl, ?_⟩ | refine ⟨H.frz 5 rfl, ?_⟩ | refine ⟨H.frz 6 rfl, ?_⟩ | refine ⟨H.frz 7 rfl, ?_⟩)
    | (first | refine ⟨_, H.get 0 rfl rfl, ?_⟩ | refine ⟨_, H.get 1 rfl rfl, ?_⟩ | refine ⟨_, H.get 2 rfl rfl, ?_⟩ | refine ⟨_, H.get 3 rfl rfl, ?_⟩ | refine ⟨_, H.get 4 rfl rfl, ?_⟩ | refine ⟨_, H.get 5 rfl rfl, ?_⟩ | refine ⟨_, H.get 6 rfl rfl, ?_⟩ | refine ⟨_, H.get 7 rfl rfl, ?_⟩)
    | (first | refine ⟨_, _, _, H.get 0 rfl rfl, ?_⟩ | refine ⟨_, _, _, H.get 1 rfl rfl, ?_⟩ | refine ⟨_, _, _, H.get 2 rfl rfl, ?_⟩ | refine ⟨_, _, _, H.get 3 rfl rfl, ?_⟩ | refine ⟨_, _, _, H.get 4 rfl rfl, ?_⟩ | refine ⟨_, _, _, H.get 5 rfl rfl, ?_⟩ | refine ⟨_, _, _, H.get 6 rfl rfl, ?_⟩ | refine ⟨_, _, _, H.get 7 rfl rfl, ?_⟩))
  exact ⟨rfl, H.ext⟩
theorem col_pos {x : Ex} (h1 : x.op = 1) (hk : (kindF cols x).2 = 0) : 0 ≤ findC cols x.name := by
  obtain ⟨_, hk2⟩ := kids_kinds hk
  rw [hk2] at hk
  unfold kindN at hk
  have hw : wantOf x.op = 0 := by rw [h1]; rfl
  rw [hw, if_neg (by simp), if_pos h1] at hk
  split at hk
  · exact absurd hk (by decide)
  · rename_i hge
    omega
theorem vplain_ok (x : Ex) {cs : List Value} (hc : Cols w p n c cols) (hB : Rws w bp bn bc hs B) (hch : Is w cp cn cc ch) (hx : ExAt w x cs) (ht : (typeF cols x).2 = 0) (hr : rightB cols B ch = true) :
    Calls Tryd.prog 21 #[.slice p n c, .slice bp bn bc, .slice cp cn cc, .agg cs.toArray] w fun e w' => ((∃ (q : Option Addr) (d : Nat), e = .returned (.tuple #[.slice q cn d, .bool true]) ∧ Vs w' q cn d (ch.map fun i => (valAt cols B x i).1) ∧ ∀ i ∈ ch, (valAt cols B x i).2 = 0) ∨
      e = .returned (.tuple #[.slice none 0 0, .bool false])) ∧ Ext w w' := by
  obtain ⟨xp, xn, xc, rfl, _⟩ := hx.six
  obtain ⟨hright, hform, hkd⟩ := typeF_right ht
  rw [hkd] at ht
  have hn : NodeOk x := (of_decide_eq_true hform : FormedP x).1 x (by cases x; unfold nodesT; exact List.mem_cons_self)
  obtain ⟨hlen, hin⟩ := right_all hr
  obtain ⟨⟨r1, r2⟩, r3, _, _⟩ := rightB_iff.1 hr
  have hcl := hch.len
  apply vplain_vc
  unfold vplain_T
  intro b1 w2 h1
  have H := (Hold.start (Ext.rfl (w := w))).new h1
  intro b4 w5 h4
  replace H := H.new h4
  intro b7 w8 h7
  replace H := H.new h7
  refine ⟨_, H.get 0 rfl rfl, fun ho => ?_, fun ho => ⟨fun ho2 => ?_, fun _ => ⟨.inr rfl, H.ext⟩⟩⟩
  · obtain ⟨cl, hcc, _⟩ := col_node ho hn ht
    have hci := (List.getElem?_eq_some_iff.1 hcc).1
    have hf0 : 0 ≤ findC cols x.name := col_pos ho ht
    refine ⟨_, H.get 0 rfl rfl, (sfind_ok (hc.ext H.ext) x.name).mono ?_⟩
    rintro e W ⟨rfl, eX⟩
    replace H := H.step eX
    refine ⟨_, rfl, ?_⟩
    intro b16 w17 h16
    replace H := H.new h16
    refine ⟨⟨_, H.get 0 rfl rfl⟩, H.frz 0 rfl, ?_⟩
    intro w20 hS
    replace H := H.put 0 rfl hS
    try simp only [setA, List.setIfInBounds_toArray, List.set_cons_zero, List.set_cons_succ, Nat.zero_add, Nat.reduceAdd] at H
    refine ⟨_, _, _, H.get 2 rfl rfl, ?_⟩
    have val : ∀ i ∈ ch, ∃ r v, B[(findC cols x.name).toNat]? = some r ∧ r[i.toNat]? = some v ∧ valAt cols B x i = (v, 0) := by
      intro i hi
      obtain ⟨i0, i1, i2, i3⟩ := hin i hi
      rw [fitsC_iff hright] at i2
      obtain ⟨u, hu, hval, _⟩ := col_value ho hn i2 hcc
      have hk : (findC cols x.name).toNat < B.length := by omega
      have hBr : B[(findC cols x.name).toNat]? = some B[(findC cols x.name).toNat] := List.getElem?_eq_getElem hk
      exact ⟨_, u, hBr, rowB_get hBr hu i3, hval⟩
    refine (vcolP_ok (l := ch.map fun i => (valAt cols B x i).1) (by omega) (by simp [hcl]) fun {W j v} e hv => ?_).mono ?_
    · rw [List.getElem?_map] at hv
      have hj : j < ch.length := by
        rcases Nat.lt_or_ge j ch.length with h | h
        · exact h
        · rw [List.getElem?_eq_none h] at hv; cases hv
      have hz : ch[j]? = some ch[j] := List.getElem?_eq_getElem hj
      obtain ⟨r, v', k1, k2, k3⟩ := val _ (List.getElem_mem hj)
      rw [hz] at hv
      have : (valAt cols B x ch[j]).1 = v := Option.some.inj hv
      rw [k3] at this
      subst this
      have H' := H.step e
      exact vplain1_ok (hB.ext H'.ext) (hch.ext H'.ext) (H'.get 3 rfl rfl) (H'.get 0 rfl rfl) (H'.get 2 rfl rfl) hf0 k1 hz (hin _ (List.getElem_mem hj)).1 k2
    · rintro e w26 ⟨q, d, rfl, _, hv, eX⟩
      exact ⟨_, _, _, rfl, .inl ⟨q, d, rfl, hv, fun i hi => by obtain ⟨_, _, _, _, h⟩ := val i hi; rw [h]⟩, H.ext.trans eX⟩
  · have val : ∀ i : Int, valAt cols B x i = (x.v, 0) := fun i => const_value ho2 hn
    refine ⟨_, _, _, H.get 1 rfl rfl, ?_⟩
    refine (vcolQ_ok (l := ch.map fun i => (valAt cols B x i).1) (by omega) (by simp [hcl]) fun {W j v} e hv => ?_).mono ?_
    · rw [List.getElem?_map] at hv
      cases hz : ch[j]? with
      | none => rw [hz] at hv; cases hv
      | some z =>
        rw [hz] at hv
        have : (valAt cols B x z).1 = v := Option.some.inj hv
        rw [val] at this
        subst this
        exact vplain2_ok ((H.step e).blk 0 rfl)
    · rintro e w26 ⟨q, d, rfl, _, hv, eX⟩
      exact ⟨_, _, _, rfl, .inl ⟨q, d, rfl, hv, fun i _ => by rw [val]⟩, H.ext.trans eX⟩
theorem chosen_ok (hbatch : Value) : Calls Tryd.prog 22 #[.slice bp bn bc, .slice cp cn cc] w fun e w' => ∃ b1 b4 w2, e = .returned (.func (.func 46) #[] #[.pointer (some ⟨b4, 0, none⟩), .pointer (some ⟨b1, 0, none⟩)]) ∧
    New w (.cells #[.slice bp bn bc] 23) b1 w2 ∧ New w2 (.cells #[.slice cp cn cc] 24) b4 w' := by
  apply vchosen_vc
  unfold vchosen_T
  intro b1 w2 h1 b4 w5 h4
  exact ⟨b1, b4, w2, rfl, h1, h4⟩
theorem chosen1_ok {l0 fv0 fv1 : Nat} {wc : World} (hB : Rws wc bp bn bc hs B) (hbn : bn ≤ 1024) (hch : Is wc cp cn cc ch) (hin : ∀ i ∈ ch, 0 ≤ i ∧ ∀ r ∈ B, i.toNat < r.length) (P : Nat → World → Prop)
    (hP : ∀ k W, P k W → Ext wc W ∧ W.cell? ⟨fv0, 0, none⟩ = some (.slice cp cn cc) ∧ W.cell? ⟨fv1, 0, none⟩ = some (.slice bp bn bc)) (hE : ∀ k W W', P k W → Ext W W' → P k W')
    (hR : ∀ (k : Nat) (i : Int) (W : World) (q : Option Addr) (d : Nat) (R : Bool → World → Prop), ch[k]? = some i → P k W → Vs W q bn d (rowB B i.toNat) → (∀ W', P (k + 1) W' → R true W') → Yield Tryd.prog l0 #[.int .i64 (k : Int), .slice q bn d] W R)
    (p0 : P 0 w) :
    Calls Tryd.prog 46 #[.func (.yield l0) #[] #[], .pointer (some ⟨fv0, 0, none⟩), .pointer (some ⟨fv1, 0, none⟩)] w fun e W' => e = .returned (.tuple #[]) ∧ P ch.length W' := by
  have hcl := hch.len
  have hcm := hch.le
  unfold maxLen at hcm
  apply vchosen1_vc
  unfold vchosen1_T
  refine ⟨_, _, _, (hP _ _ p0).2.1, fun i W => ∃ k : Nat, i = (k : Int) ∧ k ≤ cn ∧ P k W, fun i _ => cn - i.toNat, ⟨0, rfl, Nat.zero_le _, p0⟩, ?_⟩
  rintro i W ⟨k, rfl, hk, pk⟩
  obtain ⟨e0, e1, e2⟩ := hP _ _ pk
  refine ⟨fun hlt => ?_, fun hge => ?_⟩
  · have gz : ch[k]? = some (ch[k]'(by omega)) := List.getElem?_eq_getElem _
    generalize ch[k]'(by omega) = z at gz
    obtain ⟨b, o, hp, c0⟩ := (hch.ext e0).int gz
    obtain ⟨z0, z1⟩ := hin z (List.mem_of_getElem? gz)
    simp only [Int.toNat_natCast]
    refine ⟨b, o, hp, by omega, hlt, _, c0, _, _, _, e2, ?_⟩
    have ez : z = ((z.toNat : Nat) : Int) := by omega
    rw [ez]
    refine (vrowof_ok (hB.ext e0) hbn z1).mono ?_
    rintro e W1 ⟨q, d, rfl, hv, eX⟩
    refine ⟨_, _, _, rfl, ?_⟩
    refine hR k z W1 q d _ gz (hE _ _ _ pk eX) hv fun W' pk' => ⟨fun h => (by cases h), fun _ => ?_⟩
    rw [i64_next (by omega)]
    exact ⟨⟨k + 1, rfl, by omega, pk'⟩, by omega⟩
  · have : k = cn := by omega
    subst this
    rw [hcl]
    exact ⟨rfl, pk⟩
end
end Go.Proofs.YtaccokhdmhomhaaDoor

/- The contract of vector.Filter, given that of Eval. -/
namespace Go.Proofs.YtaccokhdmhomhaaDoor
open Go Go.Vc Go.RowKit
set_option maxRecDepth 20000
attribute [local irreducible] Calls Put Drew New

theorem firstBad_at {cols : List Col} {B : List (List Val)} {x : Ex} : ∀ {ch : List Int} {j : Nat} {z : Int}, (∀ i ∈ ch.take j, (valAt cols B x i).2 = 0) → ch[j]? = some z → (valAt cols B x z).2 ≠ 0 → firstBad cols B x ch = some z
  | [], _, _, _, h, _ => by simp at h
  | y :: ch, 0, z, _, h, hz => by
    cases h
    unfold firstBad
    rw [if_pos hz]
  | y :: ch, j + 1, z, ha, h, hz => by
    unfold firstBad
    rw [if_neg (by rw [ha y (by simp)]; simp)]
    exact firstBad_at (j := j) (fun i hi => ha i (by simp [hi])) (by simpa using h) hz
/-- What Eval answers. -/
def EvalAns (cols : List Col) (B : List (List Val)) (ch : List Int) (x : Ex) (e : Ending) (w' : World) : Prop :=
  ∃ (q : Option Addr) (k d : Nat) (q2 : Option Addr) (k2 d2 : Nat), e = .returned (.tuple #[.slice q k d, .slice q2 k2 d2, .int .i64 (evalB cols B ch x).2.2]) ∧ Vs w' q k d (evalB cols B ch x).1 ∧ Is w' q2 k2 d2 (evalB cols B ch x).2.1
set_option maxHeartbeats 4000000 in
theorem vFilter_ok (x : Ex) {w : World} {p bp cp : Option Addr} {n c bn bc cn cc : Nat} {B : List (List Val)} {cols : List Col} {ch : List Int} {cs : List Value} (hT : Tab w) (hc : Cols w p n c cols) (hch : Is w cp cn cc ch) (hx : ExAt w x cs)
    (hE : ∀ {W : World}, Ext w W → Calls Tryd.prog 9 #[.slice p n c, .slice bp bn bc, .slice cp cn cc, .agg cs.toArray] W fun e w' => EvalAns cols B ch x e w' ∧ Ext W w') :
    Calls Tryd.prog 13 #[.slice p n c, .slice bp bn bc, .slice cp cn cc, .agg cs.toArray] w fun e w' => (∃ (q : Option Addr) (k d : Nat), e = .returned (.tuple #[.slice q k d, .int .i64 (filterB cols B ch x).2.1, .int .i64 (filterB cols B ch x).2.2]) ∧ Is w' q k d (filterB cols B ch x).1) ∧ Ext w w' := by
  obtain ⟨xp, xn, xc, rfl, _⟩ := hx.six
  apply vFilter_vc
  unfold vFilter_T
  intro b1 w2 h1
  have H := (Hold.start (Ext.rfl (w := w))).new h1
  obtain ⟨a0, a1, a2, a3, a4, a5⟩ := Blk.c6 (H.blk 0 rfl)
  refine ⟨_, a0, _, a1, _, a2, _, a3, _, a4, _, _, _, a5, ?_⟩
  refine (xtype_ok x (hT.ext H.ext) (hc.ext H.ext) (hx.ext H.ext)).mono ?_
  rintro e W ⟨rfl, eX⟩
  replace H := H.step eX
  refine ⟨_, _, rfl, fun hk => ⟨fun _ => ?_, fun h => absurd h (by decide)⟩, fun hk => ⟨fun hne => ?_, fun heq => ?_⟩⟩
  · have : filterB cols B ch x = ([], 0, 121) := by
      unfold filterB
      rw [if_neg (by simp [hk.1.1]), if_pos ⟨hk.1.2, hk.2⟩]
    rw [this]
    exact ⟨⟨none, 0, 0, rfl, Ls.nothing _ _⟩, H.ext⟩
  · have : filterB cols B ch x = ([], 0, (typeF cols x).2) := by
      unfold filterB
      rw [if_pos hne]
    rw [this]
    exact ⟨⟨none, 0, 0, rfl, Ls.nothing _ _⟩, H.ext⟩
  have hk' : ¬ ((typeF cols x).1 ≠ 2 ∧ (typeF cols x).1 ≠ 0) := by omega
  obtain ⟨a0, a1, a2, a3, a4, a5⟩ := Blk.c6 (H.blk 0 rfl)
  refine ⟨_, a0, _, a1, _, a2, _, a3, _, a4, _, _, _, a5, ?_⟩
  refine (hE H.ext).mono ?_
  rintro e W1 ⟨⟨q, k, d, q2, k2, d2, rfl, hv, hb⟩, eX⟩
  replace H := H.step eX
  refine ⟨_, _, _, _, _, _, _, rfl, fun hne => ?_, fun heq2 => ?_⟩
  · have hr : rightB cols B ch = false := by
      cases hr : rightB cols B ch with
      | false => rfl
      | true =>
        exfalso; apply hne
        unfold evalB
        rw [if_neg (by simp [heq]), if_neg (by simp [hr])]
    have e1 : evalB cols B ch x = ([], [], 2) := by unfold evalB; rw [if_neg (by simp [heq]), if_pos hr]
    have e2 : filterB cols B ch x = ([], 0, 2) := by
      unfold filterB
      rw [if_neg (by simp [heq]), if_neg hk', if_pos hr]
    rw [e1, e2]
    exact ⟨⟨none, 0, 0, rfl, Ls.nothing _ _⟩, H.ext⟩
  have hr : rightB cols B ch = true := by
    cases hr : rightB cols B ch with
    | true => rfl
    | false =>
      exfalso
      unfold evalB at heq2
      rw [if_neg (by simp [heq]), if_pos hr] at heq2
      exact absurd heq2 (by decide)
  have e1 : evalB cols B ch x = (ch.map fun i => (valAt cols B x i).1, ch.map fun i => (valAt cols B x i).2, 0) := by unfold evalB; rw [if_neg (by simp [heq]), if_neg (by simp [hr])]
  rw [e1] at hv hb
  have hcl := hch.len
  have hvl := hv.len
  have hbl := hb.len
  simp only [List.length_map] at hvl hbl
  obtain ⟨hlen, _⟩ := right_all hr
  have e0 := H.ext
  clear H
  refine ⟨fun o k' d' i W => ∃ j : Nat, i = (j : Int) ∧ j ≤ k ∧ (∀ i ∈ ch.take j, (valAt cols B x i).2 = 0) ∧ ∃ vs : List Int, vs = (ch.take j).filter (fun i => isTruth (valAt cols B x i).1) ∧ vs.length = k' ∧ Hold W1 W [] [⟨3, 1, o, k', d', vs.flatMap encI⟩], fun _ _ _ i _ => k - i.toNat, ⟨0, rfl, Nat.zero_le _, by simp, [], rfl, rfl, (Hold.start Ext.rfl).nilRow _ _⟩, ?_⟩
  rintro o k' d' i W ⟨j, rfl, hj, hall, vs, hvs, hvsl, H⟩
  refine ⟨fun hlt => ?_, fun hge => ⟨fun h => absurd h (by decide), fun _ => ?_⟩⟩
  · have gz : ch[j]? = some (ch[j]'(by omega)) := List.getElem?_eq_getElem _
    generalize ch[j]'(by omega) = z at gz
    have gv : (ch.map fun i => (valAt cols B x i).1)[j]? = some (valAt cols B x z).1 := by rw [List.getElem?_map, gz]; rfl
    have gb : (ch.map fun i => (valAt cols B x i).2)[j]? = some (valAt cols B x z).2 := by rw [List.getElem?_map, gz]; rfl
    obtain ⟨vb, vo, hvp, c0, c1, c2⟩ := (hv.ext H.ext).val gv
    simp only [Int.toNat_natCast]
    refine ⟨vb, vo, hvp, by omega, hlt, _, c0, _, c1, _, c2, ?_⟩
    intro b52 w53 h52
    replace H := H.new h52
    refine ⟨⟨_, H.get 0 rfl rfl⟩, H.frz 0 rfl, ⟨_, H.get 0 rfl rfl⟩, H.frz 0 rfl, ⟨_, H.get 0 rfl rfl⟩, H.frz 0 rfl, ?_⟩
    intro w58 hS
    replace H := H.put 0 rfl hS
    try simp only [setA, List.setIfInBounds_toArray, List.set_cons_zero, List.set_cons_succ, Nat.zero_add, Nat.reduceAdd] at H
    obtain ⟨bb, bo, hbp, d0⟩ := (hb.ext H.ext).int gb
    refine ⟨bb, bo, hbp, by omega, by omega, _, d0, fun hne => ⟨fun _ => ?_, fun h => absurd h (by omega)⟩, fun h0 => ?_⟩
    · intro w65 hD
      replace H := H.step (Drew.ext hD)
      obtain ⟨cb, co, hcp, f0⟩ := (hch.ext (e0.trans H.ext)).int gz
      obtain ⟨bb, bo, hbp, d0⟩ := (hb.ext H.ext).int gb
      refine ⟨cb, co, hcp, by omega, by omega, _, f0, bb, bo, hbp, by omega, by omega, _, d0, ?_⟩
      have e2 : filterB cols B ch x = ([], z, (valAt cols B x z).2) := by
        unfold filterB
        rw [if_neg (by simp [heq]), if_neg hk', if_neg (by simp [hr]), firstBad_at hall gz hne]
      rw [e2]
      exact ⟨⟨none, 0, 0, rfl, Ls.nothing _ _⟩, e0.trans H.ext⟩
    · have hall' : ∀ i ∈ ch.take (j + 1), (valAt cols B x i).2 = 0 := fun i hi => by
        rw [List.take_add_one, gz] at hi
        rcases List.mem_append.1 hi with h | h
        · exact hall i h
        · simp at h; subst h; exact h0
      rw [i64_next (by omega)]
      have M : k - ((j + 1 : Nat) : Int).toNat < k - ((j : Nat) : Int).toNat := by simp only [Int.toNat_natCast]; omega
      have no : isTruth (valAt cols B x z).1 = false → (ch.take (j + 1)).filter (fun i => isTruth (valAt cols B x i).1) = vs := fun h => by
        rw [List.take_add_one, gz, List.filter_append, hvs]
        simp [h]
      have yes : isTruth (valAt cols B x z).1 = true → (ch.take (j + 1)).filter (fun i => isTruth (valAt cols B x i).1) = vs ++ [z] := fun h => by
        rw [List.take_add_one, gz, List.filter_append, hvs]
        simp [h]
      refine ⟨_, H.get 0 rfl rfl, fun hk2 => ⟨_, H.get 0 rfl rfl, fun hn1 => ?_, fun hn1 => ?_⟩, fun hk2 => ?_⟩
      · obtain ⟨cb, co, hcp, f0⟩ := (hch.ext (e0.trans H.ext)).int gz
        refine ⟨cb, co, hcp, by omega, by omega, _, f0, ?_⟩
        intro b82 w83 h82
        have h82' := h82
        replace H := H.step h82.ext
        have hvk : vs.length ≤ j := by rw [hvs]; exact Nat.le_trans (List.length_filter_le _ _) (by simp; omega)
        obtain ⟨p', c', w26, hrn, H26⟩ := H.append (ty := 24) (P := Tryd.prog) (q := some ⟨b82, 0, none⟩) (m := 1) (d' := 1) (news := encI z) 0 rfl undInts tyInt rfl (by decide) (Blk.new h82').at rfl (fun e => by cases e) (encI_one _) (by dsimp only; omega) (by unfold maxLen; omega)
        refine ⟨p', _, c', w26, hrn, ⟨j + 1, rfl, by omega, hall', vs ++ [z], (yes (by unfold isTruth; simp [hk2, hn1])).symm, by simp [hvsl], ?_⟩, by simpa using M⟩
        rw [List.flatMap_append]
        simpa using H26.tail
      · exact ⟨⟨j + 1, rfl, by omega, hall', vs, (no (by unfold isTruth; simp [hn1])).symm, hvsl, H.tail⟩, by simpa using M⟩
      · exact ⟨⟨j + 1, rfl, by omega, hall', vs, (no (by unfold isTruth; simp [hk2])).symm, hvsl, H.tail⟩, by simpa using M⟩
  · have hjk : j = k := by omega
    subst hjk
    have e2 := filterB_make heq (by omega) hr fun i hi => hall i (by rw [List.take_of_length_le (by omega)]; exact hi)
    rw [e2]
    rw [List.take_of_length_le (by omega)] at hvs
    refine ⟨⟨o, k', d', rfl, ?_⟩, e0.trans H.ext⟩
    rw [← hvs]
    exact (H.row 0 rfl).ls encI_len (by decide)
end Go.Proofs.YtaccokhdmhomhaaDoor

/- The contract of the document's Filter, given that of its Eval. -/
namespace Go.Proofs.YtaccokhdmhomhaaDoor
open Go Go.Vc Go.RowKit
set_option maxRecDepth 20000
attribute [local irreducible] Calls Put Drew New

end Go.Proofs.YtaccokhdmhomhaaDoor

/- The contracts of the document's answer for expressions: numbers, truths. -/
namespace Go.Proofs.YtaccokhdmhomhaaDoor
open Go Go.Vc Go.RowKit
set_option maxRecDepth 20000

end Go.Proofs.YtaccokhdmhomhaaDoor

/- The contracts of the document's answer for expressions: a node of two kids. -/
namespace Go.Proofs.YtaccokhdmhomhaaDoor
open Go Go.Vc Go.RowKit
set_option maxRecDepth 20000

def bothF (a b : Val) (strong : Int) : Val :=
  if (a.k = 2 ∧ a.n = strong) ∨ (b.k = 2 ∧ b.n = strong) then truthV (decide (strong = 1)) else if a.k = 0 ∨ b.k = 0 then nullV else truthV (decide (strong = 0))
end Go.Proofs.YtaccokhdmhomhaaDoor

/- The contracts of the document's answer for expressions: values. -/
namespace Go.Proofs.YtaccokhdmhomhaaDoor
open Go Go.Vc Go.RowKit
set_option maxRecDepth 20000

end Go.Proofs.YtaccokhdmhomhaaDoor

/- The contract of the document's Eval. -/
namespace Go.Proofs.YtaccokhdmhomhaaDoor
open Go Go.Vc Go.RowKit
set_option maxRecDepth 20000
attribute [local irreducible] Calls Put Drew New

theorem rowB_fit {B : List (List Val)} (hf : ∀ r ∈ B, FitR r) (i : Nat) : FitR (rowB B i) := by
  intro u hu
  obtain ⟨r, hr, rfl⟩ := List.mem_map.1 hu
  rcases Nat.lt_or_ge i r.length with h | h
  · rw [List.getElem?_eq_getElem h]; exact hf r hr _ (List.getElem_mem h)
  · rw [List.getElem?_eq_none h]; decide
end Go.Proofs.YtaccokhdmhomhaaDoor

/- The contract of vector.Eval. -/
namespace Go.Proofs.YtaccokhdmhomhaaDoor
open Go Go.Vc Go.RowKit
set_option maxRecDepth 20000
attribute [local irreducible] Calls Put Drew New

theorem encs_len (l : List Int) : (l.flatMap encI).length = l.length := by
  induction l with
  | nil => rfl
  | cons x l ih => rw [List.flatMap_cons, List.length_append, ih, encI_len, List.length_cons]; omega
theorem vals_len (l : List Val) : (l.flatMap Val.cs).length = l.length * 3 := by
  induction l with
  | nil => rfl
  | cons x l ih => rw [List.flatMap_cons, List.length_append, ih, Val.cs_length, List.length_cons]; omega
/-- Element k is written behind those that were written. -/
theorem row_next {A Z us : List Value} {k s : Nat} (hA : A.length = k * s) (hu : us.length = s) : (A ++ Z.drop (k * s)).take (k * s) ++ us ++ (A ++ Z.drop (k * s)).drop (k * s + s) = A ++ us ++ Z.drop ((k + 1) * s) := by
  rw [List.take_left' hA, List.drop_append, List.drop_of_length_le (by omega), hA, List.nil_append, List.drop_drop, show k * s + (k * s + s - k * s) = (k + 1) * s by rw [Nat.add_mul]; omega]
theorem made_ints (n : Nat) : (madeCells #[Value.int .i64 0] n).toList = List.replicate n (Value.int .i64 0) := by
  apply List.ext_getElem
  · rw [Array.length_toList, size_madeCells]; simp
  · intro i h1 h2
    simp [madeCells, Nat.mod_one]
theorem none_bad {ch : List Int} {f : Int → Int} (h : ∀ i ∈ ch, f i = 0) : (ch.map f).flatMap encI = List.replicate ch.length (Value.int .i64 0) := by
  induction ch with
  | nil => rfl
  | cons x l ih =>
    rw [List.map_cons, List.flatMap_cons, ih fun i hi => h i (by simp [hi]), h x (by simp), List.length_cons, List.replicate_succ]; rfl
theorem no_loop {w : World} {l k o : Nat} {r : Nat → Loop} {v : Value} (h : Rec r l k w) (hc : w.cell? ⟨l, o, none⟩ = some v) : False := by
  unfold World.cell? at hc
  unfold Rec at h
  dsimp only at hc
  rw [h] at hc
  cases hc
set_option maxHeartbeats 4000000 in
theorem vEval_ok (x : Ex) {w : World} {p bp cp : Option Addr} {n c bn bc cn cc : Nat} {hs : List Sl} {B : List (List Val)} {cols : List Col} {ch : List Int} {cs : List Value} (hT : Tab w) (hT2 : Tab2 w) (hc : Cols w p n c cols) (hB : Rws w bp bn bc hs B) (hch : Is w cp cn cc ch) (hx : ExAt w x cs) (hf : ∀ r ∈ B, FitR r) (hxf : FitX x) :
    Calls Tryd.prog 9 #[.slice p n c, .slice bp bn bc, .slice cp cn cc, .agg cs.toArray] w fun e w' => EvalAns cols B ch x e w' ∧ Ext w w' := by
  obtain ⟨xp, xn, xc, rfl, _⟩ := hx.six
  apply vEval_vc
  unfold vEval_T
  intro b1 w2 h1
  have H := (Hold.start (Ext.rfl (w := w))).new h1
  intro b4 w5 h4
  replace H := H.new h4
  obtain ⟨a0, a1, a2, a3, a4, a5⟩ := Blk.c6 (H.blk 0 rfl)
  refine ⟨_, _, _, H.get 1 rfl rfl, _, a0, _, a1, _, a2, _, a3, _, a4, _, _, _, a5, ?_⟩
  refine (xtype_ok x (hT.ext H.ext) (hc.ext H.ext) (hx.ext H.ext)).mono ?_
  rintro e W ⟨rfl, eX⟩
  replace H := H.step eX
  refine ⟨_, _, rfl, fun hne => ?_, fun heq => ?_⟩
  · have : evalB cols B ch x = ([], [], (typeF cols x).2) := by unfold evalB; rw [if_pos hne]
    unfold EvalAns
    rw [this]
    exact ⟨⟨none, 0, 0, none, 0, 0, rfl, Ls.nothing _ _, Ls.nothing _ _⟩, H.ext⟩
  obtain ⟨hright, hform, hkd⟩ := typeF_right heq
  refine ⟨_, _, _, H.get 1 rfl rfl, ?_⟩
  refine (vbright_ok (hc.ext H.ext) hright (hB.ext H.ext) (hch.ext H.ext)).mono ?_
  rintro e W1 ⟨rfl, eX⟩
  replace H := H.step eX
  refine ⟨_, rfl, fun hr => ?_, fun hr => ?_⟩
  · have : evalB cols B ch x = ([], [], 2) := by unfold evalB; rw [if_neg (by simp [heq]), if_pos hr]
    unfold EvalAns
    rw [this]
    exact ⟨⟨none, 0, 0, none, 0, 0, rfl, Ls.nothing _ _, Ls.nothing _ _⟩, H.ext⟩
  have e1 : evalB cols B ch x = (ch.map fun i => (valAt cols B x i).1, ch.map fun i => (valAt cols B x i).2, 0) := by unfold evalB; rw [if_neg (by simp [heq]), if_neg (by simp [hr])]
  obtain ⟨hlen, hin⟩ := right_all hr
  obtain ⟨⟨r1, r2⟩, r3, r4, _⟩ := rightB_iff.1 hr
  have hl := hB.len
  have hcl := hch.len
  obtain ⟨rl1, rl2⟩ := right_len hright
  refine ⟨by omega, by omega, by omega, by omega, ?_⟩
  intro b32 w33 h32
  replace H := H.litRow (s := 1) (cap := cn) h32 (by unfold maxLen; omega) (by rw [size_madeCells]; simp)
  rw [made_ints] at H
  intro b35 w36 h35
  replace H := H.new h35
  refine ⟨⟨_, H.get 0 rfl rfl⟩, H.frz 0 rfl, ?_⟩
  intro w39 hS
  replace H := H.put 0 rfl hS
  try simp only [setA, List.setIfInBounds_toArray, List.set_cons_zero, List.set_cons_succ, Nat.zero_add, Nat.reduceAdd] at H
  obtain ⟨a0, a1, a2, a3, a4, a5⟩ := Blk.c6 (H.blk 1 rfl)
  refine ⟨_, _, _, H.get 2 rfl rfl, _, a0, _, a1, _, a2, _, a3, _, a4, _, _, _, a5, ?_⟩
  refine (vplain_ok x (hc.ext H.ext) (hB.ext H.ext) (hch.ext H.ext) (hx.ext H.ext) heq hr).mono ?_
  rintro e W3 ⟨hans, eX⟩
  replace H := H.step eX
  rcases hans with ⟨q, d, rfl, hv, hz⟩ | rfl
  · refine ⟨_, _, _, _, rfl, fun _ => ?_, fun h => (by cases h)⟩
    intro w59 hD
    have eD := Drew.ext hD
    replace H := H.step eD
    refine ⟨_, _, _, H.get 0 rfl rfl, ?_⟩
    have hb := H.row 0 rfl
    rw [← hcl, ← none_bad hz] at hb
    unfold EvalAns
    rw [e1]
    rw [hcl] at hb
    exact ⟨⟨q, cn, d, _, cn, cn, rfl, hv.ext eD, hb.ls encI_len (by decide)⟩, H.ext⟩
  · refine ⟨_, _, _, _, rfl, fun h => (by cases h), fun _ => ?_⟩
    refine ⟨by omega, by omega, by omega, by omega, ?_⟩
    intro b65 w66 h65
    replace H := H.litRow (s := 3) (cap := cn) h65 (by unfold maxLen; omega) (by rw [size_madeCells])
    generalize hZ : (madeCells #[Value.int .i64 0, .int .i64 0, .string ⟨#[]⟩] (cn * 3)).toList = Z at H
    have hZl : Z.length = cn * 3 := by rw [← hZ, Array.length_toList, size_madeCells]
    intro b68 w69 h68
    replace H := H.new h68
    refine ⟨⟨_, H.get 0 rfl rfl⟩, H.frz 0 rfl, ?_⟩
    intro w72 hS
    replace H := H.put 0 rfl hS
    try simp only [setA, List.setIfInBounds_toArray, List.set_cons_zero, List.set_cons_succ, Nat.zero_add, Nat.reduceAdd] at H
    refine (chosen_ok .nilFunc).mono ?_
    rintro e w75 ⟨c1, c4, w2', rfl, hn1, hn4⟩
    replace H := H.new hn1
    replace H := H.new hn4
    refine ⟨_, rfl, _, _, rfl, by kernel_rfl, ?_⟩
    intro r79 d80 l81 w182 hBeg
    replace H := H.began hBeg
    let F : List (Nat × Obj) := [(l81, .loop (r79 0)), (d80, .deferred (some [])), (c4, .cells #[.slice cp cn cc] 24 (0, 0)), (c1, .cells #[.slice bp bn bc] 23 (0, 0)), (b68, .cells #[.slice (some ⟨b65, 0, none⟩) cn cn] 31 (0, 0)),
      (b35, .cells #[.slice (some ⟨b32, 0, none⟩) cn cn] 32 (0, 0)), (b4, .cells #[.int .i64 x.op, .string x.name, .int .i64 x.v.k, .int .i64 x.v.n, .string x.v.s, .slice xp xn xc] 29 (0, 0)), (b1, .cells #[.slice p n c] 22 (0, 0))]
    let M : Nat → List Row := fun k => [⟨26, 3, some ⟨b65, 0, none⟩, cn, cn, ((ch.take k).map fun i => (valAt cols B x i).1).flatMap Val.cs ++ Z.drop (k * 3)⟩,
      ⟨33, 1, some ⟨b32, 0, none⟩, cn, cn, ((ch.take k).map fun i => (valAt cols B x i).2).flatMap encI ++ (List.replicate cn (Value.int .i64 0)).drop (k * 1)⟩]
    have H0 : Hold w w182 F (M 0) := by
      have := H
      simp only [Nat.zero_mul, List.drop_zero, List.take_zero, List.map_nil, List.flatMap_nil, List.nil_append, M, F]
      exact this
    clear H
    intro hround
    refine (chosen1_ok (wc := w) hB (by omega) hch (fun i hi => by obtain ⟨i0, _, _, i3⟩ := hin i hi; exact ⟨i0, i3⟩) (fun k W => Hold w W F (M k)) ?_ ?_ ?_ H0).mono ?_
    · rintro k W HW
      exact ⟨HW.ext, HW.get 2 rfl rfl, HW.get 3 rfl rfl⟩
    · rintro k W W' HW eX
      exact HW.step eX
    · rintro k i W q d R hk HW hrow hnext
      refine hround _ _ _ _ W R (HW.loop 0 rfl) ⟨HW.loop 0 rfl, ?_⟩
      rintro Wb rfl
      have H := HW.turn 0 1 rfl
      intro w93 hD
      replace H := H.step (Drew.ext hD)
      obtain ⟨a0, a1, a2, a3, a4, a5⟩ := Blk.c6 (H.blk 6 rfl)
      refine ⟨_, _, _, H.get 4 rfl rfl, _, _, _, H.get 5 rfl rfl, _, _, _, H.get 7 rfl rfl, _, a0, _, a1, _, a2, _, a3, _, a4, _, _, _, a5, ?_⟩
      obtain ⟨i0, i1, i2, i3⟩ := hin i (List.mem_of_getElem? hk)
      have hkn : k < cn := by have := (List.getElem?_eq_some_iff.1 hk).1; omega
      have ev : valAt cols B x i = evalF cols (rowB B i.toNat) x := valueF_eval heq i2
      have hrow' : Vs w93 q bn d (rowB B i.toNat) := hrow.kept fun b o hb hlt => by
        rw [(Drew.ext hD).block b (by rw [turn_but.2]; exact hlt)]
        refine turn_but.1.block b hlt fun e => ?_
        subst e
        have h0 : 0 < (rowB B i.toNat).length := by unfold rowB; rw [List.length_map]; omega
        obtain ⟨vb, vo, hvp, c0, _⟩ := hrow.val (List.getElem?_eq_getElem h0)
        rw [hb] at hvp
        cases hvp
        exact no_loop (HW.loop 0 rfl) c0
      refine (xEval_ok x (hT.ext H.ext) (hT2.ext H.ext) (hc.ext H.ext) hrow' (hx.ext H.ext) (rowB_fit hf _) hxf).mono ?_
      rintro e W5 ⟨rfl, eX⟩
      rw [← ev]
      replace H := H.step eX
      refine ⟨_, _, _, _, rfl, eX.same, ?_⟩
      have ht : (ch.take k).length = k := by rw [List.length_take]; omega
      obtain ⟨gb, gp, gc, gput⟩ := H.putRow (us := (valAt cols B x i).1.cs) 0 rfl hkn (Val.cs_length _)
      cases gp
      simp only [Int.toNat_natCast]
      have u0 := gc 0 (by omega)
      have u1 := gc 1 (by omega)
      have u2 := gc 2 (by omega)
      rw [Nat.add_zero] at u0
      refine ⟨_, _, rfl, by omega, by omega, ?_⟩
      simp only [Nat.zero_add]
      refine ⟨u0.1, u0.2, u1.1, u1.2, u2.1, u2.2, ?_⟩
      intro w123 hS
      have hne : ∀ y ∈ [b4, b1, b35, b68], y ≠ b65 := by
        intro y hy
        simp only [List.mem_cons, List.not_mem_nil, or_false] at hy
        rcases hy with rfl | rfl | rfl | rfl
        · exact H.apart 6 0 _ _ rfl rfl _ _ rfl
        · exact H.apart 7 0 _ _ rfl rfl _ _ rfl
        · exact H.apart 5 0 _ _ rfl rfl _ _ rfl
        · exact H.apart 4 0 _ _ rfl rfl _ _ rfl
      refine ⟨hS.but.sameIn fun hm => hne _ hm rfl, ?_⟩
      replace H := gput _ hS
      obtain ⟨gb, gp, gc, gput⟩ := H.putRow (us := encI (valAt cols B x i).2) 1 rfl hkn (encI_len _)
      cases gp
      have u0 := gc 0 (by omega)
      rw [Nat.add_zero, Nat.mul_one] at u0
      refine ⟨_, _, rfl, by omega, by omega, ?_⟩
      simp only [Nat.zero_add]
      refine ⟨u0.1, u0.2, ?_⟩
      intro w128 hS2
      replace H := gput _ (by rw [Nat.mul_one]; exact hS2)
      refine ⟨H.loop 0 rfl, hnext _ ?_⟩
      have H2 := H.turn 0 0 rfl
      have g1 := row_next (A := ((ch.take k).map fun i => (valAt cols B x i).1).flatMap Val.cs) (Z := Z) (k := k) (s := 3) (by rw [vals_len, List.length_map, ht]) (Val.cs_length (valAt cols B x i).1)
      have g2 := row_next (A := ((ch.take k).map fun i => (valAt cols B x i).2).flatMap encI) (Z := List.replicate cn (Value.int .i64 0)) (k := k) (s := 1) (by rw [encs_len, List.length_map, ht]; omega) (encI_len (valAt cols B x i).2)
      have e1 : ((ch.take (k + 1)).map fun i => (valAt cols B x i).1).flatMap Val.cs = ((ch.take k).map fun i => (valAt cols B x i).1).flatMap Val.cs ++ (valAt cols B x i).1.cs := by
        rw [List.take_add_one, hk, List.map_append, List.flatMap_append]; simp
      have e2 : ((ch.take (k + 1)).map fun i => (valAt cols B x i).2).flatMap encI = ((ch.take k).map fun i => (valAt cols B x i).2).flatMap encI ++ encI (valAt cols B x i).2 := by
        rw [List.take_add_one, hk, List.map_append, List.flatMap_append]; simp
      have : M (k + 1) = _ := rfl
      rw [show M (k + 1) = [⟨26, 3, some ⟨b65, 0, none⟩, cn, cn, ((ch.take (k + 1)).map fun i => (valAt cols B x i).1).flatMap Val.cs ++ Z.drop ((k + 1) * 3)⟩,
      ⟨33, 1, some ⟨b32, 0, none⟩, cn, cn, ((ch.take (k + 1)).map fun i => (valAt cols B x i).2).flatMap encI ++ (List.replicate cn (Value.int .i64 0)).drop ((k + 1) * 1)⟩] from rfl, e1, e2, ← g1, ← g2]
      exact H2
    · rintro e W4 ⟨rfl, HW⟩
      refine ⟨⟨_, rfl⟩, .inl ⟨HW.loop 0 rfl, ?_⟩⟩
      have H2 := HW.turn 0 2 rfl
      intro w137 hD
      replace H2 := H2.step (Drew.ext hD)
      refine ⟨_, _, _, H2.get 4 rfl rfl, _, _, _, H2.get 5 rfl rfl, H2.dfr 1 rfl, ?_⟩
      have H3 := H2.shut 1 rfl
      have hk0 := H3.row 0 rfl
      have hk1 := H3.row 1 rfl
      rw [List.take_of_length_le (by omega), List.drop_of_length_le (by omega), List.append_nil] at hk0
      rw [List.take_of_length_le (by omega), List.drop_of_length_le (by simp; omega), List.append_nil] at hk1
      unfold EvalAns
      rw [e1]
      exact ⟨⟨_, cn, cn, _, cn, cn, rfl, hk0.ls Val.cs_length (by decide), hk1.ls encI_len (by decide)⟩, H3.ext⟩
end Go.Proofs.YtaccokhdmhomhaaDoor

/- The contracts of the words that hold rows against one another. -/
namespace Go.Proofs.YtaccokhdmhomhaaDoor
open Go Go.Vc Go.RowKit
set_option maxRecDepth 20000

end Go.Proofs.YtaccokhdmhomhaaDoor

/- The contracts of law13's shown, VectorEvals, VectorFilters. -/
namespace Go.Proofs.YtaccokhdmhomhaaDoor
open Go Go.Vc Go.RowKit
set_option maxRecDepth 20000
attribute [local irreducible] Calls Put Drew New

def shC : List Col := [⟨⟨#[97]⟩, 1, true⟩]
def shB : List (List Val) := [[numV 1, nullV, numV 3]]
def shCh : List Int := [0, 1, 2]
def shX : Ex := .mk 10 ⟨#[]⟩ nullV [.mk 2 ⟨#[]⟩ (numV 1) [], .mk 1 ⟨#[97]⟩ nullV []]
theorem sh_val : filterB shC shB shCh shX = ([2], 0, 0) := by decide +kernel
section
variable {w : World} {p bp cp : Option Addr} {n c bn bc cn cc : Nat} {hs : List Sl} {B : List (List Val)} {cols : List Col} {ch : List Int}
theorem vFilter_all (x : Ex) {cs : List Value} (hT : Tab w) (hT2 : Tab2 w) (hc : Cols w p n c cols) (hB : Rws w bp bn bc hs B) (hch : Is w cp cn cc ch) (hx : ExAt w x cs) (hf : ∀ r ∈ B, FitR r) (hxf : FitX x) :
    Calls Tryd.prog 13 #[.slice p n c, .slice bp bn bc, .slice cp cn cc, .agg cs.toArray] w fun e w' => (∃ (q : Option Addr) (k d : Nat), e = .returned (.tuple #[.slice q k d, .int .i64 (filterB cols B ch x).2.1, .int .i64 (filterB cols B ch x).2.2]) ∧ Is w' q k d (filterB cols B ch x).1) ∧ Ext w w' :=
  vFilter_ok x hT hc hch hx fun e => vEval_ok x (hT.ext e) (hT2.ext e) (hc.ext e) (hB.ext e) (hch.ext e) (hx.ext e) hf hxf
theorem shown13_ok (hT : Tab w) (hT2 : Tab2 w) : Calls Tryd.prog 8 #[] w fun e w' => e = .returned (.bool true) ∧ Ext w w' := by
  apply shown13_vc
  unfold shown13_T
  intro b1 w2 h1
  have H := (Hold.start (Ext.rfl (w := w))).new h1
  intro b4 w5 h4
  replace H := H.new h4
  intro b7 w8 h7
  replace H := H.new h7
  intro b10 w11 h10
  replace H := H.new h10
  intro b13 w14 h13
  replace H := H.new h13
  have hc : Cols w14 (some ⟨b1, 0, none⟩) 1 1 shC := ⟨rfl, ⟨Nat.le_refl _, by decide⟩, (H.blk 4 rfl).at, fun h => by cases h⟩
  have hr : Vs w14 (some ⟨b4, 0, none⟩) 3 3 [numV 1, nullV, numV 3] := ⟨rfl, ⟨Nat.le_refl _, by decide⟩, (H.blk 3 rfl).at, fun h => by cases h⟩
  have hh : Ls Sl.cs w14 (some ⟨b7, 0, none⟩) 1 1 [⟨some ⟨b4, 0, none⟩, 3, 3⟩] := ⟨rfl, ⟨Nat.le_refl _, by decide⟩, (H.blk 2 rfl).at, fun h => by cases h⟩
  have hB : Rws w14 (some ⟨b7, 0, none⟩) 1 1 [⟨some ⟨b4, 0, none⟩, 3, 3⟩] shB := by
    refine ⟨hh, fun i x r hx hr' => ?_, rfl⟩
    cases i with
    | zero => cases hx; cases hr'; exact hr
    | succ i => simp at hx
  have hch : Is w14 (some ⟨b10, 0, none⟩) 3 3 shCh := ⟨rfl, ⟨Nat.le_refl _, by decide⟩, (H.blk 1 rfl).at, fun h => by cases h⟩
  have hx : ExAt w14 shX [.int .i64 10, .string ⟨#[]⟩, .int .i64 0, .int .i64 0, .string ⟨#[]⟩, .slice (some ⟨b13, 0, none⟩) 2 2] := by
    unfold shX ExAt
    refine ⟨some ⟨b13, 0, none⟩, 2, 2, [[.int .i64 2, .string ⟨#[]⟩, .int .i64 1, .int .i64 1, .string ⟨#[]⟩, .slice none 0 0], [.int .i64 1, .string ⟨#[97]⟩, .int .i64 0, .int .i64 0, .string ⟨#[]⟩, .slice none 0 0]], rfl, ⟨Nat.le_refl _, by decide⟩, fun h => (by cases h), rfl, ?_, (H.blk 0 rfl).at, ?_⟩
    · intro x hx
      simp only [List.mem_cons, List.not_mem_nil, or_false] at hx
      rcases hx with rfl | rfl <;> rfl
    · unfold ExsAt
      refine ⟨?_, ?_⟩
      · unfold ExAt
        exact ⟨none, 0, 0, [], rfl, ⟨Nat.le_refl _, Nat.zero_le _⟩, fun _ => ⟨rfl, rfl⟩, rfl, by simp, .inl rfl, by unfold ExsAt; trivial⟩
      · unfold ExsAt
        refine ⟨?_, by unfold ExsAt; trivial⟩
        unfold ExAt
        exact ⟨none, 0, 0, [], rfl, ⟨Nat.le_refl _, Nat.zero_le _⟩, fun _ => ⟨rfl, rfl⟩, rfl, by simp, .inl rfl, by unfold ExsAt; trivial⟩
  refine (vFilter_all shX (hT.ext H.ext) (hT2.ext H.ext) hc hB hch hx (by unfold FitR; decide) (by unfold FitX; decide)).mono ?_
  rw [sh_val]
  rintro e W ⟨⟨q, k, d, rfl, hi⟩, eX⟩
  obtain rfl : (1 : Nat) = k := hi.len
  refine ⟨_, _, _, _, _, rfl, fun _ => ?_, fun h => ?_⟩
  · obtain ⟨b, o, hp, c0⟩ := hi.int (i := 0) (z := 2) rfl
    refine ⟨b, o, hp, by decide, by decide, _, c0, ?_, (H.step eX).ext⟩
    simp
  · rcases h with h | h
    · exact absurd rfl h
    · exact absurd rfl h
end
end Go.Proofs.YtaccokhdmhomhaaDoor

/- The contracts of law13's VectorRows, VectorBoth, VectorLess. -/
namespace Go.Proofs.YtaccokhdmhomhaaDoor
open Go Go.Vc Go.RowKit
set_option maxRecDepth 20000
attribute [local irreducible] Calls Put Drew New

section
variable {cols : List Col} {L : List (List Val)} {ch : List Int} {x : Ex}
/-- The columns of rows. -/
def colsOf (cols : List Col) (L : List (List Val)) : List (List Val) := (List.range cols.length).map fun c => L.map fun r : List Val => (r[c]?).getD nullV
theorem turnB_ok (h : (turnB cols L).2 = 0) : rightC cols = true ∧ L.length ≤ 1024 ∧ (∀ r ∈ L, fitsC cols r = true) ∧ (turnB cols L).1 = colsOf cols L := by
  by_cases h1 : rightC cols = true
  · by_cases h2 : 1024 < L.length ∨ ¬ (∀ r ∈ L, fitsC cols r = true)
    · unfold turnB at h
      rw [if_neg (by simp [h1]), if_pos h2] at h
      exact absurd h (by decide)
    · have h3 : L.length ≤ 1024 := by
        rcases Nat.lt_or_ge 1024 L.length with h | h
        · exact absurd (.inl h) h2
        · exact h
      have h4 : ∀ r ∈ L, fitsC cols r = true := Classical.byContradiction fun h => h2 (.inr h)
      exact ⟨h1, h3, h4, by rw [turned h1 h3 h4]; rfl⟩
  · unfold turnB at h
    rw [if_pos (by simpa using h1)] at h
    exact absurd h (by decide)
theorem fit_cols (hf : ∀ r ∈ L, FitR r) : ∀ r ∈ colsOf cols L, FitR r := by
  intro r hr u hu
  obtain ⟨c, _, rfl⟩ := List.mem_map.1 hr
  obtain ⟨q, hq, rfl⟩ := List.mem_map.1 hu
  rcases Nat.lt_or_ge c q.length with h | h
  · rw [List.getElem?_eq_getElem h]; exact hf q hq _ (List.getElem_mem h)
  · rw [List.getElem?_eq_none h]; decide
theorem all_at (h : rightC cols = true) {i : Nat} (hi : i < L.length) : (allCh (colsOf cols L))[i]? = some (i : Int) := by
  unfold allCh colsOf
  rw [turned_high h, List.getElem?_map, List.getElem?_range hi]; rfl
theorem all_len (h : rightC cols = true) : (allCh (colsOf cols L)).length = L.length := by
  unfold allCh colsOf
  rw [turned_high h]; simp
theorem all_right (h : rightC cols = true) (hl : L.length ≤ 1024) (hf : ∀ r ∈ L, fitsC cols r = true) : rightB cols (colsOf cols L) (allCh (colsOf cols L)) = true := by
  refine turned_right h hl hf fun i hi => ?_
  have e : allCh (colsOf cols L) = (List.range L.length).map fun i : Nat => (i : Int) := by unfold allCh colsOf; rw [turned_high h]
  change i < (allCh (colsOf cols L)).length at hi
  rw [all_len h] at hi
  change chosenAt L.length (allCh (colsOf cols L)) i = true
  rw [e]
  exact all_chosen _ _ hi
theorem evalB_err {B : List (List Val)} (h : (typeF cols x).2 ≠ 0) : evalB cols B ch x = ([], [], (typeF cols x).2) := by unfold evalB; rw [if_pos h]
theorem evalB_fine {B : List (List Val)} (h : (typeF cols x).2 = 0) (hr : rightB cols B ch = true) : evalB cols B ch x = (ch.map fun i => (valAt cols B x i).1, ch.map fun i => (valAt cols B x i).2, 0) := by
  unfold evalB; rw [if_neg (by simp [h]), if_neg (by simp [hr])]
end
section
variable {w : World} {p rp : Option Addr} {n c rn rc : Nat} {hs : List Sl} {L : List (List Val)} {cols : List Col} {ch : List Int}
set_option maxHeartbeats 4000000 in
theorem lawLess_ok (x : Ex) {cs : List Value} {cp : Option Addr} {cn cc : Nat} (hT : Tab w) (hT2 : Tab2 w) (hc : Cols w p n c cols) (hL : Rws w rp rn rc hs L) (hch : Is w cp cn cc ch) (hx : ExAt w x cs) (hf : ∀ r ∈ L, FitR r) (hxf : FitX x) :
    Calls Tryd.prog 7 #[.slice p n c, .slice rp rn rc, .slice cp cn cc, .agg cs.toArray] w fun e w' => e = .returned (.bool true) ∧ Ext w w' := by
  obtain ⟨xp, xn, xc, rfl, _⟩ := hx.six
  apply lawLess_vc
  unfold lawLess_T
  intro b1 w2 h1
  have H := (Hold.start (Ext.rfl (w := w))).new h1
  refine (shown13_ok (hT.ext H.ext) (hT2.ext H.ext)).mono ?_
  rintro e W ⟨rfl, eX⟩
  replace H := H.step eX
  refine ⟨_, rfl, ?_⟩
  refine (vturn_ok (hc.ext H.ext) (hL.ext H.ext)).mono ?_
  rintro e W1 ⟨q, k, d, hs', rfl, hB, eX⟩
  replace H := H.step eX
  refine ⟨_, _, _, _, rfl, fun _ => ⟨rfl, H.ext⟩, fun h0 => ?_⟩
  obtain ⟨t1, t2, t3, t4⟩ := turnB_ok h0
  rw [t4] at hB
  have hll := hL.len
  have hcl := hch.len
  have hcm := hch.le
  unfold maxLen at hcm
  intro w15 hD
  have eD := Drew.ext hD
  replace H := H.step eD
  replace hB := hB.ext eD
  obtain ⟨a0, a1, a2, a3, a4, a5⟩ := Blk.c6 (H.blk 0 rfl)
  refine ⟨_, a0, _, a1, _, a2, _, a3, _, a4, _, _, _, a5, ?_⟩
  have hh : highB (colsOf cols L) = L.length := turned_high t1
  refine (vall_ok hB (by rw [hh]; exact t2)).mono ?_
  rintro e W2 ⟨q2, k2, d2, rfl, hall, eX⟩
  replace H := H.step eX
  replace hB := hB.ext eX
  refine ⟨_, _, _, rfl, eX.same, ?_⟩
  refine (vEval_ok x (hT.ext H.ext) (hT2.ext H.ext) (hc.ext H.ext) hB hall (hx.ext H.ext) (fit_cols hf) hxf).mono ?_
  rintro e W3 ⟨⟨q3, k3, d3, q4, k4, d4, rfl, hv, hb⟩, eX⟩
  replace H := H.step eX
  replace hB := hB.ext eX
  obtain ⟨a0, a1, a2, a3, a4, a5⟩ := Blk.c6 (H.blk 0 rfl)
  refine ⟨_, _, _, _, _, _, _, rfl, _, a0, _, a1, _, a2, _, a3, _, a4, _, _, _, a5, ?_⟩
  refine (vEval_ok x (hT.ext H.ext) (hT2.ext H.ext) (hc.ext H.ext) hB (hch.ext H.ext) (hx.ext H.ext) (fit_cols hf) hxf).mono ?_
  rintro e W4 ⟨⟨q5, k5, d5, q6, k6, d6, rfl, hv', hb'⟩, eX⟩
  replace H := H.step eX
  replace hv := hv.ext eX
  replace hb := hb.ext eX
  refine ⟨_, _, _, _, _, _, _, rfl, ?_⟩
  by_cases ht : (typeF cols x).2 = 0
  · have ev := evalB_fine ht (all_right t1 t2 t3)
    rw [ev] at hv hb
    rw [ev]
    by_cases hr : rightB cols (colsOf cols L) ch = true
    · have ev' := evalB_fine ht hr
      rw [ev'] at hv' hb'
      rw [ev']
      have l1 := hv.len
      have l2 := hb.len
      have l3 := hv'.len
      have l4 := hb'.len
      rw [List.length_map, all_len t1] at l1 l2
      rw [List.length_map] at l3 l4
      refine ⟨fun h => ?_, fun _ => ⟨fun h => ?_, fun _ => ?_⟩⟩
      · exfalso
        rcases h with h | h <;> exact h rfl
      · exfalso; omega
      have hcm2 := right_chosen hr
      rw [hh] at hcm2
      refine ⟨fun i W => ∃ j : Nat, i = (j : Int) ∧ j ≤ cn ∧ Ext W4 W, fun i _ => cn - i.toNat, ⟨0, rfl, Nat.zero_le _, Ext.rfl⟩, ?_⟩
      rintro i W ⟨j, rfl, hj, e4⟩
      refine ⟨fun hlt => ?_, fun hge => ⟨rfl, H.ext.trans e4⟩⟩
      have gz : ch[j]? = some (ch[j]'(by omega)) := List.getElem?_eq_getElem _
      have hin := chosen_mem hcm2 (List.getElem_mem (show j < ch.length by omega))
      generalize ch[j]'(by omega) = z at gz hin
      obtain ⟨cb, co, hcp, f0⟩ := (hch.ext (H.ext.trans e4)).int gz
      simp only [Int.toNat_natCast]
      refine ⟨cb, co, hcp, by omega, by omega, _, f0, ?_⟩
      intro w71 hD
      have eD := Drew.ext hD
      replace e4 := e4.trans eD
      refine ⟨fun h => by omega, fun _ => ?_⟩
      have g1 : ((allCh (colsOf cols L)).map fun i => (valAt cols (colsOf cols L) x i).1)[z.toNat]? = some (valAt cols (colsOf cols L) x z).1 := by
        rw [List.getElem?_map, all_at t1 (by omega), Option.map_some, Int.toNat_of_nonneg hin.1]
      have g2 : ((allCh (colsOf cols L)).map fun i => (valAt cols (colsOf cols L) x i).2)[z.toNat]? = some (valAt cols (colsOf cols L) x z).2 := by
        rw [List.getElem?_map, all_at t1 (by omega), Option.map_some, Int.toNat_of_nonneg hin.1]
      have g3 : (ch.map fun i => (valAt cols (colsOf cols L) x i).1)[j]? = some (valAt cols (colsOf cols L) x z).1 := by rw [List.getElem?_map, gz]; rfl
      have g4 : (ch.map fun i => (valAt cols (colsOf cols L) x i).2)[j]? = some (valAt cols (colsOf cols L) x z).2 := by rw [List.getElem?_map, gz]; rfl
      obtain ⟨vb, vo, hvp, c0, c1, c2⟩ := (hv'.ext e4).val g3
      obtain ⟨ub, uo, hup, u0, u1, u2⟩ := (hv.ext e4).val g1
      obtain ⟨eb, eo, hep, d0⟩ := (hb'.ext e4).int g4
      obtain ⟨fb, fo, hfp, m0⟩ := (hb.ext e4).int g2
      refine ⟨vb, vo, hvp, by omega, by omega, _, c0, _, c1, _, c2, ub, uo, hup, by omega, by omega, _, u0, _, u1, _, u2, fun hne => ?_, fun _ => ?_⟩
      · exfalso
        rcases hne with h | h | h <;> exact h rfl
      · refine ⟨eb, eo, hep, by omega, by omega, _, d0, fb, fo, hfp, by omega, by omega, _, m0, fun hne => absurd rfl hne, fun _ => ?_⟩
        rw [i64_next (by omega)]
        exact ⟨⟨j + 1, rfl, by omega, e4⟩, by simp only [Int.toNat_natCast]; omega⟩
    · have ev' : evalB cols (colsOf cols L) ch x = ([], [], 2) := by unfold evalB; rw [if_neg (by simp [ht]), if_pos (by simpa using hr)]
      rw [ev']
      refine ⟨fun _ => ⟨fun _ => ⟨fun h => absurd (show (0 : Int) = 2 from h) (by decide), fun _ => ⟨by simp, H.ext⟩⟩, fun h => by cases h⟩, fun h => absurd (show (2 : Int) = 0 from h.2) (by decide)⟩
  · rw [evalB_err ht, evalB_err ht]
    exact ⟨fun _ => ⟨fun _ => ⟨fun _ => ⟨rfl, H.ext⟩, fun h => absurd rfl h⟩, fun h => by cases h⟩, fun h => absurd h.1 ht⟩
end
end Go.Proofs.YtaccokhdmhomhaaDoor

/- An argument that is an expression, opened. -/
namespace Go.Vc
open Go Go.RowKit

theorem ArgF.fields {n : Nat} {P : Program} {w : World} {t : TypeId} {cs : List Value} {l : List (TypeId × Nat)} (hu : structOf P t = some l) (h : ArgF (n + 1) P w t cs) :
    cs.length = P.cellsOf t ∧ ∀ x ∈ l, ArgF n P w x.1 ((cs.drop x.2).take (P.cellsOf x.1)) := by
  unfold structOf at hu
  split at hu
  · rename_i fs hfs
    cases hu
    obtain ⟨h1, h2⟩ := ArgF.struct hfs h
    refine ⟨h1, fun x hx => ?_⟩
    obtain ⟨f, hf, rfl⟩ := List.mem_map.1 hx
    exact h2 f hf
  · cases hu
theorem ExsAt.all {w : World} : ∀ (css : List (List Value)), (∀ c ∈ css, ∃ x, ExAt w x c ∧ ∀ y ∈ nodesT x, fitI y.v.n) → ∃ xs, ExsAt w xs css ∧ ∀ y ∈ nodesTs xs, fitI y.v.n
  | [], _ => ⟨[], by unfold ExsAt; trivial, fun y hy => by unfold nodesTs at hy; cases hy⟩
  | c :: r, h => by
    obtain ⟨x, h1, h2⟩ := h c (by simp)
    obtain ⟨xs, h3, h4⟩ := ExsAt.all r fun q hq => h q (by simp [hq])
    refine ⟨x :: xs, by unfold ExsAt; exact ⟨h1, h3⟩, fun y hy => ?_⟩
    unfold nodesTs at hy
    rcases List.mem_append.1 hy with hy | hy
    · exact h2 y hy
    · exact h4 y hy
theorem arg_ex {P : Program} {w : World} {t ti ts tv tk : TypeId} (hu : structOf P t = some [(ti, 0), (ts, 1), (tv, 2), (tk, 5)]) (hc : P.cellsOf t = 6) (h1 : P.cellsOf ti = 1) (h2 : P.cellsOf ts = 1) (h3 : P.cellsOf tv = 3) (h4 : P.cellsOf tk = 1)
    (u1 : P.underlying ti = some (.int .i64)) (u2 : P.underlying ts = some .string) (u4 : P.underlying tk = some (.slice t)) (hv : ∀ cs, Arg P w tv cs → ∃ v : Val, cs = v.cs ∧ v.fit) :
    ∀ (f : Nat) (cs : List Value), ArgF f P w t cs → ∃ x, ExAt w x cs ∧ ∀ y ∈ nodesT x, fitI y.v.n := by
  intro f
  induction f using Nat.strongRecOn with
  | ind f ih =>
  intro cs h
  obtain ⟨n, rfl⟩ := h.pos
  obtain ⟨hl, hf⟩ := h.fields hu
  rw [hc] at hl
  obtain ⟨a, b, c, d, e, g, rfl⟩ : ∃ a b c d e g, cs = [a, b, c, d, e, g] := by
    match cs, hl with
    | [a, b, c, d, e, g], _ => exact ⟨a, b, c, d, e, g, rfl⟩
  have f1 := hf (ti, 0) (by simp)
  have f2 := hf (ts, 1) (by simp)
  have f3 := hf (tv, 2) (by simp)
  have f4 := hf (tk, 5) (by simp)
  simp only [h1, h2, h3, h4] at f1 f2 f3 f4
  obtain ⟨op, e1, _⟩ := Arg.int u1 f1.arg
  obtain ⟨nm, e2, _⟩ := Arg.string u2 f2.arg
  obtain ⟨v, e3, hvf⟩ := hv _ f3.arg
  obtain ⟨m, rfl⟩ := f4.pos
  obtain ⟨p, k, cap, css, e4, hkc, hcm, _, hcl, hall, hat, hnil⟩ := ArgF.slice u4 (by omega) f4
  simp [Val.cs] at e1 e2 e3 e4
  obtain ⟨rfl, rfl, rfl⟩ := e3
  subst e1 e2 e4
  obtain ⟨xs, hxs, hxf⟩ := ExsAt.all (w := w) (css.take k) fun q hq => ih m (by omega) q (hall q (List.mem_of_mem_take hq)).2
  refine ⟨.mk op nm v xs, ?_, fun y hy => ?_⟩
  · unfold ExAt
    refine ⟨p, k, cap, css.take k, rfl, ⟨hkc, hcm⟩, hnil, by rw [List.length_take]; omega, fun q hq => by rw [(hall q (List.mem_of_mem_take hq)).1, hc], ?_, hxs⟩
    have hsplit : css.flatten = (css.take k).flatten ++ (css.drop k).flatten := by rw [← List.flatten_append, List.take_append_drop]
    have := hat.take ((css.take k).flatten.length)
    rw [hsplit, List.take_left] at this
    exact this
  · unfold nodesT at hy
    rcases List.mem_cons.1 hy with rfl | hy
    · exact hvf.2
    · exact hxf y hy
end Go.Vc

/- Tables of tables: what a row's list says of their cells. -/
namespace Go.Vc
open Go

theorem cells_of_arr {H α : Type} {enc : TypeId × Value → H} {P : Program} {w : World} {base : Nat} {sp : Nat → Bool} {held : Bool} {fuel : Nat} {t e : TypeId} {n s : Nat} {cs : List Value} {zs : List α} {p : List MemPlace} {D : α → DataW H} {C : α → List Value}
    (ht : P.underlying t = some (.array n e)) (hce : P.cellsOf e = s) (hct : P.cellsOf t = n * s) (hs : ∀ z, (C z).length = s) (h0 : 0 < s)
    (inner : ∀ fuel cs z p, cs.length = s → DataW.trod enc P w base sp held fuel e cs = some (D z, p) → cs = C z)
    (h : DataW.trod enc P w base sp held fuel t cs = some (.agg (zs.map D), p)) : cs = zs.flatMap C := by
  cases fuel with
  | zero => simp [DataW.trod] at h
  | succ fuel =>
    simp only [DataW.trod, ht, hce, hct] at h
    split at h
    · rename_i hl
      obtain ⟨xs, hm, hx⟩ := Option.map_eq_some_iff.1 h
      have hxs : xs.map (·.1) = zs.map D := by
        have := congrArg Prod.fst hx
        simpa using this
      have hxl : xs.length = n := by simpa using Lib.mapM_length hm
      have hzl : zs.length = n := by
        have := congrArg List.length hxs
        simp at this
        omega
      have key : ∀ i, i < n → ∃ z, zs[i]? = some z ∧ (cs.drop (i * s)).take s = C z := by
        intro i hi
        obtain ⟨b, hb, hf⟩ := Lib.mapM_at hm i i (by simp [hi])
        have h2 : (xs.map (·.1))[i]? = some b.1 := by simp [hb]
        rw [hxs, List.getElem?_map] at h2
        obtain ⟨z, hz, he⟩ := Option.map_eq_some_iff.1 h2
        refine ⟨z, hz, inner fuel _ z b.2 ?_ ?_⟩
        · have hmul : (i + 1) * s ≤ n * s := Nat.mul_le_mul_right _ (by omega)
          have e1 : (i + 1) * s = i * s + s := Nat.succ_mul i s
          simp only [List.length_take, List.length_drop]
          omega
        · rw [hf, he]
      -- both lists, piece by piece
      have go : ∀ (m : Nat) (zs : List α) (cs : List Value), zs.length = m → cs.length = m * s → (∀ i, i < m → ∃ z, zs[i]? = some z ∧ (cs.drop (i * s)).take s = C z) → cs = zs.flatMap C := by
        intro m
        induction m with
        | zero =>
          intro zs cs hz hc _
          rw [List.length_eq_zero_iff] at hz
          rw [Nat.zero_mul, List.length_eq_zero_iff] at hc
          rw [hz, hc]; rfl
        | succ m ih =>
          intro zs cs hz hc hk
          match zs, hz with
          | z :: r, hz =>
            have hcm : (m + 1) * s = m * s + s := Nat.succ_mul m s
            obtain ⟨z', hz', h1⟩ := hk 0 (by omega)
            cases hz'
            rw [Nat.zero_mul, List.drop_zero] at h1
            have := ih r (cs.drop s) (by simpa using hz) (by rw [List.length_drop]; omega) (fun i hi => by
              obtain ⟨y, hy, h2⟩ := hk (i + 1) (by omega)
              refine ⟨y, by simpa using hy, ?_⟩
              rw [List.drop_drop, ← h2]
              congr 2
              rw [Nat.succ_mul]; omega)
            rw [List.flatMap_cons, ← h1, ← this, List.take_append_drop]
      exact go n zs cs hzl (by simpa using hl) key
    · cases h
end Go.Vc

/- A row's list of tables, looked up by name; rows of three numbers. -/
namespace Go.Vc
open Go

theorem laid_get {P : Program} {w : World} : ∀ {laid : List (String × DataW Unit)} {ps : List MemPlace}, DataW.LaidVars P w laid ps → ∀ {n : String} {d : DataW Unit}, (n, d) ∈ laid →
    ∃ g t cs fuel p, P.globalNamed n = some g ∧ (P.globals[g]?).map (·.type) = some t ∧ w.var? P n = some cs ∧ DataW.trod (fun _ => ()) P w 0 (fun _ => true) false fuel t cs.toList = some (d, p)
  | [], _, _, n, d, hm => by cases hm
  | (m, e) :: r, ps, h, n, d, hm => by
    obtain ⟨g, t, cs, fuel, p, q, h1, h2, h3, h4, h5, _⟩ := h
    rcases List.mem_cons.1 hm with hm | hm
    · cases hm; exact ⟨g, t, cs, fuel, p, h1, h2, h3, h4⟩
    · exact laid_get h5 hm
theorem trod_three {H : Type} {enc : TypeId × Value → H} {P : Program} {w : World} {base : Nat} {sp : Nat → Bool} {held : Bool} {fuel : Nat} {e ti : TypeId} {k : IntKind} {cs : List Value} {a b c : Int} {p : List MemPlace}
    (hu : structOf P e = some [(ti, 0), (ti, 1), (ti, 2)]) (hi : P.underlying ti = some (.int k)) (h1 : P.cellsOf ti = 1) (hl : cs.length = 3)
    (h : DataW.trod enc P w base sp held fuel e cs = some (.agg [.lit (.int k a), .lit (.int k b), .lit (.int k c)], p)) : cs = [.int k a, .int k b, .int k c] := by
  cases fuel with
  | zero => simp [DataW.trod] at h
  | succ fuel =>
    unfold structOf at hu
    split at hu
    · rename_i fs hfs
      simp only [DataW.trod, hfs] at h
      split at h
      · cases hm : fs.toList.mapM fun f => DataW.trod enc P w base sp held fuel f.type ((cs.drop f.offset).take (P.cellsOf f.type)) with
        | none => rw [hm] at h; cases h
        | some xs =>
          rw [hm] at h
          simp only [Option.map_some, Option.some.injEq, Prod.mk.injEq] at h hu
          obtain ⟨hx, _⟩ := h
          replace hx : xs.map (·.1) = [.lit (.int k a), .lit (.int k b), .lit (.int k c)] := by first | exact hx | (injection hx)
          have hlen : fs.toList.length = 3 := by have := congrArg List.length hu; simpa using this
          have key : ∀ (i : Nat) (z : Int), i < 3 → (xs.map (·.1))[i]? = some (.lit (.int k z)) → cs[i]? = some (.int k z) := by
            intro i z hi3 hz
            have hf : fs.toList[i]? = some (fs.toList[i]'(by omega)) := List.getElem?_eq_getElem _
            generalize fs.toList[i]'(by omega) = f at hf
            obtain ⟨y, hy, hfy⟩ := Lib.mapM_at hm i f hf
            have hto : f.type = ti ∧ f.offset = i := by
              have := congrArg (·[i]?) hu
              simp only [List.getElem?_map, hf, Option.map_some] at this
              rcases (by omega : i = 0 ∨ i = 1 ∨ i = 2) with rfl | rfl | rfl <;> simpa using this
            rw [hto.1, hto.2, h1] at hfy
            obtain ⟨z', hc, rfl, _⟩ := DataW.trod_int hi hfy
            simp only [List.getElem?_map, hy, Option.map_some, Option.some.injEq, DataW.lit.injEq, Lit.int.injEq, true_and] at hz
            subst hz
            have := congrArg (·[0]?) hc
            simpa [List.getElem?_take, List.getElem?_drop] using this
          have c0 := key 0 a (by decide) (by rw [hx]; rfl)
          have c1 := key 1 b (by decide) (by rw [hx]; rfl)
          have c2 := key 2 c (by decide) (by rw [hx]; rfl)
          obtain ⟨x, y, z, rfl⟩ : ∃ x y z, cs = [x, y, z] := by
            match cs, hl with
            | [x, y, z], _ => exact ⟨x, y, z, rfl⟩
          cases c0
          cases c1
          cases c2
          rfl
      · cases h
    · cases hu
end Go.Vc

/- The tables, the arguments as they are handed in, the walks of law13. -/
namespace Go.Proofs.YtaccokhdmhomhaaDoor
open Go Go.Vc Go.RowKit
set_option maxRecDepth 20000

theorem kind3 : structOf Tryd.prog 90 = some [(3, 0), (3, 1), (3, 2)] := by kernel_rfl
def shapeD (i : Nat) : DataW Unit := .agg [.lit (.int .i64 (manyOf i)), .lit (.int .i64 (wantOf i)), .lit (.int .i64 (kindOf i))]
theorem laid_shapes : Rows.laid_stackyard_expr_shapes (H := Unit) = .agg ((List.range 17).map shapeD) := by kernel_rfl
def rowsD (l : List (List Int)) : DataW Unit := .agg (l.map (Lib.tabData .i64))
theorem laid_ands : Rows.laid_stackyard_expr_ands (H := Unit) = rowsD [[0, 0, 0], [0, 1, 2], [0, 2, 2]] := by kernel_rfl
theorem laid_ors : Rows.laid_stackyard_expr_ors (H := Unit) = rowsD [[0, 1, 2], [1, 1, 1], [2, 1, 2]] := by kernel_rfl
theorem u65 : Tryd.prog.underlying 91 = some (.array 17 90) := by kernel_rfl
theorem u104 : Tryd.prog.underlying 112 = some (.array 3 111) := by kernel_rfl
theorem u103 : Tryd.prog.underlying 111 = some (.array 3 3) := by kernel_rfl
theorem uInt : Tryd.prog.underlying 3 = some (.int .i64) := by kernel_rfl
theorem cInt : Tryd.prog.cellsOf 3 = 1 := by kernel_rfl
theorem rows_cells {W : World} {fuel : Nat} {cs : List Value} {l : List (List Int)} {p : List MemPlace} (hl : ∀ r ∈ l, r.length = 3) (h : DataW.trod (fun _ => ()) Tryd.prog W 0 (fun _ => true) false fuel 112 cs = some (rowsD l, p)) :
    cs = l.flatMap fun r => (r ++ [0, 0, 0]).take 3 |>.map fun z => Value.int .i64 z := by
  have e : l.map (Lib.tabData (H := Unit) .i64) = l.map fun r => Lib.tabData .i64 ((r ++ [0, 0, 0]).take 3) := by
    apply List.map_congr_left
    intro r hr
    rw [List.take_append_of_le_length (by rw [hl r hr]; decide), List.take_of_length_le (by rw [hl r hr]; decide)]
  unfold rowsD at h
  rw [e] at h
  exact cells_of_arr (C := fun r => ((r ++ [0, 0, 0]).take 3).map fun z => Value.int .i64 z) (s := 3) u104 (by kernel_rfl) (by kernel_rfl) (fun z => by simp) (by decide)
    (fun fuel cs z p _ h => Lib.cells_of_tab u103 uInt cInt (by kernel_rfl) h) h
theorem tab_of {L : List (String × DataW Unit)} {W : World} (hm : ("stackyard/expr.shapes", Rows.laid_stackyard_expr_shapes) ∈ L) (h : laidMet Tryd.prog L W) : Tab W := by
  obtain ⟨ps, hl, _⟩ := h
  obtain ⟨g, t, cs, fuel, p, hg, ht, hv, hd⟩ := laid_get hl (n := "stackyard/expr.shapes") (d := Rows.laid_stackyard_expr_shapes) hm
  obtain rfl : g = 0 := Option.some.inj (hg.symm.trans (by kernel_rfl))
  obtain rfl : t = 91 := Option.some.inj (ht.symm.trans (by kernel_rfl))
  rw [laid_shapes] at hd
  have hc := cells_of_arr (C := shapeC) (s := 3) u65 (by kernel_rfl) (by kernel_rfl) (fun _ => rfl) (by decide) (fun fuel cs z p hl h => trod_three kind3 uInt cInt hl h) hd
  have hcs : cs = shapesA := by apply Array.ext'; rw [hc]; rfl
  intro k v hk
  rw [World.var?_cell hg hv, hcs, Nat.zero_add]; exact hk
theorem tab2_of {L : List (String × DataW Unit)} {W : World} (h1 : ("stackyard/expr.ands", Rows.laid_stackyard_expr_ands) ∈ L) (h2 : ("stackyard/expr.ors", Rows.laid_stackyard_expr_ors) ∈ L) (h : laidMet Tryd.prog L W) : Tab2 W := by
  obtain ⟨ps, hl, _⟩ := h
  constructor
  · obtain ⟨g, t, cs, fuel, p, hg, ht, hv, hd⟩ := laid_get hl (n := "stackyard/expr.ands") (d := Rows.laid_stackyard_expr_ands) h1
    obtain rfl : g = 1 := Option.some.inj (hg.symm.trans (by kernel_rfl))
    obtain rfl : t = 112 := Option.some.inj (ht.symm.trans (by kernel_rfl))
    rw [laid_ands] at hd
    have hc := rows_cells (by decide) hd
    have hcs : cs = tabA andI := by apply Array.ext'; rw [hc]; rfl
    intro k v hk
    rw [World.var?_cell hg hv, hcs, Nat.zero_add]; exact hk
  · obtain ⟨g, t, cs, fuel, p, hg, ht, hv, hd⟩ := laid_get hl (n := "stackyard/expr.ors") (d := Rows.laid_stackyard_expr_ors) h2
    obtain rfl : g = 2 := Option.some.inj (hg.symm.trans (by kernel_rfl))
    obtain rfl : t = 112 := Option.some.inj (ht.symm.trans (by kernel_rfl))
    rw [laid_ors] at hd
    have hc := rows_cells (by decide) hd
    have hcs : cs = tabA orJ := by apply Array.ext'; rw [hc]; rfl
    intro k v hk
    rw [World.var?_cell hg hv, hcs, Nat.zero_add]; exact hk
theorem list3 {cs : List Value} (h : cs.length = 3) : ∃ a b d, cs = [a, b, d] := by
  match cs, h with
  | [a, b, d], _ => exact ⟨a, b, d, rfl⟩
theorem arg_value {w : World} {cs : List Value} (h : Arg Tryd.prog w 26 cs) : ∃ v : Val, cs = v.cs ∧ v.fit :=
  arg_val (ti := 3) (tn := 2) (ts := 9) (by kernel_rfl) (by kernel_rfl) (by kernel_rfl) (by kernel_rfl) (by kernel_rfl) (by kernel_rfl) (by kernel_rfl) (by kernel_rfl) h
theorem arg_col {w : World} {cs : List Value} (h : Arg Tryd.prog w 55 cs) : ∃ c : Col, cs = c.cs ∧ c.name.size ≤ 140737488351232 := by
  obtain ⟨hl, hf⟩ := Arg.fields (l := [(9, 0), (3, 1), (4, 2)]) (by kernel_rfl) h
  have h3 : Tryd.prog.cellsOf 55 = 3 := by kernel_rfl
  rw [h3] at hl
  obtain ⟨a, b, d, rfl⟩ := list3 hl
  have f1 := hf (9, 0) (by simp)
  have f2 := hf (3, 1) (by simp)
  have f3 := hf (4, 2) (by simp)
  have c1 : Tryd.prog.cellsOf 9 = 1 := by kernel_rfl
  have c2 : Tryd.prog.cellsOf 3 = 1 := by kernel_rfl
  have c3 : Tryd.prog.cellsOf 4 = 1 := by kernel_rfl
  simp only [c1, c2, c3] at f1 f2 f3
  obtain ⟨s, e1, hs⟩ := Arg.string (by kernel_rfl) f1
  obtain ⟨n, e2, _⟩ := Arg.int (k := .i64) (by kernel_rfl) f2
  obtain ⟨v, e3⟩ := Arg.bool (by kernel_rfl) f3
  simp at e1 e2 e3
  subst e1 e2 e3
  exact ⟨⟨s, n, v⟩, rfl, hs⟩
theorem arg_cols {w : World} {v : Value} (h : Arg Tryd.prog w 22 [v]) : ∃ p n c cols, v = .slice p n c ∧ Cols w p n c cols ∧ ∀ x ∈ cols, x.name.size ≤ 140737488351232 := by
  obtain ⟨p, n, c, l, e, h1, h2, _⟩ := arg_ls (e := 55) (enc := Col.cs) (Q := fun x => x.name.size ≤ 140737488351232) (by kernel_rfl) (by decide +kernel) (fun x hx => arg_col hx) (fun _ => by kernel_rfl) h
  exact ⟨p, n, c, l, e, h1, h2⟩
theorem arg_row {w : World} {v : Value} (h : Arg Tryd.prog w 50 [v]) : ∃ p n c row, v = .slice p n c ∧ Vs w p n c row ∧ ∀ x ∈ row, x.fit := by
  obtain ⟨p, n, c, l, e, h1, h2, _⟩ := arg_ls (e := 26) (enc := Val.cs) (Q := Val.fit) (by kernel_rfl) (by decide +kernel) (fun x hx => arg_value hx) (fun _ => by kernel_rfl) h
  exact ⟨p, n, c, l, e, h1, h2⟩
theorem arg_expr {w : World} {cs : List Value} (h : Arg Tryd.prog w 29 cs) : ∃ x, ExAt w x cs ∧ ∀ y ∈ nodesT x, fitI y.v.n := by
  obtain ⟨f, h⟩ := h.told
  exact arg_ex (ti := 3) (ts := 9) (tv := 26) (tk := 27) (by kernel_rfl) (by kernel_rfl) (by kernel_rfl) (by kernel_rfl) (by kernel_rfl) (by kernel_rfl) (by kernel_rfl) (by kernel_rfl) (by kernel_rfl) (fun cs h => arg_value h) f cs h

theorem list_pick {α β : Type} {Q : α → β → Prop} : ∀ {hs : List α}, (∀ x ∈ hs, ∃ r, Q x r) → ∃ L : List β, L.length = hs.length ∧ ∀ (i : Nat) x r, hs[i]? = some x → L[i]? = some r → Q x r
  | [], _ => ⟨[], rfl, fun i x r h => by simp at h⟩
  | x :: hs, h => by
    obtain ⟨r, hr⟩ := h x (by simp)
    obtain ⟨L, hlen, hL⟩ := list_pick (hs := hs) fun y hy => h y (by simp [hy])
    refine ⟨r :: L, by simp [hlen], fun i y s hy hs' => ?_⟩
    cases i with
    | zero => cases hy; cases hs'; exact hr
    | succ i => exact hL i y s (by simpa using hy) (by simpa using hs')
theorem fit_val {v : Val} (h : v.fit) : fitI v.n := by
  have := h.2; unfold i64F at this; unfold fitI; omega
theorem arg_rows {w : World} {v : Value} (h : Arg Tryd.prog w 42 [v]) : ∃ p n c hs L, v = .slice p n c ∧ Rws w p n c hs L ∧ (∀ r ∈ L, FitR r) := by
  obtain ⟨p, n, c, l, rfl, hl, hf, _⟩ := arg_ls (e := 50) (enc := Sl.cs) (Q := fun x => ∃ r, Vs w x.p x.n x.c r ∧ ∀ v ∈ r, v.fit) (by kernel_rfl) (by decide +kernel)
    (fun x hx => by
      obtain ⟨p, n, c, css, he, _⟩ := Arg.slice (e := 26) (by kernel_rfl) (by decide +kernel) hx
      subst he
      obtain ⟨p', n', c', r, he, h1, h2⟩ := arg_row hx
      cases he
      exact ⟨⟨p, n, c⟩, rfl, r, h1, h2⟩) (fun a => by rw [Sl.cs_length]; kernel_rfl) h
  obtain ⟨L, hL, hq⟩ := list_pick hf
  refine ⟨p, n, c, l, L, rfl, ⟨hl, fun i x r hx hr => (hq i x r hx hr).1, by rw [hL, hl.len]⟩, fun r hr u hu => ?_⟩
  obtain ⟨i, hi⟩ := List.mem_iff_getElem?.1 hr
  have hlt := (List.getElem?_eq_some_iff.1 hi).1
  exact fit_val ((hq i _ r (List.getElem?_eq_getElem (by omega)) hi).2 u hu)
theorem arg_int1 {w : World} {cs : List Value} (h : Arg Tryd.prog w 3 cs) : ∃ i : Int, cs = encI i ∧ True := by
  obtain ⟨i, e, _⟩ := Arg.int (k := .i64) (by kernel_rfl) h
  exact ⟨i, e, trivial⟩
theorem arg_choice {w : World} {v : Value} (h : Arg Tryd.prog w 24 [v]) : ∃ p n c ch, v = .slice p n c ∧ Is w p n c ch := by
  obtain ⟨p, n, c, l, e, h1, _, _⟩ := arg_ls (e := 3) (enc := encI) (Q := fun _ => True) (by kernel_rfl) (by decide +kernel) (fun x hx => arg_int1 hx) (fun _ => by kernel_rfl) h
  exact ⟨p, n, c, l, e, h1⟩
theorem less_walk (W : World) (hT : Tab W ∧ Tab2 W) (v0 v1 v2 : Value) (cs3 : Array Value) (a0 : Arg Tryd.prog W 22 [v0]) (a1 : Arg Tryd.prog W 42 [v1]) (a2 : Arg Tryd.prog W 24 [v2]) (a3 : Arg Tryd.prog W 29 cs3.toList) :
    Calls Tryd.prog 7 #[v0, v1, v2, .agg cs3] W fun e w' => e = .returned (.bool true) ∧ Ext W w' := by
  obtain ⟨p, n, c, cols, rfl, hc, hs⟩ := arg_cols a0
  obtain ⟨bp, bn, bc, heads, L, rfl, hL, hf⟩ := arg_rows a1
  obtain ⟨cp, cn, cc, ch, rfl, hch⟩ := arg_choice a2
  obtain ⟨x, hx, hxf⟩ := arg_expr a3
  exact lawLess_ok x hT.1 hT.2 hc hL hch hx hf hxf
theorem tabs_less {W : World} (h : laidMetH Tryd.prog Rows.vectorLessRow.laid W) : Tab W ∧ Tab2 W := ⟨tab_of (L := Rows.vectorLessRow.laid) (by simp [Rows.vectorLessRow]) h, tab2_of (L := Rows.vectorLessRow.laid) (by simp [Rows.vectorLessRow]) (by simp [Rows.vectorLessRow]) h⟩
end Go.Proofs.YtaccokhdmhomhaaDoor

/- Three closed facts of the seat's program, asked once: they want much memory. -/
namespace Go.Proofs.YtaccokhdmhomhaaDoor
set_option maxRecDepth 100000 in
theorem Tryd.entersB : (Tryd.prog.mayEnter && (false == Tryd.prog.liftsFinal) && (Tryd.prog.make == some .cut)) = true := by kernel_rfl
theorem Tryd.enters : Tryd.prog.mayEnter = true ∧ Tryd.prog.liftsFinal = false ∧ Tryd.prog.make = some .cut := by
  have h := Tryd.entersB
  simp only [Bool.and_eq_true, beq_iff_eq] at h
  exact ⟨h.1.1, h.1.2.symm, h.2⟩
end Go.Proofs.YtaccokhdmhomhaaDoor
