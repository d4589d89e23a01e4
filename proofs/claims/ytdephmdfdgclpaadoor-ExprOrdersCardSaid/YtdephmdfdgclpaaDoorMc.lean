/- Texts of the proof, one behind the other. -/
import Derived.Test.YtdephmdfdgclpaaDoorMb
import Derived.Lib.AppendStr
import Derived.Deep.DeepAppendWide
import Derived.SizedLaws
import Derived.Lib.Bytealg
import Derived.MapKept
set_option linter.unusedVariables false
set_option linter.unusedSimpArgs false
/- The verification conditions of the functions, evaluated: printed by program. -/
namespace Go.Proofs.YtdephmdfdgclpaaDoor
open Go Go.Vc

set_option maxRecDepth 100000 in
def nodes_T (x0 : Int) (x1 : ByteArray) (x2 : Int) (x3 : Int) (x4 : ByteArray) (x5_p : Option Addr) (x5_n : Nat) (x5_c : Nat) (depth : Int) (w : World) (R : Ending → World → Prop) : Prop :=
  ∀ (b1 : Nat) (w'2 : World),
 New w (Obj.cells #[Value.int IntKind.i64 x0, Value.string x1, Value.int IntKind.i64 x2, Value.int IntKind.i64 x3, Value.string x4, Value.slice x5_p x5_n x5_c] 29) b1
 w'2 →
 ∀ (b4 : Nat) (w'5 : World),
 New w'2 (Obj.cells #[Value.int IntKind.i64 depth] 3) b4 w'5 →
 R (Ending.returned (Value.func (Fn.func 47) #[] #[Value.pointer (some (Addr.mk b4 0 none)), Value.pointer (some (Addr.mk b1 0 none))])) w'5

set_option maxRecDepth 100000 in
theorem nodes_eq (x0 : Int) (x1 : ByteArray) (x2 : Int) (x3 : Int) (x4 : ByteArray) (x5_p : Option Addr) (x5_n : Nat) (x5_c : Nat) (depth : Int) (w : World) (R : Ending → World → Prop) : nodes_T x0 x1 x2 x3 x4 x5_p x5_n x5_c depth w R = vcFn Tryd.prog [] [] Tryd.f31 [Value.agg
 #[Value.int IntKind.i64 x0, Value.string x1, Value.int IntKind.i64 x2, Value.int IntKind.i64 x3, Value.string x4,
 Value.slice x5_p x5_n x5_c], Value.int IntKind.i64 depth] w R := by kernel_rfl

set_option maxRecDepth 100000 in
theorem nodes_vc (x0 : Int) (x1 : ByteArray) (x2 : Int) (x3 : Int) (x4 : ByteArray) (x5_p : Option Addr) (x5_n : Nat) (x5_c : Nat) (depth : Int) (w : World) (R : Ending → World → Prop) (h : nodes_T x0 x1 x2 x3 x4 x5_p x5_n x5_c depth w R) : Calls Tryd.prog 31 #[Value.agg
 #[Value.int IntKind.i64 x0, Value.string x1, Value.int IntKind.i64 x2, Value.int IntKind.i64 x3, Value.string x4,
 Value.slice x5_p x5_n x5_c], Value.int IntKind.i64 depth] w R :=
  calls_of_vc (args := [Value.agg
 #[Value.int IntKind.i64 x0, Value.string x1, Value.int IntKind.i64 x2, Value.int IntKind.i64 x3, Value.string x4,
 Value.slice x5_p x5_n x5_c], Value.int IntKind.i64 depth]) [] [] Tryd.mixed Tryd.func31 (cast (nodes_eq _ _ _ _ _ _ _ _ _ w R) h)

set_option maxRecDepth 100000 in
def nodes1_T (l0 : Nat) (fv0 : Nat) (fv1 : Nat) (w : World) (R : Ending → World → Prop) : Prop :=
  ∀ (b1 : Nat) (w'2 : World),
 New w (Obj.cells #[Value.func (Fn.yield l0) #[] #[]] 68) b1 w'2 →
 ∃ (v4 : Value),
 w'2.cell? (Addr.mk b1 0 none) = some v4 ∧
 ∃ (n5 : Int),
 w'2.cell? (Addr.mk fv0 0 none) = some (Value.int IntKind.i64 n5) ∧
 ∃ (n6 : Int),
 w'2.cell? (Addr.mk fv1 0 none) = some (Value.int IntKind.i64 n6) ∧
 ∃ (s7 : ByteArray),
 w'2.cell? (Addr.mk fv1 1 none) = some (Value.string s7) ∧
 ∃ (n8 : Int),
 w'2.cell? (Addr.mk fv1 2 none) = some (Value.int IntKind.i64 n8) ∧
 ∃ (n9 : Int),
 w'2.cell? (Addr.mk fv1 3 none) = some (Value.int IntKind.i64 n9) ∧
 ∃ (s10 : ByteArray),
 w'2.cell? (Addr.mk fv1 4 none) = some (Value.string s10) ∧
 ∃ (p11 : Option Addr),
 ∃ (n12 : Nat),
 ∃ (c13 : Nat),
 w'2.cell? (Addr.mk fv1 5 none) = some (Value.slice p11 n12 c13) ∧
 ∃ (l14 : Nat),
 v4 = Value.func (Fn.yield l14) #[] #[] ∧
 Yield Tryd.prog l14
 #[Value.int IntKind.i64 n5,
 Value.agg #[Value.int IntKind.i64 n6, Value.string s7, Value.int IntKind.i64 n8, Value.int IntKind.i64 n9, Value.string s10, Value.slice p11 n12 c13]]
 w'2 fun (b15 : Bool) (w16 : World) ↦
 (b15 = false → R (Ending.returned (Value.tuple #[])) w16) ∧
 (b15 = true →
 ∃ (n19 : Int),
 w16.cell? (Addr.mk fv0 0 none) = some (Value.int IntKind.i64 n19) ∧
 (40 < n19 → R (Ending.returned (Value.tuple #[])) w16) ∧
 (n19 ≤ 40 →
 ∃ (p22 : Option Addr),
 ∃ (n23 : Nat),
 ∃ (c24 : Nat),
 w16.cell? (Addr.mk fv1 5 none) = some (Value.slice p22 n23 c24) ∧
 ∃ (I25 : Int → World → Prop),
 ∃ (M26 : Int → World → Nat),
 ∃ (B27 : Nat),
 I25 0 w16 ∧
 Vc.Open B27 [] w16 ∧
 ∀ (n28 : Int) (w'29 : World),
 I25 n28 w'29 →
 ∀ (ds'31 : List Nat),
 Vc.Open B27 ds'31 w'29 →
 (n28 < (↑n23 : Int) →
 ∃ (b34 : Nat),
 ∃ (o35 : Nat),
 p22 = some (Addr.mk b34 o35 none) ∧
 0 ≤ n28 ∧
 n28 < (↑n23 : Int) ∧
 ∃ (n36 : Int),
 w'29.cell? (Addr.mk b34 (o35 + n28.toNat * 6) none) = some (Value.int IntKind.i64 n36) ∧
 ∃ (s37 : ByteArray),
 w'29.cell? (Addr.mk b34 (o35 + n28.toNat * 6 + 1) none) = some (Value.string s37) ∧
 ∃ (n38 : Int),
 w'29.cell? (Addr.mk b34 (o35 + n28.toNat * 6 + 2) none) = some (Value.int IntKind.i64 n38) ∧
 ∃ (n39 : Int),
 w'29.cell? (Addr.mk b34 (o35 + n28.toNat * 6 + 3) none) = some (Value.int IntKind.i64 n39) ∧
 ∃ (s40 : ByteArray),
 w'29.cell? (Addr.mk b34 (o35 + n28.toNat * 6 + 4) none) = some (Value.string s40) ∧
 ∃ (p41 : Option Addr),
 ∃ (n42 : Nat),
 ∃ (c43 : Nat),
 w'29.cell? (Addr.mk b34 (o35 + n28.toNat * 6 + 5) none) = some (Value.slice p41 n42 c43) ∧
 ∀ (b44 : Nat) (w'45 : World),
 New w'29
 (Obj.cells
 #[Value.int IntKind.i64 0, Value.string (ByteArray.mk #[]), Value.int IntKind.i64 0, Value.int IntKind.i64 0, Value.string (ByteArray.mk #[]), Value.slice none 0 0] 29)
 b44 w'45 →
 (∃ (u47 : Value), w'45.cell? (Addr.mk b44 0 none) = some u47) ∧
 w'45.frozen? (Addr.mk b44 0 none) = false ∧
 (∃ (u48 : Value), w'45.cell? (Addr.mk b44 1 none) = some u48) ∧
 w'45.frozen? (Addr.mk b44 1 none) = false ∧
 (∃ (u49 : Value), w'45.cell? (Addr.mk b44 2 none) = some u49) ∧
 w'45.frozen? (Addr.mk b44 2 none) = false ∧
 (∃ (u50 : Value), w'45.cell? (Addr.mk b44 3 none) = some u50) ∧
 w'45.frozen? (Addr.mk b44 3 none) = false ∧
 (∃ (u51 : Value), w'45.cell? (Addr.mk b44 4 none) = some u51) ∧
 w'45.frozen? (Addr.mk b44 4 none) = false ∧
 (∃ (u52 : Value), w'45.cell? (Addr.mk b44 5 none) = some u52) ∧
 w'45.frozen? (Addr.mk b44 5 none) = false ∧
 ∀ (w'53 : World),
 Put w'45 b44 0 [Value.int IntKind.i64 n36, Value.string s37, Value.int IntKind.i64 n38, Value.int IntKind.i64 n39, Value.string s40, Value.slice p41 n42 c43] w'53 →
 ∃ (n55 : Int),
 w'53.cell? (Addr.mk b44 0 none) = some (Value.int IntKind.i64 n55) ∧
 ∃ (s56 : ByteArray),
 w'53.cell? (Addr.mk b44 1 none) = some (Value.string s56) ∧
 ∃ (n57 : Int),
 w'53.cell? (Addr.mk b44 2 none) = some (Value.int IntKind.i64 n57) ∧
 ∃ (n58 : Int),
 w'53.cell? (Addr.mk b44 3 none) = some (Value.int IntKind.i64 n58) ∧
 ∃ (s59 : ByteArray),
 w'53.cell? (Addr.mk b44 4 none) = some (Value.string s59) ∧
 ∃ (p60 : Option Addr),
 ∃ (n61 : Nat),
 ∃ (c62 : Nat),
 w'53.cell? (Addr.mk b44 5 none) = some (Value.slice p60 n61 c62) ∧
 ∃ (n63 : Int),
 w'53.cell? (Addr.mk fv0 0 none) = some (Value.int IntKind.i64 n63) ∧
 Calls Tryd.prog 31
 #[Value.agg #[Value.int IntKind.i64 n55, Value.string s56, Value.int IntKind.i64 n57, Value.int IntKind.i64 n58, Value.string s59, Value.slice p60 n61 c62],
 Value.int IntKind.i64 (IntKind.i64.wrap (n63 + 1))]
 w'53 fun (e64 : Ending) (w65 : World) ↦
 ∃ (v66 : Value),
 e64 = Ending.returned v66 ∧
 ∃ (g67 : FuncId),
 ∃ (lb68 : Array Value),
 v66 = Value.func (Fn.func g67) #[] lb68 ∧
 enterable Tryd.prog g67 = true ∧
 ∀ (r69 : Nat → Loop) (d70 l71 : Nat) (w172 : World),
 Began w65 r69 d70 l71 w172 →
 (∀ (n74 n75 : Int) (s76 : ByteArray) (n77 n78 : Int) (s79 : ByteArray) (p80 : Option Addr) (n81 c82 : Nat) (W83 : World) (R84 : Bool → World → Prop),
 Rec r69 l71 0 W83 →
 (∀ (b86 : Nat) (w'87 : World),
 New W83
 (Obj.cells
 #[Value.int IntKind.i64 0, Value.string (ByteArray.mk #[]), Value.int IntKind.i64 0, Value.int IntKind.i64 0, Value.string (ByteArray.mk #[]), Value.slice none 0 0] 29)
 b86 w'87 →
 (∃ (u89 : Value), w'87.cell? (Addr.mk b86 0 none) = some u89) ∧
 w'87.frozen? (Addr.mk b86 0 none) = false ∧
 (∃ (u90 : Value), w'87.cell? (Addr.mk b86 1 none) = some u90) ∧
 w'87.frozen? (Addr.mk b86 1 none) = false ∧
 (∃ (u91 : Value), w'87.cell? (Addr.mk b86 2 none) = some u91) ∧
 w'87.frozen? (Addr.mk b86 2 none) = false ∧
 (∃ (u92 : Value), w'87.cell? (Addr.mk b86 3 none) = some u92) ∧
 w'87.frozen? (Addr.mk b86 3 none) = false ∧
 (∃ (u93 : Value), w'87.cell? (Addr.mk b86 4 none) = some u93) ∧
 w'87.frozen? (Addr.mk b86 4 none) = false ∧
 (∃ (u94 : Value), w'87.cell? (Addr.mk b86 5 none) = some u94) ∧
 w'87.frozen? (Addr.mk b86 5 none) = false ∧
 ∀ (w'95 : World),
 Put w'87 b86 0 [Value.int IntKind.i64 n75, Value.string s76, Value.int IntKind.i64 n77, Value.int IntKind.i64 n78, Value.string s79, Value.slice p80 n81 c82] w'95 →
 Rec r69 l71 0 w'95 ∧
 ∀ (Wb97 : World),
 Wb97 = turn r69 l71 1 w'95 →
 ∃ (v99 : Value),
 Wb97.cell? (Addr.mk b1 0 none) = some v99 ∧
 ∃ (n100 : Int),
 Wb97.cell? (Addr.mk b86 0 none) = some (Value.int IntKind.i64 n100) ∧
 ∃ (s101 : ByteArray),
 Wb97.cell? (Addr.mk b86 1 none) = some (Value.string s101) ∧
 ∃ (n102 : Int),
 Wb97.cell? (Addr.mk b86 2 none) = some (Value.int IntKind.i64 n102) ∧
 ∃ (n103 : Int),
 Wb97.cell? (Addr.mk b86 3 none) = some (Value.int IntKind.i64 n103) ∧
 ∃ (s104 : ByteArray),
 Wb97.cell? (Addr.mk b86 4 none) = some (Value.string s104) ∧
 ∃ (p105 : Option Addr),
 ∃ (n106 : Nat),
 ∃ (c107 : Nat),
 Wb97.cell? (Addr.mk b86 5 none) = some (Value.slice p105 n106 c107) ∧
 ∃ (l108 : Nat),
 v99 = Value.func (Fn.yield l108) #[] #[] ∧
 Yield Tryd.prog l108
 #[Value.int IntKind.i64 n74,
 Value.agg #[Value.int IntKind.i64 n100, Value.string s101, Value.int IntKind.i64 n102, Value.int IntKind.i64 n103, Value.string s104, Value.slice p105 n106 c107]]
 Wb97 fun (b109 : Bool) (w110 : World) ↦
 (b109 = false → Rec r69 l71 1 w110 ∧ R84 false (turn r69 l71 3 w110)) ∧ (b109 = true → Rec r69 l71 1 w110 ∧ R84 true (turn r69 l71 0 w110))) →
 Yield Tryd.prog l71
 #[Value.int IntKind.i64 n74,
 Value.agg #[Value.int IntKind.i64 n75, Value.string s76, Value.int IntKind.i64 n77, Value.int IntKind.i64 n78, Value.string s79, Value.slice p80 n81 c82]]
 W83 fun (b114 : Bool) (w115 : World) ↦ R84 b114 w115) →
 Calls Tryd.prog g67 (Value.func (Fn.yield l71) #[] #[] :: lb68.1).toArray w172 fun (e117 : Ending) (w118 : World) ↦
 (∃ (v119 : Value), e117 = Ending.returned v119) ∧
 (Rec r69 l71 0 w118 ∧
 Vc.Open B27 (d70 :: ds'31) (turn r69 l71 2 w118) ∧
 I25 (IntKind.i64.wrap (n28 + 1)) (turn r69 l71 2 w118) ∧ M26 (IntKind.i64.wrap (n28 + 1)) (turn r69 l71 2 w118) < M26 n28 w'29 ∨
 (Rec r69 l71 3 w118 ∧
 (turn r69 l71 4 w118).heap[d70]? = some (Obj.deferred (some [])) ∧
 unD ds'31 ((turn r69 l71 4 w118).putObj d70 (Obj.deferred none)) fun (w122 : World) ↦ R (Ending.returned (Value.tuple #[])) w122) ∨
 False)) ∧
 ((↑n23 : Int) ≤ n28 → unD ds'31 w'29 fun (w124 : World) ↦ R (Ending.returned (Value.tuple #[])) w124)))

set_option maxRecDepth 100000 in
theorem nodes1_eq (l0 : Nat) (fv0 : Nat) (fv1 : Nat) (w : World) (R : Ending → World → Prop) : nodes1_T l0 fv0 fv1 w R = vcFn Tryd.prog [] [] Tryd.f47 [Value.func (Fn.yield l0) #[] #[], Value.pointer (some (Addr.mk fv0 0 none)), Value.pointer (some (Addr.mk fv1 0 none))] w R := by kernel_rfl

set_option maxRecDepth 100000 in
theorem nodes1_vc (l0 : Nat) (fv0 : Nat) (fv1 : Nat) (w : World) (R : Ending → World → Prop) (h : nodes1_T l0 fv0 fv1 w R) : Calls Tryd.prog 47 #[Value.func (Fn.yield l0) #[] #[], Value.pointer (some (Addr.mk fv0 0 none)), Value.pointer (some (Addr.mk fv1 0 none))] w R :=
  calls_of_vc (args := [Value.func (Fn.yield l0) #[] #[], Value.pointer (some (Addr.mk fv0 0 none)), Value.pointer (some (Addr.mk fv1 0 none))]) [] [] Tryd.mixed Tryd.func47 (cast (nodes1_eq _ _ _ w R) h)

set_option maxRecDepth 100000 in
def xformed_T (x0 : Int) (x1 : ByteArray) (x2 : Int) (x3 : Int) (x4 : ByteArray) (x5_p : Option Addr) (x5_n : Nat) (x5_c : Nat) (w : World) (R : Ending → World → Prop) : Prop :=
  ∀ (b1 : Nat) (w'2 : World),
 New w (Obj.cells #[Value.int IntKind.i64 x0, Value.string x1, Value.int IntKind.i64 x2, Value.int IntKind.i64 x3, Value.string x4, Value.slice x5_p x5_n x5_c] 29) b1
 w'2 →
 ∀ (b4 : Nat) (w'5 : World),
 New w'2 (Obj.cells #[Value.bool false] 4) b4 w'5 →
 ∀ (b7 : Nat) (w'8 : World),
 New w'5 (Obj.cells #[Value.int IntKind.i64 0] 3) b7 w'8 →
 (∃ (u10 : Value), w'8.cell? (Addr.mk b7 0 none) = some u10) ∧
 w'8.frozen? (Addr.mk b7 0 none) = false ∧
 ∀ (w'11 : World),
 Put w'8 b7 0 [Value.int IntKind.i64 0] w'11 →
 ∃ (n13 : Int),
 w'11.cell? (Addr.mk b1 0 none) = some (Value.int IntKind.i64 n13) ∧
 ∃ (s14 : ByteArray),
 w'11.cell? (Addr.mk b1 1 none) = some (Value.string s14) ∧
 ∃ (n15 : Int),
 w'11.cell? (Addr.mk b1 2 none) = some (Value.int IntKind.i64 n15) ∧
 ∃ (n16 : Int),
 w'11.cell? (Addr.mk b1 3 none) = some (Value.int IntKind.i64 n16) ∧
 ∃ (s17 : ByteArray),
 w'11.cell? (Addr.mk b1 4 none) = some (Value.string s17) ∧
 ∃ (p18 : Option Addr),
 ∃ (n19 : Nat),
 ∃ (c20 : Nat),
 w'11.cell? (Addr.mk b1 5 none) = some (Value.slice p18 n19 c20) ∧
 Calls Tryd.prog 31
 #[Value.agg #[Value.int IntKind.i64 n13, Value.string s14, Value.int IntKind.i64 n15, Value.int IntKind.i64 n16, Value.string s17, Value.slice p18 n19 c20],
 Value.int IntKind.i64 1]
 w'11 fun (e21 : Ending) (w22 : World) ↦
 ∃ (v23 : Value),
 e21 = Ending.returned v23 ∧
 ∃ (g24 : FuncId),
 ∃ (lb25 : Array Value),
 v23 = Value.func (Fn.func g24) #[] lb25 ∧
 enterable Tryd.prog g24 = true ∧
 ∀ (r26 : Nat → Loop) (d27 l28 : Nat) (w129 : World),
 Began w22 r26 d27 l28 w129 →
 (∀ (n31 n32 : Int) (s33 : ByteArray) (n34 n35 : Int) (s36 : ByteArray) (p37 : Option Addr) (n38 c39 : Nat) (W40 : World) (R41 : Bool → World → Prop),
 Rec r26 l28 0 W40 →
 (∀ (b43 : Nat) (w'44 : World),
 New W40
 (Obj.cells
 #[Value.int IntKind.i64 0, Value.string (ByteArray.mk #[]), Value.int IntKind.i64 0, Value.int IntKind.i64 0, Value.string (ByteArray.mk #[]), Value.slice none 0 0] 29)
 b43 w'44 →
 (∃ (u46 : Value), w'44.cell? (Addr.mk b43 0 none) = some u46) ∧
 w'44.frozen? (Addr.mk b43 0 none) = false ∧
 (∃ (u47 : Value), w'44.cell? (Addr.mk b43 1 none) = some u47) ∧
 w'44.frozen? (Addr.mk b43 1 none) = false ∧
 (∃ (u48 : Value), w'44.cell? (Addr.mk b43 2 none) = some u48) ∧
 w'44.frozen? (Addr.mk b43 2 none) = false ∧
 (∃ (u49 : Value), w'44.cell? (Addr.mk b43 3 none) = some u49) ∧
 w'44.frozen? (Addr.mk b43 3 none) = false ∧
 (∃ (u50 : Value), w'44.cell? (Addr.mk b43 4 none) = some u50) ∧
 w'44.frozen? (Addr.mk b43 4 none) = false ∧
 (∃ (u51 : Value), w'44.cell? (Addr.mk b43 5 none) = some u51) ∧
 w'44.frozen? (Addr.mk b43 5 none) = false ∧
 ∀ (w'52 : World),
 Put w'44 b43 0 [Value.int IntKind.i64 n32, Value.string s33, Value.int IntKind.i64 n34, Value.int IntKind.i64 n35, Value.string s36, Value.slice p37 n38 c39] w'52 →
 Rec r26 l28 0 w'52 ∧
 ∀ (Wb54 : World),
 Wb54 = turn r26 l28 1 w'52 →
 ∃ (n56 : Int),
 Wb54.cell? (Addr.mk b7 0 none) = some (Value.int IntKind.i64 n56) ∧
 (∃ (u57 : Value), Wb54.cell? (Addr.mk b7 0 none) = some u57) ∧
 Wb54.frozen? (Addr.mk b7 0 none) = false ∧
 ∀ (w'58 : World),
 Put Wb54 b7 0 [Value.int IntKind.i64 (IntKind.i64.wrap (n56 + 1))] w'58 →
 ∀ (w'60 : World),
 Drew w'58 w'60 →
 (40 < n31 →
 (∃ (u63 : Value), w'60.cell? (Addr.mk b4 0 none) = some u63) ∧
 w'60.frozen? (Addr.mk b4 0 none) = false ∧ ∀ (w'64 : World), Put w'60 b4 0 [Value.bool false] w'64 → Rec r26 l28 1 w'64 ∧ R41 false (turn r26 l28 3 w'64)) ∧
 (n31 ≤ 40 →
 ∃ (n67 : Int),
 w'60.cell? (Addr.mk b7 0 none) = some (Value.int IntKind.i64 n67) ∧
 (400 < n67 →
 (∃ (u69 : Value), w'60.cell? (Addr.mk b4 0 none) = some u69) ∧
 w'60.frozen? (Addr.mk b4 0 none) = false ∧ ∀ (w'70 : World), Put w'60 b4 0 [Value.bool false] w'70 → Rec r26 l28 1 w'70 ∧ R41 false (turn r26 l28 3 w'70)) ∧
 (n67 ≤ 400 →
 ∃ (n73 : Int),
 w'60.cell? (Addr.mk b43 0 none) = some (Value.int IntKind.i64 n73) ∧
 (n73 < 1 →
 (∃ (u75 : Value), w'60.cell? (Addr.mk b4 0 none) = some u75) ∧
 w'60.frozen? (Addr.mk b4 0 none) = false ∧ ∀ (w'76 : World), Put w'60 b4 0 [Value.bool false] w'76 → Rec r26 l28 1 w'76 ∧ R41 false (turn r26 l28 3 w'76)) ∧
 (1 ≤ n73 →
 ∃ (n79 : Int),
 w'60.cell? (Addr.mk b43 0 none) = some (Value.int IntKind.i64 n79) ∧
 (17 ≤ n79 →
 (∃ (u81 : Value), w'60.cell? (Addr.mk b4 0 none) = some u81) ∧
 w'60.frozen? (Addr.mk b4 0 none) = false ∧ ∀ (w'82 : World), Put w'60 b4 0 [Value.bool false] w'82 → Rec r26 l28 1 w'82 ∧ R41 false (turn r26 l28 3 w'82)) ∧
 (n79 < 17 →
 ∃ (p85 : Option Addr),
 ∃ (n86 : Nat),
 ∃ (c87 : Nat),
 w'60.cell? (Addr.mk b43 5 none) = some (Value.slice p85 n86 c87) ∧
 ∃ (n88 : Int),
 w'60.cell? (Addr.mk b43 0 none) = some (Value.int IntKind.i64 n88) ∧
 0 ≤ n88 ∧
 n88 < 17 ∧
 ∃ (n89 : Int),
 w'60.cell? (Addr.mk 0 (0 + n88.toNat * 3) none) = some (Value.int IntKind.i64 n89) ∧
 ((↑n86 : Int) ≠ n89 →
 (∃ (u91 : Value), w'60.cell? (Addr.mk b4 0 none) = some u91) ∧
 w'60.frozen? (Addr.mk b4 0 none) = false ∧ ∀ (w'92 : World), Put w'60 b4 0 [Value.bool false] w'92 → Rec r26 l28 1 w'92 ∧ R41 false (turn r26 l28 3 w'92)) ∧
 ((↑n86 : Int) = n89 →
 ∃ (n95 : Int),
 w'60.cell? (Addr.mk b43 0 none) = some (Value.int IntKind.i64 n95) ∧
 (n95 ≠ 1 →
 ∃ (s97 : ByteArray),
 w'60.cell? (Addr.mk b43 1 none) = some (Value.string s97) ∧
 (s97 ≠ ByteArray.mk #[] →
 (∃ (u99 : Value), w'60.cell? (Addr.mk b4 0 none) = some u99) ∧
 w'60.frozen? (Addr.mk b4 0 none) = false ∧ ∀ (w'100 : World), Put w'60 b4 0 [Value.bool false] w'100 → Rec r26 l28 1 w'100 ∧ R41 false (turn r26 l28 3 w'100)) ∧
 (s97 = ByteArray.mk #[] →
 ∃ (n103 : Int),
 w'60.cell? (Addr.mk b43 0 none) = some (Value.int IntKind.i64 n103) ∧
 (n103 ≠ 2 →
 ∃ (n105 : Int),
 w'60.cell? (Addr.mk b43 2 none) = some (Value.int IntKind.i64 n105) ∧
 ∃ (n106 : Int),
 w'60.cell? (Addr.mk b43 3 none) = some (Value.int IntKind.i64 n106) ∧
 ∃ (s107 : ByteArray),
 w'60.cell? (Addr.mk b43 4 none) = some (Value.string s107) ∧
 (n105 ≠ 0 ∨ n106 ≠ 0 ∨ s107 ≠ ByteArray.mk #[] →
 (∃ (u109 : Value), w'60.cell? (Addr.mk b4 0 none) = some u109) ∧
 w'60.frozen? (Addr.mk b4 0 none) = false ∧ ∀ (w'110 : World), Put w'60 b4 0 [Value.bool false] w'110 → Rec r26 l28 1 w'110 ∧ R41 false (turn r26 l28 3 w'110)) ∧
 (n105 = 0 ∧ n106 = 0 ∧ s107 = ByteArray.mk #[] →
 ∃ (n113 : Int),
 w'60.cell? (Addr.mk b43 2 none) = some (Value.int IntKind.i64 n113) ∧
 ∃ (n114 : Int),
 w'60.cell? (Addr.mk b43 3 none) = some (Value.int IntKind.i64 n114) ∧
 ∃ (s115 : ByteArray),
 w'60.cell? (Addr.mk b43 4 none) = some (Value.string s115) ∧
 Calls Tryd.prog 43 #[Value.agg #[Value.int IntKind.i64 n113, Value.int IntKind.i64 n114, Value.string s115]] w'60 fun (e116 : Ending) (w117 : World) ↦
 ∃ (b118 : Bool),
 e116 = Ending.returned (Value.bool b118) ∧
 (b118 = false →
 (∃ (u120 : Value), w117.cell? (Addr.mk b4 0 none) = some u120) ∧
 w117.frozen? (Addr.mk b4 0 none) = false ∧ ∀ (w'121 : World), Put w117 b4 0 [Value.bool false] w'121 → Rec r26 l28 1 w'121 ∧ R41 false (turn r26 l28 3 w'121)) ∧
 (b118 = true → Rec r26 l28 1 w117 ∧ R41 true (turn r26 l28 0 w117)))) ∧
 (n103 = 2 →
 ∃ (n125 : Int),
 w'60.cell? (Addr.mk b43 2 none) = some (Value.int IntKind.i64 n125) ∧
 ∃ (n126 : Int),
 w'60.cell? (Addr.mk b43 3 none) = some (Value.int IntKind.i64 n126) ∧
 ∃ (s127 : ByteArray),
 w'60.cell? (Addr.mk b43 4 none) = some (Value.string s127) ∧
 Calls Tryd.prog 43 #[Value.agg #[Value.int IntKind.i64 n125, Value.int IntKind.i64 n126, Value.string s127]] w'60 fun (e128 : Ending) (w129 : World) ↦
 ∃ (b130 : Bool),
 e128 = Ending.returned (Value.bool b130) ∧
 (b130 = false →
 (∃ (u132 : Value), w129.cell? (Addr.mk b4 0 none) = some u132) ∧
 w129.frozen? (Addr.mk b4 0 none) = false ∧ ∀ (w'133 : World), Put w129 b4 0 [Value.bool false] w'133 → Rec r26 l28 1 w'133 ∧ R41 false (turn r26 l28 3 w'133)) ∧
 (b130 = true → Rec r26 l28 1 w129 ∧ R41 true (turn r26 l28 0 w129))))) ∧
 (n95 = 1 →
 ∃ (n137 : Int),
 w'60.cell? (Addr.mk b43 0 none) = some (Value.int IntKind.i64 n137) ∧
 (n137 ≠ 2 →
 ∃ (n139 : Int),
 w'60.cell? (Addr.mk b43 2 none) = some (Value.int IntKind.i64 n139) ∧
 ∃ (n140 : Int),
 w'60.cell? (Addr.mk b43 3 none) = some (Value.int IntKind.i64 n140) ∧
 ∃ (s141 : ByteArray),
 w'60.cell? (Addr.mk b43 4 none) = some (Value.string s141) ∧
 (n139 ≠ 0 ∨ n140 ≠ 0 ∨ s141 ≠ ByteArray.mk #[] →
 (∃ (u143 : Value), w'60.cell? (Addr.mk b4 0 none) = some u143) ∧
 w'60.frozen? (Addr.mk b4 0 none) = false ∧ ∀ (w'144 : World), Put w'60 b4 0 [Value.bool false] w'144 → Rec r26 l28 1 w'144 ∧ R41 false (turn r26 l28 3 w'144)) ∧
 (n139 = 0 ∧ n140 = 0 ∧ s141 = ByteArray.mk #[] →
 ∃ (n147 : Int),
 w'60.cell? (Addr.mk b43 2 none) = some (Value.int IntKind.i64 n147) ∧
 ∃ (n148 : Int),
 w'60.cell? (Addr.mk b43 3 none) = some (Value.int IntKind.i64 n148) ∧
 ∃ (s149 : ByteArray),
 w'60.cell? (Addr.mk b43 4 none) = some (Value.string s149) ∧
 Calls Tryd.prog 43 #[Value.agg #[Value.int IntKind.i64 n147, Value.int IntKind.i64 n148, Value.string s149]] w'60 fun (e150 : Ending) (w151 : World) ↦
 ∃ (b152 : Bool),
 e150 = Ending.returned (Value.bool b152) ∧
 (b152 = false →
 (∃ (u154 : Value), w151.cell? (Addr.mk b4 0 none) = some u154) ∧
 w151.frozen? (Addr.mk b4 0 none) = false ∧ ∀ (w'155 : World), Put w151 b4 0 [Value.bool false] w'155 → Rec r26 l28 1 w'155 ∧ R41 false (turn r26 l28 3 w'155)) ∧
 (b152 = true → Rec r26 l28 1 w151 ∧ R41 true (turn r26 l28 0 w151)))) ∧
 (n137 = 2 →
 ∃ (n159 : Int),
 w'60.cell? (Addr.mk b43 2 none) = some (Value.int IntKind.i64 n159) ∧
 ∃ (n160 : Int),
 w'60.cell? (Addr.mk b43 3 none) = some (Value.int IntKind.i64 n160) ∧
 ∃ (s161 : ByteArray),
 w'60.cell? (Addr.mk b43 4 none) = some (Value.string s161) ∧
 Calls Tryd.prog 43 #[Value.agg #[Value.int IntKind.i64 n159, Value.int IntKind.i64 n160, Value.string s161]] w'60 fun (e162 : Ending) (w163 : World) ↦
 ∃ (b164 : Bool),
 e162 = Ending.returned (Value.bool b164) ∧
 (b164 = false →
 (∃ (u166 : Value), w163.cell? (Addr.mk b4 0 none) = some u166) ∧
 w163.frozen? (Addr.mk b4 0 none) = false ∧ ∀ (w'167 : World), Put w163 b4 0 [Value.bool false] w'167 → Rec r26 l28 1 w'167 ∧ R41 false (turn r26 l28 3 w'167)) ∧
 (b164 = true → Rec r26 l28 1 w163 ∧ R41 true (turn r26 l28 0 w163)))))))))) →
 Yield Tryd.prog l28
 #[Value.int IntKind.i64 n31,
 Value.agg #[Value.int IntKind.i64 n32, Value.string s33, Value.int IntKind.i64 n34, Value.int IntKind.i64 n35, Value.string s36, Value.slice p37 n38 c39]]
 W40 fun (b171 : Bool) (w172 : World) ↦ R41 b171 w172) →
 Calls Tryd.prog g24 (Value.func (Fn.yield l28) #[] #[] :: lb25.1).toArray w129 fun (e174 : Ending) (w175 : World) ↦
 (∃ (v176 : Value), e174 = Ending.returned v176) ∧
 ((Rec r26 l28 0 w175 ∧
 (∃ (u177 : Value), (turn r26 l28 2 w175).cell? (Addr.mk b4 0 none) = some u177) ∧
 (turn r26 l28 2 w175).frozen? (Addr.mk b4 0 none) = false ∧
 ∀ (w'178 : World),
 Put (turn r26 l28 2 w175) b4 0 [Value.bool true] w'178 →
 w'178.heap[d27]? = some (Obj.deferred (some [])) ∧
 ∃ (b182 : Bool),
 (w'178.putObj d27 (Obj.deferred none)).cell? (Addr.mk b4 0 none) = some (Value.bool b182) ∧
 R (Ending.returned (Value.bool b182)) (w'178.putObj d27 (Obj.deferred none))) ∨
 (Rec r26 l28 3 w175 ∧
 (turn r26 l28 4 w175).heap[d27]? = some (Obj.deferred (some [])) ∧
 ∃ (b185 : Bool),
 ((turn r26 l28 4 w175).putObj d27 (Obj.deferred none)).cell? (Addr.mk b4 0 none) = some (Value.bool b185) ∧
 R (Ending.returned (Value.bool b185)) ((turn r26 l28 4 w175).putObj d27 (Obj.deferred none))) ∨
 False)

set_option maxRecDepth 100000 in
theorem xformed_eq (x0 : Int) (x1 : ByteArray) (x2 : Int) (x3 : Int) (x4 : ByteArray) (x5_p : Option Addr) (x5_n : Nat) (x5_c : Nat) (w : World) (R : Ending → World → Prop) : xformed_T x0 x1 x2 x3 x4 x5_p x5_n x5_c w R = vcFn Tryd.prog [] [(6, [2, 4, 6, 8, 10, 12, 14, 16, 18, 20, 22, 24, 26, 28, 30, 32, 34, 36, 38, 40, 42, 44, 46, 48, 50, 52, 54, 0])] Tryd.f27 [Value.agg
 #[Value.int IntKind.i64 x0, Value.string x1, Value.int IntKind.i64 x2, Value.int IntKind.i64 x3, Value.string x4,
 Value.slice x5_p x5_n x5_c]] w R := by kernel_rfl

set_option maxRecDepth 100000 in
theorem xformed_vc (x0 : Int) (x1 : ByteArray) (x2 : Int) (x3 : Int) (x4 : ByteArray) (x5_p : Option Addr) (x5_n : Nat) (x5_c : Nat) (w : World) (R : Ending → World → Prop) (h : xformed_T x0 x1 x2 x3 x4 x5_p x5_n x5_c w R) : Calls Tryd.prog 27 #[Value.agg
 #[Value.int IntKind.i64 x0, Value.string x1, Value.int IntKind.i64 x2, Value.int IntKind.i64 x3, Value.string x4,
 Value.slice x5_p x5_n x5_c]] w R :=
  calls_of_vc (args := [Value.agg
 #[Value.int IntKind.i64 x0, Value.string x1, Value.int IntKind.i64 x2, Value.int IntKind.i64 x3, Value.string x4,
 Value.slice x5_p x5_n x5_c]]) [] [(6, [2, 4, 6, 8, 10, 12, 14, 16, 18, 20, 22, 24, 26, 28, 30, 32, 34, 36, 38, 40, 42, 44, 46, 48, 50, 52, 54, 0])] Tryd.mixed Tryd.func27 (cast (xformed_eq _ _ _ _ _ _ _ _ w R) h)

set_option maxRecDepth 100000 in
def alike_T (a : Int) (b : Int) (w : World) (R : Ending → World → Prop) : Prop :=
  R (Ending.returned (Value.bool (decide (a = b) || decide (a = 0) || decide (b = 0)))) w

set_option maxRecDepth 100000 in
theorem alike_eq (a : Int) (b : Int) (w : World) (R : Ending → World → Prop) : alike_T a b w R = vcFn Tryd.prog [] [] Tryd.f44 [Value.int IntKind.i64 a, Value.int IntKind.i64 b] w R := by kernel_rfl

set_option maxRecDepth 100000 in
theorem alike_vc (a : Int) (b : Int) (w : World) (R : Ending → World → Prop) (h : alike_T a b w R) : Calls Tryd.prog 44 #[Value.int IntKind.i64 a, Value.int IntKind.i64 b] w R :=
  calls_of_vc (args := [Value.int IntKind.i64 a, Value.int IntKind.i64 b]) [] [] Tryd.mixed Tryd.func44 (cast (alike_eq _ _ w R) h)

set_option maxRecDepth 100000 in
def xkind_T (cols_p : Option Addr) (cols_n : Nat) (cols_c : Nat) (x0 : Int) (x1 : ByteArray) (x2 : Int) (x3 : Int) (x4 : ByteArray) (x5_p : Option Addr) (x5_n : Nat) (x5_c : Nat) (w : World) (R : Ending → World → Prop) : Prop :=
  ∀ (b1 : Nat) (w'2 : World),
 New w (Obj.cells #[Value.int IntKind.i64 x0, Value.string x1, Value.int IntKind.i64 x2, Value.int IntKind.i64 x3, Value.string x4, Value.slice x5_p x5_n x5_c] 29) b1
 w'2 →
 ∃ (n4 : Int),
 w'2.cell? (Addr.mk b1 0 none) = some (Value.int IntKind.i64 n4) ∧
 0 ≤ n4 ∧
 n4 < 17 ∧
 ∃ (n5 : Int),
 w'2.cell? (Addr.mk 0 (0 + n4.toNat * 3) none) = some (Value.int IntKind.i64 n5) ∧
 ∃ (n6 : Int),
 w'2.cell? (Addr.mk 0 (0 + n4.toNat * 3 + 1) none) = some (Value.int IntKind.i64 n6) ∧
 ∃ (n7 : Int),
 w'2.cell? (Addr.mk 0 (0 + n4.toNat * 3 + 2) none) = some (Value.int IntKind.i64 n7) ∧
 ∀ (b8 : Nat) (w'9 : World),
 New w'2 (Obj.cells #[Value.int IntKind.i64 0, Value.int IntKind.i64 0, Value.int IntKind.i64 0] 64) b8 w'9 →
 (∃ (u11 : Value), w'9.cell? (Addr.mk b8 0 none) = some u11) ∧
 w'9.frozen? (Addr.mk b8 0 none) = false ∧
 (∃ (u12 : Value), w'9.cell? (Addr.mk b8 1 none) = some u12) ∧
 w'9.frozen? (Addr.mk b8 1 none) = false ∧
 (∃ (u13 : Value), w'9.cell? (Addr.mk b8 2 none) = some u13) ∧
 w'9.frozen? (Addr.mk b8 2 none) = false ∧
 ∀ (w'14 : World),
 Put w'9 b8 0 [Value.int IntKind.i64 n5, Value.int IntKind.i64 n6, Value.int IntKind.i64 n7] w'14 →
 ∀ (b16 : Nat) (w'17 : World),
 New w'14 (Obj.cells #[Value.int IntKind.i64 0, Value.int IntKind.i64 0] 66) b16 w'17 →
 ∃ (p19 : Option Addr),
 ∃ (n20 : Nat),
 ∃ (c21 : Nat),
 w'17.cell? (Addr.mk b1 5 none) = some (Value.slice p19 n20 c21) ∧
 ∃ (I22 : Int → World → Prop),
 ∃ (M23 : Int → World → Nat),
 I22 0 w'17 ∧
 ∀ (n24 : Int) (w'25 : World),
 I22 n24 w'25 →
 (n24 < (↑n20 : Int) →
 ∃ (b28 : Nat),
 ∃ (o29 : Nat),
 p19 = some (Addr.mk b28 o29 none) ∧
 0 ≤ n24 ∧
 n24 < (↑n20 : Int) ∧
 ∃ (n30 : Int),
 w'25.cell? (Addr.mk b28 (o29 + n24.toNat * 6) none) = some (Value.int IntKind.i64 n30) ∧
 ∃ (s31 : ByteArray),
 w'25.cell? (Addr.mk b28 (o29 + n24.toNat * 6 + 1) none) = some (Value.string s31) ∧
 ∃ (n32 : Int),
 w'25.cell? (Addr.mk b28 (o29 + n24.toNat * 6 + 2) none) = some (Value.int IntKind.i64 n32) ∧
 ∃ (n33 : Int),
 w'25.cell? (Addr.mk b28 (o29 + n24.toNat * 6 + 3) none) = some (Value.int IntKind.i64 n33) ∧
 ∃ (s34 : ByteArray),
 w'25.cell? (Addr.mk b28 (o29 + n24.toNat * 6 + 4) none) = some (Value.string s34) ∧
 ∃ (p35 : Option Addr),
 ∃ (n36 : Nat),
 ∃ (c37 : Nat),
 w'25.cell? (Addr.mk b28 (o29 + n24.toNat * 6 + 5) none) = some (Value.slice p35 n36 c37) ∧
 ∀ (b38 : Nat) (w'39 : World),
 New w'25
 (Obj.cells
 #[Value.int IntKind.i64 0, Value.string (ByteArray.mk #[]), Value.int IntKind.i64 0, Value.int IntKind.i64 0, Value.string (ByteArray.mk #[]), Value.slice none 0 0] 29)
 b38 w'39 →
 (∃ (u41 : Value), w'39.cell? (Addr.mk b38 0 none) = some u41) ∧
 w'39.frozen? (Addr.mk b38 0 none) = false ∧
 (∃ (u42 : Value), w'39.cell? (Addr.mk b38 1 none) = some u42) ∧
 w'39.frozen? (Addr.mk b38 1 none) = false ∧
 (∃ (u43 : Value), w'39.cell? (Addr.mk b38 2 none) = some u43) ∧
 w'39.frozen? (Addr.mk b38 2 none) = false ∧
 (∃ (u44 : Value), w'39.cell? (Addr.mk b38 3 none) = some u44) ∧
 w'39.frozen? (Addr.mk b38 3 none) = false ∧
 (∃ (u45 : Value), w'39.cell? (Addr.mk b38 4 none) = some u45) ∧
 w'39.frozen? (Addr.mk b38 4 none) = false ∧
 (∃ (u46 : Value), w'39.cell? (Addr.mk b38 5 none) = some u46) ∧
 w'39.frozen? (Addr.mk b38 5 none) = false ∧
 ∀ (w'47 : World),
 Put w'39 b38 0 [Value.int IntKind.i64 n30, Value.string s31, Value.int IntKind.i64 n32, Value.int IntKind.i64 n33, Value.string s34, Value.slice p35 n36 c37] w'47 →
 ∃ (n49 : Int),
 w'47.cell? (Addr.mk b38 0 none) = some (Value.int IntKind.i64 n49) ∧
 ∃ (s50 : ByteArray),
 w'47.cell? (Addr.mk b38 1 none) = some (Value.string s50) ∧
 ∃ (n51 : Int),
 w'47.cell? (Addr.mk b38 2 none) = some (Value.int IntKind.i64 n51) ∧
 ∃ (n52 : Int),
 w'47.cell? (Addr.mk b38 3 none) = some (Value.int IntKind.i64 n52) ∧
 ∃ (s53 : ByteArray),
 w'47.cell? (Addr.mk b38 4 none) = some (Value.string s53) ∧
 ∃ (p54 : Option Addr),
 ∃ (n55 : Nat),
 ∃ (c56 : Nat),
 w'47.cell? (Addr.mk b38 5 none) = some (Value.slice p54 n55 c56) ∧
 Calls Tryd.prog 28
 #[Value.slice cols_p cols_n cols_c,
 Value.agg #[Value.int IntKind.i64 n49, Value.string s50, Value.int IntKind.i64 n51, Value.int IntKind.i64 n52, Value.string s53, Value.slice p54 n55 c56]]
 w'47 fun (e57 : Ending) (w58 : World) ↦
 ∃ (n59 : Int),
 ∃ (n60 : Int),
 e57 = Ending.returned (Value.tuple #[Value.int IntKind.i64 n59, Value.int IntKind.i64 n60]) ∧
 (n60 ≠ 0 → R (Ending.returned (Value.tuple #[Value.int IntKind.i64 0, Value.int IntKind.i64 n60])) w58) ∧
 (n60 = 0 →
 0 ≤ n24 ∧
 n24 < 2 ∧
 (∃ (u63 : Value), w58.cell? (Addr.mk b16 (0 + n24.toNat) none) = some u63) ∧
 w58.frozen? (Addr.mk b16 (0 + n24.toNat) none) = false ∧
 ∀ (w'64 : World),
 Put w58 b16 (0 + n24.toNat) [Value.int IntKind.i64 n59] w'64 → I22 (IntKind.i64.wrap (n24 + 1)) w'64 ∧ M23 (IntKind.i64.wrap (n24 + 1)) w'64 < M23 n24 w'25)) ∧
 ((↑n20 : Int) ≤ n24 →
 ∃ (p67 : Option Addr),
 ∃ (n68 : Nat),
 ∃ (c69 : Nat),
 w'25.cell? (Addr.mk b1 5 none) = some (Value.slice p67 n68 c69) ∧
 ∃ (I70 : Int → World → Prop),
 ∃ (M71 : Int → World → Nat),
 I70 0 w'25 ∧
 ∀ (n72 : Int) (w'73 : World),
 I70 n72 w'73 →
 (n72 < (↑n68 : Int) →
 ∀ (w'76 : World),
 Drew w'73 w'76 →
 ∃ (n78 : Int),
 w'76.cell? (Addr.mk b8 1 none) = some (Value.int IntKind.i64 n78) ∧
 (n78 ≠ 0 →
 0 ≤ n72 ∧
 n72 < 2 ∧
 ∃ (n80 : Int),
 w'76.cell? (Addr.mk b16 (0 + n72.toNat) none) = some (Value.int IntKind.i64 n80) ∧
 ∃ (n81 : Int),
 w'76.cell? (Addr.mk b8 1 none) = some (Value.int IntKind.i64 n81) ∧
 Calls Tryd.prog 44 #[Value.int IntKind.i64 n80, Value.int IntKind.i64 n81] w'76 fun (e82 : Ending) (w83 : World) ↦
 ∃ (b84 : Bool),
 e82 = Ending.returned (Value.bool b84) ∧
 (b84 = false → R (Ending.returned (Value.tuple #[Value.int IntKind.i64 0, Value.int IntKind.i64 121])) w83) ∧
 (b84 = true → I70 (IntKind.i64.wrap (n72 + 1)) w83 ∧ M71 (IntKind.i64.wrap (n72 + 1)) w83 < M71 n72 w'73)) ∧
 (n78 = 0 → I70 (IntKind.i64.wrap (n72 + 1)) w'76 ∧ M71 (IntKind.i64.wrap (n72 + 1)) w'76 < M71 n72 w'73)) ∧
 ((↑n68 : Int) ≤ n72 →
 ∃ (n89 : Int),
 w'73.cell? (Addr.mk b1 0 none) = some (Value.int IntKind.i64 n89) ∧
 (n89 = 1 →
 ∃ (s91 : ByteArray),
 w'73.cell? (Addr.mk b1 1 none) = some (Value.string s91) ∧
 Calls Tryd.prog 45 #[Value.slice cols_p cols_n cols_c, Value.string s91] w'73 fun (e92 : Ending) (w93 : World) ↦
 ∃ (n94 : Int),
 e92 = Ending.returned (Value.int IntKind.i64 n94) ∧
 (n94 < 0 → R (Ending.returned (Value.tuple #[Value.int IntKind.i64 0, Value.int IntKind.i64 120])) w93) ∧
 (0 ≤ n94 →
 ∃ (b97 : Nat),
 ∃ (o98 : Nat),
 cols_p = some (Addr.mk b97 o98 none) ∧
 0 ≤ n94 ∧
 n94 < (↑cols_n : Int) ∧
 ∃ (n99 : Int),
 w93.cell? (Addr.mk b97 (o98 + n94.toNat * 3 + 1) none) = some (Value.int IntKind.i64 n99) ∧
 R (Ending.returned (Value.tuple #[Value.int IntKind.i64 n99, Value.int IntKind.i64 0])) w93)) ∧
 (n89 ≠ 1 →
 (n89 = 2 →
 ∃ (n102 : Int),
 w'73.cell? (Addr.mk b1 2 none) = some (Value.int IntKind.i64 n102) ∧ R (Ending.returned (Value.tuple #[Value.int IntKind.i64 n102, Value.int IntKind.i64 0])) w'73) ∧
 (n89 ≠ 2 →
 (n89 = 9 →
 (n89 = 9 →
 (0 : Int) ≤ 0 ∧
 (0 : Int) < 2 ∧
 ∃ (n106 : Int),
 w'73.cell? (Addr.mk b16 0 none) = some (Value.int IntKind.i64 n106) ∧
 (0 : Int) ≤ 1 ∧
 (1 : Int) < 2 ∧
 ∃ (n107 : Int),
 w'73.cell? (Addr.mk b16 1 none) = some (Value.int IntKind.i64 n107) ∧
 Calls Tryd.prog 44 #[Value.int IntKind.i64 n106, Value.int IntKind.i64 n107] w'73 fun (e108 : Ending) (w109 : World) ↦
 ∃ (b110 : Bool),
 e108 = Ending.returned (Value.bool b110) ∧
 (b110 = false → R (Ending.returned (Value.tuple #[Value.int IntKind.i64 0, Value.int IntKind.i64 121])) w109) ∧
 (b110 = true →
 ∃ (n113 : Int),
 w109.cell? (Addr.mk b8 2 none) = some (Value.int IntKind.i64 n113) ∧ R (Ending.returned (Value.tuple #[Value.int IntKind.i64 n113, Value.int IntKind.i64 0])) w109)) ∧
 (n89 ≠ 9 →
 ∃ (n115 : Int),
 w'73.cell? (Addr.mk b8 2 none) = some (Value.int IntKind.i64 n115) ∧ R (Ending.returned (Value.tuple #[Value.int IntKind.i64 n115, Value.int IntKind.i64 0])) w'73)) ∧
 (n89 ≠ 9 →
 (n89 = 10 →
 (n89 = 10 →
 (0 : Int) ≤ 0 ∧
 (0 : Int) < 2 ∧
 ∃ (n119 : Int),
 w'73.cell? (Addr.mk b16 0 none) = some (Value.int IntKind.i64 n119) ∧
 (0 : Int) ≤ 1 ∧
 (1 : Int) < 2 ∧
 ∃ (n120 : Int),
 w'73.cell? (Addr.mk b16 1 none) = some (Value.int IntKind.i64 n120) ∧
 Calls Tryd.prog 44 #[Value.int IntKind.i64 n119, Value.int IntKind.i64 n120] w'73 fun (e121 : Ending) (w122 : World) ↦
 ∃ (b123 : Bool),
 e121 = Ending.returned (Value.bool b123) ∧
 (b123 = false → R (Ending.returned (Value.tuple #[Value.int IntKind.i64 0, Value.int IntKind.i64 121])) w122) ∧
 (b123 = true →
 ∃ (n126 : Int),
 w122.cell? (Addr.mk b8 2 none) = some (Value.int IntKind.i64 n126) ∧ R (Ending.returned (Value.tuple #[Value.int IntKind.i64 n126, Value.int IntKind.i64 0])) w122)) ∧
 (n89 ≠ 10 →
 ∃ (n128 : Int),
 w'73.cell? (Addr.mk b8 2 none) = some (Value.int IntKind.i64 n128) ∧ R (Ending.returned (Value.tuple #[Value.int IntKind.i64 n128, Value.int IntKind.i64 0])) w'73)) ∧
 (n89 ≠ 10 →
 (n89 = 11 →
 (0 : Int) ≤ 0 ∧
 (0 : Int) < 2 ∧
 ∃ (n131 : Int),
 w'73.cell? (Addr.mk b16 0 none) = some (Value.int IntKind.i64 n131) ∧
 (0 : Int) ≤ 1 ∧
 (1 : Int) < 2 ∧
 ∃ (n132 : Int),
 w'73.cell? (Addr.mk b16 1 none) = some (Value.int IntKind.i64 n132) ∧
 Calls Tryd.prog 44 #[Value.int IntKind.i64 n131, Value.int IntKind.i64 n132] w'73 fun (e133 : Ending) (w134 : World) ↦
 ∃ (b135 : Bool),
 e133 = Ending.returned (Value.bool b135) ∧
 (b135 = false → R (Ending.returned (Value.tuple #[Value.int IntKind.i64 0, Value.int IntKind.i64 121])) w134) ∧
 (b135 = true →
 ∃ (n138 : Int),
 w134.cell? (Addr.mk b8 2 none) = some (Value.int IntKind.i64 n138) ∧ R (Ending.returned (Value.tuple #[Value.int IntKind.i64 n138, Value.int IntKind.i64 0])) w134)) ∧
 (n89 ≠ 11 →
 ∃ (n140 : Int),
 w'73.cell? (Addr.mk b8 2 none) = some (Value.int IntKind.i64 n140) ∧ R (Ending.returned (Value.tuple #[Value.int IntKind.i64 n140, Value.int IntKind.i64 0])) w'73)))))))

set_option maxRecDepth 100000 in
theorem xkind_eq (cols_p : Option Addr) (cols_n : Nat) (cols_c : Nat) (x0 : Int) (x1 : ByteArray) (x2 : Int) (x3 : Int) (x4 : ByteArray) (x5_p : Option Addr) (x5_n : Nat) (x5_c : Nat) (w : World) (R : Ending → World → Prop) : xkind_T cols_p cols_n cols_c x0 x1 x2 x3 x4 x5_p x5_n x5_c w R = vcFn Tryd.prog [] [(14, [2, 4, 6, 8, 10, 12, 14, 16, 18, 20, 22, 24, 0])] Tryd.f28 [Value.slice cols_p cols_n cols_c, Value.agg
 #[Value.int IntKind.i64 x0, Value.string x1, Value.int IntKind.i64 x2, Value.int IntKind.i64 x3, Value.string x4,
 Value.slice x5_p x5_n x5_c]] w R := by kernel_rfl

set_option maxRecDepth 100000 in
theorem xkind_vc (cols_p : Option Addr) (cols_n : Nat) (cols_c : Nat) (x0 : Int) (x1 : ByteArray) (x2 : Int) (x3 : Int) (x4 : ByteArray) (x5_p : Option Addr) (x5_n : Nat) (x5_c : Nat) (w : World) (R : Ending → World → Prop) (h : xkind_T cols_p cols_n cols_c x0 x1 x2 x3 x4 x5_p x5_n x5_c w R) : Calls Tryd.prog 28 #[Value.slice cols_p cols_n cols_c, Value.agg
 #[Value.int IntKind.i64 x0, Value.string x1, Value.int IntKind.i64 x2, Value.int IntKind.i64 x3, Value.string x4,
 Value.slice x5_p x5_n x5_c]] w R :=
  calls_of_vc (args := [Value.slice cols_p cols_n cols_c, Value.agg
 #[Value.int IntKind.i64 x0, Value.string x1, Value.int IntKind.i64 x2, Value.int IntKind.i64 x3, Value.string x4,
 Value.slice x5_p x5_n x5_c]]) [] [(14, [2, 4, 6, 8, 10, 12, 14, 16, 18, 20, 22, 24, 0])] Tryd.mixed Tryd.func28 (cast (xkind_eq _ _ _ _ _ _ _ _ _ _ _ w R) h)

set_option maxRecDepth 100000 in
def xtype_T (cols_p : Option Addr) (cols_n : Nat) (cols_c : Nat) (x0 : Int) (x1 : ByteArray) (x2 : Int) (x3 : Int) (x4 : ByteArray) (x5_p : Option Addr) (x5_n : Nat) (x5_c : Nat) (w : World) (R : Ending → World → Prop) : Prop :=
  ∀ (b1 : Nat) (w'2 : World),
 New w (Obj.cells #[Value.int IntKind.i64 x0, Value.string x1, Value.int IntKind.i64 x2, Value.int IntKind.i64 x3, Value.string x4, Value.slice x5_p x5_n x5_c] 29) b1
 w'2 →
 Calls Tryd.prog 26 #[Value.slice cols_p cols_n cols_c] w'2 fun (e4 : Ending) (w5 : World) ↦
 ∃ (b6 : Bool),
 e4 = Ending.returned (Value.bool b6) ∧
 (b6 = false → R (Ending.returned (Value.tuple #[Value.int IntKind.i64 0, Value.int IntKind.i64 50])) w5) ∧
 (b6 = true →
 ∃ (n9 : Int),
 w5.cell? (Addr.mk b1 0 none) = some (Value.int IntKind.i64 n9) ∧
 ∃ (s10 : ByteArray),
 w5.cell? (Addr.mk b1 1 none) = some (Value.string s10) ∧
 ∃ (n11 : Int),
 w5.cell? (Addr.mk b1 2 none) = some (Value.int IntKind.i64 n11) ∧
 ∃ (n12 : Int),
 w5.cell? (Addr.mk b1 3 none) = some (Value.int IntKind.i64 n12) ∧
 ∃ (s13 : ByteArray),
 w5.cell? (Addr.mk b1 4 none) = some (Value.string s13) ∧
 ∃ (p14 : Option Addr),
 ∃ (n15 : Nat),
 ∃ (c16 : Nat),
 w5.cell? (Addr.mk b1 5 none) = some (Value.slice p14 n15 c16) ∧
 Calls Tryd.prog 27
 #[Value.agg #[Value.int IntKind.i64 n9, Value.string s10, Value.int IntKind.i64 n11, Value.int IntKind.i64 n12, Value.string s13, Value.slice p14 n15 c16]] w5
 fun (e17 : Ending) (w18 : World) ↦
 ∃ (b19 : Bool),
 e17 = Ending.returned (Value.bool b19) ∧
 (b19 = false → R (Ending.returned (Value.tuple #[Value.int IntKind.i64 0, Value.int IntKind.i64 122])) w18) ∧
 (b19 = true →
 ∃ (n22 : Int),
 w18.cell? (Addr.mk b1 0 none) = some (Value.int IntKind.i64 n22) ∧
 ∃ (s23 : ByteArray),
 w18.cell? (Addr.mk b1 1 none) = some (Value.string s23) ∧
 ∃ (n24 : Int),
 w18.cell? (Addr.mk b1 2 none) = some (Value.int IntKind.i64 n24) ∧
 ∃ (n25 : Int),
 w18.cell? (Addr.mk b1 3 none) = some (Value.int IntKind.i64 n25) ∧
 ∃ (s26 : ByteArray),
 w18.cell? (Addr.mk b1 4 none) = some (Value.string s26) ∧
 ∃ (p27 : Option Addr),
 ∃ (n28 : Nat),
 ∃ (c29 : Nat),
 w18.cell? (Addr.mk b1 5 none) = some (Value.slice p27 n28 c29) ∧
 Calls Tryd.prog 28
 #[Value.slice cols_p cols_n cols_c,
 Value.agg #[Value.int IntKind.i64 n22, Value.string s23, Value.int IntKind.i64 n24, Value.int IntKind.i64 n25, Value.string s26, Value.slice p27 n28 c29]]
 w18 fun (e30 : Ending) (w31 : World) ↦
 ∃ (n32 : Int),
 ∃ (n33 : Int),
 e30 = Ending.returned (Value.tuple #[Value.int IntKind.i64 n32, Value.int IntKind.i64 n33]) ∧
 R (Ending.returned (Value.tuple #[Value.int IntKind.i64 n32, Value.int IntKind.i64 n33])) w31))

set_option maxRecDepth 100000 in
theorem xtype_eq (cols_p : Option Addr) (cols_n : Nat) (cols_c : Nat) (x0 : Int) (x1 : ByteArray) (x2 : Int) (x3 : Int) (x4 : ByteArray) (x5_p : Option Addr) (x5_n : Nat) (x5_c : Nat) (w : World) (R : Ending → World → Prop) : xtype_T cols_p cols_n cols_c x0 x1 x2 x3 x4 x5_p x5_n x5_c w R = vcFn Tryd.prog [] [] Tryd.f12 [Value.slice cols_p cols_n cols_c, Value.agg
 #[Value.int IntKind.i64 x0, Value.string x1, Value.int IntKind.i64 x2, Value.int IntKind.i64 x3, Value.string x4,
 Value.slice x5_p x5_n x5_c]] w R := by kernel_rfl

set_option maxRecDepth 100000 in
theorem xtype_vc (cols_p : Option Addr) (cols_n : Nat) (cols_c : Nat) (x0 : Int) (x1 : ByteArray) (x2 : Int) (x3 : Int) (x4 : ByteArray) (x5_p : Option Addr) (x5_n : Nat) (x5_c : Nat) (w : World) (R : Ending → World → Prop) (h : xtype_T cols_p cols_n cols_c x0 x1 x2 x3 x4 x5_p x5_n x5_c w R) : Calls Tryd.prog 12 #[Value.slice cols_p cols_n cols_c, Value.agg
 #[Value.int IntKind.i64 x0, Value.string x1, Value.int IntKind.i64 x2, Value.int IntKind.i64 x3, Value.string x4,
 Value.slice x5_p x5_n x5_c]] w R :=
  calls_of_vc (args := [Value.slice cols_p cols_n cols_c, Value.agg
 #[Value.int IntKind.i64 x0, Value.string x1, Value.int IntKind.i64 x2, Value.int IntKind.i64 x3, Value.string x4,
 Value.slice x5_p x5_n x5_c]]) [] [] Tryd.mixed Tryd.func12 (cast (xtype_eq _ _ _ _ _ _ _ _ _ _ _ w R) h)

set_option maxRecDepth 100000 in
def xtruth_T (b : Bool) (w : World) (R : Ending → World → Prop) : Prop :=
  ∀ (b1 : Nat) (w'2 : World),
 New w (Obj.cells #[Value.int IntKind.i64 0, Value.int IntKind.i64 0, Value.string (ByteArray.mk #[])] 26) b1 w'2 →
 (b = true →
 (∃ (u5 : Value), w'2.cell? (Addr.mk b1 0 none) = some u5) ∧
 w'2.frozen? (Addr.mk b1 0 none) = false ∧
 (∃ (u6 : Value), w'2.cell? (Addr.mk b1 1 none) = some u6) ∧
 w'2.frozen? (Addr.mk b1 1 none) = false ∧
 (∃ (u7 : Value), w'2.cell? (Addr.mk b1 2 none) = some u7) ∧
 w'2.frozen? (Addr.mk b1 2 none) = false ∧
 ∀ (w'8 : World),
 Put w'2 b1 0 [Value.int IntKind.i64 2, Value.int IntKind.i64 1, Value.string (ByteArray.mk #[])] w'8 →
 ∃ (n10 : Int),
 w'8.cell? (Addr.mk b1 0 none) = some (Value.int IntKind.i64 n10) ∧
 ∃ (n11 : Int),
 w'8.cell? (Addr.mk b1 1 none) = some (Value.int IntKind.i64 n11) ∧
 ∃ (s12 : ByteArray),
 w'8.cell? (Addr.mk b1 2 none) = some (Value.string s12) ∧ R (Ending.returned (Value.agg #[Value.int IntKind.i64 n10, Value.int IntKind.i64 n11, Value.string s12])) w'8) ∧
 (b = false →
 (∃ (u14 : Value), w'2.cell? (Addr.mk b1 0 none) = some u14) ∧
 w'2.frozen? (Addr.mk b1 0 none) = false ∧
 (∃ (u15 : Value), w'2.cell? (Addr.mk b1 1 none) = some u15) ∧
 w'2.frozen? (Addr.mk b1 1 none) = false ∧
 (∃ (u16 : Value), w'2.cell? (Addr.mk b1 2 none) = some u16) ∧
 w'2.frozen? (Addr.mk b1 2 none) = false ∧
 ∀ (w'17 : World),
 Put w'2 b1 0 [Value.int IntKind.i64 2, Value.int IntKind.i64 0, Value.string (ByteArray.mk #[])] w'17 →
 ∃ (n19 : Int),
 w'17.cell? (Addr.mk b1 0 none) = some (Value.int IntKind.i64 n19) ∧
 ∃ (n20 : Int),
 w'17.cell? (Addr.mk b1 1 none) = some (Value.int IntKind.i64 n20) ∧
 ∃ (s21 : ByteArray),
 w'17.cell? (Addr.mk b1 2 none) = some (Value.string s21) ∧ R (Ending.returned (Value.agg #[Value.int IntKind.i64 n19, Value.int IntKind.i64 n20, Value.string s21])) w'17)

set_option maxRecDepth 100000 in
theorem xtruth_eq (b : Bool) (w : World) (R : Ending → World → Prop) : xtruth_T b w R = vcFn Tryd.prog [] [] Tryd.f76 [Value.bool b] w R := by kernel_rfl

set_option maxRecDepth 100000 in
theorem xtruth_vc (b : Bool) (w : World) (R : Ending → World → Prop) (h : xtruth_T b w R) : Calls Tryd.prog 76 #[Value.bool b] w R :=
  calls_of_vc (args := [Value.bool b]) [] [] Tryd.mixed Tryd.func76 (cast (xtruth_eq _ w R) h)

set_option maxRecDepth 100000 in
def times_T (a : Int) (b : Int) (w : World) (R : Ending → World → Prop) : Prop :=
  Calls Tryd.prog 115 #[Value.int IntKind.i64 a] w fun (e1 : Ending) (w2 : World) ↦
 ∃ (n3 : Int),
 e1 = Ending.returned (Value.int IntKind.u64 n3) ∧
 Calls Tryd.prog 115 #[Value.int IntKind.i64 b] w2 fun (e4 : Ending) (w5 : World) ↦
 ∃ (n6 : Int),
 e4 = Ending.returned (Value.int IntKind.u64 n6) ∧
 Calls Tryd.prog 116 #[Value.int IntKind.u64 n3, Value.int IntKind.u64 n6] w5 fun (e7 : Ending) (w8 : World) ↦
 ∃ (n9 : Int),
 ∃ (n10 : Int),
 e7 = Ending.returned (Value.tuple #[Value.int IntKind.u64 n9, Value.int IntKind.u64 n10]) ∧
 (n9 ≠ 0 → R (Ending.returned (Value.tuple #[Value.int IntKind.i64 0, Value.bool false])) w8) ∧
 (n9 = 0 →
 (decide (a < 0) ≠ decide (b < 0) →
 R (Ending.returned (Value.tuple #[Value.int IntKind.i64 (IntKind.i64.wrap (0 - IntKind.i64.wrap n10)), Value.bool (decide (n10 ≤ 9223372036854775808))])) w8) ∧
 (decide (a < 0) = decide (b < 0) → R (Ending.returned (Value.tuple #[Value.int IntKind.i64 (IntKind.i64.wrap n10), Value.bool (decide (n10 < 9223372036854775808))])) w8))

set_option maxRecDepth 100000 in
theorem times_eq (a : Int) (b : Int) (w : World) (R : Ending → World → Prop) : times_T a b w R = vcFn Tryd.prog [] [] Tryd.f104 [Value.int IntKind.i64 a, Value.int IntKind.i64 b] w R := by kernel_rfl

set_option maxRecDepth 100000 in
theorem times_vc (a : Int) (b : Int) (w : World) (R : Ending → World → Prop) (h : times_T a b w R) : Calls Tryd.prog 104 #[Value.int IntKind.i64 a, Value.int IntKind.i64 b] w R :=
  calls_of_vc (args := [Value.int IntKind.i64 a, Value.int IntKind.i64 b]) [] [] Tryd.mixed Tryd.func104 (cast (times_eq _ _ w R) h)

set_option maxRecDepth 100000 in
def times1_T (n : Int) (w : World) (R : Ending → World → Prop) : Prop :=
  (n < 0 → R (Ending.returned (Value.int IntKind.u64 (IntKind.u64.wrap (0 - IntKind.u64.wrap n)))) w) ∧
 (0 ≤ n → R (Ending.returned (Value.int IntKind.u64 (IntKind.u64.wrap n))) w)

set_option maxRecDepth 100000 in
theorem times1_eq (n : Int) (w : World) (R : Ending → World → Prop) : times1_T n w R = vcFn Tryd.prog [] [] Tryd.f115 [Value.int IntKind.i64 n] w R := by kernel_rfl

set_option maxRecDepth 100000 in
theorem times1_vc (n : Int) (w : World) (R : Ending → World → Prop) (h : times1_T n w R) : Calls Tryd.prog 115 #[Value.int IntKind.i64 n] w R :=
  calls_of_vc (args := [Value.int IntKind.i64 n]) [] [] Tryd.mixed Tryd.func115 (cast (times1_eq _ w R) h)

set_option maxRecDepth 100000 in
def mul64_T (x : Int) (y : Int) (w : World) (R : Ending → World → Prop) : Prop :=
  R
 (Ending.returned
 (Value.tuple
 #[Value.int IntKind.u64
 (IntKind.u64.wrap
 (IntKind.u64.wrap
 (IntKind.u64.wrap (shrI IntKind.u64 x 32 * shrI IntKind.u64 y 32) +
 shrI IntKind.u64
 (IntKind.u64.wrap
 (IntKind.u64.wrap (shrI IntKind.u64 x 32 * bits BinOp.and IntKind.u64 y 4294967295) +
 shrI IntKind.u64 (IntKind.u64.wrap (bits BinOp.and IntKind.u64 x 4294967295 * bits BinOp.and IntKind.u64 y 4294967295)) 32))
 32) +
 shrI IntKind.u64
 (IntKind.u64.wrap
 (bits BinOp.and IntKind.u64
 (IntKind.u64.wrap
 (IntKind.u64.wrap (shrI IntKind.u64 x 32 * bits BinOp.and IntKind.u64 y 4294967295) +
 shrI IntKind.u64 (IntKind.u64.wrap (bits BinOp.and IntKind.u64 x 4294967295 * bits BinOp.and IntKind.u64 y 4294967295)) 32))
 4294967295 +
 IntKind.u64.wrap (bits BinOp.and IntKind.u64 x 4294967295 * shrI IntKind.u64 y 32)))
 32)),
 Value.int IntKind.u64 (IntKind.u64.wrap (x * y))]))
 w

set_option maxRecDepth 100000 in
theorem mul64_eq (x : Int) (y : Int) (w : World) (R : Ending → World → Prop) : mul64_T x y w R = vcFn Tryd.prog [] [] Tryd.f116 [Value.int IntKind.u64 x, Value.int IntKind.u64 y] w R := by kernel_rfl

set_option maxRecDepth 100000 in
theorem mul64_vc (x : Int) (y : Int) (w : World) (R : Ending → World → Prop) (h : mul64_T x y w R) : Calls Tryd.prog 116 #[Value.int IntKind.u64 x, Value.int IntKind.u64 y] w R :=
  calls_of_vc (args := [Value.int IntKind.u64 x, Value.int IntKind.u64 y]) [] [] Tryd.mixed Tryd.func116 (cast (mul64_eq _ _ w R) h)

set_option maxRecDepth 100000 in
def xarith_T (op : Int) (a : Int) (b : Int) (w : World) (R : Ending → World → Prop) : Prop :=
  ((op = 6 ∨ op = 7) ∧ b = 0 → R (Ending.returned (Value.tuple #[Value.int IntKind.i64 0, Value.int IntKind.i64 101])) w) ∧
 (op ≠ 6 ∧ op ≠ 7 ∨ b ≠ 0 →
 (op = 3 →
 (bits BinOp.and IntKind.i64 (bits BinOp.xor IntKind.i64 a (IntKind.i64.wrap (a + b))) (bits BinOp.xor IntKind.i64 b (IntKind.i64.wrap (a + b))) < 0 →
 R (Ending.returned (Value.tuple #[Value.int IntKind.i64 0, Value.int IntKind.i64 100])) w) ∧
 (0 ≤ bits BinOp.and IntKind.i64 (bits BinOp.xor IntKind.i64 a (IntKind.i64.wrap (a + b))) (bits BinOp.xor IntKind.i64 b (IntKind.i64.wrap (a + b))) →
 R (Ending.returned (Value.tuple #[Value.int IntKind.i64 (IntKind.i64.wrap (a + b)), Value.int IntKind.i64 0])) w)) ∧
 (op ≠ 3 →
 (op = 4 →
 (bits BinOp.and IntKind.i64 (bits BinOp.xor IntKind.i64 a b) (bits BinOp.xor IntKind.i64 a (IntKind.i64.wrap (a - b))) < 0 →
 R (Ending.returned (Value.tuple #[Value.int IntKind.i64 0, Value.int IntKind.i64 100])) w) ∧
 (0 ≤ bits BinOp.and IntKind.i64 (bits BinOp.xor IntKind.i64 a b) (bits BinOp.xor IntKind.i64 a (IntKind.i64.wrap (a - b))) →
 R (Ending.returned (Value.tuple #[Value.int IntKind.i64 (IntKind.i64.wrap (a - b)), Value.int IntKind.i64 0])) w)) ∧
 (op ≠ 4 →
 (op = 5 →
 Calls Tryd.prog 104 #[Value.int IntKind.i64 a, Value.int IntKind.i64 b] w fun (e12 : Ending) (w13 : World) ↦
 ∃ (n14 : Int),
 ∃ (b15 : Bool),
 e12 = Ending.returned (Value.tuple #[Value.int IntKind.i64 n14, Value.bool b15]) ∧
 (b15 = false → R (Ending.returned (Value.tuple #[Value.int IntKind.i64 0, Value.int IntKind.i64 100])) w13) ∧
 (b15 = true → R (Ending.returned (Value.tuple #[Value.int IntKind.i64 n14, Value.int IntKind.i64 0])) w13)) ∧
 (op ≠ 5 →
 (op = 6 →
 b ≠ 0 ∧
 (a = -9223372036854775808 ∧ b = -1 → R (Ending.returned (Value.tuple #[Value.int IntKind.i64 0, Value.int IntKind.i64 100])) w) ∧
 (a ≠ -9223372036854775808 ∨ b ≠ -1 → R (Ending.returned (Value.tuple #[Value.int IntKind.i64 (quoI IntKind.i64 a b), Value.int IntKind.i64 0])) w)) ∧
 (op ≠ 6 →
 (op = 7 → b ≠ 0 ∧ R (Ending.returned (Value.tuple #[Value.int IntKind.i64 (remI a b), Value.int IntKind.i64 0])) w) ∧
 (op ≠ 7 → R (Ending.returned (Value.tuple #[Value.int IntKind.i64 0, Value.int IntKind.i64 0])) w))))))

set_option maxRecDepth 100000 in
theorem xarith_eq (op : Int) (a : Int) (b : Int) (w : World) (R : Ending → World → Prop) : xarith_T op a b w R = vcFn Tryd.prog [] [] Tryd.f80 [Value.int IntKind.i64 op, Value.int IntKind.i64 a, Value.int IntKind.i64 b] w R := by kernel_rfl

set_option maxRecDepth 100000 in
theorem xarith_vc (op : Int) (a : Int) (b : Int) (w : World) (R : Ending → World → Prop) (h : xarith_T op a b w R) : Calls Tryd.prog 80 #[Value.int IntKind.i64 op, Value.int IntKind.i64 a, Value.int IntKind.i64 b] w R :=
  calls_of_vc (args := [Value.int IntKind.i64 op, Value.int IntKind.i64 a, Value.int IntKind.i64 b]) [] [] Tryd.mixed Tryd.func80 (cast (xarith_eq _ _ _ w R) h)

set_option maxRecDepth 100000 in
def third_T (v0 : Int) (v1 : Int) (v2 : ByteArray) (w : World) (R : Ending → World → Prop) : Prop :=
  ∀ (b1 : Nat) (w'2 : World),
 New w (Obj.cells #[Value.int IntKind.i64 v0, Value.int IntKind.i64 v1, Value.string v2] 26) b1 w'2 →
 ∃ (n4 : Int),
 w'2.cell? (Addr.mk b1 0 none) = some (Value.int IntKind.i64 n4) ∧
 (n4 = 0 → R (Ending.returned (Value.int IntKind.i64 2)) w'2) ∧
 (n4 ≠ 0 → ∃ (n7 : Int), w'2.cell? (Addr.mk b1 1 none) = some (Value.int IntKind.i64 n7) ∧ R (Ending.returned (Value.int IntKind.i64 n7)) w'2)

set_option maxRecDepth 100000 in
theorem third_eq (v0 : Int) (v1 : Int) (v2 : ByteArray) (w : World) (R : Ending → World → Prop) : third_T v0 v1 v2 w R = vcFn Tryd.prog [] [] Tryd.f78 [Value.agg #[Value.int IntKind.i64 v0, Value.int IntKind.i64 v1, Value.string v2]] w R := by kernel_rfl

set_option maxRecDepth 100000 in
theorem third_vc (v0 : Int) (v1 : Int) (v2 : ByteArray) (w : World) (R : Ending → World → Prop) (h : third_T v0 v1 v2 w R) : Calls Tryd.prog 78 #[Value.agg #[Value.int IntKind.i64 v0, Value.int IntKind.i64 v1, Value.string v2]] w R :=
  calls_of_vc (args := [Value.agg #[Value.int IntKind.i64 v0, Value.int IntKind.i64 v1, Value.string v2]]) [] [] Tryd.mixed Tryd.func78 (cast (third_eq _ _ _ w R) h)

set_option maxRecDepth 100000 in
def answer_T (n : Int) (w : World) (R : Ending → World → Prop) : Prop :=
  ∀ (b1 : Nat) (w'2 : World),
 New w (Obj.cells #[Value.int IntKind.i64 0, Value.int IntKind.i64 0, Value.string (ByteArray.mk #[])] 26) b1 w'2 →
 (n = 2 →
 (∃ (u5 : Value), w'2.cell? (Addr.mk b1 0 none) = some u5) ∧
 w'2.frozen? (Addr.mk b1 0 none) = false ∧
 (∃ (u6 : Value), w'2.cell? (Addr.mk b1 1 none) = some u6) ∧
 w'2.frozen? (Addr.mk b1 1 none) = false ∧
 (∃ (u7 : Value), w'2.cell? (Addr.mk b1 2 none) = some u7) ∧
 w'2.frozen? (Addr.mk b1 2 none) = false ∧
 ∀ (w'8 : World),
 Put w'2 b1 0 [Value.int IntKind.i64 0, Value.int IntKind.i64 0, Value.string (ByteArray.mk #[])] w'8 →
 ∃ (n10 : Int),
 w'8.cell? (Addr.mk b1 0 none) = some (Value.int IntKind.i64 n10) ∧
 ∃ (n11 : Int),
 w'8.cell? (Addr.mk b1 1 none) = some (Value.int IntKind.i64 n11) ∧
 ∃ (s12 : ByteArray),
 w'8.cell? (Addr.mk b1 2 none) = some (Value.string s12) ∧ R (Ending.returned (Value.agg #[Value.int IntKind.i64 n10, Value.int IntKind.i64 n11, Value.string s12])) w'8) ∧
 (n ≠ 2 →
 Calls Tryd.prog 76 #[Value.bool (decide (n = 1))] w'2 fun (e14 : Ending) (w15 : World) ↦
 ∃ (n16 : Int),
 ∃ (n17 : Int),
 ∃ (s18 : ByteArray),
 e14 = Ending.returned (Value.agg #[Value.int IntKind.i64 n16, Value.int IntKind.i64 n17, Value.string s18]) ∧
 (∃ (u19 : Value), w15.cell? (Addr.mk b1 0 none) = some u19) ∧
 w15.frozen? (Addr.mk b1 0 none) = false ∧
 (∃ (u20 : Value), w15.cell? (Addr.mk b1 1 none) = some u20) ∧
 w15.frozen? (Addr.mk b1 1 none) = false ∧
 (∃ (u21 : Value), w15.cell? (Addr.mk b1 2 none) = some u21) ∧
 w15.frozen? (Addr.mk b1 2 none) = false ∧
 ∀ (w'22 : World),
 Put w15 b1 0 [Value.int IntKind.i64 n16, Value.int IntKind.i64 n17, Value.string s18] w'22 →
 ∃ (n24 : Int),
 w'22.cell? (Addr.mk b1 0 none) = some (Value.int IntKind.i64 n24) ∧
 ∃ (n25 : Int),
 w'22.cell? (Addr.mk b1 1 none) = some (Value.int IntKind.i64 n25) ∧
 ∃ (s26 : ByteArray),
 w'22.cell? (Addr.mk b1 2 none) = some (Value.string s26) ∧ R (Ending.returned (Value.agg #[Value.int IntKind.i64 n24, Value.int IntKind.i64 n25, Value.string s26])) w'22)

set_option maxRecDepth 100000 in
theorem answer_eq (n : Int) (w : World) (R : Ending → World → Prop) : answer_T n w R = vcFn Tryd.prog [] [] Tryd.f77 [Value.int IntKind.i64 n] w R := by kernel_rfl

set_option maxRecDepth 100000 in
theorem answer_vc (n : Int) (w : World) (R : Ending → World → Prop) (h : answer_T n w R) : Calls Tryd.prog 77 #[Value.int IntKind.i64 n] w R :=
  calls_of_vc (args := [Value.int IntKind.i64 n]) [] [] Tryd.mixed Tryd.func77 (cast (answer_eq _ w R) h)

set_option maxRecDepth 100000 in
def xpair_T (op : Int) (a0 : Int) (a1 : Int) (a2 : ByteArray) (b0 : Int) (b1 : Int) (b2 : ByteArray) (w : World) (R : Ending → World → Prop) : Prop :=
  ∀ (b1_1 : Nat) (w'2 : World),
 New w (Obj.cells #[Value.int IntKind.i64 a0, Value.int IntKind.i64 a1, Value.string a2] 26) b1_1 w'2 →
 ∀ (b4 : Nat) (w'5 : World),
 New w'2 (Obj.cells #[Value.int IntKind.i64 b0, Value.int IntKind.i64 b1, Value.string b2] 26) b4 w'5 →
 ∀ (b7 : Nat) (w'8 : World),
 New w'5 (Obj.cells #[Value.int IntKind.i64 0, Value.int IntKind.i64 0, Value.string (ByteArray.mk #[])] 26) b7 w'8 →
 (op = 12 →
 ∀ (w'11 : World),
 Drew w'8 w'11 →
 ∃ (n13 : Int),
 w'11.cell? (Addr.mk b1_1 0 none) = some (Value.int IntKind.i64 n13) ∧
 ∃ (n14 : Int),
 w'11.cell? (Addr.mk b1_1 1 none) = some (Value.int IntKind.i64 n14) ∧
 ∃ (s15 : ByteArray),
 w'11.cell? (Addr.mk b1_1 2 none) = some (Value.string s15) ∧
 ∃ (n16 : Int),
 w'11.cell? (Addr.mk b4 0 none) = some (Value.int IntKind.i64 n16) ∧
 ∃ (n17 : Int),
 w'11.cell? (Addr.mk b4 1 none) = some (Value.int IntKind.i64 n17) ∧
 ∃ (s18 : ByteArray),
 w'11.cell? (Addr.mk b4 2 none) = some (Value.string s18) ∧
 Calls Tryd.prog 78 #[Value.agg #[Value.int IntKind.i64 n13, Value.int IntKind.i64 n14, Value.string s15]] w'11 fun (e19 : Ending) (w20 : World) ↦
 ∃ (n21 : Int),
 e19 = Ending.returned (Value.int IntKind.i64 n21) ∧
 Same w'11 w20 ∧
 0 ≤ n21 ∧
 n21 < 3 ∧
 Calls Tryd.prog 78 #[Value.agg #[Value.int IntKind.i64 n16, Value.int IntKind.i64 n17, Value.string s18]] w20 fun (e22 : Ending) (w23 : World) ↦
 ∃ (n24 : Int),
 e22 = Ending.returned (Value.int IntKind.i64 n24) ∧
 0 ≤ n24 ∧
 n24 < 3 ∧
 ∃ (n25 : Int),
 w23.cell? (Addr.mk 1 (0 + n21.toNat * 3 + n24.toNat) none) = some (Value.int IntKind.i64 n25) ∧
 Calls Tryd.prog 77 #[Value.int IntKind.i64 n25] w23 fun (e26 : Ending) (w27 : World) ↦
 ∃ (n28 : Int),
 ∃ (n29 : Int),
 ∃ (s30 : ByteArray),
 e26 = Ending.returned (Value.agg #[Value.int IntKind.i64 n28, Value.int IntKind.i64 n29, Value.string s30]) ∧
 (∃ (u31 : Value), w27.cell? (Addr.mk b7 0 none) = some u31) ∧
 w27.frozen? (Addr.mk b7 0 none) = false ∧
 (∃ (u32 : Value), w27.cell? (Addr.mk b7 1 none) = some u32) ∧
 w27.frozen? (Addr.mk b7 1 none) = false ∧
 (∃ (u33 : Value), w27.cell? (Addr.mk b7 2 none) = some u33) ∧
 w27.frozen? (Addr.mk b7 2 none) = false ∧
 ∀ (w'34 : World),
 Put w27 b7 0 [Value.int IntKind.i64 n28, Value.int IntKind.i64 n29, Value.string s30] w'34 →
 ∃ (n36 : Int),
 w'34.cell? (Addr.mk b7 0 none) = some (Value.int IntKind.i64 n36) ∧
 ∃ (n37 : Int),
 w'34.cell? (Addr.mk b7 1 none) = some (Value.int IntKind.i64 n37) ∧
 ∃ (s38 : ByteArray),
 w'34.cell? (Addr.mk b7 2 none) = some (Value.string s38) ∧
 R (Ending.returned (Value.tuple #[Value.agg #[Value.int IntKind.i64 n36, Value.int IntKind.i64 n37, Value.string s38], Value.int IntKind.i64 0])) w'34) ∧
 (op ≠ 12 →
 (op = 13 →
 ∀ (w'41 : World),
 Drew w'8 w'41 →
 ∃ (n43 : Int),
 w'41.cell? (Addr.mk b1_1 0 none) = some (Value.int IntKind.i64 n43) ∧
 ∃ (n44 : Int),
 w'41.cell? (Addr.mk b1_1 1 none) = some (Value.int IntKind.i64 n44) ∧
 ∃ (s45 : ByteArray),
 w'41.cell? (Addr.mk b1_1 2 none) = some (Value.string s45) ∧
 ∃ (n46 : Int),
 w'41.cell? (Addr.mk b4 0 none) = some (Value.int IntKind.i64 n46) ∧
 ∃ (n47 : Int),
 w'41.cell? (Addr.mk b4 1 none) = some (Value.int IntKind.i64 n47) ∧
 ∃ (s48 : ByteArray),
 w'41.cell? (Addr.mk b4 2 none) = some (Value.string s48) ∧
 Calls Tryd.prog 78 #[Value.agg #[Value.int IntKind.i64 n43, Value.int IntKind.i64 n44, Value.string s45]] w'41 fun (e49 : Ending) (w50 : World) ↦
 ∃ (n51 : Int),
 e49 = Ending.returned (Value.int IntKind.i64 n51) ∧
 Same w'41 w50 ∧
 0 ≤ n51 ∧
 n51 < 3 ∧
 Calls Tryd.prog 78 #[Value.agg #[Value.int IntKind.i64 n46, Value.int IntKind.i64 n47, Value.string s48]] w50 fun (e52 : Ending) (w53 : World) ↦
 ∃ (n54 : Int),
 e52 = Ending.returned (Value.int IntKind.i64 n54) ∧
 0 ≤ n54 ∧
 n54 < 3 ∧
 ∃ (n55 : Int),
 w53.cell? (Addr.mk 2 (0 + n51.toNat * 3 + n54.toNat) none) = some (Value.int IntKind.i64 n55) ∧
 Calls Tryd.prog 77 #[Value.int IntKind.i64 n55] w53 fun (e56 : Ending) (w57 : World) ↦
 ∃ (n58 : Int),
 ∃ (n59 : Int),
 ∃ (s60 : ByteArray),
 e56 = Ending.returned (Value.agg #[Value.int IntKind.i64 n58, Value.int IntKind.i64 n59, Value.string s60]) ∧
 (∃ (u61 : Value), w57.cell? (Addr.mk b7 0 none) = some u61) ∧
 w57.frozen? (Addr.mk b7 0 none) = false ∧
 (∃ (u62 : Value), w57.cell? (Addr.mk b7 1 none) = some u62) ∧
 w57.frozen? (Addr.mk b7 1 none) = false ∧
 (∃ (u63 : Value), w57.cell? (Addr.mk b7 2 none) = some u63) ∧
 w57.frozen? (Addr.mk b7 2 none) = false ∧
 ∀ (w'64 : World),
 Put w57 b7 0 [Value.int IntKind.i64 n58, Value.int IntKind.i64 n59, Value.string s60] w'64 →
 ∃ (n66 : Int),
 w'64.cell? (Addr.mk b7 0 none) = some (Value.int IntKind.i64 n66) ∧
 ∃ (n67 : Int),
 w'64.cell? (Addr.mk b7 1 none) = some (Value.int IntKind.i64 n67) ∧
 ∃ (s68 : ByteArray),
 w'64.cell? (Addr.mk b7 2 none) = some (Value.string s68) ∧
 R (Ending.returned (Value.tuple #[Value.agg #[Value.int IntKind.i64 n66, Value.int IntKind.i64 n67, Value.string s68], Value.int IntKind.i64 0])) w'64) ∧
 (op ≠ 13 →
 ∃ (n70 : Int),
 w'8.cell? (Addr.mk b1_1 0 none) = some (Value.int IntKind.i64 n70) ∧
 (n70 = 0 →
 (∃ (u72 : Value), w'8.cell? (Addr.mk b7 0 none) = some u72) ∧
 w'8.frozen? (Addr.mk b7 0 none) = false ∧
 (∃ (u73 : Value), w'8.cell? (Addr.mk b7 1 none) = some u73) ∧
 w'8.frozen? (Addr.mk b7 1 none) = false ∧
 (∃ (u74 : Value), w'8.cell? (Addr.mk b7 2 none) = some u74) ∧
 w'8.frozen? (Addr.mk b7 2 none) = false ∧
 ∀ (w'75 : World),
 Put w'8 b7 0 [Value.int IntKind.i64 0, Value.int IntKind.i64 0, Value.string (ByteArray.mk #[])] w'75 →
 ∃ (n77 : Int),
 w'75.cell? (Addr.mk b7 0 none) = some (Value.int IntKind.i64 n77) ∧
 ∃ (n78 : Int),
 w'75.cell? (Addr.mk b7 1 none) = some (Value.int IntKind.i64 n78) ∧
 ∃ (s79 : ByteArray),
 w'75.cell? (Addr.mk b7 2 none) = some (Value.string s79) ∧
 R (Ending.returned (Value.tuple #[Value.agg #[Value.int IntKind.i64 n77, Value.int IntKind.i64 n78, Value.string s79], Value.int IntKind.i64 0])) w'75) ∧
 (n70 ≠ 0 →
 ∃ (n81 : Int),
 w'8.cell? (Addr.mk b4 0 none) = some (Value.int IntKind.i64 n81) ∧
 (n81 = 0 →
 (∃ (u83 : Value), w'8.cell? (Addr.mk b7 0 none) = some u83) ∧
 w'8.frozen? (Addr.mk b7 0 none) = false ∧
 (∃ (u84 : Value), w'8.cell? (Addr.mk b7 1 none) = some u84) ∧
 w'8.frozen? (Addr.mk b7 1 none) = false ∧
 (∃ (u85 : Value), w'8.cell? (Addr.mk b7 2 none) = some u85) ∧
 w'8.frozen? (Addr.mk b7 2 none) = false ∧
 ∀ (w'86 : World),
 Put w'8 b7 0 [Value.int IntKind.i64 0, Value.int IntKind.i64 0, Value.string (ByteArray.mk #[])] w'86 →
 ∃ (n88 : Int),
 w'86.cell? (Addr.mk b7 0 none) = some (Value.int IntKind.i64 n88) ∧
 ∃ (n89 : Int),
 w'86.cell? (Addr.mk b7 1 none) = some (Value.int IntKind.i64 n89) ∧
 ∃ (s90 : ByteArray),
 w'86.cell? (Addr.mk b7 2 none) = some (Value.string s90) ∧
 R (Ending.returned (Value.tuple #[Value.agg #[Value.int IntKind.i64 n88, Value.int IntKind.i64 n89, Value.string s90], Value.int IntKind.i64 0])) w'86) ∧
 (n81 ≠ 0 →
 ∃ (n92 : Int),
 w'8.cell? (Addr.mk b1_1 0 none) = some (Value.int IntKind.i64 n92) ∧
 ∃ (n93 : Int),
 w'8.cell? (Addr.mk b1_1 1 none) = some (Value.int IntKind.i64 n93) ∧
 ∃ (s94 : ByteArray),
 w'8.cell? (Addr.mk b1_1 2 none) = some (Value.string s94) ∧
 ∃ (n95 : Int),
 w'8.cell? (Addr.mk b4 0 none) = some (Value.int IntKind.i64 n95) ∧
 ∃ (n96 : Int),
 w'8.cell? (Addr.mk b4 1 none) = some (Value.int IntKind.i64 n96) ∧
 ∃ (s97 : ByteArray),
 w'8.cell? (Addr.mk b4 2 none) = some (Value.string s97) ∧
 Calls Tryd.prog 79
 #[Value.agg #[Value.int IntKind.i64 n92, Value.int IntKind.i64 n93, Value.string s94],
 Value.agg #[Value.int IntKind.i64 n95, Value.int IntKind.i64 n96, Value.string s97]]
 w'8 fun (e98 : Ending) (w99 : World) ↦
 ∃ (n100 : Int),
 e98 = Ending.returned (Value.int IntKind.i64 n100) ∧
 (op = 9 →
 Calls Tryd.prog 76 #[Value.bool (decide (n100 = 0))] w99 fun (e102 : Ending) (w103 : World) ↦
 ∃ (n104 : Int),
 ∃ (n105 : Int),
 ∃ (s106 : ByteArray),
 e102 = Ending.returned (Value.agg #[Value.int IntKind.i64 n104, Value.int IntKind.i64 n105, Value.string s106]) ∧
 (∃ (u107 : Value), w103.cell? (Addr.mk b7 0 none) = some u107) ∧
 w103.frozen? (Addr.mk b7 0 none) = false ∧
 (∃ (u108 : Value), w103.cell? (Addr.mk b7 1 none) = some u108) ∧
 w103.frozen? (Addr.mk b7 1 none) = false ∧
 (∃ (u109 : Value), w103.cell? (Addr.mk b7 2 none) = some u109) ∧
 w103.frozen? (Addr.mk b7 2 none) = false ∧
 ∀ (w'110 : World),
 Put w103 b7 0 [Value.int IntKind.i64 n104, Value.int IntKind.i64 n105, Value.string s106] w'110 →
 ∃ (n112 : Int),
 w'110.cell? (Addr.mk b7 0 none) = some (Value.int IntKind.i64 n112) ∧
 ∃ (n113 : Int),
 w'110.cell? (Addr.mk b7 1 none) = some (Value.int IntKind.i64 n113) ∧
 ∃ (s114 : ByteArray),
 w'110.cell? (Addr.mk b7 2 none) = some (Value.string s114) ∧
 R (Ending.returned (Value.tuple #[Value.agg #[Value.int IntKind.i64 n112, Value.int IntKind.i64 n113, Value.string s114], Value.int IntKind.i64 0])) w'110) ∧
 (op ≠ 9 →
 (op = 10 →
 Calls Tryd.prog 76 #[Value.bool (decide (n100 < 0))] w99 fun (e117 : Ending) (w118 : World) ↦
 ∃ (n119 : Int),
 ∃ (n120 : Int),
 ∃ (s121 : ByteArray),
 e117 = Ending.returned (Value.agg #[Value.int IntKind.i64 n119, Value.int IntKind.i64 n120, Value.string s121]) ∧
 (∃ (u122 : Value), w118.cell? (Addr.mk b7 0 none) = some u122) ∧
 w118.frozen? (Addr.mk b7 0 none) = false ∧
 (∃ (u123 : Value), w118.cell? (Addr.mk b7 1 none) = some u123) ∧
 w118.frozen? (Addr.mk b7 1 none) = false ∧
 (∃ (u124 : Value), w118.cell? (Addr.mk b7 2 none) = some u124) ∧
 w118.frozen? (Addr.mk b7 2 none) = false ∧
 ∀ (w'125 : World),
 Put w118 b7 0 [Value.int IntKind.i64 n119, Value.int IntKind.i64 n120, Value.string s121] w'125 →
 ∃ (n127 : Int),
 w'125.cell? (Addr.mk b7 0 none) = some (Value.int IntKind.i64 n127) ∧
 ∃ (n128 : Int),
 w'125.cell? (Addr.mk b7 1 none) = some (Value.int IntKind.i64 n128) ∧
 ∃ (s129 : ByteArray),
 w'125.cell? (Addr.mk b7 2 none) = some (Value.string s129) ∧
 R (Ending.returned (Value.tuple #[Value.agg #[Value.int IntKind.i64 n127, Value.int IntKind.i64 n128, Value.string s129], Value.int IntKind.i64 0])) w'125) ∧
 (op ≠ 10 →
 (op = 11 →
 Calls Tryd.prog 76 #[Value.bool (decide (n100 ≤ 0))] w99 fun (e132 : Ending) (w133 : World) ↦
 ∃ (n134 : Int),
 ∃ (n135 : Int),
 ∃ (s136 : ByteArray),
 e132 = Ending.returned (Value.agg #[Value.int IntKind.i64 n134, Value.int IntKind.i64 n135, Value.string s136]) ∧
 (∃ (u137 : Value), w133.cell? (Addr.mk b7 0 none) = some u137) ∧
 w133.frozen? (Addr.mk b7 0 none) = false ∧
 (∃ (u138 : Value), w133.cell? (Addr.mk b7 1 none) = some u138) ∧
 w133.frozen? (Addr.mk b7 1 none) = false ∧
 (∃ (u139 : Value), w133.cell? (Addr.mk b7 2 none) = some u139) ∧
 w133.frozen? (Addr.mk b7 2 none) = false ∧
 ∀ (w'140 : World),
 Put w133 b7 0 [Value.int IntKind.i64 n134, Value.int IntKind.i64 n135, Value.string s136] w'140 →
 ∃ (n142 : Int),
 w'140.cell? (Addr.mk b7 0 none) = some (Value.int IntKind.i64 n142) ∧
 ∃ (n143 : Int),
 w'140.cell? (Addr.mk b7 1 none) = some (Value.int IntKind.i64 n143) ∧
 ∃ (s144 : ByteArray),
 w'140.cell? (Addr.mk b7 2 none) = some (Value.string s144) ∧
 R (Ending.returned (Value.tuple #[Value.agg #[Value.int IntKind.i64 n142, Value.int IntKind.i64 n143, Value.string s144], Value.int IntKind.i64 0])) w'140) ∧
 (op ≠ 11 →
 ∃ (n146 : Int),
 w99.cell? (Addr.mk b1_1 1 none) = some (Value.int IntKind.i64 n146) ∧
 ∃ (n147 : Int),
 w99.cell? (Addr.mk b4 1 none) = some (Value.int IntKind.i64 n147) ∧
 Calls Tryd.prog 80 #[Value.int IntKind.i64 op, Value.int IntKind.i64 n146, Value.int IntKind.i64 n147] w99 fun (e148 : Ending) (w149 : World) ↦
 ∃ (n150 : Int),
 ∃ (n151 : Int),
 e148 = Ending.returned (Value.tuple #[Value.int IntKind.i64 n150, Value.int IntKind.i64 n151]) ∧
 (n151 ≠ 0 →
 (∃ (u153 : Value), w149.cell? (Addr.mk b7 0 none) = some u153) ∧
 w149.frozen? (Addr.mk b7 0 none) = false ∧
 (∃ (u154 : Value), w149.cell? (Addr.mk b7 1 none) = some u154) ∧
 w149.frozen? (Addr.mk b7 1 none) = false ∧
 (∃ (u155 : Value), w149.cell? (Addr.mk b7 2 none) = some u155) ∧
 w149.frozen? (Addr.mk b7 2 none) = false ∧
 ∀ (w'156 : World),
 Put w149 b7 0 [Value.int IntKind.i64 0, Value.int IntKind.i64 0, Value.string (ByteArray.mk #[])] w'156 →
 ∃ (n158 : Int),
 w'156.cell? (Addr.mk b7 0 none) = some (Value.int IntKind.i64 n158) ∧
 ∃ (n159 : Int),
 w'156.cell? (Addr.mk b7 1 none) = some (Value.int IntKind.i64 n159) ∧
 ∃ (s160 : ByteArray),
 w'156.cell? (Addr.mk b7 2 none) = some (Value.string s160) ∧
 R (Ending.returned (Value.tuple #[Value.agg #[Value.int IntKind.i64 n158, Value.int IntKind.i64 n159, Value.string s160], Value.int IntKind.i64 n151])) w'156) ∧
 (n151 = 0 →
 (∃ (u162 : Value), w149.cell? (Addr.mk b7 0 none) = some u162) ∧
 w149.frozen? (Addr.mk b7 0 none) = false ∧
 (∃ (u163 : Value), w149.cell? (Addr.mk b7 1 none) = some u163) ∧
 w149.frozen? (Addr.mk b7 1 none) = false ∧
 (∃ (u164 : Value), w149.cell? (Addr.mk b7 2 none) = some u164) ∧
 w149.frozen? (Addr.mk b7 2 none) = false ∧
 ∀ (w'165 : World),
 Put w149 b7 0 [Value.int IntKind.i64 1, Value.int IntKind.i64 n150, Value.string (ByteArray.mk #[])] w'165 →
 ∃ (n167 : Int),
 w'165.cell? (Addr.mk b7 0 none) = some (Value.int IntKind.i64 n167) ∧
 ∃ (n168 : Int),
 w'165.cell? (Addr.mk b7 1 none) = some (Value.int IntKind.i64 n168) ∧
 ∃ (s169 : ByteArray),
 w'165.cell? (Addr.mk b7 2 none) = some (Value.string s169) ∧
 R (Ending.returned (Value.tuple #[Value.agg #[Value.int IntKind.i64 n167, Value.int IntKind.i64 n168, Value.string s169], Value.int IntKind.i64 0])) w'165))))))))

set_option maxRecDepth 100000 in
theorem xpair_eq (op : Int) (a0 : Int) (a1 : Int) (a2 : ByteArray) (b0 : Int) (b1 : Int) (b2 : ByteArray) (w : World) (R : Ending → World → Prop) : xpair_T op a0 a1 a2 b0 b1 b2 w R = vcFn Tryd.prog [] [(2, [2, 6, 5, 10, 8, 12, 14, 16, 18, 20, 0]), (4, [2, 6, 5, 10, 8, 12, 14, 16, 18, 20, 0])] Tryd.f52 [Value.int IntKind.i64 op, Value.agg #[Value.int IntKind.i64 a0, Value.int IntKind.i64 a1, Value.string a2], Value.agg #[Value.int IntKind.i64 b0, Value.int IntKind.i64 b1, Value.string b2]] w R := by kernel_rfl

set_option maxRecDepth 100000 in
theorem xpair_vc (op : Int) (a0 : Int) (a1 : Int) (a2 : ByteArray) (b0 : Int) (b1 : Int) (b2 : ByteArray) (w : World) (R : Ending → World → Prop) (h : xpair_T op a0 a1 a2 b0 b1 b2 w R) : Calls Tryd.prog 52 #[Value.int IntKind.i64 op, Value.agg #[Value.int IntKind.i64 a0, Value.int IntKind.i64 a1, Value.string a2], Value.agg #[Value.int IntKind.i64 b0, Value.int IntKind.i64 b1, Value.string b2]] w R :=
  calls_of_vc (args := [Value.int IntKind.i64 op, Value.agg #[Value.int IntKind.i64 a0, Value.int IntKind.i64 a1, Value.string a2], Value.agg #[Value.int IntKind.i64 b0, Value.int IntKind.i64 b1, Value.string b2]]) [] [(2, [2, 6, 5, 10, 8, 12, 14, 16, 18, 20, 0]), (4, [2, 6, 5, 10, 8, 12, 14, 16, 18, 20, 0])] Tryd.mixed Tryd.func52 (cast (xpair_eq _ _ _ _ _ _ _ w R) h)

set_option maxRecDepth 100000 in
def xsingle_T (op : Int) (v0 : Int) (v1 : Int) (v2 : ByteArray) (w : World) (R : Ending → World → Prop) : Prop :=
  ∀ (b1 : Nat) (w'2 : World),
 New w (Obj.cells #[Value.int IntKind.i64 v0, Value.int IntKind.i64 v1, Value.string v2] 26) b1 w'2 →
 ∀ (b4 : Nat) (w'5 : World),
 New w'2 (Obj.cells #[Value.int IntKind.i64 0, Value.int IntKind.i64 0, Value.string (ByteArray.mk #[])] 26) b4 w'5 →
 (op = 15 →
 ∃ (n8 : Int),
 w'5.cell? (Addr.mk b1 0 none) = some (Value.int IntKind.i64 n8) ∧
 Calls Tryd.prog 76 #[Value.bool (decide (n8 = 0))] w'5 fun (e9 : Ending) (w10 : World) ↦
 ∃ (n11 : Int),
 ∃ (n12 : Int),
 ∃ (s13 : ByteArray),
 e9 = Ending.returned (Value.agg #[Value.int IntKind.i64 n11, Value.int IntKind.i64 n12, Value.string s13]) ∧
 (∃ (u14 : Value), w10.cell? (Addr.mk b4 0 none) = some u14) ∧
 w10.frozen? (Addr.mk b4 0 none) = false ∧
 (∃ (u15 : Value), w10.cell? (Addr.mk b4 1 none) = some u15) ∧
 w10.frozen? (Addr.mk b4 1 none) = false ∧
 (∃ (u16 : Value), w10.cell? (Addr.mk b4 2 none) = some u16) ∧
 w10.frozen? (Addr.mk b4 2 none) = false ∧
 ∀ (w'17 : World),
 Put w10 b4 0 [Value.int IntKind.i64 n11, Value.int IntKind.i64 n12, Value.string s13] w'17 →
 ∃ (n19 : Int),
 w'17.cell? (Addr.mk b4 0 none) = some (Value.int IntKind.i64 n19) ∧
 ∃ (n20 : Int),
 w'17.cell? (Addr.mk b4 1 none) = some (Value.int IntKind.i64 n20) ∧
 ∃ (s21 : ByteArray),
 w'17.cell? (Addr.mk b4 2 none) = some (Value.string s21) ∧
 R (Ending.returned (Value.tuple #[Value.agg #[Value.int IntKind.i64 n19, Value.int IntKind.i64 n20, Value.string s21], Value.int IntKind.i64 0])) w'17) ∧
 (op ≠ 15 →
 ∃ (n23 : Int),
 w'5.cell? (Addr.mk b1 0 none) = some (Value.int IntKind.i64 n23) ∧
 (n23 = 0 →
 ∃ (n25 : Int),
 w'5.cell? (Addr.mk b1 0 none) = some (Value.int IntKind.i64 n25) ∧
 ∃ (n26 : Int),
 w'5.cell? (Addr.mk b1 1 none) = some (Value.int IntKind.i64 n26) ∧
 ∃ (s27 : ByteArray),
 w'5.cell? (Addr.mk b1 2 none) = some (Value.string s27) ∧
 (∃ (u28 : Value), w'5.cell? (Addr.mk b4 0 none) = some u28) ∧
 w'5.frozen? (Addr.mk b4 0 none) = false ∧
 (∃ (u29 : Value), w'5.cell? (Addr.mk b4 1 none) = some u29) ∧
 w'5.frozen? (Addr.mk b4 1 none) = false ∧
 (∃ (u30 : Value), w'5.cell? (Addr.mk b4 2 none) = some u30) ∧
 w'5.frozen? (Addr.mk b4 2 none) = false ∧
 ∀ (w'31 : World),
 Put w'5 b4 0 [Value.int IntKind.i64 n25, Value.int IntKind.i64 n26, Value.string s27] w'31 →
 ∃ (n33 : Int),
 w'31.cell? (Addr.mk b4 0 none) = some (Value.int IntKind.i64 n33) ∧
 ∃ (n34 : Int),
 w'31.cell? (Addr.mk b4 1 none) = some (Value.int IntKind.i64 n34) ∧
 ∃ (s35 : ByteArray),
 w'31.cell? (Addr.mk b4 2 none) = some (Value.string s35) ∧
 R (Ending.returned (Value.tuple #[Value.agg #[Value.int IntKind.i64 n33, Value.int IntKind.i64 n34, Value.string s35], Value.int IntKind.i64 0])) w'31) ∧
 (n23 ≠ 0 →
 (op = 14 →
 ∃ (n38 : Int),
 w'5.cell? (Addr.mk b1 1 none) = some (Value.int IntKind.i64 n38) ∧
 Calls Tryd.prog 76 #[Value.bool (decide (n38 = 0))] w'5 fun (e39 : Ending) (w40 : World) ↦
 ∃ (n41 : Int),
 ∃ (n42 : Int),
 ∃ (s43 : ByteArray),
 e39 = Ending.returned (Value.agg #[Value.int IntKind.i64 n41, Value.int IntKind.i64 n42, Value.string s43]) ∧
 (∃ (u44 : Value), w40.cell? (Addr.mk b4 0 none) = some u44) ∧
 w40.frozen? (Addr.mk b4 0 none) = false ∧
 (∃ (u45 : Value), w40.cell? (Addr.mk b4 1 none) = some u45) ∧
 w40.frozen? (Addr.mk b4 1 none) = false ∧
 (∃ (u46 : Value), w40.cell? (Addr.mk b4 2 none) = some u46) ∧
 w40.frozen? (Addr.mk b4 2 none) = false ∧
 ∀ (w'47 : World),
 Put w40 b4 0 [Value.int IntKind.i64 n41, Value.int IntKind.i64 n42, Value.string s43] w'47 →
 ∃ (n49 : Int),
 w'47.cell? (Addr.mk b4 0 none) = some (Value.int IntKind.i64 n49) ∧
 ∃ (n50 : Int),
 w'47.cell? (Addr.mk b4 1 none) = some (Value.int IntKind.i64 n50) ∧
 ∃ (s51 : ByteArray),
 w'47.cell? (Addr.mk b4 2 none) = some (Value.string s51) ∧
 R (Ending.returned (Value.tuple #[Value.agg #[Value.int IntKind.i64 n49, Value.int IntKind.i64 n50, Value.string s51], Value.int IntKind.i64 0])) w'47) ∧
 (op ≠ 14 →
 (op = 16 →
 ∃ (s54 : ByteArray),
 w'5.cell? (Addr.mk b1 2 none) = some (Value.string s54) ∧
 (∃ (u55 : Value), w'5.cell? (Addr.mk b4 0 none) = some u55) ∧
 w'5.frozen? (Addr.mk b4 0 none) = false ∧
 (∃ (u56 : Value), w'5.cell? (Addr.mk b4 1 none) = some u56) ∧
 w'5.frozen? (Addr.mk b4 1 none) = false ∧
 (∃ (u57 : Value), w'5.cell? (Addr.mk b4 2 none) = some u57) ∧
 w'5.frozen? (Addr.mk b4 2 none) = false ∧
 ∀ (w'58 : World),
 Put w'5 b4 0 [Value.int IntKind.i64 1, Value.int IntKind.i64 (↑s54.size : Int), Value.string (ByteArray.mk #[])] w'58 →
 ∃ (n60 : Int),
 w'58.cell? (Addr.mk b4 0 none) = some (Value.int IntKind.i64 n60) ∧
 ∃ (n61 : Int),
 w'58.cell? (Addr.mk b4 1 none) = some (Value.int IntKind.i64 n61) ∧
 ∃ (s62 : ByteArray),
 w'58.cell? (Addr.mk b4 2 none) = some (Value.string s62) ∧
 R (Ending.returned (Value.tuple #[Value.agg #[Value.int IntKind.i64 n60, Value.int IntKind.i64 n61, Value.string s62], Value.int IntKind.i64 0])) w'58) ∧
 (op ≠ 16 →
 ∃ (n64 : Int),
 w'5.cell? (Addr.mk b1 0 none) = some (Value.int IntKind.i64 n64) ∧
 ∃ (n65 : Int),
 w'5.cell? (Addr.mk b1 1 none) = some (Value.int IntKind.i64 n65) ∧
 ∃ (s66 : ByteArray),
 w'5.cell? (Addr.mk b1 2 none) = some (Value.string s66) ∧
 Calls Tryd.prog 52
 #[Value.int IntKind.i64 4, Value.agg #[Value.int IntKind.i64 1, Value.int IntKind.i64 0, Value.string (ByteArray.mk #[])],
 Value.agg #[Value.int IntKind.i64 n64, Value.int IntKind.i64 n65, Value.string s66]]
 w'5 fun (e67 : Ending) (w68 : World) ↦
 ∃ (n69 : Int),
 ∃ (n70 : Int),
 ∃ (s71 : ByteArray),
 ∃ (n72 : Int),
 e67 = Ending.returned (Value.tuple #[Value.agg #[Value.int IntKind.i64 n69, Value.int IntKind.i64 n70, Value.string s71], Value.int IntKind.i64 n72]) ∧
 (∃ (u73 : Value), w68.cell? (Addr.mk b4 0 none) = some u73) ∧
 w68.frozen? (Addr.mk b4 0 none) = false ∧
 (∃ (u74 : Value), w68.cell? (Addr.mk b4 1 none) = some u74) ∧
 w68.frozen? (Addr.mk b4 1 none) = false ∧
 (∃ (u75 : Value), w68.cell? (Addr.mk b4 2 none) = some u75) ∧
 w68.frozen? (Addr.mk b4 2 none) = false ∧
 ∀ (w'76 : World),
 Put w68 b4 0 [Value.int IntKind.i64 n69, Value.int IntKind.i64 n70, Value.string s71] w'76 →
 ∃ (n78 : Int),
 w'76.cell? (Addr.mk b4 0 none) = some (Value.int IntKind.i64 n78) ∧
 ∃ (n79 : Int),
 w'76.cell? (Addr.mk b4 1 none) = some (Value.int IntKind.i64 n79) ∧
 ∃ (s80 : ByteArray),
 w'76.cell? (Addr.mk b4 2 none) = some (Value.string s80) ∧
 R (Ending.returned (Value.tuple #[Value.agg #[Value.int IntKind.i64 n78, Value.int IntKind.i64 n79, Value.string s80], Value.int IntKind.i64 n72])) w'76))))

set_option maxRecDepth 100000 in
theorem xsingle_eq (op : Int) (v0 : Int) (v1 : Int) (v2 : ByteArray) (w : World) (R : Ending → World → Prop) : xsingle_T op v0 v1 v2 w R = vcFn Tryd.prog [] [] Tryd.f51 [Value.int IntKind.i64 op, Value.agg #[Value.int IntKind.i64 v0, Value.int IntKind.i64 v1, Value.string v2]] w R := by kernel_rfl

set_option maxRecDepth 100000 in
theorem xsingle_vc (op : Int) (v0 : Int) (v1 : Int) (v2 : ByteArray) (w : World) (R : Ending → World → Prop) (h : xsingle_T op v0 v1 v2 w R) : Calls Tryd.prog 51 #[Value.int IntKind.i64 op, Value.agg #[Value.int IntKind.i64 v0, Value.int IntKind.i64 v1, Value.string v2]] w R :=
  calls_of_vc (args := [Value.int IntKind.i64 op, Value.agg #[Value.int IntKind.i64 v0, Value.int IntKind.i64 v1, Value.string v2]]) [] [] Tryd.mixed Tryd.func51 (cast (xsingle_eq _ _ _ _ w R) h)

set_option maxRecDepth 100000 in
def xeval_T (cols_p : Option Addr) (cols_n : Nat) (cols_c : Nat) (row_p : Option Addr) (row_n : Nat) (row_c : Nat) (x0 : Int) (x1 : ByteArray) (x2 : Int) (x3 : Int) (x4 : ByteArray) (x5_p : Option Addr) (x5_n : Nat) (x5_c : Nat) (w : World) (R : Ending → World → Prop) : Prop :=
  ∀ (b1 : Nat) (w'2 : World),
 New w (Obj.cells #[Value.int IntKind.i64 x0, Value.string x1, Value.int IntKind.i64 x2, Value.int IntKind.i64 x3, Value.string x4, Value.slice x5_p x5_n x5_c] 29) b1
 w'2 →
 ∀ (b4 : Nat) (w'5 : World),
 New w'2 (Obj.cells #[Value.int IntKind.i64 0, Value.int IntKind.i64 0, Value.string (ByteArray.mk #[])] 26) b4 w'5 →
 ∀ (b7 : Nat) (w'8 : World),
 New w'5
 (Obj.cells
 #[Value.int IntKind.i64 0, Value.int IntKind.i64 0, Value.string (ByteArray.mk #[]), Value.int IntKind.i64 0, Value.int IntKind.i64 0, Value.string (ByteArray.mk #[])]
 72)
 b7 w'8 →
 ∃ (p10 : Option Addr),
 ∃ (n11 : Nat),
 ∃ (c12 : Nat),
 w'8.cell? (Addr.mk b1 5 none) = some (Value.slice p10 n11 c12) ∧
 ∃ (I13 : Int → World → Prop),
 ∃ (M14 : Int → World → Nat),
 I13 0 w'8 ∧
 ∀ (n15 : Int) (w'16 : World),
 I13 n15 w'16 →
 (n15 < (↑n11 : Int) →
 ∃ (b19 : Nat),
 ∃ (o20 : Nat),
 p10 = some (Addr.mk b19 o20 none) ∧
 0 ≤ n15 ∧
 n15 < (↑n11 : Int) ∧
 ∃ (n21 : Int),
 w'16.cell? (Addr.mk b19 (o20 + n15.toNat * 6) none) = some (Value.int IntKind.i64 n21) ∧
 ∃ (s22 : ByteArray),
 w'16.cell? (Addr.mk b19 (o20 + n15.toNat * 6 + 1) none) = some (Value.string s22) ∧
 ∃ (n23 : Int),
 w'16.cell? (Addr.mk b19 (o20 + n15.toNat * 6 + 2) none) = some (Value.int IntKind.i64 n23) ∧
 ∃ (n24 : Int),
 w'16.cell? (Addr.mk b19 (o20 + n15.toNat * 6 + 3) none) = some (Value.int IntKind.i64 n24) ∧
 ∃ (s25 : ByteArray),
 w'16.cell? (Addr.mk b19 (o20 + n15.toNat * 6 + 4) none) = some (Value.string s25) ∧
 ∃ (p26 : Option Addr),
 ∃ (n27 : Nat),
 ∃ (c28 : Nat),
 w'16.cell? (Addr.mk b19 (o20 + n15.toNat * 6 + 5) none) = some (Value.slice p26 n27 c28) ∧
 ∀ (b29 : Nat) (w'30 : World),
 New w'16
 (Obj.cells
 #[Value.int IntKind.i64 0, Value.string (ByteArray.mk #[]), Value.int IntKind.i64 0, Value.int IntKind.i64 0, Value.string (ByteArray.mk #[]), Value.slice none 0 0] 29)
 b29 w'30 →
 (∃ (u32 : Value), w'30.cell? (Addr.mk b29 0 none) = some u32) ∧
 w'30.frozen? (Addr.mk b29 0 none) = false ∧
 (∃ (u33 : Value), w'30.cell? (Addr.mk b29 1 none) = some u33) ∧
 w'30.frozen? (Addr.mk b29 1 none) = false ∧
 (∃ (u34 : Value), w'30.cell? (Addr.mk b29 2 none) = some u34) ∧
 w'30.frozen? (Addr.mk b29 2 none) = false ∧
 (∃ (u35 : Value), w'30.cell? (Addr.mk b29 3 none) = some u35) ∧
 w'30.frozen? (Addr.mk b29 3 none) = false ∧
 (∃ (u36 : Value), w'30.cell? (Addr.mk b29 4 none) = some u36) ∧
 w'30.frozen? (Addr.mk b29 4 none) = false ∧
 (∃ (u37 : Value), w'30.cell? (Addr.mk b29 5 none) = some u37) ∧
 w'30.frozen? (Addr.mk b29 5 none) = false ∧
 ∀ (w'38 : World),
 Put w'30 b29 0 [Value.int IntKind.i64 n21, Value.string s22, Value.int IntKind.i64 n23, Value.int IntKind.i64 n24, Value.string s25, Value.slice p26 n27 c28] w'38 →
 ∃ (n40 : Int),
 w'38.cell? (Addr.mk b29 0 none) = some (Value.int IntKind.i64 n40) ∧
 ∃ (s41 : ByteArray),
 w'38.cell? (Addr.mk b29 1 none) = some (Value.string s41) ∧
 ∃ (n42 : Int),
 w'38.cell? (Addr.mk b29 2 none) = some (Value.int IntKind.i64 n42) ∧
 ∃ (n43 : Int),
 w'38.cell? (Addr.mk b29 3 none) = some (Value.int IntKind.i64 n43) ∧
 ∃ (s44 : ByteArray),
 w'38.cell? (Addr.mk b29 4 none) = some (Value.string s44) ∧
 ∃ (p45 : Option Addr),
 ∃ (n46 : Nat),
 ∃ (c47 : Nat),
 w'38.cell? (Addr.mk b29 5 none) = some (Value.slice p45 n46 c47) ∧
 Calls Tryd.prog 35
 #[Value.slice cols_p cols_n cols_c, Value.slice row_p row_n row_c,
 Value.agg #[Value.int IntKind.i64 n40, Value.string s41, Value.int IntKind.i64 n42, Value.int IntKind.i64 n43, Value.string s44, Value.slice p45 n46 c47]]
 w'38 fun (e48 : Ending) (w49 : World) ↦
 ∃ (n50 : Int),
 ∃ (n51 : Int),
 ∃ (s52 : ByteArray),
 ∃ (n53 : Int),
 e48 = Ending.returned (Value.tuple #[Value.agg #[Value.int IntKind.i64 n50, Value.int IntKind.i64 n51, Value.string s52], Value.int IntKind.i64 n53]) ∧
 ∀ (b54 : Nat) (w'55 : World),
 New w49 (Obj.cells #[Value.int IntKind.i64 0, Value.int IntKind.i64 0, Value.string (ByteArray.mk #[])] 26) b54 w'55 →
 (∃ (u57 : Value), w'55.cell? (Addr.mk b54 0 none) = some u57) ∧
 w'55.frozen? (Addr.mk b54 0 none) = false ∧
 (∃ (u58 : Value), w'55.cell? (Addr.mk b54 1 none) = some u58) ∧
 w'55.frozen? (Addr.mk b54 1 none) = false ∧
 (∃ (u59 : Value), w'55.cell? (Addr.mk b54 2 none) = some u59) ∧
 w'55.frozen? (Addr.mk b54 2 none) = false ∧
 ∀ (w'60 : World),
 Put w'55 b54 0 [Value.int IntKind.i64 n50, Value.int IntKind.i64 n51, Value.string s52] w'60 →
 (n53 ≠ 0 →
 (∃ (u63 : Value), w'60.cell? (Addr.mk b4 0 none) = some u63) ∧
 w'60.frozen? (Addr.mk b4 0 none) = false ∧
 (∃ (u64 : Value), w'60.cell? (Addr.mk b4 1 none) = some u64) ∧
 w'60.frozen? (Addr.mk b4 1 none) = false ∧
 (∃ (u65 : Value), w'60.cell? (Addr.mk b4 2 none) = some u65) ∧
 w'60.frozen? (Addr.mk b4 2 none) = false ∧
 ∀ (w'66 : World),
 Put w'60 b4 0 [Value.int IntKind.i64 0, Value.int IntKind.i64 0, Value.string (ByteArray.mk #[])] w'66 →
 ∃ (n68 : Int),
 w'66.cell? (Addr.mk b4 0 none) = some (Value.int IntKind.i64 n68) ∧
 ∃ (n69 : Int),
 w'66.cell? (Addr.mk b4 1 none) = some (Value.int IntKind.i64 n69) ∧
 ∃ (s70 : ByteArray),
 w'66.cell? (Addr.mk b4 2 none) = some (Value.string s70) ∧
 R (Ending.returned (Value.tuple #[Value.agg #[Value.int IntKind.i64 n68, Value.int IntKind.i64 n69, Value.string s70], Value.int IntKind.i64 n53])) w'66) ∧
 (n53 = 0 →
 ∃ (n72 : Int),
 w'60.cell? (Addr.mk b54 0 none) = some (Value.int IntKind.i64 n72) ∧
 ∃ (n73 : Int),
 w'60.cell? (Addr.mk b54 1 none) = some (Value.int IntKind.i64 n73) ∧
 ∃ (s74 : ByteArray),
 w'60.cell? (Addr.mk b54 2 none) = some (Value.string s74) ∧
 0 ≤ n15 ∧
 n15 < 2 ∧
 (∃ (u75 : Value), w'60.cell? (Addr.mk b7 (0 + n15.toNat * 3) none) = some u75) ∧
 w'60.frozen? (Addr.mk b7 (0 + n15.toNat * 3) none) = false ∧
 (∃ (u76 : Value), w'60.cell? (Addr.mk b7 (0 + n15.toNat * 3 + 1) none) = some u76) ∧
 w'60.frozen? (Addr.mk b7 (0 + n15.toNat * 3 + 1) none) = false ∧
 (∃ (u77 : Value), w'60.cell? (Addr.mk b7 (0 + n15.toNat * 3 + 2) none) = some u77) ∧
 w'60.frozen? (Addr.mk b7 (0 + n15.toNat * 3 + 2) none) = false ∧
 ∀ (w'78 : World),
 Put w'60 b7 (0 + n15.toNat * 3) [Value.int IntKind.i64 n72, Value.int IntKind.i64 n73, Value.string s74] w'78 →
 I13 (IntKind.i64.wrap (n15 + 1)) w'78 ∧ M14 (IntKind.i64.wrap (n15 + 1)) w'78 < M14 n15 w'16)) ∧
 ((↑n11 : Int) ≤ n15 →
 ∃ (n81 : Int),
 w'16.cell? (Addr.mk b1 0 none) = some (Value.int IntKind.i64 n81) ∧
 (n81 = 1 →
 ∃ (s83 : ByteArray),
 w'16.cell? (Addr.mk b1 1 none) = some (Value.string s83) ∧
 Calls Tryd.prog 45 #[Value.slice cols_p cols_n cols_c, Value.string s83] w'16 fun (e84 : Ending) (w85 : World) ↦
 ∃ (n86 : Int),
 e84 = Ending.returned (Value.int IntKind.i64 n86) ∧
 ∃ (b87 : Nat),
 ∃ (o88 : Nat),
 row_p = some (Addr.mk b87 o88 none) ∧
 0 ≤ n86 ∧
 n86 < (↑row_n : Int) ∧
 ∃ (n89 : Int),
 w85.cell? (Addr.mk b87 (o88 + n86.toNat * 3) none) = some (Value.int IntKind.i64 n89) ∧
 ∃ (n90 : Int),
 w85.cell? (Addr.mk b87 (o88 + n86.toNat * 3 + 1) none) = some (Value.int IntKind.i64 n90) ∧
 ∃ (s91 : ByteArray),
 w85.cell? (Addr.mk b87 (o88 + n86.toNat * 3 + 2) none) = some (Value.string s91) ∧
 (∃ (u92 : Value), w85.cell? (Addr.mk b4 0 none) = some u92) ∧
 w85.frozen? (Addr.mk b4 0 none) = false ∧
 (∃ (u93 : Value), w85.cell? (Addr.mk b4 1 none) = some u93) ∧
 w85.frozen? (Addr.mk b4 1 none) = false ∧
 (∃ (u94 : Value), w85.cell? (Addr.mk b4 2 none) = some u94) ∧
 w85.frozen? (Addr.mk b4 2 none) = false ∧
 ∀ (w'95 : World),
 Put w85 b4 0 [Value.int IntKind.i64 n89, Value.int IntKind.i64 n90, Value.string s91] w'95 →
 ∃ (n97 : Int),
 w'95.cell? (Addr.mk b4 0 none) = some (Value.int IntKind.i64 n97) ∧
 ∃ (n98 : Int),
 w'95.cell? (Addr.mk b4 1 none) = some (Value.int IntKind.i64 n98) ∧
 ∃ (s99 : ByteArray),
 w'95.cell? (Addr.mk b4 2 none) = some (Value.string s99) ∧
 R (Ending.returned (Value.tuple #[Value.agg #[Value.int IntKind.i64 n97, Value.int IntKind.i64 n98, Value.string s99], Value.int IntKind.i64 0])) w'95) ∧
 (n81 ≠ 1 →
 ∃ (n101 : Int),
 w'16.cell? (Addr.mk b1 0 none) = some (Value.int IntKind.i64 n101) ∧
 (n101 = 2 →
 ∃ (n103 : Int),
 w'16.cell? (Addr.mk b1 2 none) = some (Value.int IntKind.i64 n103) ∧
 ∃ (n104 : Int),
 w'16.cell? (Addr.mk b1 3 none) = some (Value.int IntKind.i64 n104) ∧
 ∃ (s105 : ByteArray),
 w'16.cell? (Addr.mk b1 4 none) = some (Value.string s105) ∧
 (∃ (u106 : Value), w'16.cell? (Addr.mk b4 0 none) = some u106) ∧
 w'16.frozen? (Addr.mk b4 0 none) = false ∧
 (∃ (u107 : Value), w'16.cell? (Addr.mk b4 1 none) = some u107) ∧
 w'16.frozen? (Addr.mk b4 1 none) = false ∧
 (∃ (u108 : Value), w'16.cell? (Addr.mk b4 2 none) = some u108) ∧
 w'16.frozen? (Addr.mk b4 2 none) = false ∧
 ∀ (w'109 : World),
 Put w'16 b4 0 [Value.int IntKind.i64 n103, Value.int IntKind.i64 n104, Value.string s105] w'109 →
 ∃ (n111 : Int),
 w'109.cell? (Addr.mk b4 0 none) = some (Value.int IntKind.i64 n111) ∧
 ∃ (n112 : Int),
 w'109.cell? (Addr.mk b4 1 none) = some (Value.int IntKind.i64 n112) ∧
 ∃ (s113 : ByteArray),
 w'109.cell? (Addr.mk b4 2 none) = some (Value.string s113) ∧
 R (Ending.returned (Value.tuple #[Value.agg #[Value.int IntKind.i64 n111, Value.int IntKind.i64 n112, Value.string s113], Value.int IntKind.i64 0])) w'109) ∧
 (n101 ≠ 2 →
 ∃ (p115 : Option Addr),
 ∃ (n116 : Nat),
 ∃ (c117 : Nat),
 w'16.cell? (Addr.mk b1 5 none) = some (Value.slice p115 n116 c117) ∧
 ((↑n116 : Int) = 1 →
 ∃ (n119 : Int),
 w'16.cell? (Addr.mk b1 0 none) = some (Value.int IntKind.i64 n119) ∧
 (0 : Int) ≤ 0 ∧
 (0 : Int) < 2 ∧
 ∃ (n120 : Int),
 w'16.cell? (Addr.mk b7 0 none) = some (Value.int IntKind.i64 n120) ∧
 ∃ (n121 : Int),
 w'16.cell? (Addr.mk b7 1 none) = some (Value.int IntKind.i64 n121) ∧
 ∃ (s122 : ByteArray),
 w'16.cell? (Addr.mk b7 2 none) = some (Value.string s122) ∧
 Calls Tryd.prog 51 #[Value.int IntKind.i64 n119, Value.agg #[Value.int IntKind.i64 n120, Value.int IntKind.i64 n121, Value.string s122]] w'16
 fun (e123 : Ending) (w124 : World) ↦
 ∃ (n125 : Int),
 ∃ (n126 : Int),
 ∃ (s127 : ByteArray),
 ∃ (n128 : Int),
 e123 = Ending.returned (Value.tuple #[Value.agg #[Value.int IntKind.i64 n125, Value.int IntKind.i64 n126, Value.string s127], Value.int IntKind.i64 n128]) ∧
 (∃ (u129 : Value), w124.cell? (Addr.mk b4 0 none) = some u129) ∧
 w124.frozen? (Addr.mk b4 0 none) = false ∧
 (∃ (u130 : Value), w124.cell? (Addr.mk b4 1 none) = some u130) ∧
 w124.frozen? (Addr.mk b4 1 none) = false ∧
 (∃ (u131 : Value), w124.cell? (Addr.mk b4 2 none) = some u131) ∧
 w124.frozen? (Addr.mk b4 2 none) = false ∧
 ∀ (w'132 : World),
 Put w124 b4 0 [Value.int IntKind.i64 n125, Value.int IntKind.i64 n126, Value.string s127] w'132 →
 ∃ (n134 : Int),
 w'132.cell? (Addr.mk b4 0 none) = some (Value.int IntKind.i64 n134) ∧
 ∃ (n135 : Int),
 w'132.cell? (Addr.mk b4 1 none) = some (Value.int IntKind.i64 n135) ∧
 ∃ (s136 : ByteArray),
 w'132.cell? (Addr.mk b4 2 none) = some (Value.string s136) ∧
 R (Ending.returned (Value.tuple #[Value.agg #[Value.int IntKind.i64 n134, Value.int IntKind.i64 n135, Value.string s136], Value.int IntKind.i64 n128])) w'132) ∧
 ((↑n116 : Int) ≠ 1 →
 ∃ (n138 : Int),
 w'16.cell? (Addr.mk b1 0 none) = some (Value.int IntKind.i64 n138) ∧
 (0 : Int) ≤ 0 ∧
 (0 : Int) < 2 ∧
 ∃ (n139 : Int),
 w'16.cell? (Addr.mk b7 0 none) = some (Value.int IntKind.i64 n139) ∧
 ∃ (n140 : Int),
 w'16.cell? (Addr.mk b7 1 none) = some (Value.int IntKind.i64 n140) ∧
 ∃ (s141 : ByteArray),
 w'16.cell? (Addr.mk b7 2 none) = some (Value.string s141) ∧
 (0 : Int) ≤ 1 ∧
 (1 : Int) < 2 ∧
 ∃ (n142 : Int),
 w'16.cell? (Addr.mk b7 3 none) = some (Value.int IntKind.i64 n142) ∧
 ∃ (n143 : Int),
 w'16.cell? (Addr.mk b7 4 none) = some (Value.int IntKind.i64 n143) ∧
 ∃ (s144 : ByteArray),
 w'16.cell? (Addr.mk b7 5 none) = some (Value.string s144) ∧
 Calls Tryd.prog 52
 #[Value.int IntKind.i64 n138, Value.agg #[Value.int IntKind.i64 n139, Value.int IntKind.i64 n140, Value.string s141],
 Value.agg #[Value.int IntKind.i64 n142, Value.int IntKind.i64 n143, Value.string s144]]
 w'16 fun (e145 : Ending) (w146 : World) ↦
 ∃ (n147 : Int),
 ∃ (n148 : Int),
 ∃ (s149 : ByteArray),
 ∃ (n150 : Int),
 e145 = Ending.returned (Value.tuple #[Value.agg #[Value.int IntKind.i64 n147, Value.int IntKind.i64 n148, Value.string s149], Value.int IntKind.i64 n150]) ∧
 (∃ (u151 : Value), w146.cell? (Addr.mk b4 0 none) = some u151) ∧
 w146.frozen? (Addr.mk b4 0 none) = false ∧
 (∃ (u152 : Value), w146.cell? (Addr.mk b4 1 none) = some u152) ∧
 w146.frozen? (Addr.mk b4 1 none) = false ∧
 (∃ (u153 : Value), w146.cell? (Addr.mk b4 2 none) = some u153) ∧
 w146.frozen? (Addr.mk b4 2 none) = false ∧
 ∀ (w'154 : World),
 Put w146 b4 0 [Value.int IntKind.i64 n147, Value.int IntKind.i64 n148, Value.string s149] w'154 →
 ∃ (n156 : Int),
 w'154.cell? (Addr.mk b4 0 none) = some (Value.int IntKind.i64 n156) ∧
 ∃ (n157 : Int),
 w'154.cell? (Addr.mk b4 1 none) = some (Value.int IntKind.i64 n157) ∧
 ∃ (s158 : ByteArray),
 w'154.cell? (Addr.mk b4 2 none) = some (Value.string s158) ∧
 R (Ending.returned (Value.tuple #[Value.agg #[Value.int IntKind.i64 n156, Value.int IntKind.i64 n157, Value.string s158], Value.int IntKind.i64 n150])) w'154))))

set_option maxRecDepth 100000 in
theorem xeval_eq (cols_p : Option Addr) (cols_n : Nat) (cols_c : Nat) (row_p : Option Addr) (row_n : Nat) (row_c : Nat) (x0 : Int) (x1 : ByteArray) (x2 : Int) (x3 : Int) (x4 : ByteArray) (x5_p : Option Addr) (x5_n : Nat) (x5_c : Nat) (w : World) (R : Ending → World → Prop) : xeval_T cols_p cols_n cols_c row_p row_n row_c x0 x1 x2 x3 x4 x5_p x5_n x5_c w R = vcFn Tryd.prog [] [] Tryd.f35 [Value.slice cols_p cols_n cols_c, Value.slice row_p row_n row_c, Value.agg
 #[Value.int IntKind.i64 x0, Value.string x1, Value.int IntKind.i64 x2, Value.int IntKind.i64 x3, Value.string x4,
 Value.slice x5_p x5_n x5_c]] w R := by kernel_rfl

set_option maxRecDepth 100000 in
theorem xeval_vc (cols_p : Option Addr) (cols_n : Nat) (cols_c : Nat) (row_p : Option Addr) (row_n : Nat) (row_c : Nat) (x0 : Int) (x1 : ByteArray) (x2 : Int) (x3 : Int) (x4 : ByteArray) (x5_p : Option Addr) (x5_n : Nat) (x5_c : Nat) (w : World) (R : Ending → World → Prop) (h : xeval_T cols_p cols_n cols_c row_p row_n row_c x0 x1 x2 x3 x4 x5_p x5_n x5_c w R) : Calls Tryd.prog 35 #[Value.slice cols_p cols_n cols_c, Value.slice row_p row_n row_c, Value.agg
 #[Value.int IntKind.i64 x0, Value.string x1, Value.int IntKind.i64 x2, Value.int IntKind.i64 x3, Value.string x4,
 Value.slice x5_p x5_n x5_c]] w R :=
  calls_of_vc (args := [Value.slice cols_p cols_n cols_c, Value.slice row_p row_n row_c, Value.agg
 #[Value.int IntKind.i64 x0, Value.string x1, Value.int IntKind.i64 x2, Value.int IntKind.i64 x3, Value.string x4,
 Value.slice x5_p x5_n x5_c]]) [] [] Tryd.mixed Tryd.func35 (cast (xeval_eq _ _ _ _ _ _ _ _ _ _ _ _ _ _ w R) h)

set_option maxRecDepth 100000 in
def xEval_T (cols_p : Option Addr) (cols_n : Nat) (cols_c : Nat) (row_p : Option Addr) (row_n : Nat) (row_c : Nat) (x0 : Int) (x1 : ByteArray) (x2 : Int) (x3 : Int) (x4 : ByteArray) (x5_p : Option Addr) (x5_n : Nat) (x5_c : Nat) (w : World) (R : Ending → World → Prop) : Prop :=
  ∀ (b1 : Nat) (w'2 : World),
 New w (Obj.cells #[Value.int IntKind.i64 x0, Value.string x1, Value.int IntKind.i64 x2, Value.int IntKind.i64 x3, Value.string x4, Value.slice x5_p x5_n x5_c] 29) b1
 w'2 →
 ∀ (b4 : Nat) (w'5 : World),
 New w'2 (Obj.cells #[Value.int IntKind.i64 0, Value.int IntKind.i64 0, Value.string (ByteArray.mk #[])] 26) b4 w'5 →
 ∃ (n7 : Int),
 w'5.cell? (Addr.mk b1 0 none) = some (Value.int IntKind.i64 n7) ∧
 ∃ (s8 : ByteArray),
 w'5.cell? (Addr.mk b1 1 none) = some (Value.string s8) ∧
 ∃ (n9 : Int),
 w'5.cell? (Addr.mk b1 2 none) = some (Value.int IntKind.i64 n9) ∧
 ∃ (n10 : Int),
 w'5.cell? (Addr.mk b1 3 none) = some (Value.int IntKind.i64 n10) ∧
 ∃ (s11 : ByteArray),
 w'5.cell? (Addr.mk b1 4 none) = some (Value.string s11) ∧
 ∃ (p12 : Option Addr),
 ∃ (n13 : Nat),
 ∃ (c14 : Nat),
 w'5.cell? (Addr.mk b1 5 none) = some (Value.slice p12 n13 c14) ∧
 Calls Tryd.prog 12
 #[Value.slice cols_p cols_n cols_c,
 Value.agg #[Value.int IntKind.i64 n7, Value.string s8, Value.int IntKind.i64 n9, Value.int IntKind.i64 n10, Value.string s11, Value.slice p12 n13 c14]]
 w'5 fun (e15 : Ending) (w16 : World) ↦
 ∃ (n17 : Int),
 ∃ (n18 : Int),
 e15 = Ending.returned (Value.tuple #[Value.int IntKind.i64 n17, Value.int IntKind.i64 n18]) ∧
 (n18 ≠ 0 →
 (∃ (u20 : Value), w16.cell? (Addr.mk b4 0 none) = some u20) ∧
 w16.frozen? (Addr.mk b4 0 none) = false ∧
 (∃ (u21 : Value), w16.cell? (Addr.mk b4 1 none) = some u21) ∧
 w16.frozen? (Addr.mk b4 1 none) = false ∧
 (∃ (u22 : Value), w16.cell? (Addr.mk b4 2 none) = some u22) ∧
 w16.frozen? (Addr.mk b4 2 none) = false ∧
 ∀ (w'23 : World),
 Put w16 b4 0 [Value.int IntKind.i64 0, Value.int IntKind.i64 0, Value.string (ByteArray.mk #[])] w'23 →
 ∃ (n25 : Int),
 w'23.cell? (Addr.mk b4 0 none) = some (Value.int IntKind.i64 n25) ∧
 ∃ (n26 : Int),
 w'23.cell? (Addr.mk b4 1 none) = some (Value.int IntKind.i64 n26) ∧
 ∃ (s27 : ByteArray),
 w'23.cell? (Addr.mk b4 2 none) = some (Value.string s27) ∧
 R (Ending.returned (Value.tuple #[Value.agg #[Value.int IntKind.i64 n25, Value.int IntKind.i64 n26, Value.string s27], Value.int IntKind.i64 n18])) w'23) ∧
 (n18 = 0 →
 Calls Tryd.prog 34 #[Value.slice cols_p cols_n cols_c, Value.slice row_p row_n row_c] w16 fun (e29 : Ending) (w30 : World) ↦
 ∃ (b31 : Bool),
 e29 = Ending.returned (Value.bool b31) ∧
 (b31 = false →
 (∃ (u33 : Value), w30.cell? (Addr.mk b4 0 none) = some u33) ∧
 w30.frozen? (Addr.mk b4 0 none) = false ∧
 (∃ (u34 : Value), w30.cell? (Addr.mk b4 1 none) = some u34) ∧
 w30.frozen? (Addr.mk b4 1 none) = false ∧
 (∃ (u35 : Value), w30.cell? (Addr.mk b4 2 none) = some u35) ∧
 w30.frozen? (Addr.mk b4 2 none) = false ∧
 ∀ (w'36 : World),
 Put w30 b4 0 [Value.int IntKind.i64 0, Value.int IntKind.i64 0, Value.string (ByteArray.mk #[])] w'36 →
 ∃ (n38 : Int),
 w'36.cell? (Addr.mk b4 0 none) = some (Value.int IntKind.i64 n38) ∧
 ∃ (n39 : Int),
 w'36.cell? (Addr.mk b4 1 none) = some (Value.int IntKind.i64 n39) ∧
 ∃ (s40 : ByteArray),
 w'36.cell? (Addr.mk b4 2 none) = some (Value.string s40) ∧
 R (Ending.returned (Value.tuple #[Value.agg #[Value.int IntKind.i64 n38, Value.int IntKind.i64 n39, Value.string s40], Value.int IntKind.i64 2])) w'36) ∧
 (b31 = true →
 ∃ (n42 : Int),
 w30.cell? (Addr.mk b1 0 none) = some (Value.int IntKind.i64 n42) ∧
 ∃ (s43 : ByteArray),
 w30.cell? (Addr.mk b1 1 none) = some (Value.string s43) ∧
 ∃ (n44 : Int),
 w30.cell? (Addr.mk b1 2 none) = some (Value.int IntKind.i64 n44) ∧
 ∃ (n45 : Int),
 w30.cell? (Addr.mk b1 3 none) = some (Value.int IntKind.i64 n45) ∧
 ∃ (s46 : ByteArray),
 w30.cell? (Addr.mk b1 4 none) = some (Value.string s46) ∧
 ∃ (p47 : Option Addr),
 ∃ (n48 : Nat),
 ∃ (c49 : Nat),
 w30.cell? (Addr.mk b1 5 none) = some (Value.slice p47 n48 c49) ∧
 Calls Tryd.prog 35
 #[Value.slice cols_p cols_n cols_c, Value.slice row_p row_n row_c,
 Value.agg #[Value.int IntKind.i64 n42, Value.string s43, Value.int IntKind.i64 n44, Value.int IntKind.i64 n45, Value.string s46, Value.slice p47 n48 c49]]
 w30 fun (e50 : Ending) (w51 : World) ↦
 ∃ (n52 : Int),
 ∃ (n53 : Int),
 ∃ (s54 : ByteArray),
 ∃ (n55 : Int),
 e50 = Ending.returned (Value.tuple #[Value.agg #[Value.int IntKind.i64 n52, Value.int IntKind.i64 n53, Value.string s54], Value.int IntKind.i64 n55]) ∧
 (∃ (u56 : Value), w51.cell? (Addr.mk b4 0 none) = some u56) ∧
 w51.frozen? (Addr.mk b4 0 none) = false ∧
 (∃ (u57 : Value), w51.cell? (Addr.mk b4 1 none) = some u57) ∧
 w51.frozen? (Addr.mk b4 1 none) = false ∧
 (∃ (u58 : Value), w51.cell? (Addr.mk b4 2 none) = some u58) ∧
 w51.frozen? (Addr.mk b4 2 none) = false ∧
 ∀ (w'59 : World),
 Put w51 b4 0 [Value.int IntKind.i64 n52, Value.int IntKind.i64 n53, Value.string s54] w'59 →
 ∃ (n61 : Int),
 w'59.cell? (Addr.mk b4 0 none) = some (Value.int IntKind.i64 n61) ∧
 ∃ (n62 : Int),
 w'59.cell? (Addr.mk b4 1 none) = some (Value.int IntKind.i64 n62) ∧
 ∃ (s63 : ByteArray),
 w'59.cell? (Addr.mk b4 2 none) = some (Value.string s63) ∧
 R (Ending.returned (Value.tuple #[Value.agg #[Value.int IntKind.i64 n61, Value.int IntKind.i64 n62, Value.string s63], Value.int IntKind.i64 n55])) w'59))

set_option maxRecDepth 100000 in
theorem xEval_eq (cols_p : Option Addr) (cols_n : Nat) (cols_c : Nat) (row_p : Option Addr) (row_n : Nat) (row_c : Nat) (x0 : Int) (x1 : ByteArray) (x2 : Int) (x3 : Int) (x4 : ByteArray) (x5_p : Option Addr) (x5_n : Nat) (x5_c : Nat) (w : World) (R : Ending → World → Prop) : xEval_T cols_p cols_n cols_c row_p row_n row_c x0 x1 x2 x3 x4 x5_p x5_n x5_c w R = vcFn Tryd.prog [] [] Tryd.f16 [Value.slice cols_p cols_n cols_c, Value.slice row_p row_n row_c, Value.agg
 #[Value.int IntKind.i64 x0, Value.string x1, Value.int IntKind.i64 x2, Value.int IntKind.i64 x3, Value.string x4,
 Value.slice x5_p x5_n x5_c]] w R := by kernel_rfl

set_option maxRecDepth 100000 in
theorem xEval_vc (cols_p : Option Addr) (cols_n : Nat) (cols_c : Nat) (row_p : Option Addr) (row_n : Nat) (row_c : Nat) (x0 : Int) (x1 : ByteArray) (x2 : Int) (x3 : Int) (x4 : ByteArray) (x5_p : Option Addr) (x5_n : Nat) (x5_c : Nat) (w : World) (R : Ending → World → Prop) (h : xEval_T cols_p cols_n cols_c row_p row_n row_c x0 x1 x2 x3 x4 x5_p x5_n x5_c w R) : Calls Tryd.prog 16 #[Value.slice cols_p cols_n cols_c, Value.slice row_p row_n row_c, Value.agg
 #[Value.int IntKind.i64 x0, Value.string x1, Value.int IntKind.i64 x2, Value.int IntKind.i64 x3, Value.string x4,
 Value.slice x5_p x5_n x5_c]] w R :=
  calls_of_vc (args := [Value.slice cols_p cols_n cols_c, Value.slice row_p row_n row_c, Value.agg
 #[Value.int IntKind.i64 x0, Value.string x1, Value.int IntKind.i64 x2, Value.int IntKind.i64 x3, Value.string x4,
 Value.slice x5_p x5_n x5_c]]) [] [] Tryd.mixed Tryd.func16 (cast (xEval_eq _ _ _ _ _ _ _ _ _ _ _ _ _ _ w R) h)


end Go.Proofs.YtdephmdfdgclpaaDoor

/- Stable sorts, as plain laws of lists: a list that is in order, and in which those that stand alike come as they came, is one alone. -/
namespace Go.Vc

/-- A comparator: turned round its sign turns; it is transitive. -/
structure Cmp {α : Type} (c : α → α → Int) : Prop where
  anti : ∀ x y, c y x = - c x y
  trans : ∀ x y z, c x y ≤ 0 → c y z ≤ 0 → c x z ≤ 0

section
variable {α : Type} {c : α → α → Int}

theorem Cmp.self (h : Cmp c) (x : α) : c x x = 0 := by have := h.anti x x; omega
theorem Cmp.lt_of (h : Cmp c) {x y z : α} (a : c x y < 0) (b : c y z ≤ 0) : c x z < 0 := by
  have := h.trans x y z (by omega) b
  rcases Int.lt_or_eq_of_le this with h1 | h1
  · exact h1
  · have h2 := h.anti x z
    have h3 := h.trans y z x b (by omega)
    have h4 := h.anti x y
    omega
theorem Cmp.of_lt (h : Cmp c) {x y z : α} (a : c x y ≤ 0) (b : c y z < 0) : c x z < 0 := by
  have := h.trans x y z a (by omega)
  rcases Int.lt_or_eq_of_le this with h1 | h1
  · exact h1
  · have h2 := h.anti x z
    have h3 := h.trans z x y (by omega) a
    have h4 := h.anti y z
    omega
theorem Cmp.eq_trans (h : Cmp c) {x y z : α} (a : c x y = 0) (b : c y z = 0) : c x z = 0 := by
  have h1 := h.trans x y z (by omega) (by omega)
  have h2 := h.anti x y
  have h3 := h.anti y z
  have h4 := h.trans z y x (by omega) (by omega)
  have h5 := h.anti x z
  omega
theorem Cmp.eq_symm (h : Cmp c) {x y : α} (a : c x y = 0) : c y x = 0 := by have := h.anti x y; omega

def Ord (c : α → α → Int) (l : List α) : Prop := l.Pairwise fun x y => c x y ≤ 0
/-- Those of a list that stand as z does. -/
def cls (c : α → α → Int) (z : α) (l : List α) : List α := l.filter fun x => decide (c z x = 0)
def SameF (c : α → α → Int) (xs ys : List α) : Prop := ∀ z, cls c z xs = cls c z ys
/-- ys is xs in order, and stable. -/
structure Stab (c : α → α → Int) (xs ys : List α) : Prop where
  ord : Ord c ys
  same : SameF c xs ys

theorem cls_append (z : α) (a b : List α) : cls c z (a ++ b) = cls c z a ++ cls c z b := by simp [cls]
theorem SameF.rfl {a : List α} : SameF c a a := fun _ => Eq.refl _
theorem SameF.symm {a b : List α} (h : SameF c a b) : SameF c b a := fun z => (h z).symm
theorem SameF.trans {a b d : List α} (h : SameF c a b) (k : SameF c b d) : SameF c a d := fun z => (h z).trans (k z)
theorem SameF.app {a b d e : List α} (h : SameF c a b) (k : SameF c d e) : SameF c (a ++ d) (b ++ e) := fun z => by rw [cls_append, cls_append, h z, k z]
/-- Two blocks, no two of which stand alike, change places. -/
theorem SameF.swap (hc : Cmp c) {u v : List α} (h : ∀ x ∈ u, ∀ y ∈ v, c x y ≠ 0) : SameF c (u ++ v) (v ++ u) := by
  intro z
  rw [cls_append, cls_append]
  by_cases hu : cls c z u = []
  · rw [hu]; simp
  · by_cases hv : cls c z v = []
    · rw [hv]; simp
    · exfalso
      obtain ⟨x, hx⟩ := List.exists_mem_of_ne_nil _ hu
      obtain ⟨y, hy⟩ := List.exists_mem_of_ne_nil _ hv
      simp only [cls, List.mem_filter, decide_eq_true_eq] at hx hy
      exact h x hx.1 y hy.1 (hc.eq_trans (hc.eq_symm hx.2) hy.2)
theorem SameF.mem (hc : Cmp c) {a b : List α} (h : SameF c a b) {x : α} : x ∈ a ↔ x ∈ b := by
  have key : ∀ l : List α, x ∈ l ↔ x ∈ cls c x l := fun l => by simp [cls, hc.self]
  rw [key a, key b, h x]
theorem cls_split {z x : α} : ∀ {b r : List α}, cls c z b = x :: r → ∃ s t, b = s ++ x :: t ∧ cls c z s = []
  | [], r, h => by simp [cls] at h
  | y :: b, r, h => by
    by_cases hy : c z y = 0
    · have e1 : cls c z (y :: b) = y :: cls c z b := by simp [cls, hy]
      rw [e1] at h
      cases h
      exact ⟨[], b, rfl, rfl⟩
    · have e1 : ∀ l : List α, cls c z (y :: l) = cls c z l := fun l => by simp [cls, hy]
      rw [e1] at h
      obtain ⟨s, t, rfl, hs⟩ := cls_split h
      exact ⟨y :: s, t, rfl, by rw [e1, hs]⟩
theorem SameF.length (hc : Cmp c) : ∀ {a b : List α}, SameF c a b → a.length = b.length
  | [], b, h => by
    cases b with
    | nil => rfl
    | cons y b => have := (SameF.mem hc h (x := y)).2 (by simp); cases this
  | x :: a, b, h => by
    have hx := h x
    have e1 : cls c x (x :: a) = x :: cls c x a := by simp [cls, hc.self]
    rw [e1] at hx
    obtain ⟨s, t, rfl, hs⟩ := cls_split hx.symm
    have h2 : SameF c (s ++ x :: t) (x :: (s ++ t)) := by
      have : SameF c (s ++ [x] ++ t) ([x] ++ s ++ t) := by
        refine SameF.app (SameF.swap hc fun p hp q hq e => ?_) .rfl
        simp at hq; subst hq
        have : p ∈ cls c q s := by simp [cls, hp, hc.eq_symm e]
        rw [hs] at this; cases this
      simpa using this
    have h3 := h.trans h2
    have h4 : SameF c a (s ++ t) := by
      intro z
      have hz := h3 z
      by_cases hzx : c z x = 0
      · have e1 : ∀ l : List α, cls c z (x :: l) = x :: cls c z l := fun l => by simp [cls, hzx]
        rw [e1, e1] at hz
        exact (List.cons.inj hz).2
      · have e1 : ∀ l : List α, cls c z (x :: l) = cls c z l := fun l => by simp [cls, hzx]
        rwa [e1, e1] at hz
    have := SameF.length hc h4
    simp only [List.length_append, List.length_cons] at this ⊢
    omega

/-- There is one such list alone. -/
theorem Ord.unique (hc : Cmp c) : ∀ {a b : List α}, Ord c a → Ord c b → SameF c a b → a = b
  | [], b, _, _, h => by
    cases b with
    | nil => rfl
    | cons y b => have := (SameF.mem hc h (x := y)).2 (by simp); cases this
  | x :: a, [], _, _, h => by have := (SameF.mem hc h (x := x)).1 (by simp); cases this
  | x :: a, y :: b, ha, hb, h => by
    have hxb : x ∈ y :: b := (SameF.mem hc h).1 (by simp)
    have hya : y ∈ x :: a := (SameF.mem hc h).2 (by simp)
    have h1 : c y x ≤ 0 := by
      rcases List.mem_cons.1 hxb with rfl | hm
      · rw [hc.self]; exact Int.le_refl 0
      · exact (List.pairwise_cons.1 hb).1 x hm
    have h2 : c x y ≤ 0 := by
      rcases List.mem_cons.1 hya with rfl | hm
      · rw [hc.self]; exact Int.le_refl 0
      · exact (List.pairwise_cons.1 ha).1 y hm
    have h3 := hc.anti x y
    have h0 : c x y = 0 := by omega
    have hx := h x
    have e1 : cls c x (x :: a) = x :: cls c x a := by simp [cls, hc.self]
    have e2 : cls c x (y :: b) = y :: cls c x b := by simp [cls, h0]
    rw [e1, e2] at hx
    have hxy : x = y := (List.cons.inj hx).1
    subst hxy
    congr 1
    refine Ord.unique hc (List.pairwise_cons.1 ha).2 (List.pairwise_cons.1 hb).2 fun z => ?_
    have hz := h z
    by_cases hzx : c z x = 0
    · have e1 : ∀ l : List α, cls c z (x :: l) = x :: cls c z l := fun l => by simp [cls, hzx]
      rw [e1, e1] at hz
      exact (List.cons.inj hz).2
    · have e1 : ∀ l : List α, cls c z (x :: l) = cls c z l := fun l => by simp [cls, hzx]
      rwa [e1, e1] at hz
theorem Stab.unique (hc : Cmp c) {xs ys zs : List α} (h : Stab c xs ys) (k : Stab c xs zs) : ys = zs := Ord.unique hc h.ord k.ord (h.same.symm.trans k.same)
theorem Stab.mem (hc : Cmp c) {xs ys : List α} (h : Stab c xs ys) {x : α} : x ∈ ys ↔ x ∈ xs := (SameF.mem hc h.same).symm
theorem Stab.length (hc : Cmp c) {xs ys : List α} (h : Stab c xs ys) : ys.length = xs.length := (SameF.length hc h.same).symm
theorem Ord.stab {xs : List α} (h : Ord c xs) : Stab c xs xs := ⟨h, .rfl⟩

/-! ### Insertion -/
/-- x is put behind all that do not stand behind it, from the end. -/
theorem Stab.insert (hc : Cmp c) {xs m1 m2 : List α} {x : α} (h : Stab c xs (m1 ++ m2)) (h1 : ∀ y, m1.getLast? = some y → ¬ c x y < 0) (h2 : ∀ y ∈ m2, c x y < 0) : Stab c (xs ++ [x]) (m1 ++ [x] ++ m2) := by
  have ho := List.pairwise_append.1 h.ord
  refine ⟨?_, ?_⟩
  · refine List.pairwise_append.2 ⟨List.pairwise_append.2 ⟨ho.1, by simp, fun a ha b hb => ?_⟩, ho.2.1, fun a ha b hb => ?_⟩
    · simp at hb; subst hb
      obtain ⟨l, y, rfl⟩ : ∃ l y, m1 = l ++ [y] := ⟨m1.dropLast, m1.getLast (by intro e; subst e; cases ha), (List.dropLast_concat_getLast _).symm⟩
      have hy := h1 y (by simp)
      have h3 := hc.anti b y
      rcases List.mem_append.1 ha with ha | ha
      · have := (List.pairwise_append.1 ho.1).2.2 a ha y (by simp)
        exact hc.trans a y b this (by omega)
      · simp at ha; subst ha; omega
    · rcases List.mem_append.1 ha with ha | ha
      · exact ho.2.2 a ha b hb
      · simp at ha; subst ha
        have := h2 b hb; omega
  · refine (SameF.app h.same .rfl).trans ?_
    rw [List.append_assoc, List.append_assoc]
    refine SameF.app .rfl (SameF.swap hc fun a ha b hb e => ?_)
    simp at hb; subst hb
    have := h2 a ha
    have h3 := hc.anti b a
    omega
/-- Two lists in order, put together: the lesser halves, the greater halves. -/
theorem Stab.halves (hc : Cmp c) {a1 u v b2 r1 r2 : List α} (ha : Ord c (a1 ++ u)) (hb : Ord c (v ++ b2)) (h1 : ∀ x ∈ u, ∀ y ∈ v, c y x < 0) (h2 : ∀ x ∈ a1, ∀ y ∈ b2, c x y ≤ 0)
    (k1 : Stab c (a1 ++ v) r1) (k2 : Stab c (u ++ b2) r2) : Stab c ((a1 ++ u) ++ (v ++ b2)) (r1 ++ r2) := by
  have hA := List.pairwise_append.1 ha
  have hB := List.pairwise_append.1 hb
  refine ⟨List.pairwise_append.2 ⟨k1.ord, k2.ord, fun x hx y hy => ?_⟩, ?_⟩
  · have hx := (k1.mem hc).1 hx
    have hy := (k2.mem hc).1 hy
    rcases List.mem_append.1 hx with hx | hx <;> rcases List.mem_append.1 hy with hy | hy
    · exact hA.2.2 x hx y hy
    · exact h2 x hx y hy
    · have := h1 y hy x hx; omega
    · exact hB.2.2 x hx y hy
  · have e : SameF c ((a1 ++ u) ++ (v ++ b2)) ((a1 ++ v) ++ (u ++ b2)) := by
      have : SameF c (u ++ v) (v ++ u) := SameF.swap hc fun x hx y hy e => by have := h1 x hx y hy; have := hc.anti x y; omega
      have h3 : SameF c (a1 ++ ((u ++ v) ++ b2)) (a1 ++ ((v ++ u) ++ b2)) := SameF.app .rfl (SameF.app this .rfl)
      simpa [List.append_assoc] using h3
    exact e.trans (SameF.app k1.same k2.same)
/-- In order already. -/
theorem Ord.app {a b : List α} (ha : Ord c a) (hb : Ord c b) (h : ∀ x ∈ a, ∀ y ∈ b, c x y ≤ 0) : Ord c (a ++ b) := List.pairwise_append.2 ⟨ha, hb, h⟩
theorem Ord.left {a b : List α} (h : Ord c (a ++ b)) : Ord c a := (List.pairwise_append.1 h).1
theorem Ord.right {a b : List α} (h : Ord c (a ++ b)) : Ord c b := (List.pairwise_append.1 h).2.1
theorem Ord.get (hc : Cmp c) {l : List α} (h : Ord c l) {i j : Nat} (hij : i ≤ j) {x y : α} (hx : l[i]? = some x) (hy : l[j]? = some y) : c x y ≤ 0 := by
  rcases Nat.lt_or_eq_of_le hij with hlt | rfl
  · obtain ⟨hi, rfl⟩ := List.getElem?_eq_some_iff.1 hx
    obtain ⟨hj, rfl⟩ := List.getElem?_eq_some_iff.1 hy
    exact List.pairwise_iff_getElem.1 h i j hi hj hlt
  · rw [hx] at hy; cases hy; rw [hc.self]; exact Int.le_refl 0
end
end Go.Vc

/- What lies in memory, in the words of the contracts: values in a row, blocks and rows of one's own, what each step leaves as it was. -/
namespace Go.Vc
open Go Go.RowKit

/-! ### Steps -/
/-- All that was there is as it was. -/
def Ext (w w' : World) : Prop := Below w.heap.size w w'

theorem Ext.below {w w' : World} (h : Ext w w') : Below w.heap.size w w' := h
theorem Ext.size {w w' : World} (h : Ext w w') : w.heap.size ≤ w'.heap.size := h.below.size
theorem Ext.block {w w' : World} (h : Ext w w') (k : Nat) (hk : k < w.heap.size) : w'.heap[k]? = w.heap[k]? := h.below.block k hk
theorem Ext.rfl {w : World} : Ext w w := Below.refl _ _
theorem Ext.trans {a b c : World} (h : Ext a b) (k : Ext b c) : Ext a c := h.below.trans (k.below.mono h.size)
theorem Ext.same {w w' : World} (h : Ext w w') : Same w w' := h.block
theorem _root_.Go.RowKit.Below.ext {B : Nat} {a w w' : World} (h : Below B a w) (k : Ext w w') (hB : B ≤ w.heap.size) : Below B a w' := h.trans (k.below.mono hB)
theorem _root_.Go.RowKit.Below.cast {B B' : Nat} {a w : World} (h : Below B a w) (e : B = B') : Below B' a w := e ▸ h

/-- All is as it was but for block b. -/
structure But (b : Nat) (w w' : World) : Prop where
  os : w'.os = w.os
  tape : w'.tape = w.tape
  output : w'.output = w.output
  size : w.heap.size ≤ w'.heap.size
  block : ∀ k, k < w.heap.size → k ≠ b → w'.heap[k]? = w.heap[k]?

theorem Ext.but {w w' : World} (h : Ext w w') (b : Nat) : But b w w' := ⟨h.below.os, h.below.tape, h.below.output, h.size, fun k hk _ => h.block k hk⟩
theorem But.trans {b : Nat} {x y z : World} (h : But b x y) (k : But b y z) : But b x z :=
  ⟨k.os.trans h.os, k.tape.trans h.tape, k.output.trans h.output, Nat.le_trans h.size k.size, fun i hi hne => (k.block i (Nat.lt_of_lt_of_le hi h.size) hne).trans (h.block i hi hne)⟩
theorem _root_.Go.RowKit.Below.but {B b : Nat} {a w w' : World} (h : Below B a w) (k : But b w w') (hb : B ≤ b) (hB : B ≤ w.heap.size) : Below B a w' :=
  h.trans ⟨k.os, k.tape, k.output, k.size, fun i hi => k.block i (by omega) (by omega)⟩

theorem New.ext {w w' : World} {o : Obj} {b : Nat} (h : New w o b w') : Ext w w' := by rw [h.2]; exact (Below.refl _ w).alloc (Nat.le_refl _) o
theorem New.size {w w' : World} {o : Obj} {b : Nat} (h : New w o b w') : b = w.heap.size ∧ w'.heap.size = w.heap.size + 1 := ⟨h.1, by rw [h.2]; simp⟩
theorem New.obj {w w' : World} {o : Obj} {b : Nat} (h : New w o b w') : w'.heap[b]? = some o := by rw [h.2, h.1]; exact World.alloc_heap_new w o
theorem Drew.ext {w w' : World} (h : Drew w w') : Ext w w' := by rw [h]; exact (Below.refl _ w).drew
theorem Drew.size {w w' : World} (h : Drew w w') : w'.heap.size = w.heap.size := by rw [h]; rfl
theorem drew_ext (w : World) : Ext w w.drew := (Below.refl _ w).drew

theorem setL_but : ∀ (vs : List Value) (b o j : Nat) (w : World), But b w (setL vs b o j w) ∧ (setL vs b o j w).heap.size = w.heap.size
  | [], _, _, _, w => ⟨⟨rfl, rfl, rfl, Nat.le_refl _, fun _ _ _ => rfl⟩, rfl⟩
  | v :: vs, b, o, j, w => by
    obtain ⟨h, hs⟩ := setL_but vs b o (j + 1) (w.setCell ⟨b, off o j, none⟩ v)
    have h1 : But b w (w.setCell ⟨b, off o j, none⟩ v) := ⟨rfl, rfl, rfl, by simp [World.setCell], fun k _ hne => Below.heap_setCell w _ v k hne⟩
    exact ⟨h1.trans h, by rw [setL, hs]; simp [World.setCell]⟩
theorem Put.but {w w' : World} {b o : Nat} {vs : List Value} (h : Put w b o vs w') : But b w w' := by rw [h]; exact (setL_but vs b o 0 w).1
theorem Put.size {w w' : World} {b o : Nat} {vs : List Value} (h : Put w b o vs w') : w'.heap.size = w.heap.size := by rw [h]; exact (setL_but vs b o 0 w).2
theorem grown_but {w w' : World} {b o n c : Nat} (h : w.grownBy w' (Value.slice (some ⟨b, o, none⟩) n c).ownBlock) : But b w w' := ⟨h.os, h.tape, h.output, h.size, fun k hk hne => h.block k hk (by intro e; cases e; exact hne rfl)⟩
theorem grown_nil {w w' : World} {n c : Nat} (h : w.grownBy w' (Value.slice none n c).ownBlock) : Ext w w' := ⟨h.os, h.tape, h.output, h.size, fun k hk => h.block k hk (by intro e; cases e)⟩

theorem turn_but {r : Nat → Loop} {l k : Nat} {w : World} : But l w (turn r l k w) ∧ (turn r l k w).heap.size = w.heap.size :=
  ⟨⟨rfl, rfl, rfl, by simp [turn], fun i _ hne => World.putObj_heap_other hne⟩, by simp [turn]⟩
theorem Rec.lt {r : Nat → Loop} {l k : Nat} {w : World} (h : Rec r l k w) : l < w.heap.size := (Array.getElem?_eq_some_iff.1 h).1
theorem Rec.turn {r : Nat → Loop} {l k : Nat} {w : World} (h : Rec r l k w) (k' : Nat) : Rec r l k' (turn r l k' w) := World.putObj_heap_same h.lt
theorem Rec.ext {r : Nat → Loop} {l k : Nat} {w w' : World} (h : Rec r l k w) (e : Ext w w') : Rec r l k w' := (e.block l h.lt).trans h
theorem Rec.but {r : Nat → Loop} {l k b : Nat} {w w' : World} (h : Rec r l k w) (e : But b w w') (hne : l ≠ b) : Rec r l k w' := (e.block l h.lt hne).trans h

theorem Began.ext {w w1 : World} {r : Nat → Loop} {d l : Nat} (h : Began w r d l w1) : Ext w w1 := by
  rw [h.2.2]; exact ((Below.refl _ w).alloc (Nat.le_refl _) _).alloc (by simp) _
theorem Began.sizes {w w1 : World} {r : Nat → Loop} {d l : Nat} (h : Began w r d l w1) : d = w.heap.size ∧ l = w.heap.size + 1 ∧ w1.heap.size = w.heap.size + 2 := ⟨h.1, h.2.1, by rw [h.2.2]; simp⟩
theorem Began.rec {w w1 : World} {r : Nat → Loop} {d l : Nat} (h : Began w r d l w1) : Rec r l 0 w1 := by
  unfold Rec
  rw [h.2.2, h.2.1]
  have := World.alloc_heap_new (w.alloc (.deferred (some []))) (.loop (r 0))
  rwa [World.size_alloc] at this
/-- The block for deferred calls is open. -/
def Dfr (d : Nat) (w : World) : Prop := w.heap[d]? = some (.deferred (some []))
theorem Began.dfr {w w1 : World} {r : Nat → Loop} {d l : Nat} (h : Began w r d l w1) : Dfr d w1 := by
  unfold Dfr
  rw [h.2.2, h.1]
  rw [Below.heap_alloc _ _ _ (by simp)]
  exact World.alloc_heap_new w _
theorem Dfr.lt {d : Nat} {w : World} (h : Dfr d w) : d < w.heap.size := (Array.getElem?_eq_some_iff.1 h).1
theorem Dfr.ext {d : Nat} {w w' : World} (h : Dfr d w) (e : Ext w w') : Dfr d w' := (e.block d h.lt).trans h
theorem Dfr.but {d b : Nat} {w w' : World} (h : Dfr d w) (e : But b w w') (hne : d ≠ b) : Dfr d w' := (e.block d h.lt hne).trans h
theorem shut_but {d : Nat} {w : World} : But d w (w.putObj d (.deferred none)) ∧ (w.putObj d (.deferred none)).heap.size = w.heap.size :=
  ⟨⟨rfl, rfl, rfl, by simp, fun i _ hne => World.putObj_heap_other hne⟩, by simp⟩

/-! ### Blocks -/
/-- Block b holds the cells cs, and none of them is frozen. -/
def Blk (w : World) (b : Nat) (t : TypeId) (cs : Array Value) : Prop := w.heap[b]? = some (.cells cs t (0, 0))

theorem Blk.new {w w' : World} {b : Nat} {t : TypeId} {cs : Array Value} (h : New w (.cells cs t) b w') : Blk w' b t cs := h.obj
theorem Blk.lt {w : World} {b : Nat} {t : TypeId} {cs : Array Value} (h : Blk w b t cs) : b < w.heap.size := (Array.getElem?_eq_some_iff.1 h).1
theorem Blk.ext {w w' : World} {b : Nat} {t : TypeId} {cs : Array Value} (h : Blk w b t cs) (e : Ext w w') : Blk w' b t cs := (e.block b h.lt).trans h
theorem Blk.but {w w' : World} {b b' : Nat} {t : TypeId} {cs : Array Value} (h : Blk w b t cs) (e : But b' w w') (hne : b ≠ b') : Blk w' b t cs := (e.block b h.lt hne).trans h
theorem Blk.cell {w : World} {b : Nat} {t : TypeId} {cs : Array Value} (h : Blk w b t cs) (i : Nat) : w.cell? ⟨b, i, none⟩ = cs[i]? := by
  unfold World.cell?
  rw [show w.heap[b]? = _ from h]
  simp
/-- The one cell of a box. -/
theorem Blk.one {w : World} {b : Nat} {t : TypeId} {v : Value} (h : Blk w b t #[v]) : w.cell? ⟨b, 0, none⟩ = some v := by rw [h.cell]; rfl
theorem Blk.frozen {w : World} {b : Nat} {t : TypeId} {cs : Array Value} (h : Blk w b t cs) (i : Nat) : w.frozen? ⟨b, i, none⟩ = false := by
  unfold World.frozen?
  rw [show w.heap[b]? = _ from h]
  simp
theorem Blk.set {w : World} {b : Nat} {t : TypeId} {cs : Array Value} (h : Blk w b t cs) (i : Nat) (v : Value) : Blk (w.setCell ⟨b, i, none⟩ v) b t (cs.setIfInBounds i v) := by
  unfold Blk World.setCell
  rw [Array.getElem?_modify, if_pos rfl, show w.heap[b]? = _ from h]
  simp
def setA : Array Value → Nat → List Value → Array Value
  | cs, _, [] => cs
  | cs, i, v :: vs => setA (cs.setIfInBounds i v) (i + 1) vs
theorem off_succ (o j : Nat) : off o (j + 1) = off o j + 1 := by cases j <;> rfl
theorem Blk.setL : ∀ (vs : List Value) {w : World} {b : Nat} {t : TypeId} {cs : Array Value} (o j : Nat), Blk w b t cs → Blk (setL vs b o j w) b t (setA cs (off o j) vs)
  | [], _, _, _, _, _, _, h => h
  | v :: vs, w, b, t, cs, o, j, h => by
    have := Blk.setL vs o (j + 1) (h.set (off o j) v)
    rw [off_succ] at this
    exact this
theorem Blk.put {w w' : World} {b : Nat} {t : TypeId} {cs : Array Value} {o : Nat} {vs : List Value} (h : Blk w b t cs) (p : Put w b o vs w') : Blk w' b t (setA cs o vs) := by
  rw [p]; exact Blk.setL vs o 0 h
theorem Blk.put1 {w w' : World} {b : Nat} {t : TypeId} {cs : Array Value} {o : Nat} {v : Value} (h : Blk w b t cs) (p : Put w b o [v] w') : Blk w' b t (cs.setIfInBounds o v) := h.put p
theorem Blk.box {w w' : World} {b : Nat} {t : TypeId} {u v : Value} (h : Blk w b t #[u]) (p : Put w b 0 [v] w') : Blk w' b t #[v] := h.put p
theorem Blk.ne_rec {w : World} {b l k : Nat} {t : TypeId} {cs : Array Value} {r : Nat → Loop} (h : Blk w b t cs) (k' : Rec r l k w) : b ≠ l := by
  intro e; subst e; unfold Blk at h; unfold Rec at k'; rw [h] at k'; cases k'
theorem Blk.ne_dfr {w : World} {b d : Nat} {t : TypeId} {cs : Array Value} (h : Blk w b t cs) (k' : Dfr d w) : b ≠ d := by
  intro e; subst e; unfold Blk at h; unfold Dfr at k'; rw [h] at k'; cases k'
theorem Rec.ne_dfr {w : World} {l k d : Nat} {r : Nat → Loop} (h : Rec r l k w) (k' : Dfr d w) : l ≠ d := by
  intro e; subst e; unfold Rec at h; unfold Dfr at k'; rw [h] at k'; cases k'

/-! ### Values in a row -/
/-- The values vs lie at p, one behind the other. -/
def At (w : World) (p : Option Addr) (vs : List Value) : Prop :=
  vs = [] ∨ ∃ b o, p = some ⟨b, o, none⟩ ∧ ∀ i v, vs[i]? = some v → w.cell? ⟨b, o + i, none⟩ = some v

/-- Bytes as values. -/
def vB (l : List UInt8) : List Value := l.map fun x => .int .u8 ((x.toNat : Nat) : Int)
/-- Integers of a kind as values. -/
def vI (k : IntKind) (l : List Int) : List Value := l.map fun x => .int k x

theorem vB_length (l : List UInt8) : (vB l).length = l.length := by simp [vB]
theorem vI_length (k : IntKind) (l : List Int) : (vI k l).length = l.length := by simp [vI]
theorem vB_append (a b : List UInt8) : vB (a ++ b) = vB a ++ vB b := by simp [vB]
theorem vI_append (k : IntKind) (a b : List Int) : vI k (a ++ b) = vI k a ++ vI k b := by simp [vI]
theorem vB_one {l : List UInt8} : ∀ u ∈ vB l, u.oneCell' = true := by intro u hu; obtain ⟨x, _, rfl⟩ := List.mem_map.1 hu; rfl
theorem vI_one {k : IntKind} {l : List Int} : ∀ u ∈ vI k l, u.oneCell' = true := by intro u hu; obtain ⟨x, _, rfl⟩ := List.mem_map.1 hu; rfl
theorem vB_take (l : List UInt8) (n : Nat) : (vB l).take n = vB (l.take n) := by simp [vB]
theorem vB_drop (l : List UInt8) (n : Nat) : (vB l).drop n = vB (l.drop n) := by simp [vB]
theorem vI_take (k : IntKind) (l : List Int) (n : Nat) : (vI k l).take n = vI k (l.take n) := by simp [vI]
theorem vI_drop (k : IntKind) (l : List Int) (n : Nat) : (vI k l).drop n = vI k (l.drop n) := by simp [vI]

theorem cell_lt {w : World} {b o : Nat} {v : Value} (h : w.cell? ⟨b, o, none⟩ = some v) : b < w.heap.size := World.block_lt_of_cell? w _ h
theorem cell_of {w w' : World} {b o : Nat} {v : Value} (h : w.cell? ⟨b, o, none⟩ = some v) (hb : w'.heap[b]? = w.heap[b]?) : w'.cell? ⟨b, o, none⟩ = some v := by
  rw [← h]; simp [World.cell?, hb]
theorem cell_ext {w w' : World} {b o : Nat} {v : Value} (h : w.cell? ⟨b, o, none⟩ = some v) (e : Ext w w') : w'.cell? ⟨b, o, none⟩ = some v := cell_of h (e.block b (cell_lt h))

theorem At.nil (w : World) (p : Option Addr) : At w p [] := .inl rfl

theorem At.get {w : World} {p : Option Addr} {vs : List Value} (h : At w p vs) {i : Nat} (hi : i < vs.length) : ∃ b o, p = some ⟨b, o, none⟩ ∧ w.cell? ⟨b, o + i, none⟩ = some vs[i] := by
  rcases h with rfl | ⟨b, o, hp, hc⟩
  · simp at hi
  · exact ⟨b, o, hp, hc i _ (List.getElem?_eq_getElem hi)⟩
theorem At.getB {w : World} {p : Option Addr} {l : List UInt8} (h : At w p (vB l)) {i : Nat} (hi : i < l.length) : ∃ b o, p = some ⟨b, o, none⟩ ∧ w.cell? ⟨b, o + i, none⟩ = some (.int .u8 ((l[i].toNat : Nat) : Int)) := by
  obtain ⟨b, o, hp, hc⟩ := h.get (i := i) (by rw [vB_length]; exact hi)
  exact ⟨b, o, hp, by simpa [vB] using hc⟩
theorem At.getI {w : World} {p : Option Addr} {k : IntKind} {l : List Int} (h : At w p (vI k l)) {i : Nat} (hi : i < l.length) : ∃ b o, p = some ⟨b, o, none⟩ ∧ w.cell? ⟨b, o + i, none⟩ = some (.int k l[i]) := by
  obtain ⟨b, o, hp, hc⟩ := h.get (i := i) (by rw [vI_length]; exact hi)
  exact ⟨b, o, hp, by simpa [vI] using hc⟩

/-- A world in which p's block lies as it lay. -/
theorem At.kept {w w' : World} {p : Option Addr} {vs : List Value} (h : At w p vs) (hk : ∀ b o, p = some ⟨b, o, none⟩ → b < w.heap.size → w'.heap[b]? = w.heap[b]?) : At w' p vs := by
  rcases h with rfl | ⟨b, o, rfl, hc⟩
  · exact .inl rfl
  · refine .inr ⟨b, o, rfl, fun i v hv => ?_⟩
    have := hc i v hv
    exact cell_of this (hk b o rfl (cell_lt this))
theorem At.ext {w w' : World} {p : Option Addr} {vs : List Value} (h : At w p vs) (e : Ext w w') : At w' p vs := h.kept fun b _ _ hlt => e.block b hlt
theorem At.but {w w' : World} {b : Nat} {p : Option Addr} {vs : List Value} (h : At w p vs) (e : But b w w') (hne : ∀ b' o, p = some ⟨b', o, none⟩ → b' ≠ b) : At w' p vs := h.kept fun b' o hp hlt => e.block b' hlt (hne b' o hp)
theorem Blk.at {w : World} {b : Nat} {t : TypeId} {cs : Array Value} (h : Blk w b t cs) : At w (some ⟨b, 0, none⟩) cs.toList :=
  .inr ⟨b, 0, rfl, fun i v hv => by rw [h.cell, Nat.zero_add]; simpa using hv⟩
theorem New.at {w w' : World} {b : Nat} {t : TypeId} {cs : Array Value} {f : Nat × Nat} (h : New w (.cells cs t f) b w') : At w' (some ⟨b, 0, none⟩) cs.toList := by
  refine .inr ⟨b, 0, rfl, fun i v hv => ?_⟩
  rw [cell_of_row w' b (0 + i) cs t f h.obj]
  simpa using hv

theorem At.take {w : World} {p : Option Addr} {vs : List Value} (h : At w p vs) (n : Nat) : At w p (vs.take n) := by
  rcases h with rfl | ⟨b, o, rfl, hc⟩
  · exact .inl (by simp)
  · refine .inr ⟨b, o, rfl, fun i v hv => hc i v ?_⟩
    rw [List.getElem?_take] at hv
    split at hv
    · exact hv
    · cases hv

/-- s[l:k], of cells of size s. -/
theorem At.slice {w : World} {p : Option Addr} {vs : List Value} (h : At w p vs) (l k m s : Nat) (hk : k ≤ m) : At w (slBase p l m s) ((vs.take (k * s)).drop (l * s)) := by
  unfold slBase
  split
  · rename_i hm
    subst hm
    refine .inl ?_
    rw [List.drop_eq_nil_iff, List.length_take]
    have := Nat.mul_le_mul_right s hk
    omega
  · rcases h with rfl | ⟨b, o, rfl, hc⟩
    · exact .inl (by simp)
    · refine .inr ⟨b, o + l * s, ?_, fun i v hv => ?_⟩
      · simp only [Option.map, Addr.add_lit]
      · rw [List.getElem?_drop, List.getElem?_take] at hv
        split at hv
        · have := hc _ _ hv; rwa [← Nat.add_assoc] at this
        · cases hv
theorem slBase_some {p : Option Addr} {l m s : Nat} {x : Addr} (h : slBase p l m s = some x) : ∃ y, p = some y ∧ x.block = y.block := by
  unfold slBase at h
  split at h
  · exact ⟨x, h, rfl⟩
  · cases p with
    | none => cases h
    | some y => cases h; exact ⟨y, rfl, by simp only [Addr.add]; split <;> rfl⟩
theorem slBase_none {p : Option Addr} {l m s : Nat} (h : slBase p l m s = none) : p = none := by
  unfold slBase at h
  split at h
  · exact h
  · cases p with
    | none => rfl
    | some y => cases h

theorem At.bytes {w : World} {p : Option Addr} {l : List UInt8} (h : At w p (vB l)) : BytesAt w p l.length l := by
  refine ⟨rfl, fun hpos => ?_⟩
  rcases h with h | ⟨b, o, rfl, hc⟩
  · have := congrArg List.length h; simp [vB] at this; subst this; simp at hpos
  · refine ⟨b, o, rfl, fun i hi => hc i _ ?_⟩
    simp [vB, hi]
theorem At.bytes' {w : World} {p : Option Addr} {l : List UInt8} {n : Nat} (h : At w p (vB l)) (hn : l.length = n) : BytesAt w p n l := hn ▸ h.bytes

/-! ### Rows of one's own -/
/-- The slice (p, n, c) of elements of s cells leads to a row of our own that holds vs, or is nil. -/
def Mine (B : Nat) (t : TypeId) (s : Nat) (w : World) (p : Option Addr) (n c : Nat) (vs : List Value) : Prop := w.ownsRow B t s (.slice p n c) n vs

section
variable {B : Nat} {t : TypeId} {s : Nat} {w w' : World} {p : Option Addr} {n c : Nat} {vs : List Value}
theorem Mine.nil (B : Nat) (t : TypeId) (s : Nat) (w : World) : Mine B t s w none 0 0 [] := World.ownsRow_nil w B t s
theorem Mine.len (h : Mine B t s w p n c vs) : vs.length = n * s := h.1
theorem Mine.at (h : Mine B t s w p n c vs) : At w p vs := by
  rcases h.2 with ⟨e, hn⟩ | ⟨g, cap, cur, e, hb, hg, h1, h2, h3, h4⟩
  · cases e; left; have := h.1; cases vs with | nil => rfl | cons _ _ => simp at this
  · cases e
    refine .inr ⟨g, 0, rfl, fun i v hv => ?_⟩
    rw [cell_of_row w g (0 + i) cur t (0, 0) hg, Nat.zero_add]
    rw [← h4, List.getElem?_take] at hv
    split at hv
    · simpa using hv
    · cases hv
theorem Mine.ge (h : Mine B t s w p n c vs) : ∀ b o, p = some ⟨b, o, none⟩ → B ≤ b ∧ b < w.heap.size := by
  intro b o hp; subst hp; exact World.ownsRow.lt h b rfl
theorem Mine.shape (h : Mine B t s w p n c vs) : (p = none ∧ n = 0 ∧ c = 0 ∧ vs = []) ∨ ∃ b, p = some ⟨b, 0, none⟩ ∧ B ≤ b ∧ b < w.heap.size := by
  rcases h.2 with ⟨e, hn⟩ | ⟨g, cap, cur, e, hb, hg, _⟩
  · cases e; left; have := h.1; exact ⟨rfl, rfl, rfl, by cases vs with | nil => rfl | cons _ _ => simp at this⟩
  · cases e; exact .inr ⟨g, rfl, hb, (Array.getElem?_eq_some_iff.1 hg).1⟩
theorem Mine.kept (h : Mine B t s w p n c vs) (hk : ∀ b o, p = some ⟨b, o, none⟩ → b < w.heap.size → w'.heap[b]? = w.heap[b]?) : Mine B t s w' p n c vs := by
  refine ⟨h.1, ?_⟩
  rcases h.2 with hn | ⟨g, cap, cur, e, hb, hg, rest⟩
  · exact .inl hn
  · cases e
    exact .inr ⟨g, c, cur, rfl, hb, (hk g 0 rfl (Array.getElem?_eq_some_iff.1 hg).1).trans hg, rest⟩
theorem Mine.ext (h : Mine B t s w p n c vs) (e : Ext w w') : Mine B t s w' p n c vs := h.kept fun b _ _ hlt => e.block b hlt
theorem Mine.but {b : Nat} (h : Mine B t s w p n c vs) (e : But b w w') (hne : ∀ b' o, p = some ⟨b', o, none⟩ → b' ≠ b) : Mine B t s w' p n c vs := h.kept fun b' o hp hlt => e.block b' hlt (hne b' o hp)
theorem Mine.mono {B' : Nat} (h : Mine B t s w p n c vs) (hB : B' ≤ B) : Mine B' t s w p n c vs := by
  refine ⟨h.1, ?_⟩
  rcases h.2 with hn | ⟨g, cap, cur, e, hb, rest⟩
  · exact .inl hn
  · exact .inr ⟨g, cap, cur, e, by omega, rest⟩
theorem Mine.cap (h : Mine B t s w p n c vs) : n ≤ c ∧ c ≤ maxLen := by
  rcases h.2 with ⟨e, hn⟩ | ⟨g, cap, cur, e, hb, _, h1, h2, _⟩
  · cases e; simp [hn]
  · cases e; exact ⟨h1, h2⟩
theorem Mine.isNil (h : Mine B t s w p n c vs) (hp : p = none) : n = 0 ∧ c = 0 := by
  rcases h.2 with ⟨e, hn⟩ | ⟨g, cap, cur, e, _⟩
  · exact ⟨(Value.slice.inj e).2.1, (Value.slice.inj e).2.2⟩
  · subst hp; have := (Value.slice.inj e).1; cases this
/-- A row just made, of which nothing is in use. -/
theorem Mine.made {b : Nat} {cur : Array Value} {cap : Nat} (h : New w (.cells cur t) b w') (hB : B ≤ w.heap.size) (hm : cap ≤ maxLen) (hs : cur.size = cap * s) : Mine B t s w' (some ⟨b, 0, none⟩) 0 cap [] := by
  obtain ⟨rfl, rfl⟩ := h
  exact World.ownsRow_made w cur cap hB hm hs
/-- A row just laid, all of it in use. -/
theorem Mine.lit {b : Nat} {cur : Array Value} {cap : Nat} (h : New w (.cells cur t) b w') (hB : B ≤ w.heap.size) (hm : cap ≤ maxLen) (hs : cur.size = cap * s) : Mine B t s w' (some ⟨b, 0, none⟩) cap cap cur.toList := by
  obtain ⟨rfl, rfl⟩ := h
  exact World.ownsRow_lit w cur cap hB hm hs
theorem Mine.ne_rec {b o l k : Nat} {r : Nat → Loop} (h : Mine B t s w p n c vs) (hp : p = some ⟨b, o, none⟩) (k' : Rec r l k w) : b ≠ l := by
  rcases h.2 with ⟨e, hn⟩ | ⟨g, cap, cur, e, hb, hg, _⟩
  · subst hp; cases e
  · subst hp; cases e; intro e; subst e; unfold Rec at k'; rw [hg] at k'; cases k'
theorem Mine.ne_dfr {b o d : Nat} (h : Mine B t s w p n c vs) (hp : p = some ⟨b, o, none⟩) (k' : Dfr d w) : b ≠ d := by
  rcases h.2 with ⟨e, hn⟩ | ⟨g, cap, cur, e, hb, hg, _⟩
  · subst hp; cases e
  · subst hp; cases e; intro e; subst e; unfold Dfr at k'; rw [hg] at k'; cases k'
/-- The row's block by itself. -/
theorem Mine.blk (h : Mine B t s w p n c vs) (hn : 0 < n ∨ p ≠ none) : ∃ b cur, p = some ⟨b, 0, none⟩ ∧ B ≤ b ∧ Blk w b t cur ∧ cur.size = c * s ∧ cur.toList.take (n * s) = vs := by
  rcases h.2 with ⟨e, hn'⟩ | ⟨g, cap, cur, e, hb, hg, h1, h2, h3, h4⟩
  · cases e; rcases hn with hn | hn
    · omega
    · exact absurd rfl hn
  · cases e; exact ⟨g, cur, rfl, hb, hg, h3, h4⟩
/-- What was written into a row of one's own. -/
theorem setA_spec : ∀ (vs : List Value) (cs : Array Value) (o : Nat), (setA cs o vs).size = cs.size ∧ ∀ i, (setA cs o vs)[i]? = if o ≤ i ∧ i < o + vs.length ∧ i < cs.size then vs[i - o]? else cs[i]?
  | [], cs, o => ⟨rfl, fun i => by rw [if_neg (by simp; omega)]; rfl⟩
  | v :: vs, cs, o => by
    obtain ⟨h1, h2⟩ := setA_spec vs (cs.setIfInBounds o v) (o + 1)
    refine ⟨by simp only [setA, h1]; simp, fun i => ?_⟩
    simp only [setA, h2, Array.size_setIfInBounds, List.length_cons, Array.getElem?_setIfInBounds]
    by_cases ho : o = i
    · subst ho
      rw [if_neg (by omega)]
      by_cases hs : o < cs.size
      · rw [if_pos rfl, if_pos hs, if_pos (by omega)]; simp
      · rw [if_pos rfl, if_neg hs, if_neg (by omega)]; rw [Array.getElem?_eq_none (by omega)]
    · by_cases hc : o + 1 ≤ i ∧ i < o + 1 + vs.length ∧ i < cs.size
      · rw [if_pos hc, if_pos (by omega), show i - o = (i - (o + 1)) + 1 by omega]; simp
      · rw [if_neg hc, if_neg ho, if_neg (by omega)]
/-- A store into a row of one's own: element i becomes us. -/
theorem Mine.put {i : Nat} {us : List Value} (h : Mine B t s w p n c vs) (hi : i < n) (hu : us.length = s) :
    ∃ b, p = some ⟨b, 0, none⟩ ∧ B ≤ b ∧ b < w.heap.size ∧ (∀ j, j < s → (∃ u, w.cell? ⟨b, i * s + j, none⟩ = some u) ∧ w.frozen? ⟨b, i * s + j, none⟩ = false) ∧
      ∀ w', Put w b (i * s) us w' → Mine B t s w' p n c (vs.take (i * s) ++ us ++ vs.drop (i * s + s)) := by
  obtain ⟨b, cur, hp, hB, hblk, hsz, htk⟩ := h.blk (.inl (by omega))
  have hcap := h.cap
  have hlen := h.len
  have h1 : i * s + s ≤ n * s := by rw [← Nat.succ_mul]; exact Nat.mul_le_mul_right s hi
  have h2 : n * s ≤ c * s := Nat.mul_le_mul_right s hcap.1
  refine ⟨b, hp, hB, hblk.lt, fun j hj => ⟨?_, hblk.frozen _⟩, fun w' hput => ?_⟩
  · rw [hblk.cell]; exact ⟨cur[i * s + j]'(by omega), by simp⟩
  · have hb' := hblk.put hput
    obtain ⟨s1, s2⟩ := setA_spec us cur (i * s)
    refine ⟨by simp only [List.length_append, List.length_take, List.length_drop, hu]; omega, .inr ⟨b, c, _, by rw [hp], hB, hb', hcap.1, hcap.2, by rw [s1, hsz], ?_⟩⟩
    apply List.ext_getElem?
    intro k
    rw [List.getElem?_take]
    have hk2 : (setA cur (i * s) us).toList[k]? = (setA cur (i * s) us)[k]? := by simp
    rw [hk2, s2]
    have hvs : ∀ k, k < n * s → vs[k]? = cur[k]? := fun k hk => by rw [← htk, List.getElem?_take, if_pos hk]; simp
    by_cases hk : k < n * s
    · rw [if_pos hk]
      by_cases hc : i * s ≤ k ∧ k < i * s + us.length ∧ k < cur.size
      · rw [if_pos hc, List.append_assoc, List.getElem?_append_right (by simp; omega), List.getElem?_append_left (by simp; omega)]
        congr 1; simp; omega
      · rw [if_neg hc, ← hvs k hk]
        rcases Nat.lt_or_ge k (i * s) with hlt | hge
        · rw [List.append_assoc, List.getElem?_append_left (by simp; omega), List.getElem?_take, if_pos hlt]
        · rw [List.getElem?_append_right (by simp; omega), List.getElem?_drop]
          congr 1; simp; omega
    · rw [if_neg hk, List.getElem?_eq_none]
      simp only [List.length_append, List.length_take, List.length_drop, hu]; omega
end

/-! ### append -/
/-- What append leaves: a row of our own with the new values behind the old ones; no other block has turned. -/
theorem append_own {P : Program} {t ty u : TypeId} {z : Ty} {B s : Nat} {w : World} {p q : Option Addr} {n c m d : Nat} {xs news : List Value} (ht : P.underlying t = some (.slice u)) (hz : tyOf P u = some z)
    (h1 : z.ls.length = s) (h0 : 0 < s) (hown : Mine B u s w p n c xs) (hat : At w q news) (hm : news.length = m * s) (hq : q = none → m = 0 ∧ d = 0) (hone : ∀ x ∈ news, x.oneCell' = true) (hB : B ≤ w.heap.size)
    (hroom : ((n + m) + (n + m) / 4 + 192) * z.bytes ≤ 281474976710656) (hlen : n + m ≤ maxLen) :
    ∃ p' c' w', (Builtin.append_ #[t, t] ty #[.slice p n c, .slice q m d]).run P w = .ok (.slice p' (n + m) c') w' ∧ Mine B u s w' p' (n + m) c' (xs ++ news) ∧ w.grownBy w' (Value.slice p n c).ownBlock := by
  obtain ⟨i, d', hi, hzz, hd, hsz, hls, hag, hby⟩ := tyOf_spec hz
  have hsize : i.size = s := by rw [hsz]; have := h1; rw [hls, length_leavesOf] at this; simpa using this
  cases q with
  | none =>
    obtain ⟨rfl, rfl⟩ := hq rfl
    have hn : news = [] := by cases news with | nil => rfl | cons _ _ => simp at hm
    subst hn
    refine ⟨p, c, w, ?_, by simpa using hown, ⟨rfl, rfl, rfl, Nat.le_refl _, fun _ _ _ => rfl⟩⟩
    have hcap := hown.cap.1
    cases p with
    | none => simp [Builtin.append_, run_underlying ht, sizeOf, typeInfo, hi, Builtin.lenOf, hcap, Builtin.firstCells]
    | some a => simp [Builtin.append_, run_underlying ht, sizeOf, typeInfo, hi, Builtin.lenOf, hcap, Builtin.firstCells, storeCells]
  | some a =>
    have hnews : ∀ j x, news[j]? = some x → w.cell? (a.add j) = some x := by
      intro j x hx
      rcases hat with rfl | ⟨b, o, hp, hc⟩
      · simp at hx
      · cases hp; rw [Addr.add_lit]; exact hc j x hx
    obtain ⟨v', w', hrun, hown', hg, _⟩ := run_append_own_wide (P := P) w B t ty u i z.zero s z.bytes ht hi hzz hsize hby.symm (by rw [← hsz]; exact hsize) h0 (.slice p n c) n xs hown a m d news hm
      hnews hone hlen hroom hB
    rcases hown'.2 with ⟨rfl, hn0⟩ | ⟨g, cap, cur, rfl, rest⟩
    · exact ⟨none, 0, w', by rw [hrun, hn0], by rw [hn0] at hown' ⊢; exact hown', hg⟩
    · exact ⟨some ⟨g, 0, none⟩, cap, w', hrun, hown', hg⟩

/-- append(nil, make([]T, n)...): a row of our own that begins empty when it is cut to nothing. -/
theorem append_zeros_nil {P : Program} {t v ty u : TypeId} {k : IntKind} {z : Ty} {B : Nat} {w : World} {n : Nat} (ht : P.underlying t = some (.slice u)) (hv : P.underlying v = some (.int k)) (hz : tyOf P u = some z)
    (h1 : z.ls.length = 1) (hB : B ≤ w.heap.size) (h0 : 0 < n) (hroom : n * z.bytes ≤ 281474976710656) (hlen : n ≤ maxLen) :
    ∃ c w', (Builtin.append_ #[t, v] ty #[.slice none 0 0, .int .i64 (n : Int)]).run P w = .ok (.slice (some ⟨w.heap.size, 0, none⟩) n c) w' ∧ n ≤ c ∧ Mine B u 1 w' (some ⟨w.heap.size, 0, none⟩) 0 c [] ∧ Ext w w' := by
  obtain ⟨i, d', hi, hzz, hd, hsz, hls, hag, hby⟩ := tyOf_spec hz
  have hsize : i.size = 1 := by rw [hsz]; have := h1; rw [hls, length_leavesOf] at this; simpa using this
  rw [hby] at hroom
  have hlen' : n ≤ 9223372036854775807 := hlen
  have hw : IntKind.i64.wrap (n : Int) = n := by rw [IntKind.wrap_i64]; omega
  have n1 : ¬ ((n : Int) < 0) := by omega
  have n2 : ¬ (281474976710656 < (n : Int) * (i.bytes : Int)) := by
    have : ((n * i.bytes : Nat) : Int) ≤ 281474976710656 := Int.ofNat_le.2 hroom
    rw [Int.natCast_mul] at this
    omega
  have n3 : n ≠ 0 := by omega
  have n4 : ¬ (9223372036854775807 < (n : Int)) := by omega
  have n5 : ¬ (281474976710656 < Builtin.nextslicecap n 0 * i.bytes) := by rw [nextslicecap_zero h0]; omega
  refine ⟨grownCap w n 0 u, w.drew.alloc (.cells (Builtin.zeroCells z.zero.cells n ++ Builtin.zeroCells z.zero.cells (grownCap w n 0 u - n)) u), ?_, grownCap_ge w n 0 u, ?_, ?_⟩
  · simp [Builtin.append_, run_underlying ht, run_underlying hv, sizeOf, typeInfo, zeroValue, hi, hzz, hw, n1, n2, n3, n4, n5, Question.forced, run_firstCells_none, newRow, grownCap, asInt, asIntOf, hsize]
  · have := grownCap_ge w n 0 u
    have hm := grownCap_le_maxLen w n 0 u hlen
    exact Mine.made (w := w.drew) ⟨rfl, rfl⟩ hB hm (by simp only [Array.size_append, size_zeroCells]; rw [← hsz, hsize]; omega)
  · exact (Below.refl _ w).drew.alloc (Nat.le_refl _) _

/-- Behind an append onto a row of one's own. -/
theorem Mine.grown {B : Nat} {t : TypeId} {s : Nat} {w w' : World} {p : Option Addr} {n c : Nat} {vs : List Value} (h : Mine B t s w p n c vs) (hg : w.grownBy w' (Value.slice p n c).ownBlock) :
    (p = none ∧ Ext w w') ∨ ∃ b, p = some ⟨b, 0, none⟩ ∧ B ≤ b ∧ But b w w' := by
  rcases h.shape with ⟨rfl, _⟩ | ⟨b, rfl, hb, _⟩
  · exact .inl ⟨rfl, grown_nil hg⟩
  · exact .inr ⟨b, rfl, hb, grown_but hg⟩
theorem Mine.below {B B0 : Nat} {t : TypeId} {s : Nat} {a w w' : World} {p : Option Addr} {n c : Nat} {vs : List Value} (h : Mine B t s w p n c vs) (hg : w.grownBy w' (Value.slice p n c).ownBlock) (hb : Below B0 a w) (hB : B0 ≤ B) (hs : B0 ≤ w.heap.size) : Below B0 a w' := by
  rcases h.grown hg with ⟨_, e⟩ | ⟨b, _, hle, e⟩
  · exact hb.ext e hs
  · exact hb.but e (by omega) hs
theorem At.grown {B : Nat} {t : TypeId} {s : Nat} {w w' : World} {p q : Option Addr} {n c : Nat} {vs us : List Value} (h : Mine B t s w p n c vs) (hg : w.grownBy w' (Value.slice p n c).ownBlock) (hq : At w q us)
    (hne : ∀ b o b' o', q = some ⟨b, o, none⟩ → p = some ⟨b', o', none⟩ → b ≠ b') : At w' q us := by
  rcases h.grown hg with ⟨_, e⟩ | ⟨b, hp, hle, e⟩
  · exact hq.ext e
  · exact hq.but e fun b' o hq' => hne b' o b 0 hq' hp

/-- append(b, s...) onto bytes of one's own. -/
theorem append_str {P : Program} {t v ty u : TypeId} {z : Ty} {B : Nat} {w : World} {p : Option Addr} {n c : Nat} {xs : List Value} (ht : P.underlying t = some (.slice u)) (hv : P.underlying v = some .string) (hz : tyOf P u = some z)
    (h1 : z.zero = .int .u8 0) (h2 : z.bytes = 1) (hown : Mine B u 1 w p n c xs) (s : ByteArray) (hs : s.size ≤ 1099511627776) (hB : B ≤ w.heap.size) (hroom : n + s.size ≤ 211106232532992) :
    ∃ p' c' w', (Builtin.append_ #[t, v] ty #[.slice p n c, .string s]).run P w = .ok (.slice p' (n + s.size) c') w' ∧ Mine B u 1 w' p' (n + s.size) c' (xs ++ Lib.strCells s) ∧ w.grownBy w' (Value.slice p n c).ownBlock := by
  obtain ⟨i, d', hi, hzz, hd, hsz, hls, hag, hby⟩ := tyOf_spec hz
  rw [h1] at hzz hsz
  have hsize : i.size = 1 := by rw [hsz]; rfl
  have hb1 : i.bytes = 1 := by omega
  by_cases hsmall : n + s.size ≤ 140737488355328
  · obtain ⟨v', w', hrun, hown', hg, _⟩ := Lib.run_append_own_string (P := P) (w := w) B t v ty u i ht hv hi hzz hsize hb1 (.slice p n c) n xs hown s (by simp [maxLen]; omega) hsmall hB
    rcases hown'.2 with ⟨rfl, hn0⟩ | ⟨g, cap, cur, rfl, rest⟩
    · exact ⟨none, 0, w', by rw [hrun, hn0], by rw [hn0] at hown' ⊢; exact hown', hg⟩
    · exact ⟨some ⟨g, 0, none⟩, cap, w', hrun, hown', hg⟩
  · have hxl : xs.length = n := by have := hown.len; omega
    have hlen : (xs ++ Lib.strCells s).length = (n + s.size) * 1 := by rw [List.length_append, hxl, Lib.strCells_length]; omega
    obtain ⟨g, cur, rfl, hBg, hblk, hcs, htake⟩ := hown.blk (.inl (by omega))
    have hcap := hown.cap
    rw [Nat.mul_one] at hcs htake
    by_cases hfit : n + s.size ≤ c
    · have hr := Lib.run_append_room_string (P := P) (w := w) t v ty u i ht hv hi hsize g n c cur hblk s hfit (by omega)
      refine ⟨_, _, _, hr, ⟨hlen, .inr ⟨g, c, _, rfl, hBg, setRow_heap w g cur _ u _ hblk, hfit, hcap.2, ?_, ?_⟩⟩, ⟨rfl, rfl, rfl, by simp, fun k _ hk => setRow_other w g k _ (fun e => hk (by simp [Value.ownBlock, e]))⟩⟩
      · simp only [List.size_toArray, List.length_append, List.length_take, List.length_drop, Array.length_toList, Lib.strCells_length]
        omega
      · rw [htake, ← hlen]
        exact List.take_left
    · have holds : ∀ j x, xs[j]? = some x → w.cell? ((⟨g, 0, none⟩ : Addr).add j) = some x := fun j x hj => by
        rw [Addr.add_lit, hblk.cell, Nat.zero_add]
        rw [← htake, List.getElem?_take] at hj
        split at hj
        · simpa using hj
        · cases hj
      have hr := Lib.run_append_grow_string (P := P) (w := w) t v ty u i (.int .u8 0) ht hv hi hzz ⟨g, 0, none⟩ n c xs (by rw [hsize]; omega) holds s (by omega) (by omega)
        (by rw [hb1]; exact growslice_fits_wide (by omega) (by omega))
      have hge := grownCap_ge w (n + s.size) c u
      have hcm : grownCap w (n + s.size) c u ≤ maxLen := grownCap_le_maxLen w (n + s.size) c u (by simp [maxLen]; omega)
      refine ⟨_, _, _, hr, ⟨hlen, .inr ⟨w.heap.size, _, _, rfl, hB, World.alloc_heap_new w.drew _, hge, hcm, ?_, ?_⟩⟩, ⟨rfl, rfl, rfl, by simp, fun k hk _ => Below.heap_alloc w.drew _ k hk⟩⟩
      · have hz1 : (Value.int IntKind.u8 0).cells.size = 1 := rfl
        simp only [Array.size_append, List.size_toArray, size_zeroCells, hz1, hxl, Lib.strCells_length]
        omega
      · simp only [Array.toList_append, List.append_assoc]
        rw [← List.append_assoc, ← hlen]
        exact List.take_left

/-! ### Freezing -/
theorem cell_freeze (w : World) (a : Addr) (n : Nat) (b : Addr) : (w.freeze a n).cell? b = w.cell? b := by
  unfold World.freeze
  split
  · rfl
  · simp only [World.cell?, Array.getElem?_modify]
    by_cases h : a.block = b.block
    · rw [if_pos h]
      cases w.heap[b.block]? with
      | none => rfl
      | some o => cases o <;> rfl
    · rw [if_neg h]

theorem size_freeze (w : World) (a : Addr) (n : Nat) : (w.freeze a n).heap.size = w.heap.size := by
  unfold World.freeze; split <;> simp

theorem freeze_but (w : World) (a : Addr) (n : Nat) : But a.block w (w.freeze a n) := by
  refine ⟨?_, ?_, ?_, by rw [size_freeze]; exact Nat.le_refl _, fun k hk hne => ?_⟩
  · unfold World.freeze; split <;> rfl
  · unfold World.freeze; split <;> rfl
  · unfold World.freeze; split <;> rfl
  · unfold World.freeze
    split
    · rfl
    · simp only [Array.getElem?_modify]
      rw [if_neg (by omega)]

theorem At.freeze {w : World} {p : Option Addr} {vs : List Value} (h : At w p vs) (a : Addr) (n : Nat) : At (w.freeze a n) p vs := by
  rcases h with rfl | ⟨b, o, rfl, hc⟩
  · exact .inl rfl
  · exact .inr ⟨b, o, rfl, fun i v hv => by rw [cell_freeze]; exact hc i v hv⟩

/-! ### Numbers -/
theorem i64_fit {n : Int} (h0 : -9223372036854775808 ≤ n) (h1 : n ≤ 9223372036854775807) : IntKind.i64.wrap n = n := by rw [IntKind.wrap_i64]; omega
theorem u64_fit {n : Int} (h0 : 0 ≤ n) (h1 : n < 18446744073709551616) : IntKind.u64.wrap n = n := by simp [IntKind.wrap, IntKind.bits, IntKind.signed]; omega
theorem u8_fit {n : Int} (h0 : 0 ≤ n) (h1 : n < 256) : IntKind.u8.wrap n = n := by rw [IntKind.wrap_u8]; omega

/-! ### Arguments -/
theorem wf_u8 {n : Int} (h : (Lit.int .u8 n).wf = true) : 0 ≤ n ∧ n ≤ 255 := by
  simp only [Lit.wf, Bool.and_eq_true, decide_eq_true_eq] at h
  exact h
theorem wf_i64 {n : Int} (h : (Lit.int .i64 n).wf = true) : -9223372036854775808 ≤ n ∧ n ≤ 9223372036854775807 := by
  simp only [Lit.wf, Bool.and_eq_true, decide_eq_true_eq] at h
  exact h
theorem wf_u64 {n : Int} (h : (Lit.int .u64 n).wf = true) : 0 ≤ n ∧ n ≤ 18446744073709551615 := by
  simp only [Lit.wf, Bool.and_eq_true, decide_eq_true_eq] at h
  exact h

theorem ints_bytes : ∀ {zs : List Int}, (∀ n ∈ zs, (Lit.int .u8 n).wf = true) → ∃ l : List UInt8, vI .u8 zs = vB l ∧ l.length = zs.length
  | [], _ => ⟨[], rfl, rfl⟩
  | z :: zs, h => by
    obtain ⟨l, hl, hlen⟩ := ints_bytes (zs := zs) fun n hn => h n (List.mem_cons_of_mem _ hn)
    obtain ⟨h0, h1⟩ := wf_u8 (h z (by simp))
    refine ⟨UInt8.ofNat z.toNat :: l, ?_, by simp [hlen]⟩
    have : (((UInt8.ofNat z.toNat).toNat : Nat) : Int) = z := by simp; omega
    simp only [vI, vB, List.map_cons, this] at hl ⊢
    rw [hl]

/-- A slice of integers that came in. -/
theorem row_at {k : IntKind} {w : World} {a : Option Addr} {len cap : Nat} {zs : List Int}
    (h : (a = none ∧ len = 0 ∧ cap = 0 ∧ zs = []) ∨ ∃ x, a = some x ∧ len ≤ cap ∧ cap ≤ maxLen ∧ zs.length = cap ∧ (∀ i, i < zs.length → w.cell? (x.add i) = some (.int k (zs.getD i 0))) ∧ ∀ n ∈ zs, (Lit.int k n).wf = true) :
    At w a (vI k zs) ∧ zs.length = cap ∧ len ≤ cap ∧ cap ≤ maxLen ∧ (a = none → len = 0 ∧ cap = 0) ∧ ∀ n ∈ zs, (Lit.int k n).wf = true := by
  rcases h with ⟨rfl, rfl, rfl, rfl⟩ | ⟨x, rfl, h1, h2, h3, h4, h5⟩
  · exact ⟨.inl rfl, rfl, Nat.le_refl _, Nat.zero_le _, fun _ => ⟨rfl, rfl⟩, fun n hn => by cases hn⟩
  · refine ⟨?_, h3, h1, h2, fun e => (by cases e), h5⟩
    cases zs with
    | nil => exact .inl rfl
    | cons z zs =>
      have h0 := h4 0 (by simp)
      obtain ⟨b, o, s⟩ := x
      have hs : s = none := by
        cases s with
        | none => rfl
        | some y =>
          simp only [Addr.add, if_true, World.cell?] at h0
          split at h0 <;> simp at h0
      subst hs
      refine .inr ⟨b, o, rfl, fun i v hv => ?_⟩
      simp only [vI, List.getElem?_map] at hv
      cases hz : (z :: zs)[i]? with
      | none => rw [hz] at hv; cases hv
      | some y =>
        rw [hz] at hv
        cases hv
        have hi := (List.getElem?_eq_some_iff.1 hz).1
        have := h4 i hi
        rw [Addr.add_lit] at this
        rw [this, List.getD_eq_getElem?_getD, hz]
        rfl

theorem row_bytes {w : World} {a : Option Addr} {len cap : Nat} {zs : List Int}
    (h : (a = none ∧ len = 0 ∧ cap = 0 ∧ zs = []) ∨ ∃ x, a = some x ∧ len ≤ cap ∧ cap ≤ maxLen ∧ zs.length = cap ∧ (∀ i, i < zs.length → w.cell? (x.add i) = some (.int .u8 (zs.getD i 0))) ∧ ∀ n ∈ zs, (Lit.int .u8 n).wf = true) :
    ∃ l : List UInt8, At w a (vB l) ∧ l.length = cap ∧ len ≤ cap ∧ cap ≤ maxLen ∧ (a = none → len = 0 ∧ cap = 0) := by
  obtain ⟨h1, h2, h3, h4, h5, h6⟩ := row_at h
  obtain ⟨l, hl, hlen⟩ := ints_bytes h6
  exact ⟨l, hl ▸ h1, by omega, h3, h4, h5⟩

end Go.Vc

/- Numbers: bits, shifts, signed numbers as unsigned ones and back. -/
namespace Go.Vc
open Go

theorem ofInt_neg1 : BitVec.ofInt 64 (-1) = BitVec.allOnes 64 := by decide
theorem xor_neg1_i64 {a : Int} (h0 : -9223372036854775808 ≤ a) (h1 : a ≤ 9223372036854775807) : bits .xor .i64 a (-1) = -1 - a := by
  have e : bits .xor .i64 a (-1) = IntKind.i64.wrap (((BitVec.ofInt 64 a ^^^ BitVec.ofInt 64 (-1)).toNat : Nat) : Int) := rfl
  rw [e, ofInt_neg1, BitVec.xor_allOnes, BitVec.toNat_not, BitVec.toNat_ofInt, IntKind.wrap_i64]
  have : ((2 ^ 64 - 1 - (a % ((2 ^ 64 : Nat) : Int)).toNat : Nat) : Int) = 18446744073709551615 - a % 18446744073709551616 := by omega
  omega
theorem xor_zero_i64 {a : Int} (h0 : -9223372036854775808 ≤ a) (h1 : a ≤ 9223372036854775807) : bits .xor .i64 a 0 = a := by
  have e : bits .xor .i64 a 0 = IntKind.i64.wrap (((BitVec.ofInt 64 a ^^^ 0#64).toNat : Nat) : Int) := rfl
  rw [e, BitVec.xor_zero, BitVec.toNat_ofInt, IntKind.wrap_i64]
  omega
theorem xor_ones_u64 {a : Nat} (h1 : a < 18446744073709551616) : bits .xor .u64 (a : Int) 18446744073709551615 = ((18446744073709551615 - a : Nat) : Int) := by
  have e : bits .xor .u64 (a : Int) 18446744073709551615 = IntKind.u64.wrap (((BitVec.ofInt 64 a ^^^ BitVec.allOnes 64).toNat : Nat) : Int) := rfl
  rw [e, BitVec.xor_allOnes, BitVec.toNat_not, BitVec.toNat_ofInt, u64_fit (by omega) (by omega)]
  omega
theorem xor_zero_u64 {a : Nat} (h1 : a < 18446744073709551616) : bits .xor .u64 (a : Int) 0 = (a : Int) := by
  have e : bits .xor .u64 (a : Int) 0 = IntKind.u64.wrap (((BitVec.ofInt 64 a ^^^ 0#64).toNat : Nat) : Int) := rfl
  rw [e, BitVec.xor_zero, BitVec.toNat_ofInt, u64_fit (by omega) (by omega)]
  omega

theorem u64_wrap (n : Int) : IntKind.u64.wrap n = n % 18446744073709551616 := by simp [IntKind.wrap, IntKind.bits, IntKind.signed]
theorem u32_wrap (n : Int) : IntKind.u32.wrap n = n % 4294967296 := IntKind.wrap_u32 n

/-! ### Signed numbers as unsigned ones -/
def zigN (x : Int) : Nat := if x < 0 then (-2 * x - 1).toNat else (2 * x).toNat
def unzig (v : Nat) : Int := if v % 2 = 1 then -((v / 2 : Nat) : Int) - 1 else ((v / 2 : Nat) : Int)

theorem zig_lt {x : Int} (h0 : -9223372036854775808 ≤ x) (h1 : x ≤ 9223372036854775807) : zigN x < 18446744073709551616 := by unfold zigN; split <;> omega
theorem unzig_fit {v : Nat} (h : v < 18446744073709551616) : -9223372036854775808 ≤ unzig v ∧ unzig v ≤ 9223372036854775807 := by unfold unzig; split <;> omega
theorem unzig_zig (x : Int) : unzig (zigN x) = x := by unfold unzig zigN; split <;> split <;> omega
theorem zig_unzig (v : Nat) : zigN (unzig v) = v := by unfold unzig zigN; split <;> split <;> omega
theorem unzig_inj {a b : Nat} (h : unzig a = unzig b) : a = b := by rw [← zig_unzig a, h, zig_unzig]

theorem shl1_i64 {x : Int} : shlI .i64 x 1 = IntKind.i64.wrap (x * 2) := rfl
theorem shr63_i64 {x : Int} (h0 : -9223372036854775808 ≤ x) (h1 : x ≤ 9223372036854775807) : shrI .i64 x 63 = if x < 0 then -1 else 0 := by
  have : shrI .i64 x 63 = Int.fdiv x 9223372036854775808 := rfl
  rw [this, Int.fdiv_eq_ediv_of_nonneg _ (by decide)]
  split <;> omega

/-- The program's way. -/
theorem zig_prog {x : Int} (h0 : -9223372036854775808 ≤ x) (h1 : x ≤ 9223372036854775807) :
    bits .xor .u64 (IntKind.u64.wrap (shlI .i64 x 1)) (IntKind.u64.wrap (shrI .i64 x 63)) = (zigN x : Int) := by
  rw [shl1_i64, shr63_i64 h0 h1, IntKind.wrap_i64, u64_wrap]
  by_cases hx : x < 0
  · rw [if_pos hx, show IntKind.u64.wrap (-1) = 18446744073709551615 from by decide +kernel]
    have : ((x * 2 + 9223372036854775808) % 18446744073709551616 - 9223372036854775808) % 18446744073709551616 = (((18446744073709551616 + 2 * x).toNat : Nat) : Int) := by omega
    rw [this, xor_ones_u64 (by omega)]
    unfold zigN; rw [if_pos hx]; omega
  · rw [if_neg hx, show IntKind.u64.wrap 0 = 0 from by decide +kernel]
    have : ((x * 2 + 9223372036854775808) % 18446744073709551616 - 9223372036854775808) % 18446744073709551616 = (((2 * x).toNat : Nat) : Int) := by omega
    rw [this, xor_zero_u64 (by omega)]
    unfold zigN; rw [if_neg hx]

theorem shr1_u64 (v : Nat) : shrI .u64 (v : Int) 1 = ((v / 2 : Nat) : Int) := by
  have : shrI .u64 (v : Int) 1 = Int.fdiv (v : Int) 2 := rfl
  rw [this, Int.fdiv_eq_ediv_of_nonneg _ (by decide)]; omega
theorem and1_u64 (n : Nat) (h : n < 18446744073709551616) : bits .and .u64 (n : Int) 1 = ((n % 2 : Nat) : Int) := by
  have := bits_mask .u64 64 (by decide) (fun m h0 h1 => by simp [IntKind.wrap, IntKind.bits, IntKind.signed]; omega) 1 (by decide) (n : Int) (by omega) (by show (n : Int) < 18446744073709551616; omega)
  rw [show ((2 : Int) ^ 1 - 1) = 1 from rfl, show ((2 : Int) ^ 1) = 2 from rfl] at this
  rw [this]; omega

theorem unzig_prog {v : Nat} (h : v < 18446744073709551616) :
    bits .xor .i64 (IntKind.i64.wrap (shrI .u64 (v : Int) 1)) (IntKind.i64.wrap (0 - IntKind.i64.wrap (bits .and .u64 (v : Int) 1))) = unzig v := by
  rw [shr1_u64, and1_u64 v h, i64_fit (n := ((v / 2 : Nat) : Int)) (by omega) (by omega)]
  unfold unzig
  by_cases hv : v % 2 = 1
  · rw [if_pos hv, hv, show IntKind.i64.wrap (0 - IntKind.i64.wrap ((1 : Nat) : Int)) = -1 from by decide +kernel, xor_neg1_i64 (by omega) (by omega)]; omega
  · rw [if_neg hv, show v % 2 = 0 by omega, show IntKind.i64.wrap (0 - IntKind.i64.wrap ((0 : Nat) : Int)) = 0 from by decide +kernel, xor_zero_i64 (by omega) (by omega)]

theorem quo_nat (k : IntKind) (a b : Nat) (h : k.wrap ((a / b : Nat) : Int) = ((a / b : Nat) : Int)) : quoI k (a : Int) (b : Int) = ((a / b : Nat) : Int) := by
  unfold quoI
  rw [← Int.ofNat_tdiv]; exact h
theorem rem_nat (a b : Nat) : remI (a : Int) (b : Int) = ((a % b : Nat) : Int) := by unfold remI; rw [← Int.ofNat_tmod]
theorem quo2_u64 {v : Nat} (h : v < 18446744073709551616) : quoI .u64 (v : Int) 2 = ((v / 2 : Nat) : Int) := quo_nat .u64 v 2 (u64_fit (by omega) (by omega))
theorem rem2 (v : Nat) : remI (v : Int) 2 = ((v % 2 : Nat) : Int) := rem_nat v 2
theorem quo128_u64 {v : Nat} (h : v < 18446744073709551616) : quoI .u64 (v : Int) 128 = ((v / 128 : Nat) : Int) := quo_nat .u64 v 128 (u64_fit (by omega) (by omega))
theorem rem128 (v : Nat) : remI (v : Int) 128 = ((v % 128 : Nat) : Int) := rem_nat v 128

theorem unzig_ref {v : Nat} (h : v < 18446744073709551616) (ho : v % 2 = 1) : IntKind.i64.wrap (IntKind.i64.wrap (0 - IntKind.i64.wrap (quoI .u64 (v : Int) 2)) - 1) = unzig v := by
  rw [quo2_u64 h, i64_fit (n := ((v / 2 : Nat) : Int)) (by omega) (by omega), i64_fit (n := 0 - ((v / 2 : Nat) : Int)) (by omega) (by omega), i64_fit (by omega) (by omega)]
  unfold unzig; rw [if_pos ho]; omega

theorem zig_ref_neg {x : Int} (h0 : -9223372036854775808 ≤ x) (hx : x < 0) : IntKind.u64.wrap (IntKind.u64.wrap (2 * IntKind.u64.wrap (IntKind.i64.wrap (0 - IntKind.i64.wrap (x + 1)))) + 1) = (zigN x : Int) := by
  rw [i64_fit (n := x + 1) (by omega) (by omega), i64_fit (by omega) (by omega), u64_fit (n := 0 - (x + 1)) (by omega) (by omega), u64_fit (n := 2 * _) (by omega) (by omega), u64_fit (by omega) (by omega)]
  unfold zigN; rw [if_pos hx]; omega
theorem zig_ref_pos {x : Int} (h1 : x ≤ 9223372036854775807) (hx : 0 ≤ x) : IntKind.u64.wrap (2 * IntKind.u64.wrap x) = (zigN x : Int) := by
  rw [u64_fit (n := x) (by omega) (by omega), u64_fit (by omega) (by omega)]
  unfold zigN; rw [if_neg (by omega)]; omega

/-! ### Texts as bytes -/
def tB (s : ByteArray) : List UInt8 := s.data.toList
theorem tB_length (s : ByteArray) : (tB s).length = s.size := Array.length_toList
theorem tB_mk (l : List UInt8) : tB ⟨l.toArray⟩ = l := by simp [tB]
theorem mk_tB (s : ByteArray) : (⟨(tB s).toArray⟩ : ByteArray) = s := by cases s; simp [tB]
theorem mk_inj {a b : List UInt8} : (ByteArray.mk a.toArray = ByteArray.mk b.toArray) ↔ a = b := by
  constructor
  · intro h; have := congrArg tB h; rwa [tB_mk, tB_mk] at this
  · rintro rfl; rfl
theorem tB_inj {s t : ByteArray} : tB s = tB t ↔ s = t := by
  constructor
  · intro h; rw [← mk_tB s, h, mk_tB]
  · rintro rfl; rfl
theorem sEq_mk (a b : List UInt8) : sEq ⟨a.toArray⟩ ⟨b.toArray⟩ = decide (a = b) := by
  cases h : sEq ⟨a.toArray⟩ ⟨b.toArray⟩ with
  | true => exact (decide_eq_true (mk_inj.1 (sEq_iff.1 h))).symm
  | false => symm; rw [decide_eq_false_iff_not]; rintro rfl; rw [sEq_iff.2 rfl] at h; cases h
theorem sEq_self (s : ByteArray) : sEq s s = true := sEq_iff.2 rfl
theorem tB_extract (s : ByteArray) (i j : Nat) : tB (s.extract i j) = ((tB s).take j).drop i := by
  show (s.extract i j).data.toList = _
  rw [ByteArray.data_extract]
  simp [tB, List.extract_eq_take_drop, List.drop_take]
theorem bAt_eq (s : ByteArray) (i : Nat) (h : i < s.size) : bAt s i = (((tB s)[i]'(by rw [tB_length]; exact h)).toNat : Int) := by
  have h' : i < s.data.toList.length := by simpa using h
  simp [bAt, tB, List.getD, List.getElem?_eq_getElem h']
theorem bytesRow_take (s : ByteArray) (c : Nat) : (bytesRow s c).toList.take s.size = vB (tB s) := by
  unfold bytesRow vB tB
  have hl : (s.data.map fun b => Value.int .u8 b.toNat).toList.length = s.size := by rw [Array.length_toList, Array.size_map]; rfl
  rw [Array.toList_append, List.take_append_of_le_length (Nat.le_of_eq hl.symm), List.take_of_length_le (Nat.le_of_eq hl)]
  simp
theorem strCells_eq (s : ByteArray) : Lib.strCells s = vB (tB s) := by unfold Lib.strCells vB tB; simp

end Go.Vc

/- Numbers as digits of 2^s, and how one bit more turns them: plain Lean. -/
namespace Go.Vc
open Go Go.RowKit

/-- The n digits of N, of s bits each, the least one first. -/
def digits (s n N : Nat) : List Nat := (List.range n).map fun i => N / 2 ^ (s * i) % 2 ^ s
/-- The number that digits of s bits are. -/
def value (s : Nat) : List Nat → Nat
  | [] => 0
  | x :: l => x + 2 ^ s * value s l
/-- Numbers as values. -/
def vN (k : IntKind) (l : List Nat) : List Value := l.map fun (x : Nat) => .int k (x : Int)

theorem digits_length (s n N : Nat) : (digits s n N).length = n := by simp [digits]
theorem digits_get {s n N i : Nat} (h : i < n) : (digits s n N)[i]? = some (N / 2 ^ (s * i) % 2 ^ s) := by simp [digits, h]
theorem digits_lt {s n N : Nat} : ∀ x ∈ digits s n N, x < 2 ^ s := by
  intro x hx
  obtain ⟨i, _, rfl⟩ := List.mem_map.1 hx
  exact Nat.mod_lt _ (Nat.two_pow_pos s)
theorem value_lt {s : Nat} : ∀ {l : List Nat}, (∀ x ∈ l, x < 2 ^ s) → value s l < 2 ^ (s * l.length)
  | [], _ => by simp [value]
  | x :: l, h => by
    have h1 := h x (by simp)
    have h2 := value_lt (l := l) fun y hy => h y (by simp [hy])
    simp only [value, List.length_cons, Nat.mul_succ, Nat.pow_add]
    have h3 : value s l + 1 ≤ 2 ^ (s * l.length) := h2
    have h4 := Nat.mul_le_mul_left (2 ^ s) h3
    rw [Nat.mul_add, Nat.mul_one] at h4
    rw [Nat.mul_comm (2 ^ (s * l.length))]
    omega
theorem digits_succ (s n N : Nat) : digits s (n + 1) N = N % 2 ^ s :: digits s n (N / 2 ^ s) := by
  unfold digits
  rw [List.range_succ_eq_map]
  simp only [List.map_cons, List.map_map, Nat.mul_zero, Nat.pow_zero, Nat.div_one, List.cons.injEq, true_and]
  refine List.map_congr_left fun i _ => ?_
  simp only [Function.comp, Nat.mul_succ]
  rw [Nat.div_div_eq_div_mul, ← Nat.pow_add, Nat.add_comm s]
theorem digits_value {s : Nat} : ∀ {l : List Nat}, (∀ x ∈ l, x < 2 ^ s) → digits s l.length (value s l) = l
  | [], _ => by simp [digits]
  | x :: l, h => by
    have h1 := h x (by simp)
    rw [List.length_cons, digits_succ, value, Nat.add_mul_mod_self_left, Nat.mod_eq_of_lt h1, Nat.add_mul_div_left _ _ (Nat.two_pow_pos s), Nat.div_eq_of_lt h1, Nat.zero_add,
      digits_value fun y hy => h y (by simp [hy])]
theorem value_digits (s : Nat) : ∀ (n N : Nat), value s (digits s n N) = N % 2 ^ (s * n)
  | 0, N => by simp [digits, value, Nat.mod_one]
  | n + 1, N => by
    rw [digits_succ, value, value_digits s n, Nat.mul_succ, Nat.add_comm (s * n), Nat.pow_add, Nat.mod_mul]
theorem digits_mod (s n N : Nat) : digits s n (N % 2 ^ (s * n)) = digits s n N := by
  have h := digits_value (s := s) (l := digits s n N) digits_lt
  rw [digits_length, value_digits] at h
  exact h
theorem digits_inj {s n M N : Nat} (hM : M < 2 ^ (s * n)) (hN : N < 2 ^ (s * n)) (h : digits s n M = digits s n N) : M = N := by
  have := congrArg (value s) h
  rwa [value_digits, value_digits, Nat.mod_eq_of_lt hM, Nat.mod_eq_of_lt hN] at this
theorem value_inj {s : Nat} {a b : List Nat} (ha : ∀ x ∈ a, x < 2 ^ s) (hb : ∀ x ∈ b, x < 2 ^ s) (hl : a.length = b.length) (h : value s a = value s b) : a = b := by
  rw [← digits_value ha, ← digits_value hb, hl, h]
theorem value_append (s : Nat) : ∀ (a b : List Nat), value s (a ++ b) = value s a + 2 ^ (s * a.length) * value s b
  | [], b => by simp [value]
  | x :: a, b => by
    simp only [List.cons_append, value, value_append s a b, List.length_cons, Nat.mul_succ, Nat.pow_add, Nat.mul_add]
    rw [Nat.mul_comm (2 ^ (s * a.length)) (2 ^ s), Nat.mul_assoc]
    omega
theorem digits_zero (s n : Nat) : digits s n 0 = List.replicate n 0 := by
  apply List.ext_getElem?
  intro i
  by_cases h : i < n
  · rw [digits_get h]; simp [h]
  · rw [List.getElem?_eq_none (by rw [digits_length]; omega), List.getElem?_eq_none (by simp; omega)]
theorem digits_append (s a b N : Nat) : digits s (a + b) N = digits s a N ++ digits s b (N / 2 ^ (s * a)) := by
  unfold digits
  rw [List.range_add, List.map_append, List.map_map]
  congr 1
  refine List.map_congr_left fun i _ => ?_
  simp only [Function.comp, Nat.mul_add]
  rw [Nat.div_div_eq_div_mul, ← Nat.pow_add]

/-- One bit more. -/
theorem digits_step {s n N at_ : Nat} (h0 : 0 < s) (h : at_ < s * n) :
    digits s n (N % 2 ^ (at_ + 1)) = (digits s n (N % 2 ^ at_)).set (at_ / s) ((N % 2 ^ at_) / 2 ^ (s * (at_ / s)) % 2 ^ s ||| (N / 2 ^ at_ % 2) <<< (at_ % s)) := by
  have hi : at_ / s < n := (Nat.div_lt_iff_lt_mul h0).2 (by rw [Nat.mul_comm]; exact h)
  have hd := Nat.div_add_mod at_ s
  have hm := Nat.mod_lt at_ h0
  have hbit : N / 2 ^ at_ % 2 = (N.testBit at_).toNat := by rw [Nat.testBit_eq_decide_div_mod_eq]; have := Nat.mod_two_eq_zero_or_one (N / 2 ^ at_); rcases this with e | e <;> rw [e] <;> rfl
  apply List.ext_getElem?
  intro i
  rw [List.getElem?_set]
  by_cases hn : i < n
  · rw [digits_get hn]
    by_cases he : at_ / s = i
    · rw [if_pos he, if_pos (by rw [digits_length]; omega)]
      subst he
      congr 1
      apply Nat.eq_of_testBit_eq
      intro j
      rw [hbit]
      simp only [Nat.testBit_mod_two_pow, Nat.testBit_div_two_pow, Nat.testBit_or, Nat.testBit_shiftLeft]
      by_cases hj : j < s
      · by_cases hj2 : j < at_ % s
        · have e1 : j + s * (at_ / s) < at_ := by omega
          simp [hj, e1, show j + s * (at_ / s) < at_ + 1 by omega, show ¬ at_ % s ≤ j by omega]
        · by_cases hj3 : j = at_ % s
          · subst hj3
            have e1 : at_ % s + s * (at_ / s) = at_ := by omega
            rw [e1]
            cases N.testBit at_ <;> simp [hm]
          · have e1 : ¬ j + s * (at_ / s) < at_ + 1 := by omega
            simp only [e1, hj, show ¬ j + s * (at_ / s) < at_ by omega]
            have : ((N.testBit at_).toNat).testBit (j - at_ % s) = false := by
              obtain ⟨q, hq⟩ : ∃ q, j - at_ % s = q + 1 := ⟨j - at_ % s - 1, by omega⟩
              rw [hq]
              cases N.testBit at_ <;> simp [Nat.testBit_succ]
            simp [this]
      · have : ((N.testBit at_).toNat).testBit (j - at_ % s) = false := by
          obtain ⟨q, hq⟩ : ∃ q, j - at_ % s = q + 1 := ⟨j - at_ % s - 1, by omega⟩
          rw [hq]
          cases N.testBit at_ <;> simp [Nat.testBit_succ]
        simp [hj, this]
    · rw [if_neg he, digits_get hn]
      congr 1
      apply Nat.eq_of_testBit_eq
      intro j
      simp only [Nat.testBit_mod_two_pow, Nat.testBit_div_two_pow]
      by_cases hj : j < s
      · rcases Nat.lt_or_gt_of_ne he with hlt | hgt
        · have : s * (at_ / s + 1) ≤ s * i := Nat.mul_le_mul_left s hlt
          rw [Nat.mul_succ] at this
          simp [hj, show ¬ j + s * i < at_ + 1 by omega, show ¬ j + s * i < at_ by omega]
        · have : s * (i + 1) ≤ s * (at_ / s) := Nat.mul_le_mul_left s hgt
          rw [Nat.mul_succ] at this
          simp [hj, show j + s * i < at_ + 1 by omega, show j + s * i < at_ by omega]
      · simp [hj]
  · rw [List.getElem?_eq_none (by rw [digits_length]; omega)]
    split
    · rw [if_neg (by rw [digits_length]; omega)]
    · rw [List.getElem?_eq_none (by rw [digits_length]; omega)]
/-- One bit more that is not set. -/
theorem digits_step0 {s n N at_ : Nat} (h : N / 2 ^ at_ % 2 = 0) : digits s n (N % 2 ^ (at_ + 1)) = digits s n (N % 2 ^ at_) := by
  rw [Nat.mod_pow_succ, h, Nat.mul_zero, Nat.add_zero]
/-- A bit of a digit. -/
theorem digit_bit {s N i k : Nat} (hk : k < s) : N / 2 ^ (s * i) % 2 ^ s / 2 ^ k % 2 = N / 2 ^ (s * i + k) % 2 := by
  have key : ∀ M, M / 2 ^ k % 2 = (M.testBit k).toNat := fun M => by
    rw [Nat.testBit_eq_decide_div_mod_eq]; have := Nat.mod_two_eq_zero_or_one (M / 2 ^ k); rcases this with e | e <;> rw [e] <;> rfl
  rw [key, Nat.testBit_mod_two_pow, Nat.testBit_div_two_pow]
  have h2 : N / 2 ^ (s * i + k) % 2 = (N.testBit (s * i + k)).toNat := by
    rw [Nat.testBit_eq_decide_div_mod_eq]; have := Nat.mod_two_eq_zero_or_one (N / 2 ^ (s * i + k)); rcases this with e | e <;> rw [e] <;> rfl
  rw [h2, Nat.add_comm k]
  simp [hk]

theorem vN_length (k : IntKind) (l : List Nat) : (vN k l).length = l.length := by simp [vN]
theorem vN_append (k : IntKind) (a b : List Nat) : vN k (a ++ b) = vN k a ++ vN k b := by simp [vN]
theorem vN_set (k : IntKind) (l : List Nat) (i x : Nat) : vN k (l.set i x) = (vN k l).set i (.int k (x : Int)) := by simp [vN, List.map_set]
theorem vN_get (k : IntKind) {l : List Nat} {i x : Nat} (h : l[i]? = some x) : (vN k l)[i]? = some (.int k (x : Int)) := by simp [vN, h]
theorem vN_bytes {l : List Nat} (h : ∀ x ∈ l, x < 256) : vN .u8 l = vB (l.map UInt8.ofNat) := by
  unfold vN vB
  rw [List.map_map]
  refine List.map_congr_left fun x hx => ?_
  simp only [Function.comp, UInt8.toNat_ofNat']
  rw [Nat.mod_eq_of_lt (h x hx)]
theorem vB_nats (l : List UInt8) : vB l = vN .u8 (l.map UInt8.toNat) := by simp [vB, vN]
/-- n bytes of N. -/
def bytesOf (n N : Nat) : List UInt8 := (digits 8 n N).map UInt8.ofNat
/-- The number that bytes are. -/
def ofBytes (l : List UInt8) : Nat := value 8 (l.map UInt8.toNat)
theorem bytesOf_length (n N : Nat) : (bytesOf n N).length = n := by simp [bytesOf, digits_length]
theorem vB_bytesOf (n N : Nat) : vB (bytesOf n N) = vN .u8 (digits 8 n N) := (vN_bytes fun x hx => digits_lt (s := 8) x hx).symm
theorem bytes_lt (l : List UInt8) : ∀ x ∈ l.map UInt8.toNat, x < 2 ^ 8 := by
  intro x hx
  obtain ⟨y, _, rfl⟩ := List.mem_map.1 hx
  exact y.toNat_lt
theorem ofBytes_lt (l : List UInt8) : ofBytes l < 2 ^ (8 * l.length) := by
  have := value_lt (bytes_lt l)
  rwa [List.length_map] at this
theorem digits_ofBytes (l : List UInt8) : digits 8 l.length (ofBytes l) = l.map UInt8.toNat := by
  have := digits_value (bytes_lt l)
  rwa [List.length_map] at this
theorem bytesOf_ofBytes (l : List UInt8) : bytesOf l.length (ofBytes l) = l := by
  unfold bytesOf
  rw [digits_ofBytes, List.map_map]
  conv => rhs; rw [← List.map_id l]
  refine List.map_congr_left fun x _ => ?_
  simp
theorem ofBytes_bytesOf (n N : Nat) : ofBytes (bytesOf n N) = N % 2 ^ (8 * n) := by
  unfold ofBytes bytesOf
  rw [List.map_map, ← value_digits]
  congr 1
  conv => rhs; rw [← List.map_id (digits 8 n N)]
  refine List.map_congr_left fun x hx => ?_
  have := digits_lt (s := 8) x hx
  simp only [Function.comp, UInt8.toNat_ofNat', id]
  omega

/-! ### The machine's operations -/
theorem shr_nat (k : IntKind) (v c : Nat) (hc : c ≤ k.bits) : shrI k (v : Int) c = ((v / 2 ^ c : Nat) : Int) := by
  unfold shrI
  rw [Nat.min_eq_left hc, Int.fdiv_eq_ediv_of_nonneg _ (by exact Int.le_of_lt (Int.pow_pos (by decide)))]
  simp
theorem shl_two (k : IntKind) (v c : Nat) (hc : c ≤ k.bits) (hf : k.wrap ((v * 2 ^ c : Nat) : Int) = ((v * 2 ^ c : Nat) : Int)) : shlI k (v : Int) c = ((v * 2 ^ c : Nat) : Int) := by
  unfold shlI
  rw [Nat.min_eq_left hc, ← hf]
  simp
theorem u64_nat {n : Nat} (h : n < 18446744073709551616) : IntKind.u64.wrap (n : Int) = (n : Int) := u64_fit (by omega) (by omega)
theorem u8_nat {n : Nat} (h : n < 256) : IntKind.u8.wrap (n : Int) = (n : Int) := u8_fit (by omega) (by omega)
theorem i64_nat {n : Nat} (h : n < 9223372036854775808) : IntKind.i64.wrap (n : Int) = (n : Int) := i64_fit (by omega) (by omega)
theorem or_u64 {a b : Nat} (ha : a < 18446744073709551616) (hb : b < 18446744073709551616) : bits .or .u64 (a : Int) (b : Int) = ((a ||| b : Nat) : Int) := (bits_nat .u64 64 (by decide) (fun n h0 h1 => u64_fit h0 h1) a b ha hb).2
theorem and_u64 {a b : Nat} (ha : a < 18446744073709551616) (hb : b < 18446744073709551616) : bits .and .u64 (a : Int) (b : Int) = ((a &&& b : Nat) : Int) := (bits_nat .u64 64 (by decide) (fun n h0 h1 => u64_fit h0 h1) a b ha hb).1
theorem or_u8 {a b : Nat} (ha : a < 256) (hb : b < 256) : bits .or .u8 (a : Int) (b : Int) = ((a ||| b : Nat) : Int) := (bits_nat .u8 8 (by decide) (fun n h0 h1 => u8_fit h0 h1) a b ha hb).2
theorem and_u8 {a b : Nat} (ha : a < 256) (hb : b < 256) : bits .and .u8 (a : Int) (b : Int) = ((a &&& b : Nat) : Int) := (bits_nat .u8 8 (by decide) (fun n h0 h1 => u8_fit h0 h1) a b ha hb).1
theorem and_i64 {a b : Nat} (ha : a < 9223372036854775808) (hb : b < 9223372036854775808) : bits .and .i64 (a : Int) (b : Int) = ((a &&& b : Nat) : Int) := (bits_nat .i64 63 (by decide) (fun n h0 h1 => i64_fit (by omega) (by simp at h1; omega)) a b ha hb).1
theorem quo_i64 {a : Nat} (b : Nat) (h : a < 9223372036854775808) : quoI .i64 (a : Int) (b : Int) = ((a / b : Nat) : Int) := quo_nat .i64 a b (i64_nat (Nat.lt_of_le_of_lt (Nat.div_le_self a b) h))
theorem quo_u64 {a : Nat} (b : Nat) (h : a < 18446744073709551616) : quoI .u64 (a : Int) (b : Int) = ((a / b : Nat) : Int) := quo_nat .u64 a b (u64_nat (Nat.lt_of_le_of_lt (Nat.div_le_self a b) h))

theorem i64_next {n : Nat} (h : n < 9223372036854775807) : IntKind.i64.wrap ((n : Int) + 1) = ((n + 1 : Nat) : Int) := i64_fit (by omega) (by omega)
theorem take_snoc {α : Type} {l : List α} {k : Nat} {x : α} (h : l[k]? = some x) : l.take (k + 1) = l.take k ++ [x] := by rw [List.take_add_one, h]; rfl

/-- A bit set in a byte, in a word. -/
theorem byte_or {a b j : Nat} (ha : a < 256) (hb : b < 2) (hj : j < 8) : bits .or .u8 (a : Int) (shlI .u8 (b : Int) j) = ((a ||| b <<< j : Nat) : Int) := by
  have hp : 2 ^ j ≤ 128 := Nat.pow_le_pow_right (n := 2) (j := 7) (by decide) (by omega)
  have hlt : b * 2 ^ j < 256 := by rcases (by omega : b = 0 ∨ b = 1) with rfl | rfl <;> omega
  rw [shl_two .u8 b j (Nat.le_of_lt hj) (u8_nat hlt), or_u8 ha hlt, Nat.shiftLeft_eq]
theorem word_or {a b j : Nat} (ha : a < 18446744073709551616) (hb : b < 2) (hj : j < 64) : bits .or .u64 (a : Int) (shlI .u64 (b : Int) j) = ((a ||| b <<< j : Nat) : Int) := by
  have hp : 2 ^ j ≤ 9223372036854775808 := Nat.pow_le_pow_right (n := 2) (j := 63) (by decide) (by omega)
  have hlt : b * 2 ^ j < 18446744073709551616 := by rcases (by omega : b = 0 ∨ b = 1) with rfl | rfl <;> omega
  rw [shl_two .u64 b j (Nat.le_of_lt hj) (u64_nat hlt), or_u64 ha hlt, Nat.shiftLeft_eq]

/-! ### How many bits a number needs -/
def bl (v : Nat) : Nat := if v = 0 then 0 else v.log2 + 1
theorem bl_le {v k : Nat} : bl v ≤ k ↔ v < 2 ^ k := by
  unfold bl
  split
  · rename_i h; subst h; simp [Nat.two_pow_pos]
  · rename_i h; rw [← Nat.log2_lt h]; omega
theorem bl_unique {v m : Nat} (h : ∀ k, m ≤ k ↔ v < 2 ^ k) : bl v = m := Nat.le_antisymm (bl_le.2 ((h m).1 (Nat.le_refl _))) ((h (bl v)).2 (bl_le.1 (Nat.le_refl _)))
theorem bl_shift {v c : Nat} (h : 2 ^ c ≤ v) : bl v = c + bl (v / 2 ^ c) := by
  refine bl_unique fun k => ?_
  by_cases hk : c ≤ k
  · obtain ⟨d, rfl⟩ := Nat.exists_eq_add_of_le hk
    rw [Nat.add_le_add_iff_left, bl_le, Nat.div_lt_iff_lt_mul (Nat.two_pow_pos c), Nat.pow_add, Nat.mul_comm]
  · have h1 : ¬ v < 2 ^ k := fun hlt => by have := Nat.pow_le_pow_right (n := 2) (by decide) (Nat.le_of_lt (Nat.lt_of_not_le hk)); omega
    exact ⟨fun h2 => absurd (Nat.le_trans (Nat.le_add_right _ _) h2) hk, fun h2 => absurd h2 h1⟩
/-- All numbers' bits together. -/
def orL (l : List Nat) : Nat := l.foldl (· ||| ·) 0
theorem foldl_or_lt {k : Nat} : ∀ (l : List Nat) (a : Nat), l.foldl (· ||| ·) a < 2 ^ k ↔ a < 2 ^ k ∧ ∀ x ∈ l, x < 2 ^ k
  | [], a => by simp
  | x :: l, a => by
    rw [List.foldl_cons, foldl_or_lt l (a ||| x)]
    constructor
    · rintro ⟨h1, h2⟩
      have ha : a < 2 ^ k := Nat.lt_of_le_of_lt Nat.left_le_or h1
      have hx : x < 2 ^ k := Nat.lt_of_le_of_lt Nat.right_le_or h1
      exact ⟨ha, by simpa using ⟨hx, h2⟩⟩
    · rintro ⟨ha, h2⟩
      exact ⟨Nat.or_lt_two_pow ha (h2 x (by simp)), fun y hy => h2 y (by simp [hy])⟩
theorem orL_lt {k : Nat} (l : List Nat) : orL l < 2 ^ k ↔ ∀ x ∈ l, x < 2 ^ k := by unfold orL; rw [foldl_or_lt]; simp [Nat.two_pow_pos]
theorem orL_snoc (l : List Nat) (x : Nat) : orL (l ++ [x]) = orL l ||| x := by simp [orL]
/-- The least width of numbers. -/
def widthN (l : List Nat) : Nat := bl (orL l)
theorem widthN_le {l : List Nat} {k : Nat} : widthN l ≤ k ↔ ∀ x ∈ l, x < 2 ^ k := by unfold widthN; rw [bl_le, orL_lt]

/-! ### Numbers that lie in a row -/
/-- A slice of 64-bit numbers that came in. -/
structure Us (w : World) (p : Option Addr) (n c : Nat) (l : List Nat) : Prop where
  len : l.length = n
  cap : n ≤ c ∧ c ≤ maxLen
  lies : At w p (vN .u64 l)
  nil : p = none → n = 0 ∧ c = 0
  lt : ∀ x ∈ l, x < 18446744073709551616
theorem Us.ext {w w' : World} {p : Option Addr} {n c : Nat} {l : List Nat} (h : Us w p n c l) (e : Ext w w') : Us w' p n c l := ⟨h.len, h.cap, h.lies.ext e, h.nil, h.lt⟩
theorem Us.le {w : World} {p : Option Addr} {n c : Nat} {l : List Nat} (h : Us w p n c l) : n ≤ maxLen := Nat.le_trans h.cap.1 h.cap.2
theorem Us.nothing (w : World) : Us w none 0 0 [] := ⟨rfl, ⟨Nat.le_refl _, Nat.zero_le _⟩, .inl rfl, fun _ => ⟨rfl, rfl⟩, by simp⟩
theorem At.getN {w : World} {p : Option Addr} {k : IntKind} {l : List Nat} (h : At w p (vN k l)) {i x : Nat} (hi : l[i]? = some x) : ∃ b o, p = some ⟨b, o, none⟩ ∧ w.cell? ⟨b, o + i, none⟩ = some (.int k (x : Int)) := by
  rcases h with h | ⟨b, o, hp, hc⟩
  · have := vN_get k hi; rw [h] at this; cases this
  · exact ⟨b, o, hp, hc i _ (vN_get k hi)⟩
/-- Bytes of our own; numbers of our own. -/
def OutB (B : Nat) (t : TypeId) (w : World) (p : Option Addr) (n c : Nat) (l : List UInt8) : Prop := l.length = n ∧ Mine B t 1 w p n c (vB l)
def OutU (B : Nat) (t : TypeId) (w : World) (p : Option Addr) (n c : Nat) (l : List Nat) : Prop := l.length = n ∧ (∀ x ∈ l, x < 18446744073709551616) ∧ Mine B t 1 w p n c (vN .u64 l)
/-- Bytes that came in. -/
structure InB (w : World) (p : Option Addr) (n c : Nat) (l : List UInt8) : Prop where
  len : l.length = n
  cap : n ≤ c ∧ c ≤ maxLen
  lies : At w p (vB l)
  nil : p = none → n = 0 ∧ c = 0
theorem InB.ext {w w' : World} {p : Option Addr} {n c : Nat} {l : List UInt8} (h : InB w p n c l) (e : Ext w w') : InB w' p n c l := ⟨h.len, h.cap, h.lies.ext e, h.nil⟩
theorem InB.bytes {w : World} {p : Option Addr} {n c : Nat} {l : List UInt8} (h : InB w p n c l) : BytesAt w p n l := h.lies.bytes' h.len
theorem InB.le {w : World} {p : Option Addr} {n c : Nat} {l : List UInt8} (h : InB w p n c l) : n ≤ maxLen := Nat.le_trans h.cap.1 h.cap.2
theorem OutB.ext {B : Nat} {t : TypeId} {w w' : World} {p : Option Addr} {n c : Nat} {l : List UInt8} (h : OutB B t w p n c l) (e : Ext w w') : OutB B t w' p n c l := ⟨h.1, h.2.ext e⟩
theorem OutB.inn {B : Nat} {t : TypeId} {w : World} {p : Option Addr} {n c : Nat} {l : List UInt8} (h : OutB B t w p n c l) : InB w p n c l := ⟨h.1, h.2.cap, h.2.at, h.2.isNil⟩
theorem OutB.bytes {B : Nat} {t : TypeId} {w : World} {p : Option Addr} {n c : Nat} {l : List UInt8} (h : OutB B t w p n c l) : BytesAt w p n l := h.2.at.bytes' h.1
theorem OutU.ext {B : Nat} {t : TypeId} {w w' : World} {p : Option Addr} {n c : Nat} {l : List Nat} (h : OutU B t w p n c l) (e : Ext w w') : OutU B t w' p n c l := ⟨h.1, h.2.1, h.2.2.ext e⟩
theorem OutU.us {B : Nat} {t : TypeId} {w : World} {p : Option Addr} {n c : Nat} {l : List Nat} (h : OutU B t w p n c l) : Us w p n c l := ⟨h.1, h.2.2.cap, h.2.2.at, h.2.2.isNil, h.2.1⟩
/-- A block of our own, as a row. -/
theorem Blk.mine {w : World} {b B cap s : Nat} {t : TypeId} {cs : Array Value} (h : Blk w b t cs) (hB : B ≤ b) (hs : cs.size = cap * s) (hm : cap ≤ maxLen) : Mine B t s w (some ⟨b, 0, none⟩) cap cap cs.toList :=
  ⟨by simp [hs], .inr ⟨b, cap, cs, rfl, hB, h, Nat.le_refl _, hm, hs, by rw [List.take_of_length_le (by simp [hs])]⟩⟩
theorem madeCells_nat (k : IntKind) (n : Nat) : madeCells #[.int k 0] n = (vN k (List.replicate n 0)).toArray := by
  apply Array.ext'
  apply List.ext_getElem?
  intro i
  simp only [madeCells, vN, List.map_replicate]
  by_cases h : i < n
  · simp [h, Nat.mod_one]
  · rw [List.getElem?_eq_none (by simp; omega), List.getElem?_eq_none (by simp; omega)]
end Go.Vc

/- The frame: what a walk holds in memory of its own, boxes and rows, and how each step turns it. -/
namespace Go.Vc
open Go Go.RowKit

/-! ### append, and where the row then lies -/
theorem ok_inj {v v' : Value} {w w' : World} {r : Result Value} (h : r = .ok v w) (h' : r = .ok v' w') : v = v' ∧ w = w' := by
  rw [h] at h'; cases h'; exact ⟨rfl, rfl⟩

/-- As append_own; the row lies where it lay, or is new. -/
theorem append_at {P : Program} {t ty u : TypeId} {z : Ty} {B s : Nat} {w : World} {p q : Option Addr} {n c m d : Nat} {xs news : List Value} (ht : P.underlying t = some (.slice u)) (hz : tyOf P u = some z)
    (h1 : z.ls.length = s) (h0 : 0 < s) (hown : Mine B u s w p n c xs) (hat : At w q news) (hm : news.length = m * s) (hq : q = none → m = 0 ∧ d = 0) (hone : ∀ x ∈ news, x.oneCell' = true) (hB : B ≤ w.heap.size)
    (hroom : ((n + m) + (n + m) / 4 + 192) * z.bytes ≤ 281474976710656) (hlen : n + m ≤ maxLen) :
    ∃ p' c' w', (Builtin.append_ #[t, t] ty #[.slice p n c, .slice q m d]).run P w = .ok (.slice p' (n + m) c') w' ∧ Mine B u s w' p' (n + m) c' (xs ++ news) ∧ w.grownBy w' (Value.slice p n c).ownBlock ∧
      (∀ b o, p' = some ⟨b, o, none⟩ → w.heap.size ≤ b ∨ p = some ⟨b, 0, none⟩) := by
  obtain ⟨p', c', w', hrun, hmine, hg⟩ := append_own (ty := ty) ht hz h1 h0 hown hat hm hq hone hB hroom hlen
  refine ⟨p', c', w', hrun, hmine, hg, ?_⟩
  rcases hown.shape with ⟨rfl, rfl, rfl, rfl⟩ | ⟨g, rfl, hg1, hg2⟩
  · obtain ⟨p2, c2, w2, hrun2, hmine2, _⟩ := append_own (ty := ty) ht hz h1 h0 (Mine.nil w.heap.size u s w) hat hm hq hone (Nat.le_refl _) hroom hlen
    obtain ⟨e, _⟩ := ok_inj hrun hrun2
    cases e
    exact fun b o hb => .inl (hmine2.ge b o hb).1
  · obtain ⟨g', cur, hp, _, hblk, hcs, htake⟩ := hown.blk (.inr (by simp))
    cases hp
    obtain ⟨i, d', hi, hzz, hd, hsz, hls, hag, hby⟩ := tyOf_spec hz
    have hsize : i.size = s := by rw [hsz]; have := h1; rw [hls, length_leavesOf] at this; simpa using this
    subst hsize
    cases q with
    | none =>
      obtain ⟨rfl, rfl⟩ := hq rfl
      have hcap := hown.cap.1
      have hr : (Builtin.append_ #[t, t] ty #[.slice (some ⟨g, 0, none⟩) n c, .slice none 0 0]).run P w = .ok (.slice (some ⟨g, 0, none⟩) n c) w := by
        simp [Builtin.append_, run_underlying ht, sizeOf, typeInfo, hi, Builtin.lenOf, hcap, Builtin.firstCells, storeCells]
      obtain ⟨e, _⟩ := ok_inj hrun hr
      cases e
      exact fun b o hb => .inr (by cases hb; rfl)
    | some a =>
      have hnews : ∀ j x, news[j]? = some x → w.cell? (a.add j) = some x := by
        intro j x hx
        rcases hat with rfl | ⟨b, o, hp, hc⟩
        · simp at hx
        · cases hp; rw [Addr.add_lit]; exact hc j x hx
      by_cases hfit : n + m ≤ c
      · have hr := run_append_room (P := P) w t ty u i ht hi g n c cur hblk a m d news hm hnews hone hfit (by rw [hm, hcs, ← Nat.add_mul]; exact Nat.mul_le_mul_right _ hfit)
        obtain ⟨e, _⟩ := ok_inj hrun hr
        cases e
        exact fun b o hb => .inr (by cases hb; rfl)
      · have holds : ∀ j x, xs[j]? = some x → w.cell? ((⟨g, 0, none⟩ : Addr).add j) = some x := by
          intro j x hj
          rw [Addr.add_lit, hblk.cell, Nat.zero_add]
          rw [← htake, List.getElem?_take] at hj
          split at hj
          · simpa using hj
          · cases hj
        simp only [maxLen] at hlen
        have hr := run_append_grow (P := P) w t ty u i _ ht hi hzz ⟨g, 0, none⟩ n c xs hown.len holds a m d news hm hnews (by omega) (by omega) (growslice_fits_wide (by omega) (by rw [← hby]; exact hroom))
        obtain ⟨e, _⟩ := ok_inj hrun hr
        cases e
        exact fun b o hb => .inl (by cases hb; exact Nat.le_refl _)

theorem append_str_at {P : Program} {t v ty u : TypeId} {z : Ty} {B : Nat} {w : World} {p : Option Addr} {n c : Nat} {xs : List Value} (ht : P.underlying t = some (.slice u)) (hv : P.underlying v = some .string) (hz : tyOf P u = some z)
    (h1 : z.zero = .int .u8 0) (h2 : z.bytes = 1) (hown : Mine B u 1 w p n c xs) (s : ByteArray) (hs : s.size ≤ 1099511627776) (hB : B ≤ w.heap.size) (hroom : n + s.size ≤ 211106232532992) :
    ∃ p' c' w', (Builtin.append_ #[t, v] ty #[.slice p n c, .string s]).run P w = .ok (.slice p' (n + s.size) c') w' ∧ Mine B u 1 w' p' (n + s.size) c' (xs ++ Lib.strCells s) ∧ w.grownBy w' (Value.slice p n c).ownBlock ∧
      (∀ b o, p' = some ⟨b, o, none⟩ → w.heap.size ≤ b ∨ p = some ⟨b, 0, none⟩) := by
  obtain ⟨p', c', w', hrun, hmine, hg⟩ := append_str (ty := ty) ht hv hz h1 h2 hown s hs hB hroom
  refine ⟨p', c', w', hrun, hmine, hg, ?_⟩
  rcases hown.shape with ⟨rfl, rfl, rfl, rfl⟩ | ⟨g, rfl, hg1, hg2⟩
  · obtain ⟨p2, c2, w2, hrun2, hmine2, _⟩ := append_str (ty := ty) ht hv hz h1 h2 (Mine.nil w.heap.size u 1 w) s hs (Nat.le_refl _) hroom
    obtain ⟨e, _⟩ := ok_inj hrun hrun2
    cases e
    exact fun b o hb => .inl (hmine2.ge b o hb).1
  · obtain ⟨g', cur, hp, _, hblk, hcs, htake⟩ := hown.blk (.inr (by simp))
    cases hp
    obtain ⟨i, d', hi, hzz, hd, hsz, hls, hag, hby⟩ := tyOf_spec hz
    rw [h1] at hzz hsz
    have hsize : i.size = 1 := by rw [hsz]; rfl
    have hb1 : i.bytes = 1 := by omega
    have hxl : xs.length = n := by have := hown.len; omega
    by_cases hfit : n + s.size ≤ c
    · have hr := Lib.run_append_room_string (P := P) (w := w) t v ty u i ht hv hi hsize g n c cur hblk s hfit (by omega)
      obtain ⟨e, _⟩ := ok_inj hrun hr
      cases e
      exact fun b o hb => .inr (by cases hb; rfl)
    · have holds : ∀ j x, xs[j]? = some x → w.cell? ((⟨g, 0, none⟩ : Addr).add j) = some x := by
        intro j x hj
        rw [Addr.add_lit, hblk.cell, Nat.zero_add]
        rw [← htake, List.getElem?_take] at hj
        split at hj
        · simpa using hj
        · cases hj
      have hr := Lib.run_append_grow_string (P := P) (w := w) t v ty u i (.int .u8 0) ht hv hi hzz ⟨g, 0, none⟩ n c xs (by rw [hsize]; omega) holds s (by omega) (by omega)
        (by rw [hb1]; exact growslice_fits_wide (by omega) (by omega))
      obtain ⟨e, _⟩ := ok_inj hrun hr
      cases e
      exact fun b o hb => .inl (by cases hb; exact Nat.le_refl _)

/-! ### The frame -/
/-- A growable row of our own: its elements' type, their cells, the slice, and what it holds. -/
structure Row where
  t : TypeId
  s : Nat
  p : Option Addr
  n : Nat
  c : Nat
  vs : List Value

/-- Since w0 we have laid the blocks fs and the rows ms, all unlike; all that was there is as it was. -/
structure Hold (w0 W : World) (fs : List (Nat × Obj)) (ms : List Row) : Prop where
  ext : Ext w0 W
  ge : ∀ x ∈ fs, w0.heap.size ≤ x.1
  holds : ∀ (i : Nat) x, fs[i]? = some x → W.heap[x.1]? = some x.2
  keys : ∀ (i j : Nat) x y, fs[i]? = some x → fs[j]? = some y → i ≠ j → x.1 ≠ y.1
  own : ∀ (i : Nat) m, ms[i]? = some m → Mine w0.heap.size m.t m.s W m.p m.n m.c m.vs
  apart : ∀ (i j : Nat) x m, fs[i]? = some x → ms[j]? = some m → ∀ b o, m.p = some ⟨b, o, none⟩ → x.1 ≠ b
  rows : ∀ (i j : Nat) m m', ms[i]? = some m → ms[j]? = some m' → i ≠ j → ∀ b o b' o', m.p = some ⟨b, o, none⟩ → m'.p = some ⟨b', o', none⟩ → b ≠ b'

section
variable {w0 W W' : World} {fs : List (Nat × Obj)} {ms : List Row} {b d l k : Nat} {o : Obj} {r : Nat → Loop} {t u : TypeId} {s n c : Nat} {p : Option Addr} {vs : List Value} {cs : Array Value}

theorem Hold.start (h : Ext w0 W) : Hold w0 W [] [] := ⟨h, by simp, by simp, by simp, by simp, by simp, by simp⟩
theorem Hold.size (h : Hold w0 W fs ms) : w0.heap.size ≤ W.heap.size := h.ext.size
theorem Hold.lt (h : Hold w0 W fs ms) (i : Nat) {x : Nat × Obj} (hi : fs[i]? = some x) : x.1 < W.heap.size := (Array.getElem?_eq_some_iff.1 (h.holds i x hi)).1

/-- All of ours is as it was. -/
theorem Hold.step (h : Hold w0 W fs ms) (e : Ext W W') : Hold w0 W' fs ms :=
  ⟨h.ext.trans e, h.ge, fun i x hx => (e.block _ (h.lt i hx)).trans (h.holds i x hx), h.keys, fun i m hm => (h.own i m hm).ext e, h.apart, h.rows⟩

/-- A new block. -/
theorem Hold.new (h : Hold w0 W fs ms) (e : New W o b W') : Hold w0 W' ((b, o) :: fs) ms := by
  have h' := h.step e.ext
  obtain ⟨hb, hs⟩ := e.size
  refine ⟨h'.ext, ?_, ?_, ?_, h'.own, ?_, h'.rows⟩
  · intro x hx
    rcases List.mem_cons.1 hx with rfl | hx
    · rw [hb]; exact h.size
    · exact h.ge x hx
  · intro i x hx
    cases i with
    | zero => cases hx; exact e.obj
    | succ i => exact h'.holds i x (by simpa using hx)
  · intro i j x y hx hy hij
    cases i with
    | zero =>
      cases hx
      cases j with
      | zero => omega
      | succ j => have := h.lt j (by simpa using hy); simp only; omega
    | succ i =>
      have h1 := h.lt i (by simpa using hx)
      cases j with
      | zero => cases hy; simp only; omega
      | succ j => exact h.keys i j x y (by simpa using hx) (by simpa using hy) (by omega)
  · intro i j x m hx hm b' o' hp
    cases i with
    | zero => cases hx; have := (h.own j m hm).ge b' o' hp; simp only; omega
    | succ i => exact h.apart i j x m (by simpa using hx) hm b' o' hp

/-- Block i has turned. -/
theorem Hold.upd (h : Hold w0 W fs ms) (i : Nat) {o o' : Obj} (hi : fs[i]? = some (b, o)) (e : But b W W') (ho : W'.heap[b]? = some o') : Hold w0 W' (fs.set i (b, o')) ms := by
  have hge := h.ge _ (List.mem_of_getElem? hi)
  have key : ∀ (j : Nat) x, (fs.set i (b, o'))[j]? = some x → ∃ y, fs[j]? = some y ∧ y.1 = x.1 ∧ (j ≠ i → y = x) := by
    intro j x hx
    rw [List.getElem?_set] at hx
    split at hx
    · rename_i hij
      subst hij
      split at hx
      · cases hx; exact ⟨_, hi, rfl, fun hne => absurd rfl hne⟩
      · cases hx
    · exact ⟨x, hx, rfl, fun _ => rfl⟩
  refine ⟨h.ext.below.but e hge h.size, ?_, ?_, ?_, ?_, ?_, h.rows⟩
  · intro x hx
    obtain ⟨j, hj⟩ := List.mem_iff_getElem?.1 hx
    obtain ⟨y, hy, hyx, _⟩ := key j x hj
    rw [← hyx]; exact h.ge _ (List.mem_of_getElem? hy)
  · intro j x hx
    by_cases hij : j = i
    · subst hij
      rw [List.getElem?_set, if_pos rfl] at hx
      split at hx
      · cases hx; exact ho
      · cases hx
    · obtain ⟨y, hy, _, hyx⟩ := key j x hx
      have := hyx hij
      subst this
      rw [e.block _ (h.lt j hy) (h.keys j i _ _ hy hi hij)]
      exact h.holds j _ hy
  · intro j k x y hx hy hjk
    obtain ⟨x', hx', e1, _⟩ := key j x hx
    obtain ⟨y', hy', e2, _⟩ := key k y hy
    rw [← e1, ← e2]; exact h.keys j k _ _ hx' hy' hjk
  · intro j m hm
    exact (h.own j m hm).but e fun b' o' hp hb => h.apart i j _ m hi hm b' o' hp hb.symm
  · intro j k x m hx hm b' o' hp
    obtain ⟨x', hx', e1, _⟩ := key j x hx
    rw [← e1]; exact h.apart j k _ m hx' hm b' o' hp

theorem Hold.base (h : Hold w0 W fs ms) (i : Nat) (hi : fs[i]? = some (b, o)) : w0.heap.size ≤ b := h.ge _ (List.mem_of_getElem? hi)
theorem Hold.blk (h : Hold w0 W fs ms) (i : Nat) (hi : fs[i]? = some (b, .cells cs t (0, 0))) : Blk W b t cs := h.holds i _ hi
theorem Hold.put (h : Hold w0 W fs ms) (i : Nat) {q : Nat} (hi : fs[i]? = some (b, .cells cs t (0, 0))) (e : Put W b q vs W') : Hold w0 W' (fs.set i (b, .cells (setA cs q vs) t (0, 0))) ms :=
  h.upd i hi e.but ((h.blk i hi).put e)
theorem Hold.box (h : Hold w0 W fs ms) (i : Nat) {v v' : Value} (hi : fs[i]? = some (b, .cells #[v] t (0, 0))) (e : Put W b 0 [v'] W') : Hold w0 W' (fs.set i (b, .cells #[v'] t (0, 0))) ms := h.put i hi e
theorem Hold.loop (h : Hold w0 W fs ms) (i : Nat) (hi : fs[i]? = some (l, .loop (r k))) : Rec r l k W := h.holds i _ hi
theorem Hold.dfr (h : Hold w0 W fs ms) (i : Nat) (hi : fs[i]? = some (d, .deferred (some []))) : Dfr d W := h.holds i _ hi
theorem Hold.turn (h : Hold w0 W fs ms) (i k' : Nat) (hi : fs[i]? = some (l, .loop (r k))) : Hold w0 (Go.Vc.turn r l k' W) (fs.set i (l, .loop (r k'))) ms :=
  h.upd i hi turn_but.1 ((h.loop i hi).turn k')
theorem Hold.shut (h : Hold w0 W fs ms) (i : Nat) (hi : fs[i]? = some (d, .deferred (some []))) : Hold w0 (W.putObj d (.deferred none)) (fs.set i (d, .deferred none)) ms :=
  h.upd i hi shut_but.1 (World.putObj_heap_same (h.dfr i hi).lt)
theorem Hold.began (h : Hold w0 W fs ms) (e : Began W r d l W') : Hold w0 W' ((l, .loop (r 0)) :: (d, .deferred (some [])) :: fs) ms := by
  obtain ⟨rfl, rfl, rfl⟩ := e
  exact (h.new ⟨rfl, rfl⟩).new ⟨by simp, rfl⟩

/-- Fewer are held. -/
theorem Hold.drop (h : Hold w0 W fs ms) (fs' : List (Nat × Obj)) (f : Nat → Nat) (hf : ∀ (i : Nat) x, fs'[i]? = some x → fs[f i]? = some x) (hj : ∀ i j, f i = f j → i = j) : Hold w0 W fs' ms :=
  ⟨h.ext, fun x hx => by obtain ⟨j, hj⟩ := List.mem_iff_getElem?.1 hx; exact h.ge x (List.mem_of_getElem? (hf j x hj)), fun i x hx => h.holds _ x (hf i x hx),
    fun i j x y hx hy hij => h.keys _ _ x y (hf i x hx) (hf j y hy) fun e => hij (hj _ _ e), h.own, fun i j x m hx => h.apart _ j x m (hf i x hx), h.rows⟩
theorem Hold.tail {x : Nat × Obj} (h : Hold w0 W (x :: fs) ms) : Hold w0 W fs ms := h.drop fs (· + 1) (fun i x hx => by simpa using hx) (fun i j e => by omega)

/-- Fewer rows are held. -/
theorem Hold.dropRows (h : Hold w0 W fs ms) (ms' : List Row) (f : Nat → Nat) (hf : ∀ (i : Nat) x, ms'[i]? = some x → ms[f i]? = some x) (hj : ∀ i j, f i = f j → i = j) : Hold w0 W fs ms' :=
  ⟨h.ext, h.ge, h.holds, h.keys, fun i m hm => h.own _ m (hf i m hm), fun i j x m hx hm => h.apart i _ x m hx (hf j m hm), fun i j m m' hm hm' hij => h.rows _ _ m m' (hf i m hm) (hf j m' hm') fun e => hij (hj _ _ e)⟩
theorem Hold.oneRow {m : Row} (h : Hold w0 W fs (m :: ms)) : Hold w0 W fs [m] := h.dropRows [m] (fun i => i) (fun i x hx => by cases i with | zero => exact hx | succ i => simp at hx) fun _ _ e => e
theorem Hold.tailRow {m : Row} (h : Hold w0 W fs (m :: ms)) : Hold w0 W fs ms := h.dropRows ms (· + 1) (fun i x hx => by simpa using hx) fun i j e => by omega
theorem Hold.noRow (h : Hold w0 W fs ms) : Hold w0 W fs [] := h.dropRows [] (fun i => i) (fun i x hx => by simp at hx) fun _ _ e => e

/-- A row of ours, nil. -/
theorem Hold.nilRow (h : Hold w0 W fs ms) (t : TypeId) (s : Nat) : Hold w0 W fs (⟨t, s, none, 0, 0, []⟩ :: ms) := by
  refine ⟨h.ext, h.ge, h.holds, h.keys, ?_, ?_, ?_⟩
  · intro i m hm
    cases i with
    | zero => cases hm; exact Mine.nil _ _ _ _
    | succ i => exact h.own i m (by simpa using hm)
  · intro i j x m hx hm b o hp
    cases j with
    | zero => cases hm; cases hp
    | succ j => exact h.apart i j x m hx (by simpa using hm) b o hp
  · intro i j m m' hm hm' hij b o b' o' hp hp'
    cases i with
    | zero => cases hm; cases hp
    | succ i =>
      cases j with
      | zero => cases hm'; cases hp'
      | succ j => exact h.rows i j m m' (by simpa using hm) (by simpa using hm') (by omega) b o b' o' hp hp'

/-- A row of ours, laid by a step that left all else. -/
theorem Hold.addRow (h : Hold w0 W fs ms) (e : Ext W W') (hm : Mine W.heap.size t s W' p n c vs) : Hold w0 W' fs (⟨t, s, p, n, c, vs⟩ :: ms) := by
  have h' := h.step e
  refine ⟨h'.ext, h'.ge, h'.holds, h'.keys, ?_, ?_, ?_⟩
  · intro i m hm'
    cases i with
    | zero => cases hm'; exact hm.mono h.size
    | succ i => exact h'.own i m (by simpa using hm')
  · intro i j x m hx hm' b o hp
    cases j with
    | zero => cases hm'; have := h.lt i hx; have := hm.ge b o hp; omega
    | succ j => exact h.apart i j x m hx (by simpa using hm') b o hp
  · intro i j m m' hm1 hm2 hij b o b' o' hp hp'
    cases i with
    | zero =>
      cases hm1
      cases j with
      | zero => omega
      | succ j => have := (h.own j m' (by simpa using hm2)).ge b' o' hp'; have := hm.ge b o hp; omega
    | succ i =>
      cases j with
      | zero => cases hm2; have := (h.own i m (by simpa using hm1)).ge b o hp; have := hm.ge b' o' hp'; omega
      | succ j => exact h.rows i j m m' (by simpa using hm1) (by simpa using hm2) (by omega) b o b' o' hp hp'
theorem Hold.madeRow (h : Hold w0 W fs ms) {cap : Nat} (e : New W (.cells cs t) b W') (hm : cap ≤ maxLen) (hs : cs.size = cap * s) : Hold w0 W' fs (⟨t, s, some ⟨b, 0, none⟩, 0, cap, []⟩ :: ms) := h.addRow e.ext (Mine.made e (Nat.le_refl _) hm hs)
theorem Hold.litRow (h : Hold w0 W fs ms) {cap : Nat} (e : New W (.cells cs t) b W') (hm : cap ≤ maxLen) (hs : cs.size = cap * s) : Hold w0 W' fs (⟨t, s, some ⟨b, 0, none⟩, cap, cap, cs.toList⟩ :: ms) := h.addRow e.ext (Mine.lit e (Nat.le_refl _) hm hs)

theorem Hold.row (h : Hold w0 W fs ms) (i : Nat) (hi : ms[i]? = some ⟨t, s, p, n, c, vs⟩) : Mine w0.heap.size t s W p n c vs := h.own i _ hi

/-- Row i has turned. -/
theorem Hold.updRow (h : Hold w0 W fs ms) (i : Nat) {p' : Option Addr} {n' c' : Nat} {vs' : List Value} (hi : ms[i]? = some ⟨t, s, p, n, c, vs⟩) (hg : (p = none ∧ Ext W W') ∨ ∃ b, p = some ⟨b, 0, none⟩ ∧ w0.heap.size ≤ b ∧ But b W W')
    (hm : Mine w0.heap.size t s W' p' n' c' vs') (hp : ∀ b o, p' = some ⟨b, o, none⟩ → W.heap.size ≤ b ∨ p = some ⟨b, 0, none⟩) : Hold w0 W' fs (ms.set i ⟨t, s, p', n', c', vs'⟩) := by
  have key : ∀ (j : Nat) m, (ms.set i ⟨t, s, p', n', c', vs'⟩)[j]? = some m → (j = i ∧ m = ⟨t, s, p', n', c', vs'⟩) ∨ (j ≠ i ∧ ms[j]? = some m) := by
    intro j m hm
    rw [List.getElem?_set] at hm
    split at hm
    · rename_i hij
      split at hm
      · cases hm; exact .inl ⟨hij.symm, rfl⟩
      · cases hm
    · rename_i hij; exact .inr ⟨fun e => hij e.symm, hm⟩
  have base : Ext w0 W' ∧ (∀ (i : Nat) x, fs[i]? = some x → W'.heap[x.1]? = some x.2) ∧ ∀ (j : Nat) m, j ≠ i → ms[j]? = some m → Mine w0.heap.size m.t m.s W' m.p m.n m.c m.vs := by
    rcases hg with ⟨_, e⟩ | ⟨b, hb, _, e⟩
    · have h' := h.step e
      exact ⟨h'.ext, h'.holds, fun j m _ hm => h'.own j m hm⟩
    · have hge := ((h.row i hi).ge b 0 hb).1
      refine ⟨h.ext.below.but e hge h.size, fun j x hx => ?_, fun j m hj hm => ?_⟩
      · rw [e.block _ (h.lt j hx) (h.apart j i x _ hx hi b 0 hb)]; exact h.holds j x hx
      · exact (h.own j m hm).but e fun b' o' hp' hbb => h.rows i j _ m hi hm (fun e => hj e.symm) b 0 b' o' hb hp' hbb.symm
  refine ⟨base.1, h.ge, base.2.1, h.keys, ?_, ?_, ?_⟩
  · intro j m hm'
    rcases key j m hm' with ⟨_, rfl⟩ | ⟨hj, hm''⟩
    · exact hm
    · exact base.2.2 j m hj hm''
  · intro j k x m hx hm' b o hb
    rcases key k m hm' with ⟨_, rfl⟩ | ⟨hj, hm''⟩
    · rcases hp b o hb with hlt | hold
      · have := h.lt j hx; omega
      · exact h.apart j i x _ hx hi b 0 hold
    · exact h.apart j k x m hx hm'' b o hb
  · intro j k m m' hm1 hm2 hjk b o b' o' hb hb'
    rcases key j m hm1 with ⟨rfl, rfl⟩ | ⟨hj, hm1'⟩
    · rcases key k m' hm2 with ⟨rfl, _⟩ | ⟨hk, hm2'⟩
      · exact absurd rfl hjk
      · rcases hp b o hb with hlt | hold
        · have := (h.own k m' hm2').ge b' o' hb'; omega
        · exact h.rows j k _ m' hi hm2' (fun e => hk e.symm) b 0 b' o' hold hb'
    · rcases key k m' hm2 with ⟨rfl, rfl⟩ | ⟨hk, hm2'⟩
      · rcases hp b' o' hb' with hlt | hold
        · have := (h.own j m hm1').ge b o hb; omega
        · exact h.rows j k m _ hm1' hi hj b o b' 0 hb hold
      · exact h.rows j k m m' hm1' hm2' hjk b o b' o' hb hb'

/-- A store into row i. -/
theorem Hold.putRow (h : Hold w0 W fs ms) (i : Nat) {j : Nat} {us : List Value} (hi : ms[i]? = some ⟨t, s, p, n, c, vs⟩) (hj : j < n) (hu : us.length = s) :
    ∃ b, p = some ⟨b, 0, none⟩ ∧ (∀ q, q < s → (∃ v, W.cell? ⟨b, j * s + q, none⟩ = some v) ∧ W.frozen? ⟨b, j * s + q, none⟩ = false) ∧
      ∀ W', Put W b (j * s) us W' → Hold w0 W' fs (ms.set i ⟨t, s, p, n, c, vs.take (j * s) ++ us ++ vs.drop (j * s + s)⟩) := by
  obtain ⟨b, hb, h1, h2, h3, h4⟩ := (h.row i hi).put hj hu
  refine ⟨b, hb, h3, fun W' hput => h.updRow i hi (.inr ⟨b, hb, h1, hput.but⟩) (h4 W' hput) fun b' o hp' => .inr ?_⟩
  rw [hb] at hp'; cases hp'; exact hb

/-- append onto row i. -/
theorem Hold.append {P : Program} {t' ty : TypeId} {z : Ty} {q : Option Addr} {m d' : Nat} {news : List Value} (h : Hold w0 W fs ms) (i : Nat) (hi : ms[i]? = some ⟨t, s, p, n, c, vs⟩) (ht : P.underlying t' = some (.slice t)) (hz : tyOf P t = some z)
    (h1 : z.ls.length = s) (h0 : 0 < s) (hat : At W q news) (hm : news.length = m * s) (hq : q = none → m = 0 ∧ d' = 0) (hone : ∀ x ∈ news, x.oneCell' = true)
    (hroom : ((n + m) + (n + m) / 4 + 192) * z.bytes ≤ 281474976710656) (hlen : n + m ≤ maxLen) :
    ∃ p' c' W', (Builtin.append_ #[t', t'] ty #[.slice p n c, .slice q m d']).run P W = .ok (.slice p' (n + m) c') W' ∧ Hold w0 W' fs (ms.set i ⟨t, s, p', n + m, c', vs ++ news⟩) := by
  obtain ⟨p', c', W', h2, h3, h4, h5⟩ := append_at (ty := ty) ht hz h1 h0 (h.row i hi) hat hm hq hone h.size hroom hlen
  exact ⟨p', c', W', h2, h.updRow i hi ((h.row i hi).grown h4) h3 h5⟩
theorem Hold.appendStr {P : Program} {t' v ty : TypeId} {z : Ty} (h : Hold w0 W fs ms) (i : Nat) (hi : ms[i]? = some ⟨t, 1, p, n, c, vs⟩) (ht : P.underlying t' = some (.slice t)) (hv : P.underlying v = some .string) (hz : tyOf P t = some z)
    (h1 : z.zero = .int .u8 0) (h2 : z.bytes = 1) (s : ByteArray) (hs : s.size ≤ 1099511627776) (hroom : n + s.size ≤ 211106232532992) :
    ∃ p' c' W', (Builtin.append_ #[t', v] ty #[.slice p n c, .string s]).run P W = .ok (.slice p' (n + s.size) c') W' ∧ Hold w0 W' fs (ms.set i ⟨t, 1, p', n + s.size, c', vs ++ Lib.strCells s⟩) := by
  obtain ⟨p', c', W', h2, h3, h4, h5⟩ := append_str_at (ty := ty) ht hv hz h1 h2 (h.row i hi) s hs h.size hroom
  exact ⟨p', c', W', h2, h.updRow i hi ((h.row i hi).grown h4) h3 h5⟩
end
end Go.Vc

/- What is handed in, opened: of whatever depth. -/
namespace Go.Vc
open Go Go.RowKit

/-- The cells cs are a value of type t that can be read, and each string and slice in it is within the platform's reach. -/
def Arg (P : Program) (w : World) (t : TypeId) (cs : List Value) : Prop :=
  ∃ (H : Type) (enc : TypeId × Value → H) (fuel : Nat) (d : DataW H) (ps : List MemPlace), DataW.trod enc P w 0 (fun _ => true) true fuel t cs = some (d, ps) ∧ ∀ n ∈ d.weights P t, n ≤ 140737488351232

theorem mapM_some {α β : Type} {f : α → Option β} : ∀ {l : List α} {ys : List β}, l.mapM f = some ys → ys.length = l.length ∧ ∀ (i : Nat) x, l[i]? = some x → ∃ y, ys[i]? = some y ∧ f x = some y := by
  intro l
  induction l with
  | nil => intro ys h; simp at h; subst h; exact ⟨rfl, fun i x hx => by simp at hx⟩
  | cons a l ih =>
    intro ys h
    rw [List.mapM_cons] at h
    cases ha : f a with
    | none => rw [ha] at h; simp at h
    | some b =>
      rw [ha] at h
      cases hl : l.mapM f with
      | none => rw [hl] at h; simp at h
      | some zs =>
        rw [hl] at h
        simp at h
        subst h
        obtain ⟨h1, h2⟩ := ih hl
        refine ⟨by simp [h1], fun i x hx => ?_⟩
        cases i with
        | zero => simp at hx; subst hx; exact ⟨b, rfl, ha⟩
        | succ i => simp at hx; obtain ⟨y, hy, hf⟩ := h2 i x hx; exact ⟨y, by simpa using hy, hf⟩

theorem cells?_some {w : World} {b n : Nat} {a : Addr} {cs : List Value} (h : w.cells? b a n = some cs) : cs.length = n ∧ ∀ (j : Nat) v, cs[j]? = some v → w.cell? (a.add j) = some v := by
  unfold World.cells? at h
  split at h
  · obtain ⟨h1, h2⟩ := mapM_some h
    simp at h1
    refine ⟨h1, fun j v hj => ?_⟩
    have hjn : j < n := by have := (List.getElem?_eq_some_iff.1 hj).1; omega
    obtain ⟨y, hy, hf⟩ := h2 j j (by simp [hjn])
    rw [hj] at hy; cases hy
    exact hf
  · cases h

theorem weightsAll_mem {H : Type} {P : Program} {e : TypeId} : ∀ {ds : List (DataW H)} {d : DataW H}, d ∈ ds → ∀ n ∈ d.weights P e, n ∈ DataW.weightsAll P e ds := by
  intro ds
  induction ds with
  | nil => intro d h; cases h
  | cons x r ih =>
    intro d h n hn
    simp only [DataW.weightsAll, List.mem_append]
    rcases List.mem_cons.1 h with rfl | h
    · exact .inl hn
    · exact .inr (ih h n hn)

section
variable {P : Program} {w : World} {t : TypeId} {cs : List Value}

theorem Arg.int {k : IntKind} (hu : P.underlying t = some (.int k)) (h : Arg P w t cs) : ∃ n, cs = [.int k n] ∧ (Lit.int k n).wf = true := by
  obtain ⟨H, enc, fuel, d, ps, h, _⟩ := h
  cases fuel with
  | zero => cases h
  | succ f =>
    simp only [DataW.trod, hu] at h
    split at h <;> simp_all

theorem Arg.bool (hu : P.underlying t = some .bool) (h : Arg P w t cs) : ∃ b, cs = [.bool b] := by
  obtain ⟨H, enc, fuel, d, ps, h, _⟩ := h
  cases fuel with
  | zero => cases h
  | succ f =>
    simp only [DataW.trod, hu] at h
    split at h <;> simp_all

theorem Arg.string (hu : P.underlying t = some .string) (h : Arg P w t cs) : ∃ s, cs = [.string s] ∧ s.size ≤ 140737488351232 := by
  obtain ⟨H, enc, fuel, d, ps, h, hw⟩ := h
  cases fuel with
  | zero => cases h
  | succ f =>
    simp only [DataW.trod, hu] at h
    split at h <;> simp_all
    rename_i s
    obtain ⟨_, rfl, rfl⟩ := h
    exact hw _ (by simp [DataW.weights])

theorem Arg.struct {fs : Array Field} (hu : P.underlying t = some (.struct fs)) (h : Arg P w t cs) : cs.length = P.cellsOf t ∧ ∀ f ∈ fs.toList, Arg P w f.type ((cs.drop f.offset).take (P.cellsOf f.type)) := by
  obtain ⟨H, enc, fuel, d, ps, h, hw⟩ := h
  cases fuel with
  | zero => cases h
  | succ n =>
    simp only [DataW.trod, hu] at h
    split at h
    · rename_i hl
      refine ⟨hl, fun f hf => ?_⟩
      cases hm : fs.toList.mapM fun f => DataW.trod enc P w 0 (fun _ => true) true n f.type ((cs.drop f.offset).take (P.cellsOf f.type)) with
      | none => rw [hm] at h; cases h
      | some xs =>
        rw [hm] at h
        cases h
        obtain ⟨i, hi⟩ := List.mem_iff_getElem?.1 hf
        obtain ⟨h1, h2⟩ := mapM_some hm
        obtain ⟨y, hy, hfy⟩ := h2 i f hi
        refine ⟨H, enc, n, y.1, y.2, hfy, fun k hk => hw k ?_⟩
        simp only [DataW.weights, hu]
        exact DataW.weights_mem_each (j := i) (by simp [hi]) (by simp [hy]) k hk
    · cases h

theorem Arg.array {n : Nat} {e : TypeId} (hu : P.underlying t = some (.array n e)) (h : Arg P w t cs) : cs.length = P.cellsOf t ∧ ∀ i, i < n → Arg P w e ((cs.drop (i * P.cellsOf e)).take (P.cellsOf e)) := by
  obtain ⟨H, enc, fuel, d, ps, h, hw⟩ := h
  cases fuel with
  | zero => cases h
  | succ m =>
    simp only [DataW.trod, hu] at h
    split at h
    · rename_i hl
      refine ⟨hl, fun i hi => ?_⟩
      cases hm : (List.range n).mapM fun i => DataW.trod enc P w 0 (fun _ => true) true m e ((cs.drop (i * P.cellsOf e)).take (P.cellsOf e)) with
      | none => rw [hm] at h; cases h
      | some xs =>
        rw [hm] at h
        cases h
        obtain ⟨h1, h2⟩ := mapM_some hm
        obtain ⟨y, hy, hfy⟩ := h2 i i (by simp [hi])
        refine ⟨H, enc, m, y.1, y.2, hfy, fun k hk => hw k ?_⟩
        simp only [DataW.weights, hu]
        exact weightsAll_mem (List.mem_map.2 ⟨y, List.mem_of_getElem? hy, rfl⟩) k hk
    · cases h

theorem flatten_get {css : List (List Value)} {s : Nat} (hs : ∀ x ∈ css, x.length = s) {i j : Nat} (hj : j < s) : css.flatten[i * s + j]? = (css[i]?).bind fun x => x[j]? := by
  induction css generalizing i with
  | nil => simp
  | cons a r ih =>
    have ha := hs a (by simp)
    cases i with
    | zero => simp only [Nat.zero_mul, Nat.zero_add, List.flatten_cons]; rw [List.getElem?_append_left (by omega)]; rfl
    | succ i =>
      simp only [List.flatten_cons]
      rw [List.getElem?_append_right (by rw [ha, Nat.add_mul]; omega), show (i + 1) * s + j - a.length = i * s + j by rw [ha, Nat.add_mul]; omega, ih fun x hx => hs x (by simp [hx])]
      rfl

theorem Arg.slice {e : TypeId} (hu : P.underlying t = some (.slice e)) (h0 : 0 < P.cellsOf e) (h : Arg P w t cs) :
    ∃ (p : Option Addr) (n c : Nat) (css : List (List Value)), cs = [.slice p n c] ∧ n ≤ c ∧ c ≤ maxLen ∧ c * P.bytesOf e ≤ 140737488351232 ∧ css.length = c ∧ (∀ x ∈ css, x.length = P.cellsOf e ∧ Arg P w e x) ∧ At w p css.flatten ∧ (p = none → n = 0 ∧ c = 0) := by
  obtain ⟨H, enc, fuel, d, ps, h, hw⟩ := h
  cases fuel with
  | zero => cases h
  | succ m =>
    have shape : (cs = [.slice none 0 0]) ∨ ∃ a n c, cs = [.slice (some a) n c] := by
      match cs, h with
      | [], h => simp [DataW.trod, hu] at h
      | [.slice none 0 0], _ => exact .inl rfl
      | [.slice none (n + 1) c], h => simp [DataW.trod, hu] at h
      | [.slice none 0 (c + 1)], h => simp [DataW.trod, hu] at h
      | [.slice (some a) n c], _ => exact .inr ⟨a, n, c, rfl⟩
      | [.bool _], h => simp [DataW.trod, hu] at h
      | [.int _ _], h => simp [DataW.trod, hu] at h
      | [.float _ _], h => simp [DataW.trod, hu] at h
      | [.complex _ _ _], h => simp [DataW.trod, hu] at h
      | [.string _], h => simp [DataW.trod, hu] at h
      | [.pointer _], h => simp [DataW.trod, hu] at h
      | [.map _], h => simp [DataW.trod, hu] at h
      | [.chan _], h => simp [DataW.trod, hu] at h
      | [.nilFunc], h => simp [DataW.trod, hu] at h
      | [.func _ _ _], h => simp [DataW.trod, hu] at h
      | [.nilIface], h => simp [DataW.trod, hu] at h
      | [.iface _ _], h => simp [DataW.trod, hu] at h
      | [.tuple _], h => simp [DataW.trod, hu] at h
      | [.agg _], h => simp [DataW.trod, hu] at h
      | _ :: _ :: _, h => simp [DataW.trod, hu] at h
    rcases shape with rfl | ⟨a, len, cap, rfl⟩
    · exact ⟨none, 0, 0, [], rfl, Nat.le_refl _, Nat.zero_le _, by simp, rfl, fun x hx => by simp at hx, At.nil _ _, fun _ => ⟨rfl, rfl⟩⟩
    · simp only [DataW.trod, hu] at h
      split at h
      · rename_i hc
        obtain ⟨_, hlc, hcm⟩ := hc
        let elemAt : Nat → Option (DataW H × List MemPlace) := fun i => (w.cells? 0 (a.add (i * P.cellsOf e)) (P.cellsOf e)).bind (DataW.trod enc P w 0 (fun _ => true) true m e)
        change ((List.range len).mapM elemAt).bind _ = _ at h
        cases hm1 : (List.range len).mapM elemAt with
        | none => rw [hm1] at h; cases h
        | some elems =>
          rw [hm1] at h
          simp only [Option.bind_some, if_true] at h
          change ((List.range (cap - len)).mapM fun j => elemAt (len + j)).map _ = _ at h
          cases hm2 : (List.range (cap - len)).mapM fun j => elemAt (len + j) with
          | none => rw [hm2] at h; cases h
          | some rest =>
            rw [hm2] at h
            simp only [Option.map_some, Option.some.injEq, Prod.mk.injEq] at h
            obtain ⟨rfl, _⟩ := h
            obtain ⟨a1, a2⟩ := mapM_some hm1
            obtain ⟨b1, b2⟩ := mapM_some hm2
            simp only [List.length_range] at a1 b1
            simp only [DataW.weights, hu, List.length_map, List.mem_cons, List.mem_append] at hw
            have all : ∀ i, i < cap → ∃ cs, w.cells? 0 (a.add (i * P.cellsOf e)) (P.cellsOf e) = some cs ∧ Arg P w e cs := by
              intro i hi
              have key : ∃ y, elemAt i = some y ∧ ((∃ j : Nat, elems[j]? = some y) ∨ ∃ j : Nat, rest[j]? = some y) := by
                rcases Nat.lt_or_ge i len with hl | hl
                · obtain ⟨y, hy, hf⟩ := a2 i i (List.getElem?_range hl)
                  exact ⟨y, hf, .inl ⟨i, hy⟩⟩
                · obtain ⟨y, hy, hf⟩ := b2 (i - len) (i - len) (List.getElem?_range (by omega))
                  rw [show len + (i - len) = i by omega] at hf
                  exact ⟨y, hf, .inr ⟨_, hy⟩⟩
              obtain ⟨y, hf, hy⟩ := key
              have hf' : (w.cells? 0 (a.add (i * P.cellsOf e)) (P.cellsOf e)).bind (DataW.trod enc P w 0 (fun _ => true) true m e) = some y := hf
              clear hf
              cases hcs : w.cells? 0 (a.add (i * P.cellsOf e)) (P.cellsOf e) with
              | none => rw [hcs] at hf'; cases hf'
              | some cs =>
                rw [hcs] at hf'
                have hf : DataW.trod enc P w 0 (fun _ => true) true m e cs = some y := hf'
                refine ⟨cs, rfl, H, enc, m, y.1, y.2, hf, fun k hk => hw k (.inr ?_)⟩
                rcases hy with ⟨j, hy⟩ | ⟨j, hy⟩
                · exact .inl (weightsAll_mem (List.mem_map.2 ⟨y, List.mem_of_getElem? hy, rfl⟩) k hk)
                · exact .inr (weightsAll_mem (List.mem_map.2 ⟨y, List.mem_of_getElem? hy, rfl⟩) k hk)
            obtain ⟨css, hcl, hcss⟩ : ∃ css : List (List Value), css.length = cap ∧ ∀ i x, css[i]? = some x → w.cells? 0 (a.add (i * P.cellsOf e)) (P.cellsOf e) = some x ∧ Arg P w e x := by
              refine ⟨(List.range cap).map fun i => (w.cells? 0 (a.add (i * P.cellsOf e)) (P.cellsOf e)).getD [], by simp, fun i x hx => ?_⟩
              rw [List.getElem?_map] at hx
              have hi : i < cap := by
                rcases Nat.lt_or_ge i cap with h' | h'
                · exact h'
                · rw [List.getElem?_eq_none (by simpa using h')] at hx; cases hx
              rw [List.getElem?_range hi] at hx
              obtain ⟨cs, h1, h2⟩ := all i hi
              simp only [Option.map_some, h1, Option.getD_some, Option.some.injEq] at hx
              subst hx
              exact ⟨h1, h2⟩
            have hlen : ∀ x ∈ css, x.length = P.cellsOf e := fun x hx => by
              obtain ⟨i, hi⟩ := List.mem_iff_getElem?.1 hx
              exact (cells?_some (hcss i x hi).1).1
            refine ⟨some a, len, cap, css, rfl, hlc, hcm, ?_, hcl, fun x hx => ?_, ?_, fun e => by cases e⟩
            · have := hw ((elems.length + rest.length) * P.bytesOf e) (.inl rfl)
              rw [a1, b1, show len + (cap - len) = cap by omega] at this
              exact this
            · obtain ⟨i, hi⟩ := List.mem_iff_getElem?.1 hx
              exact ⟨hlen x hx, (hcss i x hi).2⟩
            · cases hcz : css with
              | nil => exact .inl rfl
              | cons c0 r =>
                rw [← hcz]
                have h00 := cells?_some (hcss 0 c0 (by rw [hcz]; rfl)).1
                have hc0 : 0 < c0.length := by rw [h00.1]; exact h0
                have hcell := h00.2 0 c0[0] (by simp [hc0])
                obtain ⟨ab, ao, ag⟩ := a
                have hs : ag = none := by
                  cases ag with
                  | none => rfl
                  | some y =>
                    have e0 : ((⟨ab, ao, some y⟩ : Addr).add (0 * P.cellsOf e)).add 0 = ⟨ab, ao, some y⟩ := by rw [Nat.zero_mul, Addr.add_zero', Addr.add_zero']
                    rw [e0] at hcell
                    simp only [World.cell?, Option.isSome_some, if_true] at hcell
                    split at hcell <;> cases hcell
                subst hs
                refine .inr ⟨ab, ao, rfl, fun i v hv => ?_⟩
                have hdm : i = i / P.cellsOf e * P.cellsOf e + i % P.cellsOf e := by rw [Nat.mul_comm]; exact (Nat.div_add_mod _ _).symm
                have hj := Nat.mod_lt i h0
                rw [hdm, flatten_get hlen hj] at hv
                cases hx : css[i / P.cellsOf e]? with
                | none => rw [hx] at hv; cases hv
                | some x =>
                  rw [hx] at hv
                  have := (cells?_some (hcss _ x hx).1).2 _ v hv
                  rw [Addr.add_lit, Addr.add_lit] at this
                  rw [hdm, ← Nat.add_assoc]; exact this
      · cases h
end

/-- An argument at the top. -/
theorem Arg.of {H : Type} {enc : TypeId × Value → H} {P : Program} {w : World} {ts : List TypeId} {ds : List (DataW H)} {t : TypeId} {v : Value} {d : DataW H} {ps : List MemPlace} {j : Nat}
    (h : DataW.Trod enc P w 0 (fun _ => true) true t v d ps) (hz : (DataW.weightsEach P ts ds).all (· ≤ reachBytes) = true) (ht : ts[j]? = some t) (hd : ds[j]? = some d) : Arg P w t v.cells.toList := by
  obtain ⟨fuel, h⟩ := h
  refine ⟨H, enc, fuel, d, ps, h, fun n hn => ?_⟩
  have := List.all_eq_true.1 hz n (DataW.weights_mem_each ht hd n hn)
  exact of_decide_eq_true this

theorem plain_cells {P : Program} {w : World} {r : Reach} {base : Nat} {t : TypeId} {v : Value} (hu : isAggD (P.underlying t) = false) (h : Value.okWide P w r base t v) (hn : P.underlying t ≠ none) : v.cells.toList = [v] := by
  have : ∀ cs, v ≠ .agg cs := by
    intro cs e
    subst e
    unfold Value.okWide at h
    split at h
    · rename_i hh; rw [hh] at hu; cases hu
    · rename_i hh; rw [hh] at hu; cases hu
    · unfold Cell.okWide at h
      split at h <;> simp_all [Cell.ok]
  cases v with
  | agg cs => exact absurd rfl (this cs)
  | _ => rfl
theorem agg_cells {P : Program} {w : World} {r : Reach} {base : Nat} {t : TypeId} {v : Value} (hu : isAggD (P.underlying t) = true) (h : Value.okWide P w r base t v) : ∃ cs, v = .agg cs ∧ v.cells.toList = cs.toList := by
  unfold Value.okWide at h
  split at h
  · obtain ⟨cs, rfl, _⟩ := h; exact ⟨cs, rfl, rfl⟩
  · obtain ⟨cs, rfl, _⟩ := h; exact ⟨cs, rfl, rfl⟩
  · rename_i h1 h2
    cases hh : P.underlying t with
    | none => rw [hh] at hu; cases hu
    | some d => cases d <;> simp_all [isAggD]

end Go.Vc

/- Values, rows and lists of rows as the memory bears them; how two values stand. Plain Lean, no program. -/
namespace Go.Vc
open Go Go.RowKit

/-! ### Numbers and texts, held against one another -/
def cmpI (x y : Int) : Int := if x < y then -1 else if y < x then 1 else 0
def cmpS (a b : ByteArray) : Int := Lib.compareBytes (tB a) (tB b)

theorem cmpI_spec (x y : Int) : (cmpI x y = -1 ∧ x < y) ∨ (cmpI x y = 0 ∧ x = y) ∨ (cmpI x y = 1 ∧ y < x) := by
  unfold cmpI
  split
  · exact .inl ⟨rfl, ‹_›⟩
  · split
    · exact .inr (.inr ⟨rfl, ‹_›⟩)
    · exact .inr (.inl ⟨rfl, by omega⟩)
theorem cmpI_cmp : Cmp cmpI := by
  refine ⟨fun x y => ?_, fun x y z h k => ?_⟩
  · have := cmpI_spec x y
    have := cmpI_spec y x
    omega
  · have := cmpI_spec x y
    have := cmpI_spec y z
    have := cmpI_spec x z
    omega
theorem cmpI_zero {x y : Int} : cmpI x y = 0 ↔ x = y := by have := cmpI_spec x y; omega
theorem compareBytes_anti : ∀ a b : List UInt8, Lib.compareBytes b a = - Lib.compareBytes a b
  | [], [] => rfl
  | [], _ :: _ => rfl
  | _ :: _, [] => rfl
  | x :: a, y :: b => by
    unfold Lib.compareBytes
    by_cases h1 : x < y
    · have h2 : ¬ y < x := UInt8.lt_asymm h1
      simp [h1, h2]
    · by_cases h2 : y < x
      · simp [h1, h2]
      · simp only [h1, h2, if_false]; exact compareBytes_anti a b
theorem u8_eq {x y : UInt8} (h1 : ¬ x < y) (h2 : ¬ y < x) : x = y := UInt8.le_antisymm (UInt8.not_lt.1 h2) (UInt8.not_lt.1 h1)
theorem compareBytes_trans : ∀ a b c : List UInt8, Lib.compareBytes a b ≤ 0 → Lib.compareBytes b c ≤ 0 → Lib.compareBytes a c ≤ 0
  | [], _, [], _, _ => by simp [Lib.compareBytes]
  | [], _, _ :: _, _, _ => by simp [Lib.compareBytes]
  | _ :: _, [], _, h, _ => by simp [Lib.compareBytes] at h
  | _ :: _, _ :: _, [], _, h => by simp [Lib.compareBytes] at h
  | x :: a, y :: b, z :: c, h, k => by
    unfold Lib.compareBytes at h k ⊢
    by_cases h1 : x < y
    · by_cases k1 : y < z
      · simp [UInt8.lt_trans h1 k1]
      · by_cases k2 : z < y
        · simp [k1, k2] at k
        · have := u8_eq k1 k2; subst this; simp [h1]
    · by_cases h2 : y < x
      · simp [h1, h2] at h
      · have := u8_eq h1 h2; subst this
        simp only [h1, if_false] at h
        by_cases k1 : x < z
        · simp [k1]
        · by_cases k2 : z < x
          · simp [k1, k2] at k
          · simp only [k1, k2, if_false] at k ⊢
            exact compareBytes_trans a b c h k
theorem compareBytes_zero : ∀ {a b : List UInt8}, Lib.compareBytes a b = 0 ↔ a = b
  | [], [] => by simp [Lib.compareBytes]
  | [], _ :: _ => by simp [Lib.compareBytes]
  | _ :: _, [] => by simp [Lib.compareBytes]
  | x :: a, y :: b => by
    unfold Lib.compareBytes
    by_cases h1 : x < y
    · have : x ≠ y := fun e => by subst e; exact UInt8.lt_irrefl _ h1
      simp [h1, this]
    · by_cases h2 : y < x
      · have : x ≠ y := fun e => by subst e; exact UInt8.lt_irrefl _ h2
        simp [h1, h2, this]
      · have := u8_eq h1 h2; subst this
        simp only [h1, if_false, List.cons.injEq, true_and]
        exact compareBytes_zero
theorem compareBytes_lt : ∀ {a b : List UInt8}, Op.bytesLess a b = true ↔ Lib.compareBytes a b < 0
  | [], [] => by simp [Lib.compareBytes, Op.bytesLess]
  | [], _ :: _ => by simp [Lib.compareBytes, Op.bytesLess]
  | _ :: _, [] => by simp [Lib.compareBytes, Op.bytesLess]
  | x :: a, y :: b => by
    unfold Lib.compareBytes Op.bytesLess
    by_cases h1 : x < y
    · simp [h1]
    · by_cases h2 : y < x
      · have : x ≠ y := fun e => by subst e; exact UInt8.lt_irrefl _ h2
        simp [h1, h2, this]
      · have := u8_eq h1 h2; subst this
        simp only [h1, if_false, decide_false, Bool.false_or, beq_self_eq_true, Bool.true_and]
        exact compareBytes_lt
theorem ba_toList (s : ByteArray) : s.toList = tB s := Lib.toList_data s
theorem cmpS_cmp : Cmp cmpS := ⟨fun a b => compareBytes_anti _ _, fun a b c => compareBytes_trans _ _ _⟩
theorem cmpS_zero {a b : ByteArray} : cmpS a b = 0 ↔ a = b := by unfold cmpS; rw [compareBytes_zero]; exact tB_inj
theorem sLt_iff {a b : ByteArray} : sLt a b = true ↔ cmpS a b < 0 := by unfold sLt cmpS; rw [ba_toList, ba_toList]; exact compareBytes_lt

section
variable {α β : Type} {c d : α → α → Int}
def lexC (c d : α → α → Int) (x y : α) : Int := if c x y ≠ 0 then c x y else d x y
theorem Cmp.lex (hc : Cmp c) (hd : Cmp d) : Cmp (lexC c d) := by
  refine ⟨fun x y => ?_, fun x y z h k => ?_⟩
  · have := hc.anti x y
    have := hd.anti x y
    unfold lexC
    split <;> split <;> omega
  · unfold lexC at h k ⊢
    by_cases h0 : c x y = 0
    · rw [if_neg (by simpa using h0)] at h
      by_cases k0 : c y z = 0
      · rw [if_neg (by simpa using k0)] at k
        rw [if_neg (by simpa using hc.eq_trans h0 k0)]
        exact hd.trans x y z h k
      · rw [if_pos k0] at k
        have : c x z < 0 := hc.of_lt (by omega) (y := y) (by omega)
        rw [if_pos (by omega)]; omega
    · rw [if_pos h0] at h
      have : c x z < 0 := by
        by_cases k0 : c y z = 0
        · exact hc.lt_of (y := y) (by omega) (by omega)
        · rw [if_pos k0] at k
          exact hc.lt_of (y := y) (by omega) k
      rw [if_pos (by omega)]; omega
theorem Cmp.on (f : β → α) (hc : Cmp c) : Cmp fun x y => c (f x) (f y) := ⟨fun _ _ => hc.anti _ _, fun _ _ _ => hc.trans _ _ _⟩
theorem Cmp.neg (hc : Cmp c) : Cmp fun x y => - c x y := by
  refine ⟨fun x y => by rw [hc.anti x y], fun x y z h k => ?_⟩
  have h1 := hc.anti x y
  have h2 := hc.anti y z
  have h3 := hc.anti x z
  have := hc.trans z y x (by omega) (by omega)
  omega
theorem Cmp.none : Cmp (fun _ _ : α => (0 : Int)) := ⟨fun _ _ => by simp, fun _ _ _ _ _ => Int.le_refl 0⟩
end

/-! ### Values -/
structure Val where
  k : Int
  n : Int
  s : ByteArray

theorem Val.ext' {a b : Val} : a = b ↔ a.k = b.k ∧ a.n = b.n ∧ a.s = b.s := by cases a; cases b; simp
instance : DecidableEq Val := fun _ _ => decidable_of_iff _ Val.ext'.symm
instance : Inhabited Val := ⟨⟨0, 0, ⟨#[]⟩⟩⟩
def nullV : Val := ⟨0, 0, ⟨#[]⟩⟩
def numV (n : Int) : Val := ⟨1, n, ⟨#[]⟩⟩

def Val.cs (v : Val) : List Value := [.int .i64 v.k, .int .i64 v.n, .string v.s]
def Val.agg (v : Val) : Value := .agg #[.int .i64 v.k, .int .i64 v.n, .string v.s]
def i64F (x : Int) : Prop := -9223372036854775808 ≤ x ∧ x ≤ 9223372036854775807
def Val.fit (v : Val) : Prop := i64F v.k ∧ i64F v.n

theorem Val.agg_eq (v : Val) : v.agg = .agg v.cs.toArray := rfl
theorem Val.cs_length (v : Val) : v.cs.length = 3 := rfl
theorem Val.cs_one (v : Val) : ∀ u ∈ v.cs, u.oneCell' = true := by
  intro u hu
  simp only [Val.cs, List.mem_cons, List.not_mem_nil, or_false] at hu
  rcases hu with rfl | rfl | rfl <;> rfl

/-- May a value be? -/
def Val.Ok (v : Val) : Prop := (v.k = 0 ∧ v.n = 0 ∧ v.s = ⟨#[]⟩) ∨ (v.k = 1 ∧ v.s = ⟨#[]⟩) ∨ (v.k = 2 ∧ (v.n = 0 ∨ v.n = 1) ∧ v.s = ⟨#[]⟩) ∨ (v.k = 3 ∧ v.n = 0 ∧ v.s.size ≤ 1024)
instance (v : Val) : Decidable v.Ok := by unfold Val.Ok; exact inferInstance
def Val.right (v : Val) : Bool := decide v.Ok
def rightL (l : List Val) : Bool := l.all Val.right

def cmpV : Val → Val → Int := lexC (fun a b => cmpI a.k b.k) (lexC (fun a b => cmpI a.n b.n) fun a b => cmpS a.s b.s)
theorem cmpV_cmp : Cmp cmpV := (cmpI_cmp.on Val.k).lex ((cmpI_cmp.on Val.n).lex (cmpS_cmp.on Val.s))
theorem cmpV_def (a b : Val) : cmpV a b = if cmpI a.k b.k ≠ 0 then cmpI a.k b.k else if cmpI a.n b.n ≠ 0 then cmpI a.n b.n else cmpS a.s b.s := rfl
theorem cmpV_zero {a b : Val} : cmpV a b = 0 ↔ a = b := by
  have h1 := cmpI_spec a.k b.k
  have h2 := cmpI_spec a.n b.n
  rw [Val.ext', cmpV_def]
  split
  · constructor
    · intro h; omega
    · intro h; omega
  · split
    · constructor
      · intro h; omega
      · intro h; omega
    · constructor
      · intro h; exact ⟨by omega, by omega, cmpS_zero.1 h⟩
      · exact fun h => cmpS_zero.2 h.2.2

/-- The document's way to hold two values against one another. -/
def lessV (a b : Val) : Bool := if a.k ≠ b.k then decide (a.k < b.k) else if a.k = 3 then sLt a.s b.s else decide (a.n < b.n)
def rcmpV (a b : Val) : Int := if lessV a b then -1 else if lessV b a then 1 else 0
theorem cmpS_self (a : ByteArray) : cmpS a a = 0 := cmpS_zero.2 rfl
theorem cmpS_range (a b : ByteArray) : cmpS a b = -1 ∨ cmpS a b = 0 ∨ cmpS a b = 1 := by
  unfold cmpS
  generalize tB a = x
  generalize tB b = y
  induction x generalizing y with
  | nil => cases y <;> simp [Lib.compareBytes]
  | cons p x ih =>
    cases y with
    | nil => simp [Lib.compareBytes]
    | cons q y =>
      unfold Lib.compareBytes
      split
      · simp
      · split
        · simp
        · exact ih y
theorem cmpV_range (a b : Val) : cmpV a b = -1 ∨ cmpV a b = 0 ∨ cmpV a b = 1 := by
  have := cmpS_range a.s b.s
  have := cmpI_spec a.k b.k
  have := cmpI_spec a.n b.n
  rw [cmpV_def]
  split
  · omega
  · split <;> omega
theorem rcmpV_eq {a b : Val} (ha : a.Ok) (hb : b.Ok) : rcmpV a b = cmpV a b := by
  have e3 := cmpS_range a.s b.s
  have e4 : cmpS b.s a.s = - cmpS a.s b.s := cmpS_cmp.anti _ _
  by_cases hk : a.k = b.k
  · by_cases h3 : a.k = 3
    · have hn : a.n = b.n := by
        unfold Val.Ok at ha hb
        omega
      have l1 : lessV a b = sLt a.s b.s := by unfold lessV; rw [if_neg (by simpa using hk), if_pos h3]
      have l2 : lessV b a = sLt b.s a.s := by unfold lessV; rw [if_neg (by simpa using hk.symm), if_pos (hk ▸ h3)]
      have c1 : cmpV a b = cmpS a.s b.s := by rw [cmpV_def]; simp [cmpI_zero.2 hk, cmpI_zero.2 hn]
      unfold rcmpV
      rw [l1, l2, c1]
      by_cases x1 : sLt a.s b.s = true
      · rw [if_pos x1]; have := sLt_iff.1 x1; omega
      · rw [if_neg x1]
        have x1' : ¬ cmpS a.s b.s < 0 := fun h => x1 (sLt_iff.2 h)
        by_cases x2 : sLt b.s a.s = true
        · rw [if_pos x2]; have := sLt_iff.1 x2; omega
        · rw [if_neg x2]
          have x2' : ¬ cmpS b.s a.s < 0 := fun h => x2 (sLt_iff.2 h)
          omega
    · have hs : a.s = b.s := by
        unfold Val.Ok at ha hb
        have ha' : a.s = ⟨#[]⟩ := by
          rcases ha with h | h | h | h
          · exact h.2.2
          · exact h.2
          · exact h.2.2
          · exact absurd h.1 h3
        have hb' : b.s = ⟨#[]⟩ := by
          rcases hb with h | h | h | h
          · exact h.2.2
          · exact h.2
          · exact h.2.2
          · exact absurd (hk.trans h.1) h3
        rw [ha', hb']
      have l1 : lessV a b = decide (a.n < b.n) := by unfold lessV; rw [if_neg (by simpa using hk), if_neg h3]
      have l2 : lessV b a = decide (b.n < a.n) := by unfold lessV; rw [if_neg (by simpa using hk.symm), if_neg (hk ▸ h3)]
      have c1 : cmpV a b = cmpI a.n b.n := by
        rw [cmpV_def, hs, cmpS_self]
        by_cases h : cmpI a.n b.n = 0 <;> simp [cmpI_zero.2 hk, h]
      unfold rcmpV
      rw [l1, l2, c1]
      unfold cmpI
      simp only [decide_eq_true_eq]
  · have l1 : lessV a b = decide (a.k < b.k) := by unfold lessV; rw [if_pos hk]
    have l2 : lessV b a = decide (b.k < a.k) := by unfold lessV; rw [if_pos (Ne.symm hk)]
    have c1 : cmpV a b = cmpI a.k b.k := by
      have : cmpI a.k b.k ≠ 0 := fun h => hk (cmpI_zero.1 h)
      rw [cmpV_def, if_pos this]
    unfold rcmpV
    rw [l1, l2, c1]
    unfold cmpI
    simp only [decide_eq_true_eq]

/-! ### Lists of things of some cells each -/
section
variable {α : Type}
structure Ls (enc : α → List Value) (w : World) (p : Option Addr) (n c : Nat) (l : List α) : Prop where
  len : l.length = n
  cap : n ≤ c ∧ c ≤ maxLen
  lies : At w p (l.flatMap enc)
  nil : p = none → n = 0 ∧ c = 0
variable {enc : α → List Value} {s : Nat} {w w' : World} {p : Option Addr} {n c : Nat} {l : List α}
theorem Ls.ext (h : Ls enc w p n c l) (e : Ext w w') : Ls enc w' p n c l := ⟨h.len, h.cap, h.lies.ext e, h.nil⟩
theorem Ls.le (h : Ls enc w p n c l) : n ≤ maxLen := Nat.le_trans h.cap.1 h.cap.2
theorem Ls.kept (h : Ls enc w p n c l) (hk : ∀ b o, p = some ⟨b, o, none⟩ → b < w.heap.size → w'.heap[b]? = w.heap[b]?) : Ls enc w' p n c l := ⟨h.len, h.cap, h.lies.kept hk, h.nil⟩
theorem Ls.nothing (enc : α → List Value) (w : World) : Ls enc w none 0 0 [] := ⟨rfl, ⟨Nat.le_refl _, Nat.zero_le _⟩, .inl rfl, fun _ => ⟨rfl, rfl⟩⟩
theorem flatMap_get {enc : α → List Value} (hs : ∀ x, (enc x).length = s) {i j : Nat} {x : α} (hi : l[i]? = some x) (hj : j < s) : (l.flatMap enc)[i * s + j]? = (enc x)[j]? := by
  rw [List.flatMap_def, flatten_get (s := s) (by intro y hy; obtain ⟨z, _, rfl⟩ := List.mem_map.1 hy; exact hs z) hj, List.getElem?_map, hi]
  rfl
/-- The cells of thing i. -/
theorem At.things (hs : ∀ x, (enc x).length = s) (h0 : 0 < s) (h : At w p (l.flatMap enc)) {i : Nat} {x : α} (hi : l[i]? = some x) :
    ∃ b o, p = some ⟨b, o, none⟩ ∧ ∀ j v, (enc x)[j]? = some v → w.cell? ⟨b, o + (i * s + j), none⟩ = some v := by
  rcases h with h | ⟨b, o, hp, hc⟩
  · have := flatMap_get (enc := enc) (s := s) hs hi h0
    rw [h] at this
    have h1 : (enc x)[0]? = some ((enc x)[0]'(by rw [hs]; exact h0)) := List.getElem?_eq_getElem _
    rw [h1] at this; simp at this
  · refine ⟨b, o, hp, fun j v hv => hc _ _ ?_⟩
    have hj : j < s := by rw [← hs x]; exact (List.getElem?_eq_some_iff.1 hv).1
    rw [flatMap_get hs hi hj, hv]
theorem flatMap_length (hs : ∀ x, (enc x).length = s) : ∀ l : List α, (l.flatMap enc).length = l.length * s
  | [] => by simp
  | x :: l => by rw [List.flatMap_cons, List.length_append, hs, flatMap_length hs l, List.length_cons, Nat.succ_mul, Nat.add_comm]
theorem flatMap_take (hs : ∀ x, (enc x).length = s) : ∀ (l : List α) (k : Nat), (l.take k).flatMap enc = (l.flatMap enc).take (k * s)
  | [], k => by simp
  | x :: l, 0 => by simp
  | x :: l, k + 1 => by
    rw [List.take_succ_cons, List.flatMap_cons, List.flatMap_cons, flatMap_take hs l k, Nat.succ_mul, Nat.add_comm, List.take_append, hs, Nat.add_sub_cancel_left, List.take_of_length_le (l := enc x) (by rw [hs]; omega)]
theorem flatMap_drop (hs : ∀ x, (enc x).length = s) : ∀ (l : List α) (k : Nat), (l.drop k).flatMap enc = (l.flatMap enc).drop (k * s)
  | [], k => by simp
  | x :: l, 0 => by simp
  | x :: l, k + 1 => by
    rw [List.drop_succ_cons, List.flatMap_cons, flatMap_drop hs l k, Nat.succ_mul, Nat.add_comm, List.drop_append, hs, Nat.add_sub_cancel_left, @List.drop_eq_nil_of_le _ (enc x) _ (by rw [hs]; omega), List.nil_append]
/-- s[lo:hi]. -/
theorem Ls.slice (hs : ∀ x, (enc x).length = s) (h : Ls enc w p n c l) {lo hi : Nat} (h1 : lo ≤ hi) (h2 : hi ≤ n) : Ls enc w (slBase p lo c s) (hi - lo) (c - lo) ((l.take hi).drop lo) := by
  have hc := h.cap
  refine ⟨by rw [List.length_drop, List.length_take, h.len]; omega, ⟨by omega, by omega⟩, ?_, fun e => ?_⟩
  · rw [flatMap_drop hs, flatMap_take hs]
    exact h.lies.slice lo hi c s (by omega)
  · have := h.nil (slBase_none e); omega
theorem Ls.take (hs : ∀ x, (enc x).length = s) (h : Ls enc w p n c l) {k : Nat} (h2 : k ≤ n) : Ls enc w p k c (l.take k) := by
  have hc := h.cap
  refine ⟨by rw [List.length_take, h.len]; omega, ⟨by omega, hc.2⟩, ?_, fun e => ?_⟩
  · rw [flatMap_take hs]; exact h.lies.take _
  · have := h.nil e; omega
/-- A row of our own that holds things. -/
theorem Mine.ls {B : Nat} {t : TypeId} (hs : ∀ x, (enc x).length = s) (h0 : 0 < s) (h : Mine B t s w p n c (l.flatMap enc)) : Ls enc w p n c l := by
  have h1 := h.len
  rw [flatMap_length hs] at h1
  exact ⟨Nat.eq_of_mul_eq_mul_right h0 h1, h.cap, h.at, h.isNil⟩
theorem flatMap_one (h : ∀ x, ∀ u ∈ enc x, u.oneCell' = true) (l : List α) : ∀ u ∈ l.flatMap enc, u.oneCell' = true := by
  intro u hu
  obtain ⟨x, _, hx⟩ := List.mem_flatMap.1 hu
  exact h x u hx

theorem list_lift {β : Type} {f : α → β} {Q : α → Prop} : ∀ {ys : List β}, (∀ y ∈ ys, ∃ a, y = f a ∧ Q a) → ∃ l : List α, ys = l.map f ∧ ∀ a ∈ l, Q a
  | [], _ => ⟨[], rfl, by simp⟩
  | y :: ys, h => by
    obtain ⟨a, rfl, ha⟩ := h y (by simp)
    obtain ⟨l, rfl, hl⟩ := list_lift (ys := ys) fun z hz => h z (by simp [hz])
    exact ⟨a :: l, rfl, fun b hb => by rcases List.mem_cons.1 hb with rfl | hb; exact ha; exact hl b hb⟩
/-- A slice that came in. -/
theorem arg_ls {P : Program} {t e : TypeId} {v : Value} {Q : α → Prop} (hu : P.underlying t = some (.slice e)) (h0 : 0 < P.cellsOf e) (hQ : ∀ x, Arg P w e x → ∃ a, x = enc a ∧ Q a) (hs : ∀ a, (enc a).length = P.cellsOf e) (h : Arg P w t [v]) :
    ∃ p n c l, v = .slice p n c ∧ Ls enc w p n c l ∧ (∀ a ∈ l, Q a) ∧ c * P.bytesOf e ≤ 140737488351232 := by
  obtain ⟨p, n, c, css, he, h1, h2, h3, h4, h5, h6, h7⟩ := Arg.slice hu h0 h
  cases he
  obtain ⟨full, rfl, hf⟩ := list_lift (f := enc) (Q := Q) (ys := css) fun x hx => hQ x (h5 x hx).2
  rw [← List.flatMap_def] at h6
  rw [List.length_map] at h4
  refine ⟨p, n, c, full.take n, rfl, ⟨by rw [List.length_take]; omega, ⟨h1, h2⟩, ?_, h7⟩, fun a ha => hf a (List.mem_of_mem_take ha), h3⟩
  rw [flatMap_take hs]
  exact h6.take _
end

theorem Blk.c3 {w : World} {b : Nat} {t : TypeId} {x y z : Value} (h : Blk w b t #[x, y, z]) : w.cell? ⟨b, 0, none⟩ = some x ∧ w.cell? ⟨b, 1, none⟩ = some y ∧ w.cell? ⟨b, 2, none⟩ = some z :=
  ⟨by rw [h.cell]; rfl, by rw [h.cell]; rfl, by rw [h.cell]; rfl⟩

theorem and1_i64 (n : Int) : bits .and .i64 n 1 = n % 2 := by
  have e : bits .and .i64 n 1 = IntKind.i64.wrap (((BitVec.ofInt 64 n &&& 1#64).toNat : Nat) : Int) := rfl
  rw [e, BitVec.toNat_and, BitVec.toNat_ofInt, show (1#64).toNat = 1 from rfl, Nat.and_one_is_mod, i64_fit (by omega) (by omega)]
  omega

/-! ### Slices as things -/
structure Sl where
  p : Option Addr
  n : Nat
  c : Nat
def Sl.v (h : Sl) : Value := .slice h.p h.n h.c
def Sl.cs (h : Sl) : List Value := [.slice h.p h.n h.c]
theorem Sl.cs_length (h : Sl) : h.cs.length = 1 := rfl
theorem Sl.cs_one (h : Sl) : ∀ u ∈ h.cs, u.oneCell' = true := by intro u hu; simp [Sl.cs] at hu; subst hu; rfl

/-- Values in a row. -/
abbrev Vs := Ls Val.cs
/-- Rows: their heads hs, what they hold. -/
structure Rws (w : World) (p : Option Addr) (n c : Nat) (hs : List Sl) (L : List (List Val)) : Prop where
  heads : Ls Sl.cs w p n c hs
  rows : ∀ (i : Nat) (h : Sl) (r : List Val), hs[i]? = some h → L[i]? = some r → Vs w h.p h.n h.c r
  len : L.length = n
section
variable {w w' : World} {p : Option Addr} {n c : Nat} {hs : List Sl} {L : List (List Val)}
theorem Rws.ext (h : Rws w p n c hs L) (e : Ext w w') : Rws w' p n c hs L := ⟨h.heads.ext e, fun i x r hx hr => (h.rows i x r hx hr).ext e, h.len⟩
theorem Rws.hlen (h : Rws w p n c hs L) : hs.length = n := h.heads.len
theorem Rws.nothing (w : World) : Rws w none 0 0 [] [] := ⟨Ls.nothing _ w, by simp, rfl⟩
theorem Rws.get (h : Rws w p n c hs L) {i : Nat} {r : List Val} (hi : L[i]? = some r) : ∃ x, hs[i]? = some x ∧ Vs w x.p x.n x.c r ∧ ∃ b o, p = some ⟨b, o, none⟩ ∧ w.cell? ⟨b, o + i, none⟩ = some (.slice x.p x.n x.c) := by
  have hlt : i < hs.length := by rw [h.hlen, ← h.len]; exact (List.getElem?_eq_some_iff.1 hi).1
  obtain ⟨b, o, hp, hc⟩ := h.heads.lies.things Sl.cs_length (by decide) (List.getElem?_eq_getElem hlt)
  refine ⟨hs[i], List.getElem?_eq_getElem hlt, h.rows i _ _ (List.getElem?_eq_getElem hlt) hi, b, o, hp, ?_⟩
  have := hc 0 _ rfl
  simpa using this
theorem Ls.val {r : List Val} (h : Vs w p n c r) {i : Nat} {v : Val} (hi : r[i]? = some v) :
    ∃ b o, p = some ⟨b, o, none⟩ ∧ w.cell? ⟨b, o + i * 3, none⟩ = some (.int .i64 v.k) ∧ w.cell? ⟨b, o + i * 3 + 1, none⟩ = some (.int .i64 v.n) ∧ w.cell? ⟨b, o + i * 3 + 2, none⟩ = some (.string v.s) := by
  obtain ⟨b, o, hp, hc⟩ := h.lies.things Val.cs_length (by decide) hi
  exact ⟨b, o, hp, by have := hc 0 _ rfl; simpa [Nat.add_assoc] using this, by have := hc 1 _ rfl; rwa [← Nat.add_assoc] at this, by have := hc 2 _ rfl; rwa [← Nat.add_assoc] at this⟩
theorem Rws.take (h : Rws w p n c hs L) {k : Nat} (hk : k ≤ n) : Rws w p k c (hs.take k) (L.take k) :=
  ⟨h.heads.take Sl.cs_length hk, fun i x r hx hr => h.rows i x r (by rw [List.getElem?_take] at hx; split at hx; exact hx; cases hx) (by rw [List.getElem?_take] at hr; split at hr; exact hr; cases hr), by rw [List.length_take, h.len]; omega⟩
theorem Rws.le (h : Rws w p n c hs L) : n ≤ maxLen := h.heads.le
end

/-- The types and the places of a struct's fields. -/
def structOf (P : Program) (t : TypeId) : Option (List (TypeId × Nat)) := match P.underlying t with
  | some (.struct fs) => some (fs.toList.map fun f => (f.type, f.offset))
  | _ => none
theorem Arg.fields {P : Program} {w : World} {t : TypeId} {cs : List Value} {l : List (TypeId × Nat)} (hu : structOf P t = some l) (h : Arg P w t cs) :
    cs.length = P.cellsOf t ∧ ∀ x ∈ l, Arg P w x.1 ((cs.drop x.2).take (P.cellsOf x.1)) := by
  unfold structOf at hu
  split at hu
  · rename_i fs hfs
    cases hu
    obtain ⟨h1, h2⟩ := Arg.struct hfs h
    refine ⟨h1, fun x hx => ?_⟩
    obtain ⟨f, hf, rfl⟩ := List.mem_map.1 hx
    exact h2 f hf
  · cases hu
theorem arg_val {P : Program} {w : World} {t ti tn ts : TypeId} {cs : List Value} (hu : structOf P t = some [(ti, 0), (tn, 1), (ts, 2)]) (hc : P.cellsOf t = 3) (h1 : P.cellsOf ti = 1) (h2 : P.cellsOf tn = 1) (h3 : P.cellsOf ts = 1)
    (u1 : P.underlying ti = some (.int .i64)) (u2 : P.underlying tn = some (.int .i64)) (u3 : P.underlying ts = some .string) (h : Arg P w t cs) : ∃ v : Val, cs = v.cs ∧ v.fit := by
  obtain ⟨hl, hf⟩ := Arg.fields hu h
  rw [hc] at hl
  obtain ⟨a, b, d, rfl⟩ : ∃ a b d, cs = [a, b, d] := by
    match cs, hl with
    | [a, b, d], _ => exact ⟨a, b, d, rfl⟩
  have f1 := hf (ti, 0) (by simp)
  have f2 := hf (tn, 1) (by simp)
  have f3 := hf (ts, 2) (by simp)
  simp only [h1, h2, h3] at f1 f2 f3
  obtain ⟨k, e1, w1⟩ := Arg.int u1 f1
  obtain ⟨n, e2, w2⟩ := Arg.int u2 f2
  obtain ⟨s, e3, _⟩ := Arg.string u3 f3
  simp at e1 e2 e3
  subst e1 e2 e3
  exact ⟨⟨k, n, s⟩, rfl, wf_i64 w1, wf_i64 w2⟩
end Go.Vc

/- Maps with texts as keys: what a lookup and an update do, over a list of what the map holds. -/
namespace Go.Vc
open Go Go.RowKit

theorem ba_beq {a b : ByteArray} : (a == b) = true ↔ a = b := by
  constructor
  · intro h
    obtain ⟨a⟩ := a
    obtain ⟨b⟩ := b
    have : (a == b) = true := h
    rw [beq_iff_eq.1 this]
  · rintro rfl
    obtain ⟨a⟩ := a
    show (a == a) = true
    rw [beq_iff_eq]
instance : LawfulBEq ByteArray where
  rfl := ba_beq.2 rfl
  eq_of_beq := ba_beq.1
theorem ba_bne {a b : ByteArray} (h : ¬ a = b) : (a == b) = false := by rw [← Bool.not_eq_true, ba_beq]; exact h
/-- The entries es are those of l: texts and what they lead to. -/
def MapL (es : Array MapEntry) (l : List (ByteArray × Value)) : Prop := es.toList.map (fun e => (e.key, e.val)) = l.map fun p => (Value.string p.1, p.2)
def lookS (l : List (ByteArray × Value)) (s : ByteArray) : Option Value := match l with
  | [] => none
  | p :: r => if p.1 = s then some p.2 else lookS r s
def setS (l : List (ByteArray × Value)) (s : ByteArray) (v : Value) : List (ByteArray × Value) := match l with
  | [] => [(s, v)]
  | p :: r => if p.1 = s then (s, v) :: r else p :: setS r s v

theorem MapL.nil : MapL #[] [] := rfl
theorem lookS_setS (l : List (ByteArray × Value)) (s : ByteArray) (v : Value) (t : ByteArray) : lookS (setS l s v) t = if s = t then some v else lookS l t := by
  induction l with
  | nil => simp [setS, lookS]
  | cons p r ih =>
    unfold setS
    by_cases h : p.1 = s
    · rw [if_pos h]
      unfold lookS
      by_cases h2 : s = t
      · simp [h2]
      · have : ¬ p.1 = t := fun e => h2 (h.symm.trans e)
        simp [h2, this]
    · rw [if_neg h]
      unfold lookS
      by_cases h2 : p.1 = t
      · have : ¬ s = t := fun e => h (h2.trans e.symm)
        simp [h2, this]
      · simp only [h2, if_false]; exact ih

theorem findNow_none {s : ByteArray} : ∀ {el : List MapEntry} {l : List (ByteArray × Value)} (i : Nat), el.map (fun e => (e.key, e.val)) = l.map (fun p => (Value.string p.1, p.2)) → lookS l s = none → Instr.findNow .string (.string s) el i = some none
  | [], l, i, _, _ => rfl
  | e :: el, [], i, h, _ => by simp at h
  | e :: el, p :: l, i, h, hl => by
    simp only [List.map_cons, List.cons.injEq, Prod.mk.injEq] at h
    unfold lookS at hl
    split at hl
    · cases hl
    · rename_i hne
      unfold Instr.findNow
      rw [h.1.1]
      have : (s == p.1) = false := ba_bne fun e => hne e.symm
      simp only [Instr.sameNow, this]
      exact findNow_none (i + 1) h.2 hl
theorem findNow_some {s : ByteArray} {v : Value} : ∀ {el : List MapEntry} {l : List (ByteArray × Value)} (i : Nat), el.map (fun e => (e.key, e.val)) = l.map (fun p => (Value.string p.1, p.2)) → lookS l s = some v →
    ∃ j e, Instr.findNow .string (.string s) el i = some (some (i + j, v)) ∧ el[j]? = some e ∧ e.key = .string s ∧ ∀ v', (el.modify j fun e => { e with key := .string s, val := v' }).map (fun e => (e.key, e.val)) = (setS l s v').map fun p => (Value.string p.1, p.2)
  | [], [], i, _, h => by cases h
  | [], p :: l, i, h, _ => by simp at h
  | e :: el, [], i, h, _ => by simp at h
  | e :: el, p :: l, i, h, hl => by
    simp only [List.map_cons, List.cons.injEq, Prod.mk.injEq] at h
    unfold lookS at hl
    split at hl
    · rename_i heq
      cases hl
      refine ⟨0, e, ?_, rfl, by rw [h.1.1, heq], fun v' => ?_⟩
      · unfold Instr.findNow
        rw [h.1.1]
        have : (s == p.1) = true := ba_beq.2 heq.symm
        simp only [Instr.sameNow, this]
        rw [h.1.2]; rfl
      · unfold setS
        rw [if_pos heq]
        simp [List.modify, h.2]
    · rename_i hne
      obtain ⟨j, e', h1, h2, h3, h4⟩ := findNow_some (i + 1) h.2 hl
      refine ⟨j + 1, e', ?_, by simpa using h2, h3, fun v' => ?_⟩
      · unfold Instr.findNow
        rw [h.1.1]
        have : (s == p.1) = false := ba_bne fun e => hne e.symm
        simp only [Instr.sameNow, this]
        rw [h1, show i + 1 + j = i + (j + 1) by omega]
      · unfold setS
        rw [if_neg hne]
        simp only [List.modify_succ_cons, List.map_cons, h4 v', h.1.1, h.1.2]

section
variable {P : Program} {t kt e : TypeId} {w : World} {b : Nat} {es : Array MapEntry} {clock : Nat} {l : List (ByteArray × Value)} {s : ByteArray}
def zeroOf (P : Program) (t : TypeId) : Option Value := match P.info? t with | some i => i.zero | none => none
theorem run_zeroOf {z : Value} (h : zeroOf P e = some z) (w : World) : (zeroValue e).run P w = .ok z w := by
  unfold zeroOf at h
  split at h
  · rename_i i hi; exact run_zeroValue hi h w
  · cases h
theorem run_checkStr (hk : P.underlying kt = some .string) (em : Bool) : (Instr.checkKey em 10000 kt (.string s)).run P w = .ok () w := by
  unfold Instr.checkKey
  simp [run_underlying hk]
/-- m[s]. -/
theorem map_look (ht : P.underlying t = some (.map kt e)) (hk : P.underlying kt = some .string) {z : Value} (hz : (zeroValue e).run P w = .ok z w) (hb : w.heap[b]? = some (.map es clock)) (hl : MapL es l) :
    (Instr.lookup t (.map (some b)) (.string s) false).run P w = .ok ((lookS l s).getD z) w := by
  cases hs : lookS l s with
  | none =>
    have := findNow_none (s := s) 0 hl hs
    simp [Instr.lookup, run_underlying ht, MapKept.run_getObj_map hb, run_checkStr hk, Instr.findKey, run_underlying hk, this, hz]
  | some v =>
    obtain ⟨j, e', h1, _, _, _⟩ := findNow_some (s := s) 0 hl hs
    simp [Instr.lookup, run_underlying ht, MapKept.run_getObj_map hb, run_checkStr hk, Instr.findKey, run_underlying hk, h1]
theorem sameBits_str (s : ByteArray) : Instr.sameBits 10000 (.string s) (.string s) = true := by
  unfold Instr.sameBits
  exact ba_beq.2 rfl
/-- m[s] = v. -/
theorem map_set (ht : P.underlying t = some (.map kt e)) (hk : P.underlying kt = some .string) (hb : w.heap[b]? = some (.map es clock)) (hl : MapL es l) (v : Value) :
    ∃ w' es' clock', (Instr.mapUpdate t (.map (some b)) (.string s) v).run P w = .ok () w' ∧ w'.heap[b]? = some (.map es' clock') ∧ MapL es' (setS l s v) ∧ But b w w' ∧ w'.heap.size = w.heap.size := by
  have hlt : b < w.heap.size := (Array.getElem?_eq_some_iff.1 hb).1
  have fin : ∀ o, But b w { w with heap := w.heap.setIfInBounds b o } ∧ ({ w with heap := w.heap.setIfInBounds b o } : World).heap.size = w.heap.size ∧ ({ w with heap := w.heap.setIfInBounds b o } : World).heap[b]? = some o := fun o =>
    ⟨⟨rfl, rfl, rfl, by simp, fun k _ hne => by simp [Array.getElem?_setIfInBounds, Ne.symm hne]⟩, by simp, by simp [hlt]⟩
  cases hs : lookS l s with
  | none =>
    have h1 := findNow_none (s := s) 0 hl hs
    refine ⟨_, es.push { key := .string s, val := v, born := clock }, clock + 1, ?_, (fin _).2.2, ?_, (fin _).1, (fin _).2.1⟩
    · simp [Instr.mapUpdate, run_underlying ht, MapKept.run_getObj_map hb, run_checkStr hk, Instr.findKey, run_underlying hk, h1, MapKept.run_setObj_map _ hb]
    · have : setS l s v = l ++ [(s, v)] := by
        clear h1 hl
        induction l with
        | nil => rfl
        | cons p r ih =>
          unfold lookS at hs
          split at hs
          · cases hs
          · rename_i hne
            unfold setS
            rw [if_neg hne, ih hs]; rfl
      unfold MapL at hl ⊢
      rw [this, Array.toList_push, List.map_append, hl, List.map_append]
      rfl
  | some v0 =>
    obtain ⟨j, e', h1, h2, h3, h4⟩ := findNow_some (s := s) 0 hl hs
    rw [Nat.zero_add] at h1
    have hj : es[j]? = some e' := by simpa using h2
    refine ⟨_, es.modify j fun e => { e with key := .string s, val := v }, clock, ?_, (fin _).2.2, ?_, (fin _).1, (fin _).2.1⟩
    · simp [Instr.mapUpdate, run_underlying ht, MapKept.run_getObj_map hb, run_checkStr hk, Instr.findKey, run_underlying hk, h1, hj, h3, Instr.keyThatStays, sameBits_str, MapKept.run_setObj_map _ hb]
    · have := h4 v
      unfold MapL
      rw [Array.toList_modify]
      exact this
end
end Go.Vc
