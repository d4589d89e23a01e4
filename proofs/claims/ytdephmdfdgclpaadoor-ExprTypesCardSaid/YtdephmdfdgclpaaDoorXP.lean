/- The verification conditions of the functions, evaluated: printed by program. -/
import Derived.Test.YtdephmdfdgclpaaDoorBase
import Derived.Test.YtdephmdfdgclpaaDoorVcF
namespace Go.Proofs.YtdephmdfdgclpaaDoor
open Go Go.Vc

set_option maxRecDepth 100000 in
def nodes_T (x0 : Int) (x1 : ByteArray) (x2 : Int) (x3 : Int) (x4 : ByteArray) (x5_p : Option Addr) (x5_n : Nat) (x5_c : Nat) (depth : Int) (w : World) (R : Ending → World → Prop) : Prop :=
  ∀ (b1 : Nat) (w'2 : World),
 New w (Obj.cells #[Value.int IntKind.i64 x0, Value.string x1, Value.int IntKind.i64 x2, Value.int IntKind.i64 x3, Value.string x4, Value.slice x5_p x5_n x5_c] 29) b1
 w'2 →
 ∀ (b4 : Nat) (w'5 : World),
 New w'2 (Obj.cells #[Value.int IntKind.i64 depth] 3) b4 w'5 →
 R (Ending.returned (Value.func (Fn.func 47) #[] #[Value.pointer (some (Addr.mk b4 0 none)), Value.pointer (some (Addr.mk b1 0 none))])) w'5

set_option maxRecDepth 100000 in
theorem nodes_eq (x0 : Int) (x1 : ByteArray) (x2 : Int) (x3 : Int) (x4 : ByteArray) (x5_p : Option Addr) (x5_n : Nat) (x5_c : Nat) (depth : Int) (w : World) (R : Ending → World → Prop) : nodes_T x0 x1 x2 x3 x4 x5_p x5_n x5_c depth w R = vcFn Tryd.prog [] [] Tryd.f31 [Value.agg
 #[Value.int IntKind.i64 x0, Value.string x1, Value.int IntKind.i64 x2, Value.int IntKind.i64 x3, Value.string x4,
 Value.slice x5_p x5_n x5_c], Value.int IntKind.i64 depth] w R := by kernel_rfl

set_option maxRecDepth 100000 in
theorem nodes_vc (x0 : Int) (x1 : ByteArray) (x2 : Int) (x3 : Int) (x4 : ByteArray) (x5_p : Option Addr) (x5_n : Nat) (x5_c : Nat) (depth : Int) (w : World) (R : Ending → World → Prop) (h : nodes_T x0 x1 x2 x3 x4 x5_p x5_n x5_c depth w R) : Calls Tryd.prog 31 #[Value.agg
 #[Value.int IntKind.i64 x0, Value.string x1, Value.int IntKind.i64 x2, Value.int IntKind.i64 x3, Value.string x4,
 Value.slice x5_p x5_n x5_c], Value.int IntKind.i64 depth] w R :=
  calls_of_vc (args := [Value.agg
 #[Value.int IntKind.i64 x0, Value.string x1, Value.int IntKind.i64 x2, Value.int IntKind.i64 x3, Value.string x4,
 Value.slice x5_p x5_n x5_c], Value.int IntKind.i64 depth]) [] [] Tryd.mixed Tryd.func31 (cast (nodes_eq _ _ _ _ _ _ _ _ _ w R) h)

set_option maxRecDepth 100000 in
def nodes1_T (l0 : Nat) (fv0 : Nat) (fv1 : Nat) (w : World) (R : Ending → World → Prop) : Prop :=
  ∀ (b1 : Nat) (w'2 : World),
 New w (Obj.cells #[Value.func (Fn.yield l0) #[] #[]] 68) b1 w'2 →
 ∃ (v4 : Value),
 w'2.cell? (Addr.mk b1 0 none) = some v4 ∧
 ∃ (n5 : Int),
 w'2.cell? (Addr.mk fv0 0 none) = some (Value.int IntKind.i64 n5) ∧
 ∃ (n6 : Int),
 w'2.cell? (Addr.mk fv1 0 none) = some (Value.int IntKind.i64 n6) ∧
 ∃ (s7 : ByteArray),
 w'2.cell? (Addr.mk fv1 1 none) = some (Value.string s7) ∧
 ∃ (n8 : Int),
 w'2.cell? (Addr.mk fv1 2 none) = some (Value.int IntKind.i64 n8) ∧
 ∃ (n9 : Int),
 w'2.cell? (Addr.mk fv1 3 none) = some (Value.int IntKind.i64 n9) ∧
 ∃ (s10 : ByteArray),
 w'2.cell? (Addr.mk fv1 4 none) = some (Value.string s10) ∧
 ∃ (p11 : Option Addr),
 ∃ (n12 : Nat),
 ∃ (c13 : Nat),
 w'2.cell? (Addr.mk fv1 5 none) = some (Value.slice p11 n12 c13) ∧
 ∃ (l14 : Nat),
 v4 = Value.func (Fn.yield l14) #[] #[] ∧
 Yield Tryd.prog l14
 #[Value.int IntKind.i64 n5,
 Value.agg #[Value.int IntKind.i64 n6, Value.string s7, Value.int IntKind.i64 n8, Value.int IntKind.i64 n9, Value.string s10, Value.slice p11 n12 c13]]
 w'2 fun (b15 : Bool) (w16 : World) ↦
 (b15 = false → R (Ending.returned (Value.tuple #[])) w16) ∧
 (b15 = true →
 ∃ (n19 : Int),
 w16.cell? (Addr.mk fv0 0 none) = some (Value.int IntKind.i64 n19) ∧
 (40 < n19 → R (Ending.returned (Value.tuple #[])) w16) ∧
 (n19 ≤ 40 →
 ∃ (p22 : Option Addr),
 ∃ (n23 : Nat),
 ∃ (c24 : Nat),
 w16.cell? (Addr.mk fv1 5 none) = some (Value.slice p22 n23 c24) ∧
 ∃ (I25 : Int → World → Prop),
 ∃ (M26 : Int → World → Nat),
 ∃ (B27 : Nat),
 I25 0 w16 ∧
 Vc.Open B27 [] w16 ∧
 ∀ (n28 : Int) (w'29 : World),
 I25 n28 w'29 →
 ∀ (ds'31 : List Nat),
 Vc.Open B27 ds'31 w'29 →
 (n28 < (↑n23 : Int) →
 ∃ (b34 : Nat),
 ∃ (o35 : Nat),
 p22 = some (Addr.mk b34 o35 none) ∧
 0 ≤ n28 ∧
 n28 < (↑n23 : Int) ∧
 ∃ (n36 : Int),
 w'29.cell? (Addr.mk b34 (o35 + n28.toNat * 6) none) = some (Value.int IntKind.i64 n36) ∧
 ∃ (s37 : ByteArray),
 w'29.cell? (Addr.mk b34 (o35 + n28.toNat * 6 + 1) none) = some (Value.string s37) ∧
 ∃ (n38 : Int),
 w'29.cell? (Addr.mk b34 (o35 + n28.toNat * 6 + 2) none) = some (Value.int IntKind.i64 n38) ∧
 ∃ (n39 : Int),
 w'29.cell? (Addr.mk b34 (o35 + n28.toNat * 6 + 3) none) = some (Value.int IntKind.i64 n39) ∧
 ∃ (s40 : ByteArray),
 w'29.cell? (Addr.mk b34 (o35 + n28.toNat * 6 + 4) none) = some (Value.string s40) ∧
 ∃ (p41 : Option Addr),
 ∃ (n42 : Nat),
 ∃ (c43 : Nat),
 w'29.cell? (Addr.mk b34 (o35 + n28.toNat * 6 + 5) none) = some (Value.slice p41 n42 c43) ∧
 ∀ (b44 : Nat) (w'45 : World),
 New w'29
 (Obj.cells
 #[Value.int IntKind.i64 0, Value.string (ByteArray.mk #[]), Value.int IntKind.i64 0, Value.int IntKind.i64 0, Value.string (ByteArray.mk #[]), Value.slice none 0 0] 29)
 b44 w'45 →
 (∃ (u47 : Value), w'45.cell? (Addr.mk b44 0 none) = some u47) ∧
 w'45.frozen? (Addr.mk b44 0 none) = false ∧
 (∃ (u48 : Value), w'45.cell? (Addr.mk b44 1 none) = some u48) ∧
 w'45.frozen? (Addr.mk b44 1 none) = false ∧
 (∃ (u49 : Value), w'45.cell? (Addr.mk b44 2 none) = some u49) ∧
 w'45.frozen? (Addr.mk b44 2 none) = false ∧
 (∃ (u50 : Value), w'45.cell? (Addr.mk b44 3 none) = some u50) ∧
 w'45.frozen? (Addr.mk b44 3 none) = false ∧
 (∃ (u51 : Value), w'45.cell? (Addr.mk b44 4 none) = some u51) ∧
 w'45.frozen? (Addr.mk b44 4 none) = false ∧
 (∃ (u52 : Value), w'45.cell? (Addr.mk b44 5 none) = some u52) ∧
 w'45.frozen? (Addr.mk b44 5 none) = false ∧
 ∀ (w'53 : World),
 Put w'45 b44 0 [Value.int IntKind.i64 n36, Value.string s37, Value.int IntKind.i64 n38, Value.int IntKind.i64 n39, Value.string s40, Value.slice p41 n42 c43] w'53 →
 ∃ (n55 : Int),
 w'53.cell? (Addr.mk b44 0 none) = some (Value.int IntKind.i64 n55) ∧
 ∃ (s56 : ByteArray),
 w'53.cell? (Addr.mk b44 1 none) = some (Value.string s56) ∧
 ∃ (n57 : Int),
 w'53.cell? (Addr.mk b44 2 none) = some (Value.int IntKind.i64 n57) ∧
 ∃ (n58 : Int),
 w'53.cell? (Addr.mk b44 3 none) = some (Value.int IntKind.i64 n58) ∧
 ∃ (s59 : ByteArray),
 w'53.cell? (Addr.mk b44 4 none) = some (Value.string s59) ∧
 ∃ (p60 : Option Addr),
 ∃ (n61 : Nat),
 ∃ (c62 : Nat),
 w'53.cell? (Addr.mk b44 5 none) = some (Value.slice p60 n61 c62) ∧
 ∃ (n63 : Int),
 w'53.cell? (Addr.mk fv0 0 none) = some (Value.int IntKind.i64 n63) ∧
 Calls Tryd.prog 31
 #[Value.agg #[Value.int IntKind.i64 n55, Value.string s56, Value.int IntKind.i64 n57, Value.int IntKind.i64 n58, Value.string s59, Value.slice p60 n61 c62],
 Value.int IntKind.i64 (IntKind.i64.wrap (n63 + 1))]
 w'53 fun (e64 : Ending) (w65 : World) ↦
 ∃ (v66 : Value),
 e64 = Ending.returned v66 ∧
 ∃ (g67 : FuncId),
 ∃ (lb68 : Array Value),
 v66 = Value.func (Fn.func g67) #[] lb68 ∧
 enterable Tryd.prog g67 = true ∧
 ∀ (r69 : Nat → Loop) (d70 l71 : Nat) (w172 : World),
 Began w65 r69 d70 l71 w172 →
 (∀ (n74 n75 : Int) (s76 : ByteArray) (n77 n78 : Int) (s79 : ByteArray) (p80 : Option Addr) (n81 c82 : Nat) (W83 : World) (R84 : Bool → World → Prop),
 Rec r69 l71 0 W83 →
 (∀ (b86 : Nat) (w'87 : World),
 New W83
 (Obj.cells
 #[Value.int IntKind.i64 0, Value.string (ByteArray.mk #[]), Value.int IntKind.i64 0, Value.int IntKind.i64 0, Value.string (ByteArray.mk #[]), Value.slice none 0 0] 29)
 b86 w'87 →
 (∃ (u89 : Value), w'87.cell? (Addr.mk b86 0 none) = some u89) ∧
 w'87.frozen? (Addr.mk b86 0 none) = false ∧
 (∃ (u90 : Value), w'87.cell? (Addr.mk b86 1 none) = some u90) ∧
 w'87.frozen? (Addr.mk b86 1 none) = false ∧
 (∃ (u91 : Value), w'87.cell? (Addr.mk b86 2 none) = some u91) ∧
 w'87.frozen? (Addr.mk b86 2 none) = false ∧
 (∃ (u92 : Value), w'87.cell? (Addr.mk b86 3 none) = some u92) ∧
 w'87.frozen? (Addr.mk b86 3 none) = false ∧
 (∃ (u93 : Value), w'87.cell? (Addr.mk b86 4 none) = some u93) ∧
 w'87.frozen? (Addr.mk b86 4 none) = false ∧
 (∃ (u94 : Value), w'87.cell? (Addr.mk b86 5 none) = some u94) ∧
 w'87.frozen? (Addr.mk b86 5 none) = false ∧
 ∀ (w'95 : World),
 Put w'87 b86 0 [Value.int IntKind.i64 n75, Value.string s76, Value.int IntKind.i64 n77, Value.int IntKind.i64 n78, Value.string s79, Value.slice p80 n81 c82] w'95 →
 Rec r69 l71 0 w'95 ∧
 ∀ (Wb97 : World),
 Wb97 = turn r69 l71 1 w'95 →
 ∃ (v99 : Value),
 Wb97.cell? (Addr.mk b1 0 none) = some v99 ∧
 ∃ (n100 : Int),
 Wb97.cell? (Addr.mk b86 0 none) = some (Value.int IntKind.i64 n100) ∧
 ∃ (s101 : ByteArray),
 Wb97.cell? (Addr.mk b86 1 none) = some (Value.string s101) ∧
 ∃ (n102 : Int),
 Wb97.cell? (Addr.mk b86 2 none) = some (Value.int IntKind.i64 n102) ∧
 ∃ (n103 : Int),
 Wb97.cell? (Addr.mk b86 3 none) = some (Value.int IntKind.i64 n103) ∧
 ∃ (s104 : ByteArray),
 Wb97.cell? (Addr.mk b86 4 none) = some (Value.string s104) ∧
 ∃ (p105 : Option Addr),
 ∃ (n106 : Nat),
 ∃ (c107 : Nat),
 Wb97.cell? (Addr.mk b86 5 none) = some (Value.slice p105 n106 c107) ∧
 ∃ (l108 : Nat),
 v99 = Value.func (Fn.yield l108) #[] #[] ∧
 Yield Tryd.prog l108
 #[Value.int IntKind.i64 n74,
 Value.agg #[Value.int IntKind.i64 n100, Value.string s101, Value.int IntKind.i64 n102, Value.int IntKind.i64 n103, Value.string s104, Value.slice p105 n106 c107]]
 Wb97 fun (b109 : Bool) (w110 : World) ↦
 (b109 = false → Rec r69 l71 1 w110 ∧ R84 false (turn r69 l71 3 w110)) ∧ (b109 = true → Rec r69 l71 1 w110 ∧ R84 true (turn r69 l71 0 w110))) →
 Yield Tryd.prog l71
 #[Value.int IntKind.i64 n74,
 Value.agg #[Value.int IntKind.i64 n75, Value.string s76, Value.int IntKind.i64 n77, Value.int IntKind.i64 n78, Value.string s79, Value.slice p80 n81 c82]]
 W83 fun (b114 : Bool) (w115 : World) ↦ R84 b114 w115) →
 Calls Tryd.prog g67 (Value.func (Fn.yield l71) #[] #[] :: lb68.1).toArray w172 fun (e117 : Ending) (w118 : World) ↦
 (∃ (v119 : Value), e117 = Ending.returned v119) ∧
 (Rec r69 l71 0 w118 ∧
 Vc.Open B27 (d70 :: ds'31) (turn r69 l71 2 w118) ∧
 I25 (IntKind.i64.wrap (n28 + 1)) (turn r69 l71 2 w118) ∧ M26 (IntKind.i64.wrap (n28 + 1)) (turn r69 l71 2 w118) < M26 n28 w'29 ∨
 (Rec r69 l71 3 w118 ∧
 (turn r69 l71 4 w118).heap[d70]? = some (Obj.deferred (some [])) ∧
 unD ds'31 ((turn r69 l71 4 w118).putObj d70 (Obj.deferred none)) fun (w122 : World) ↦ R (Ending.returned (Value.tuple #[])) w122) ∨
 False)) ∧
 ((↑n23 : Int) ≤ n28 → unD ds'31 w'29 fun (w124 : World) ↦ R (Ending.returned (Value.tuple #[])) w124)))

set_option maxRecDepth 100000 in
theorem nodes1_eq (l0 : Nat) (fv0 : Nat) (fv1 : Nat) (w : World) (R : Ending → World → Prop) : nodes1_T l0 fv0 fv1 w R = vcFn Tryd.prog [] [] Tryd.f47 [Value.func (Fn.yield l0) #[] #[], Value.pointer (some (Addr.mk fv0 0 none)), Value.pointer (some (Addr.mk fv1 0 none))] w R := by kernel_rfl

set_option maxRecDepth 100000 in
theorem nodes1_vc (l0 : Nat) (fv0 : Nat) (fv1 : Nat) (w : World) (R : Ending → World → Prop) (h : nodes1_T l0 fv0 fv1 w R) : Calls Tryd.prog 47 #[Value.func (Fn.yield l0) #[] #[], Value.pointer (some (Addr.mk fv0 0 none)), Value.pointer (some (Addr.mk fv1 0 none))] w R :=
  calls_of_vc (args := [Value.func (Fn.yield l0) #[] #[], Value.pointer (some (Addr.mk fv0 0 none)), Value.pointer (some (Addr.mk fv1 0 none))]) [] [] Tryd.mixed Tryd.func47 (cast (nodes1_eq _ _ _ w R) h)

set_option maxRecDepth 100000 in
def xformed_T (x0 : Int) (x1 : ByteArray) (x2 : Int) (x3 : Int) (x4 : ByteArray) (x5_p : Option Addr) (x5_n : Nat) (x5_c : Nat) (w : World) (R : Ending → World → Prop) : Prop :=
  ∀ (b1 : Nat) (w'2 : World),
 New w (Obj.cells #[Value.int IntKind.i64 x0, Value.string x1, Value.int IntKind.i64 x2, Value.int IntKind.i64 x3, Value.string x4, Value.slice x5_p x5_n x5_c] 29) b1
 w'2 →
 ∀ (b4 : Nat) (w'5 : World),
 New w'2 (Obj.cells #[Value.bool false] 4) b4 w'5 →
 ∀ (b7 : Nat) (w'8 : World),
 New w'5 (Obj.cells #[Value.int IntKind.i64 0] 3) b7 w'8 →
 (∃ (u10 : Value), w'8.cell? (Addr.mk b7 0 none) = some u10) ∧
 w'8.frozen? (Addr.mk b7 0 none) = false ∧
 ∀ (w'11 : World),
 Put w'8 b7 0 [Value.int IntKind.i64 0] w'11 →
 ∃ (n13 : Int),
 w'11.cell? (Addr.mk b1 0 none) = some (Value.int IntKind.i64 n13) ∧
 ∃ (s14 : ByteArray),
 w'11.cell? (Addr.mk b1 1 none) = some (Value.string s14) ∧
 ∃ (n15 : Int),
 w'11.cell? (Addr.mk b1 2 none) = some (Value.int IntKind.i64 n15) ∧
 ∃ (n16 : Int),
 w'11.cell? (Addr.mk b1 3 none) = some (Value.int IntKind.i64 n16) ∧
 ∃ (s17 : ByteArray),
 w'11.cell? (Addr.mk b1 4 none) = some (Value.string s17) ∧
 ∃ (p18 : Option Addr),
 ∃ (n19 : Nat),
 ∃ (c20 : Nat),
 w'11.cell? (Addr.mk b1 5 none) = some (Value.slice p18 n19 c20) ∧
 Calls Tryd.prog 31
 #[Value.agg #[Value.int IntKind.i64 n13, Value.string s14, Value.int IntKind.i64 n15, Value.int IntKind.i64 n16, Value.string s17, Value.slice p18 n19 c20],
 Value.int IntKind.i64 1]
 w'11 fun (e21 : Ending) (w22 : World) ↦
 ∃ (v23 : Value),
 e21 = Ending.returned v23 ∧
 ∃ (g24 : FuncId),
 ∃ (lb25 : Array Value),
 v23 = Value.func (Fn.func g24) #[] lb25 ∧
 enterable Tryd.prog g24 = true ∧
 ∀ (r26 : Nat → Loop) (d27 l28 : Nat) (w129 : World),
 Began w22 r26 d27 l28 w129 →
 (∀ (n31 n32 : Int) (s33 : ByteArray) (n34 n35 : Int) (s36 : ByteArray) (p37 : Option Addr) (n38 c39 : Nat) (W40 : World) (R41 : Bool → World → Prop),
 Rec r26 l28 0 W40 →
 (∀ (b43 : Nat) (w'44 : World),
 New W40
 (Obj.cells
 #[Value.int IntKind.i64 0, Value.string (ByteArray.mk #[]), Value.int IntKind.i64 0, Value.int IntKind.i64 0, Value.string (ByteArray.mk #[]), Value.slice none 0 0] 29)
 b43 w'44 →
 (∃ (u46 : Value), w'44.cell? (Addr.mk b43 0 none) = some u46) ∧
 w'44.frozen? (Addr.mk b43 0 none) = false ∧
 (∃ (u47 : Value), w'44.cell? (Addr.mk b43 1 none) = some u47) ∧
 w'44.frozen? (Addr.mk b43 1 none) = false ∧
 (∃ (u48 : Value), w'44.cell? (Addr.mk b43 2 none) = some u48) ∧
 w'44.frozen? (Addr.mk b43 2 none) = false ∧
 (∃ (u49 : Value), w'44.cell? (Addr.mk b43 3 none) = some u49) ∧
 w'44.frozen? (Addr.mk b43 3 none) = false ∧
 (∃ (u50 : Value), w'44.cell? (Addr.mk b43 4 none) = some u50) ∧
 w'44.frozen? (Addr.mk b43 4 none) = false ∧
 (∃ (u51 : Value), w'44.cell? (Addr.mk b43 5 none) = some u51) ∧
 w'44.frozen? (Addr.mk b43 5 none) = false ∧
 ∀ (w'52 : World),
 Put w'44 b43 0 [Value.int IntKind.i64 n32, Value.string s33, Value.int IntKind.i64 n34, Value.int IntKind.i64 n35, Value.string s36, Value.slice p37 n38 c39] w'52 →
 Rec r26 l28 0 w'52 ∧
 ∀ (Wb54 : World),
 Wb54 = turn r26 l28 1 w'52 →
 ∃ (n56 : Int),
 Wb54.cell? (Addr.mk b7 0 none) = some (Value.int IntKind.i64 n56) ∧
 (∃ (u57 : Value), Wb54.cell? (Addr.mk b7 0 none) = some u57) ∧
 Wb54.frozen? (Addr.mk b7 0 none) = false ∧
 ∀ (w'58 : World),
 Put Wb54 b7 0 [Value.int IntKind.i64 (IntKind.i64.wrap (n56 + 1))] w'58 →
 ∀ (w'60 : World),
 Drew w'58 w'60 →
 (40 < n31 →
 (∃ (u63 : Value), w'60.cell? (Addr.mk b4 0 none) = some u63) ∧
 w'60.frozen? (Addr.mk b4 0 none) = false ∧ ∀ (w'64 : World), Put w'60 b4 0 [Value.bool false] w'64 → Rec r26 l28 1 w'64 ∧ R41 false (turn r26 l28 3 w'64)) ∧
 (n31 ≤ 40 →
 ∃ (n67 : Int),
 w'60.cell? (Addr.mk b7 0 none) = some (Value.int IntKind.i64 n67) ∧
 (400 < n67 →
 (∃ (u69 : Value), w'60.cell? (Addr.mk b4 0 none) = some u69) ∧
 w'60.frozen? (Addr.mk b4 0 none) = false ∧ ∀ (w'70 : World), Put w'60 b4 0 [Value.bool false] w'70 → Rec r26 l28 1 w'70 ∧ R41 false (turn r26 l28 3 w'70)) ∧
 (n67 ≤ 400 →
 ∃ (n73 : Int),
 w'60.cell? (Addr.mk b43 0 none) = some (Value.int IntKind.i64 n73) ∧
 (n73 < 1 →
 (∃ (u75 : Value), w'60.cell? (Addr.mk b4 0 none) = some u75) ∧
 w'60.frozen? (Addr.mk b4 0 none) = false ∧ ∀ (w'76 : World), Put w'60 b4 0 [Value.bool false] w'76 → Rec r26 l28 1 w'76 ∧ R41 false (turn r26 l28 3 w'76)) ∧
 (1 ≤ n73 →
 ∃ (n79 : Int),
 w'60.cell? (Addr.mk b43 0 none) = some (Value.int IntKind.i64 n79) ∧
 (17 ≤ n79 →
 (∃ (u81 : Value), w'60.cell? (Addr.mk b4 0 none) = some u81) ∧
 w'60.frozen? (Addr.mk b4 0 none) = false ∧ ∀ (w'82 : World), Put w'60 b4 0 [Value.bool false] w'82 → Rec r26 l28 1 w'82 ∧ R41 false (turn r26 l28 3 w'82)) ∧
 (n79 < 17 →
 ∃ (p85 : Option Addr),
 ∃ (n86 : Nat),
 ∃ (c87 : Nat),
 w'60.cell? (Addr.mk b43 5 none) = some (Value.slice p85 n86 c87) ∧
 ∃ (n88 : Int),
 w'60.cell? (Addr.mk b43 0 none) = some (Value.int IntKind.i64 n88) ∧
 0 ≤ n88 ∧
 n88 < 17 ∧
 ∃ (n89 : Int),
 w'60.cell? (Addr.mk 0 (0 + n88.toNat * 3) none) = some (Value.int IntKind.i64 n89) ∧
 ((↑n86 : Int) ≠ n89 →
 (∃ (u91 : Value), w'60.cell? (Addr.mk b4 0 none) = some u91) ∧
 w'60.frozen? (Addr.mk b4 0 none) = false ∧ ∀ (w'92 : World), Put w'60 b4 0 [Value.bool false] w'92 → Rec r26 l28 1 w'92 ∧ R41 false (turn r26 l28 3 w'92)) ∧
 ((↑n86 : Int) = n89 →
 ∃ (n95 : Int),
 w'60.cell? (Addr.mk b43 0 none) = some (Value.int IntKind.i64 n95) ∧
 (n95 ≠ 1 →
 ∃ (s97 : ByteArray),
 w'60.cell? (Addr.mk b43 1 none) = some (Value.string s97) ∧
 (s97 ≠ ByteArray.mk #[] →
 (∃ (u99 : Value), w'60.cell? (Addr.mk b4 0 none) = some u99) ∧
 w'60.frozen? (Addr.mk b4 0 none) = false ∧ ∀ (w'100 : World), Put w'60 b4 0 [Value.bool false] w'100 → Rec r26 l28 1 w'100 ∧ R41 false (turn r26 l28 3 w'100)) ∧
 (s97 = ByteArray.mk #[] →
 ∃ (n103 : Int),
 w'60.cell? (Addr.mk b43 0 none) = some (Value.int IntKind.i64 n103) ∧
 (n103 ≠ 2 →
 ∃ (n105 : Int),
 w'60.cell? (Addr.mk b43 2 none) = some (Value.int IntKind.i64 n105) ∧
 ∃ (n106 : Int),
 w'60.cell? (Addr.mk b43 3 none) = some (Value.int IntKind.i64 n106) ∧
 ∃ (s107 : ByteArray),
 w'60.cell? (Addr.mk b43 4 none) = some (Value.string s107) ∧
 (n105 ≠ 0 ∨ n106 ≠ 0 ∨ s107 ≠ ByteArray.mk #[] →
 (∃ (u109 : Value), w'60.cell? (Addr.mk b4 0 none) = some u109) ∧
 w'60.frozen? (Addr.mk b4 0 none) = false ∧ ∀ (w'110 : World), Put w'60 b4 0 [Value.bool false] w'110 → Rec r26 l28 1 w'110 ∧ R41 false (turn r26 l28 3 w'110)) ∧
 (n105 = 0 ∧ n106 = 0 ∧ s107 = ByteArray.mk #[] →
 ∃ (n113 : Int),
 w'60.cell? (Addr.mk b43 2 none) = some (Value.int IntKind.i64 n113) ∧
 ∃ (n114 : Int),
 w'60.cell? (Addr.mk b43 3 none) = some (Value.int IntKind.i64 n114) ∧
 ∃ (s115 : ByteArray),
 w'60.cell? (Addr.mk b43 4 none) = some (Value.string s115) ∧
 Calls Tryd.prog 43 #[Value.agg #[Value.int IntKind.i64 n113, Value.int IntKind.i64 n114, Value.string s115]] w'60 fun (e116 : Ending) (w117 : World) ↦
 ∃ (b118 : Bool),
 e116 = Ending.returned (Value.bool b118) ∧
 (b118 = false →
 (∃ (u120 : Value), w117.cell? (Addr.mk b4 0 none) = some u120) ∧
 w117.frozen? (Addr.mk b4 0 none) = false ∧ ∀ (w'121 : World), Put w117 b4 0 [Value.bool false] w'121 → Rec r26 l28 1 w'121 ∧ R41 false (turn r26 l28 3 w'121)) ∧
 (b118 = true → Rec r26 l28 1 w117 ∧ R41 true (turn r26 l28 0 w117)))) ∧
 (n103 = 2 →
 ∃ (n125 : Int),
 w'60.cell? (Addr.mk b43 2 none) = some (Value.int IntKind.i64 n125) ∧
 ∃ (n126 : Int),
 w'60.cell? (Addr.mk b43 3 none) = some (Value.int IntKind.i64 n126) ∧
 ∃ (s127 : ByteArray),
 w'60.cell? (Addr.mk b43 4 none) = some (Value.string s127) ∧
 Calls Tryd.prog 43 #[Value.agg #[Value.int IntKind.i64 n125, Value.int IntKind.i64 n126, Value.string s127]] w'60 fun (e128 : Ending) (w129 : World) ↦
 ∃ (b130 : Bool),
 e128 = Ending.returned (Value.bool b130) ∧
 (b130 = false →
 (∃ (u132 : Value), w129.cell? (Addr.mk b4 0 none) = some u132) ∧
 w129.frozen? (Addr.mk b4 0 none) = false ∧ ∀ (w'133 : World), Put w129 b4 0 [Value.bool false] w'133 → Rec r26 l28 1 w'133 ∧ R41 false (turn r26 l28 3 w'133)) ∧
 (b130 = true → Rec r26 l28 1 w129 ∧ R41 true (turn r26 l28 0 w129))))) ∧
 (n95 = 1 →
 ∃ (n137 : Int),
 w'60.cell? (Addr.mk b43 0 none) = some (Value.int IntKind.i64 n137) ∧
 (n137 ≠ 2 →
 ∃ (n139 : Int),
 w'60.cell? (Addr.mk b43 2 none) = some (Value.int IntKind.i64 n139) ∧
 ∃ (n140 : Int),
 w'60.cell? (Addr.mk b43 3 none) = some (Value.int IntKind.i64 n140) ∧
 ∃ (s141 : ByteArray),
 w'60.cell? (Addr.mk b43 4 none) = some (Value.string s141) ∧
 (n139 ≠ 0 ∨ n140 ≠ 0 ∨ s141 ≠ ByteArray.mk #[] →
 (∃ (u143 : Value), w'60.cell? (Addr.mk b4 0 none) = some u143) ∧
 w'60.frozen? (Addr.mk b4 0 none) = false ∧ ∀ (w'144 : World), Put w'60 b4 0 [Value.bool false] w'144 → Rec r26 l28 1 w'144 ∧ R41 false (turn r26 l28 3 w'144)) ∧
 (n139 = 0 ∧ n140 = 0 ∧ s141 = ByteArray.mk #[] →
 ∃ (n147 : Int),
 w'60.cell? (Addr.mk b43 2 none) = some (Value.int IntKind.i64 n147) ∧
 ∃ (n148 : Int),
 w'60.cell? (Addr.mk b43 3 none) = some (Value.int IntKind.i64 n148) ∧
 ∃ (s149 : ByteArray),
 w'60.cell? (Addr.mk b43 4 none) = some (Value.string s149) ∧
 Calls Tryd.prog 43 #[Value.agg #[Value.int IntKind.i64 n147, Value.int IntKind.i64 n148, Value.string s149]] w'60 fun (e150 : Ending) (w151 : World) ↦
 ∃ (b152 : Bool),
 e150 = Ending.returned (Value.bool b152) ∧
 (b152 = false →
 (∃ (u154 : Value), w151.cell? (Addr.mk b4 0 none) = some u154) ∧
 w151.frozen? (Addr.mk b4 0 none) = false ∧ ∀ (w'155 : World), Put w151 b4 0 [Value.bool false] w'155 → Rec r26 l28 1 w'155 ∧ R41 false (turn r26 l28 3 w'155)) ∧
 (b152 = true → Rec r26 l28 1 w151 ∧ R41 true (turn r26 l28 0 w151)))) ∧
 (n137 = 2 →
 ∃ (n159 : Int),
 w'60.cell? (Addr.mk b43 2 none) = some (Value.int IntKind.i64 n159) ∧
 ∃ (n160 : Int),
 w'60.cell? (Addr.mk b43 3 none) = some (Value.int IntKind.i64 n160) ∧
 ∃ (s161 : ByteArray),
 w'60.cell? (Addr.mk b43 4 none) = some (Value.string s161) ∧
 Calls Tryd.prog 43 #[Value.agg #[Value.int IntKind.i64 n159, Value.int IntKind.i64 n160, Value.string s161]] w'60 fun (e162 : Ending) (w163 : World) ↦
 ∃ (b164 : Bool),
 e162 = Ending.returned (Value.bool b164) ∧
 (b164 = false →
 (∃ (u166 : Value), w163.cell? (Addr.mk b4 0 none) = some u166) ∧
 w163.frozen? (Addr.mk b4 0 none) = false ∧ ∀ (w'167 : World), Put w163 b4 0 [Value.bool false] w'167 → Rec r26 l28 1 w'167 ∧ R41 false (turn r26 l28 3 w'167)) ∧
 (b164 = true → Rec r26 l28 1 w163 ∧ R41 true (turn r26 l28 0 w163)))))))))) →
 Yield Tryd.prog l28
 #[Value.int IntKind.i64 n31,
 Value.agg #[Value.int IntKind.i64 n32, Value.string s33, Value.int IntKind.i64 n34, Value.int IntKind.i64 n35, Value.string s36, Value.slice p37 n38 c39]]
 W40 fun (b171 : Bool) (w172 : World) ↦ R41 b171 w172) →
 Calls Tryd.prog g24 (Value.func (Fn.yield l28) #[] #[] :: lb25.1).toArray w129 fun (e174 : Ending) (w175 : World) ↦
 (∃ (v176 : Value), e174 = Ending.returned v176) ∧
 ((Rec r26 l28 0 w175 ∧
 (∃ (u177 : Value), (turn r26 l28 2 w175).cell? (Addr.mk b4 0 none) = some u177) ∧
 (turn r26 l28 2 w175).frozen? (Addr.mk b4 0 none) = false ∧
 ∀ (w'178 : World),
 Put (turn r26 l28 2 w175) b4 0 [Value.bool true] w'178 →
 w'178.heap[d27]? = some (Obj.deferred (some [])) ∧
 ∃ (b182 : Bool),
 (w'178.putObj d27 (Obj.deferred none)).cell? (Addr.mk b4 0 none) = some (Value.bool b182) ∧
 R (Ending.returned (Value.bool b182)) (w'178.putObj d27 (Obj.deferred none))) ∨
 (Rec r26 l28 3 w175 ∧
 (turn r26 l28 4 w175).heap[d27]? = some (Obj.deferred (some [])) ∧
 ∃ (b185 : Bool),
 ((turn r26 l28 4 w175).putObj d27 (Obj.deferred none)).cell? (Addr.mk b4 0 none) = some (Value.bool b185) ∧
 R (Ending.returned (Value.bool b185)) ((turn r26 l28 4 w175).putObj d27 (Obj.deferred none))) ∨
 False)

set_option maxRecDepth 100000 in
theorem xformed_eq (x0 : Int) (x1 : ByteArray) (x2 : Int) (x3 : Int) (x4 : ByteArray) (x5_p : Option Addr) (x5_n : Nat) (x5_c : Nat) (w : World) (R : Ending → World → Prop) : xformed_T x0 x1 x2 x3 x4 x5_p x5_n x5_c w R = vcFn Tryd.prog [] [(6, [2, 4, 6, 8, 10, 12, 14, 16, 18, 20, 22, 24, 26, 28, 30, 32, 34, 36, 38, 40, 42, 44, 46, 48, 50, 52, 54, 0])] Tryd.f27 [Value.agg
 #[Value.int IntKind.i64 x0, Value.string x1, Value.int IntKind.i64 x2, Value.int IntKind.i64 x3, Value.string x4,
 Value.slice x5_p x5_n x5_c]] w R := by kernel_rfl

set_option maxRecDepth 100000 in
theorem xformed_vc (x0 : Int) (x1 : ByteArray) (x2 : Int) (x3 : Int) (x4 : ByteArray) (x5_p : Option Addr) (x5_n : Nat) (x5_c : Nat) (w : World) (R : Ending → World → Prop) (h : xformed_T x0 x1 x2 x3 x4 x5_p x5_n x5_c w R) : Calls Tryd.prog 27 #[Value.agg
 #[Value.int IntKind.i64 x0, Value.string x1, Value.int IntKind.i64 x2, Value.int IntKind.i64 x3, Value.string x4,
 Value.slice x5_p x5_n x5_c]] w R :=
  calls_of_vc (args := [Value.agg
 #[Value.int IntKind.i64 x0, Value.string x1, Value.int IntKind.i64 x2, Value.int IntKind.i64 x3, Value.string x4,
 Value.slice x5_p x5_n x5_c]]) [] [(6, [2, 4, 6, 8, 10, 12, 14, 16, 18, 20, 22, 24, 26, 28, 30, 32, 34, 36, 38, 40, 42, 44, 46, 48, 50, 52, 54, 0])] Tryd.mixed Tryd.func27 (cast (xformed_eq _ _ _ _ _ _ _ _ w R) h)

set_option maxRecDepth 100000 in
def alike_T (a : Int) (b : Int) (w : World) (R : Ending → World → Prop) : Prop :=
  R (Ending.returned (Value.bool (decide (a = b) || decide (a = 0) || decide (b = 0)))) w

set_option maxRecDepth 100000 in
theorem alike_eq (a : Int) (b : Int) (w : World) (R : Ending → World → Prop) : alike_T a b w R = vcFn Tryd.prog [] [] Tryd.f44 [Value.int IntKind.i64 a, Value.int IntKind.i64 b] w R := by kernel_rfl

set_option maxRecDepth 100000 in
theorem alike_vc (a : Int) (b : Int) (w : World) (R : Ending → World → Prop) (h : alike_T a b w R) : Calls Tryd.prog 44 #[Value.int IntKind.i64 a, Value.int IntKind.i64 b] w R :=
  calls_of_vc (args := [Value.int IntKind.i64 a, Value.int IntKind.i64 b]) [] [] Tryd.mixed Tryd.func44 (cast (alike_eq _ _ w R) h)

set_option maxRecDepth 100000 in
def xkind_T (cols_p : Option Addr) (cols_n : Nat) (cols_c : Nat) (x0 : Int) (x1 : ByteArray) (x2 : Int) (x3 : Int) (x4 : ByteArray) (x5_p : Option Addr) (x5_n : Nat) (x5_c : Nat) (w : World) (R : Ending → World → Prop) : Prop :=
  ∀ (b1 : Nat) (w'2 : World),
 New w (Obj.cells #[Value.int IntKind.i64 x0, Value.string x1, Value.int IntKind.i64 x2, Value.int IntKind.i64 x3, Value.string x4, Value.slice x5_p x5_n x5_c] 29) b1
 w'2 →
 ∃ (n4 : Int),
 w'2.cell? (Addr.mk b1 0 none) = some (Value.int IntKind.i64 n4) ∧
 0 ≤ n4 ∧
 n4 < 17 ∧
 ∃ (n5 : Int),
 w'2.cell? (Addr.mk 0 (0 + n4.toNat * 3) none) = some (Value.int IntKind.i64 n5) ∧
 ∃ (n6 : Int),
 w'2.cell? (Addr.mk 0 (0 + n4.toNat * 3 + 1) none) = some (Value.int IntKind.i64 n6) ∧
 ∃ (n7 : Int),
 w'2.cell? (Addr.mk 0 (0 + n4.toNat * 3 + 2) none) = some (Value.int IntKind.i64 n7) ∧
 ∀ (b8 : Nat) (w'9 : World),
 New w'2 (Obj.cells #[Value.int IntKind.i64 0, Value.int IntKind.i64 0, Value.int IntKind.i64 0] 64) b8 w'9 →
 (∃ (u11 : Value), w'9.cell? (Addr.mk b8 0 none) = some u11) ∧
 w'9.frozen? (Addr.mk b8 0 none) = false ∧
 (∃ (u12 : Value), w'9.cell? (Addr.mk b8 1 none) = some u12) ∧
 w'9.frozen? (Addr.mk b8 1 none) = false ∧
 (∃ (u13 : Value), w'9.cell? (Addr.mk b8 2 none) = some u13) ∧
 w'9.frozen? (Addr.mk b8 2 none) = false ∧
 ∀ (w'14 : World),
 Put w'9 b8 0 [Value.int IntKind.i64 n5, Value.int IntKind.i64 n6, Value.int IntKind.i64 n7] w'14 →
 ∀ (b16 : Nat) (w'17 : World),
 New w'14 (Obj.cells #[Value.int IntKind.i64 0, Value.int IntKind.i64 0] 66) b16 w'17 →
 ∃ (p19 : Option Addr),
 ∃ (n20 : Nat),
 ∃ (c21 : Nat),
 w'17.cell? (Addr.mk b1 5 none) = some (Value.slice p19 n20 c21) ∧
 ∃ (I22 : Int → World → Prop),
 ∃ (M23 : Int → World → Nat),
 I22 0 w'17 ∧
 ∀ (n24 : Int) (w'25 : World),
 I22 n24 w'25 →
 (n24 < (↑n20 : Int) →
 ∃ (b28 : Nat),
 ∃ (o29 : Nat),
 p19 = some (Addr.mk b28 o29 none) ∧
 0 ≤ n24 ∧
 n24 < (↑n20 : Int) ∧
 ∃ (n30 : Int),
 w'25.cell? (Addr.mk b28 (o29 + n24.toNat * 6) none) = some (Value.int IntKind.i64 n30) ∧
 ∃ (s31 : ByteArray),
 w'25.cell? (Addr.mk b28 (o29 + n24.toNat * 6 + 1) none) = some (Value.string s31) ∧
 ∃ (n32 : Int),
 w'25.cell? (Addr.mk b28 (o29 + n24.toNat * 6 + 2) none) = some (Value.int IntKind.i64 n32) ∧
 ∃ (n33 : Int),
 w'25.cell? (Addr.mk b28 (o29 + n24.toNat * 6 + 3) none) = some (Value.int IntKind.i64 n33) ∧
 ∃ (s34 : ByteArray),
 w'25.cell? (Addr.mk b28 (o29 + n24.toNat * 6 + 4) none) = some (Value.string s34) ∧
 ∃ (p35 : Option Addr),
 ∃ (n36 : Nat),
 ∃ (c37 : Nat),
 w'25.cell? (Addr.mk b28 (o29 + n24.toNat * 6 + 5) none) = some (Value.slice p35 n36 c37) ∧
 ∀ (b38 : Nat) (w'39 : World),
 New w'25
 (Obj.cells
 #[Value.int IntKind.i64 0, Value.string (ByteArray.mk #[]), Value.int IntKind.i64 0, Value.int IntKind.i64 0, Value.string (ByteArray.mk #[]), Value.slice none 0 0] 29)
 b38 w'39 →
 (∃ (u41 : Value), w'39.cell? (Addr.mk b38 0 none) = some u41) ∧
 w'39.frozen? (Addr.mk b38 0 none) = false ∧
 (∃ (u42 : Value), w'39.cell? (Addr.mk b38 1 none) = some u42) ∧
 w'39.frozen? (Addr.mk b38 1 none) = false ∧
 (∃ (u43 : Value), w'39.cell? (Addr.mk b38 2 none) = some u43) ∧
 w'39.frozen? (Addr.mk b38 2 none) = false ∧
 (∃ (u44 : Value), w'39.cell? (Addr.mk b38 3 none) = some u44) ∧
 w'39.frozen? (Addr.mk b38 3 none) = false ∧
 (∃ (u45 : Value), w'39.cell? (Addr.mk b38 4 none) = some u45) ∧
 w'39.frozen? (Addr.mk b38 4 none) = false ∧
 (∃ (u46 : Value), w'39.cell? (Addr.mk b38 5 none) = some u46) ∧
 w'39.frozen? (Addr.mk b38 5 none) = false ∧
 ∀ (w'47 : World),
 Put w'39 b38 0 [Value.int IntKind.i64 n30, Value.string s31, Value.int IntKind.i64 n32, Value.int IntKind.i64 n33, Value.string s34, Value.slice p35 n36 c37] w'47 →
 ∃ (n49 : Int),
 w'47.cell? (Addr.mk b38 0 none) = some (Value.int IntKind.i64 n49) ∧
 ∃ (s50 : ByteArray),
 w'47.cell? (Addr.mk b38 1 none) = some (Value.string s50) ∧
 ∃ (n51 : Int),
 w'47.cell? (Addr.mk b38 2 none) = some (Value.int IntKind.i64 n51) ∧
 ∃ (n52 : Int),
 w'47.cell? (Addr.mk b38 3 none) = some (Value.int IntKind.i64 n52) ∧
 ∃ (s53 : ByteArray),
 w'47.cell? (Addr.mk b38 4 none) = some (Value.string s53) ∧
 ∃ (p54 : Option Addr),
 ∃ (n55 : Nat),
 ∃ (c56 : Nat),
 w'47.cell? (Addr.mk b38 5 none) = some (Value.slice p54 n55 c56) ∧
 Calls Tryd.prog 28
 #[Value.slice cols_p cols_n cols_c,
 Value.agg #[Value.int IntKind.i64 n49, Value.string s50, Value.int IntKind.i64 n51, Value.int IntKind.i64 n52, Value.string s53, Value.slice p54 n55 c56]]
 w'47 fun (e57 : Ending) (w58 : World) ↦
 ∃ (n59 : Int),
 ∃ (n60 : Int),
 e57 = Ending.returned (Value.tuple #[Value.int IntKind.i64 n59, Value.int IntKind.i64 n60]) ∧
 (n60 ≠ 0 → R (Ending.returned (Value.tuple #[Value.int IntKind.i64 0, Value.int IntKind.i64 n60])) w58) ∧
 (n60 = 0 →
 0 ≤ n24 ∧
 n24 < 2 ∧
 (∃ (u63 : Value), w58.cell? (Addr.mk b16 (0 + n24.toNat) none) = some u63) ∧
 w58.frozen? (Addr.mk b16 (0 + n24.toNat) none) = false ∧
 ∀ (w'64 : World),
 Put w58 b16 (0 + n24.toNat) [Value.int IntKind.i64 n59] w'64 → I22 (IntKind.i64.wrap (n24 + 1)) w'64 ∧ M23 (IntKind.i64.wrap (n24 + 1)) w'64 < M23 n24 w'25)) ∧
 ((↑n20 : Int) ≤ n24 →
 ∃ (p67 : Option Addr),
 ∃ (n68 : Nat),
 ∃ (c69 : Nat),
 w'25.cell? (Addr.mk b1 5 none) = some (Value.slice p67 n68 c69) ∧
 ∃ (I70 : Int → World → Prop),
 ∃ (M71 : Int → World → Nat),
 I70 0 w'25 ∧
 ∀ (n72 : Int) (w'73 : World),
 I70 n72 w'73 →
 (n72 < (↑n68 : Int) →
 ∀ (w'76 : World),
 Drew w'73 w'76 →
 ∃ (n78 : Int),
 w'76.cell? (Addr.mk b8 1 none) = some (Value.int IntKind.i64 n78) ∧
 (n78 ≠ 0 →
 0 ≤ n72 ∧
 n72 < 2 ∧
 ∃ (n80 : Int),
 w'76.cell? (Addr.mk b16 (0 + n72.toNat) none) = some (Value.int IntKind.i64 n80) ∧
 ∃ (n81 : Int),
 w'76.cell? (Addr.mk b8 1 none) = some (Value.int IntKind.i64 n81) ∧
 Calls Tryd.prog 44 #[Value.int IntKind.i64 n80, Value.int IntKind.i64 n81] w'76 fun (e82 : Ending) (w83 : World) ↦
 ∃ (b84 : Bool),
 e82 = Ending.returned (Value.bool b84) ∧
 (b84 = false → R (Ending.returned (Value.tuple #[Value.int IntKind.i64 0, Value.int IntKind.i64 121])) w83) ∧
 (b84 = true → I70 (IntKind.i64.wrap (n72 + 1)) w83 ∧ M71 (IntKind.i64.wrap (n72 + 1)) w83 < M71 n72 w'73)) ∧
 (n78 = 0 → I70 (IntKind.i64.wrap (n72 + 1)) w'76 ∧ M71 (IntKind.i64.wrap (n72 + 1)) w'76 < M71 n72 w'73)) ∧
 ((↑n68 : Int) ≤ n72 →
 ∃ (n89 : Int),
 w'73.cell? (Addr.mk b1 0 none) = some (Value.int IntKind.i64 n89) ∧
 (n89 = 1 →
 ∃ (s91 : ByteArray),
 w'73.cell? (Addr.mk b1 1 none) = some (Value.string s91) ∧
 Calls Tryd.prog 45 #[Value.slice cols_p cols_n cols_c, Value.string s91] w'73 fun (e92 : Ending) (w93 : World) ↦
 ∃ (n94 : Int),
 e92 = Ending.returned (Value.int IntKind.i64 n94) ∧
 (n94 < 0 → R (Ending.returned (Value.tuple #[Value.int IntKind.i64 0, Value.int IntKind.i64 120])) w93) ∧
 (0 ≤ n94 →
 ∃ (b97 : Nat),
 ∃ (o98 : Nat),
 cols_p = some (Addr.mk b97 o98 none) ∧
 0 ≤ n94 ∧
 n94 < (↑cols_n : Int) ∧
 ∃ (n99 : Int),
 w93.cell? (Addr.mk b97 (o98 + n94.toNat * 3 + 1) none) = some (Value.int IntKind.i64 n99) ∧
 R (Ending.returned (Value.tuple #[Value.int IntKind.i64 n99, Value.int IntKind.i64 0])) w93)) ∧
 (n89 ≠ 1 →
 (n89 = 2 →
 ∃ (n102 : Int),
 w'73.cell? (Addr.mk b1 2 none) = some (Value.int IntKind.i64 n102) ∧ R (Ending.returned (Value.tuple #[Value.int IntKind.i64 n102, Value.int IntKind.i64 0])) w'73) ∧
 (n89 ≠ 2 →
 (n89 = 9 →
 (n89 = 9 →
 (0 : Int) ≤ 0 ∧
 (0 : Int) < 2 ∧
 ∃ (n106 : Int),
 w'73.cell? (Addr.mk b16 0 none) = some (Value.int IntKind.i64 n106) ∧
 (0 : Int) ≤ 1 ∧
 (1 : Int) < 2 ∧
 ∃ (n107 : Int),
 w'73.cell? (Addr.mk b16 1 none) = some (Value.int IntKind.i64 n107) ∧
 Calls Tryd.prog 44 #[Value.int IntKind.i64 n106, Value.int IntKind.i64 n107] w'73 fun (e108 : Ending) (w109 : World) ↦
 ∃ (b110 : Bool),
 e108 = Ending.returned (Value.bool b110) ∧
 (b110 = false → R (Ending.returned (Value.tuple #[Value.int IntKind.i64 0, Value.int IntKind.i64 121])) w109) ∧
 (b110 = true →
 ∃ (n113 : Int),
 w109.cell? (Addr.mk b8 2 none) = some (Value.int IntKind.i64 n113) ∧ R (Ending.returned (Value.tuple #[Value.int IntKind.i64 n113, Value.int IntKind.i64 0])) w109)) ∧
 (n89 ≠ 9 →
 ∃ (n115 : Int),
 w'73.cell? (Addr.mk b8 2 none) = some (Value.int IntKind.i64 n115) ∧ R (Ending.returned (Value.tuple #[Value.int IntKind.i64 n115, Value.int IntKind.i64 0])) w'73)) ∧
 (n89 ≠ 9 →
 (n89 = 10 →
 (n89 = 10 →
 (0 : Int) ≤ 0 ∧
 (0 : Int) < 2 ∧
 ∃ (n119 : Int),
 w'73.cell? (Addr.mk b16 0 none) = some (Value.int IntKind.i64 n119) ∧
 (0 : Int) ≤ 1 ∧
 (1 : Int) < 2 ∧
 ∃ (n120 : Int),
 w'73.cell? (Addr.mk b16 1 none) = some (Value.int IntKind.i64 n120) ∧
 Calls Tryd.prog 44 #[Value.int IntKind.i64 n119, Value.int IntKind.i64 n120] w'73 fun (e121 : Ending) (w122 : World) ↦
 ∃ (b123 : Bool),
 e121 = Ending.returned (Value.bool b123) ∧
 (b123 = false → R (Ending.returned (Value.tuple #[Value.int IntKind.i64 0, Value.int IntKind.i64 121])) w122) ∧
 (b123 = true →
 ∃ (n126 : Int),
 w122.cell? (Addr.mk b8 2 none) = some (Value.int IntKind.i64 n126) ∧ R (Ending.returned (Value.tuple #[Value.int IntKind.i64 n126, Value.int IntKind.i64 0])) w122)) ∧
 (n89 ≠ 10 →
 ∃ (n128 : Int),
 w'73.cell? (Addr.mk b8 2 none) = some (Value.int IntKind.i64 n128) ∧ R (Ending.returned (Value.tuple #[Value.int IntKind.i64 n128, Value.int IntKind.i64 0])) w'73)) ∧
 (n89 ≠ 10 →
 (n89 = 11 →
 (0 : Int) ≤ 0 ∧
 (0 : Int) < 2 ∧
 ∃ (n131 : Int),
 w'73.cell? (Addr.mk b16 0 none) = some (Value.int IntKind.i64 n131) ∧
 (0 : Int) ≤ 1 ∧
 (1 : Int) < 2 ∧
 ∃ (n132 : Int),
 w'73.cell? (Addr.mk b16 1 none) = some (Value.int IntKind.i64 n132) ∧
 Calls Tryd.prog 44 #[Value.int IntKind.i64 n131, Value.int IntKind.i64 n132] w'73 fun (e133 : Ending) (w134 : World) ↦
 ∃ (b135 : Bool),
 e133 = Ending.returned (Value.bool b135) ∧
 (b135 = false → R (Ending.returned (Value.tuple #[Value.int IntKind.i64 0, Value.int IntKind.i64 121])) w134) ∧
 (b135 = true →
 ∃ (n138 : Int),
 w134.cell? (Addr.mk b8 2 none) = some (Value.int IntKind.i64 n138) ∧ R (Ending.returned (Value.tuple #[Value.int IntKind.i64 n138, Value.int IntKind.i64 0])) w134)) ∧
 (n89 ≠ 11 →
 ∃ (n140 : Int),
 w'73.cell? (Addr.mk b8 2 none) = some (Value.int IntKind.i64 n140) ∧ R (Ending.returned (Value.tuple #[Value.int IntKind.i64 n140, Value.int IntKind.i64 0])) w'73)))))))

set_option maxRecDepth 100000 in
theorem xkind_eq (cols_p : Option Addr) (cols_n : Nat) (cols_c : Nat) (x0 : Int) (x1 : ByteArray) (x2 : Int) (x3 : Int) (x4 : ByteArray) (x5_p : Option Addr) (x5_n : Nat) (x5_c : Nat) (w : World) (R : Ending → World → Prop) : xkind_T cols_p cols_n cols_c x0 x1 x2 x3 x4 x5_p x5_n x5_c w R = vcFn Tryd.prog [] [(14, [2, 4, 6, 8, 10, 12, 14, 16, 18, 20, 22, 24, 0])] Tryd.f28 [Value.slice cols_p cols_n cols_c, Value.agg
 #[Value.int IntKind.i64 x0, Value.string x1, Value.int IntKind.i64 x2, Value.int IntKind.i64 x3, Value.string x4,
 Value.slice x5_p x5_n x5_c]] w R := by kernel_rfl

set_option maxRecDepth 100000 in
theorem xkind_vc (cols_p : Option Addr) (cols_n : Nat) (cols_c : Nat) (x0 : Int) (x1 : ByteArray) (x2 : Int) (x3 : Int) (x4 : ByteArray) (x5_p : Option Addr) (x5_n : Nat) (x5_c : Nat) (w : World) (R : Ending → World → Prop) (h : xkind_T cols_p cols_n cols_c x0 x1 x2 x3 x4 x5_p x5_n x5_c w R) : Calls Tryd.prog 28 #[Value.slice cols_p cols_n cols_c, Value.agg
 #[Value.int IntKind.i64 x0, Value.string x1, Value.int IntKind.i64 x2, Value.int IntKind.i64 x3, Value.string x4,
 Value.slice x5_p x5_n x5_c]] w R :=
  calls_of_vc (args := [Value.slice cols_p cols_n cols_c, Value.agg
 #[Value.int IntKind.i64 x0, Value.string x1, Value.int IntKind.i64 x2, Value.int IntKind.i64 x3, Value.string x4,
 Value.slice x5_p x5_n x5_c]]) [] [(14, [2, 4, 6, 8, 10, 12, 14, 16, 18, 20, 22, 24, 0])] Tryd.mixed Tryd.func28 (cast (xkind_eq _ _ _ _ _ _ _ _ _ _ _ w R) h)

set_option maxRecDepth 100000 in
def xtype_T (cols_p : Option Addr) (cols_n : Nat) (cols_c : Nat) (x0 : Int) (x1 : ByteArray) (x2 : Int) (x3 : Int) (x4 : ByteArray) (x5_p : Option Addr) (x5_n : Nat) (x5_c : Nat) (w : World) (R : Ending → World → Prop) : Prop :=
  ∀ (b1 : Nat) (w'2 : World),
 New w (Obj.cells #[Value.int IntKind.i64 x0, Value.string x1, Value.int IntKind.i64 x2, Value.int IntKind.i64 x3, Value.string x4, Value.slice x5_p x5_n x5_c] 29) b1
 w'2 →
 Calls Tryd.prog 26 #[Value.slice cols_p cols_n cols_c] w'2 fun (e4 : Ending) (w5 : World) ↦
 ∃ (b6 : Bool),
 e4 = Ending.returned (Value.bool b6) ∧
 (b6 = false → R (Ending.returned (Value.tuple #[Value.int IntKind.i64 0, Value.int IntKind.i64 50])) w5) ∧
 (b6 = true →
 ∃ (n9 : Int),
 w5.cell? (Addr.mk b1 0 none) = some (Value.int IntKind.i64 n9) ∧
 ∃ (s10 : ByteArray),
 w5.cell? (Addr.mk b1 1 none) = some (Value.string s10) ∧
 ∃ (n11 : Int),
 w5.cell? (Addr.mk b1 2 none) = some (Value.int IntKind.i64 n11) ∧
 ∃ (n12 : Int),
 w5.cell? (Addr.mk b1 3 none) = some (Value.int IntKind.i64 n12) ∧
 ∃ (s13 : ByteArray),
 w5.cell? (Addr.mk b1 4 none) = some (Value.string s13) ∧
 ∃ (p14 : Option Addr),
 ∃ (n15 : Nat),
 ∃ (c16 : Nat),
 w5.cell? (Addr.mk b1 5 none) = some (Value.slice p14 n15 c16) ∧
 Calls Tryd.prog 27
 #[Value.agg #[Value.int IntKind.i64 n9, Value.string s10, Value.int IntKind.i64 n11, Value.int IntKind.i64 n12, Value.string s13, Value.slice p14 n15 c16]] w5
 fun (e17 : Ending) (w18 : World) ↦
 ∃ (b19 : Bool),
 e17 = Ending.returned (Value.bool b19) ∧
 (b19 = false → R (Ending.returned (Value.tuple #[Value.int IntKind.i64 0, Value.int IntKind.i64 122])) w18) ∧
 (b19 = true →
 ∃ (n22 : Int),
 w18.cell? (Addr.mk b1 0 none) = some (Value.int IntKind.i64 n22) ∧
 ∃ (s23 : ByteArray),
 w18.cell? (Addr.mk b1 1 none) = some (Value.string s23) ∧
 ∃ (n24 : Int),
 w18.cell? (Addr.mk b1 2 none) = some (Value.int IntKind.i64 n24) ∧
 ∃ (n25 : Int),
 w18.cell? (Addr.mk b1 3 none) = some (Value.int IntKind.i64 n25) ∧
 ∃ (s26 : ByteArray),
 w18.cell? (Addr.mk b1 4 none) = some (Value.string s26) ∧
 ∃ (p27 : Option Addr),
 ∃ (n28 : Nat),
 ∃ (c29 : Nat),
 w18.cell? (Addr.mk b1 5 none) = some (Value.slice p27 n28 c29) ∧
 Calls Tryd.prog 28
 #[Value.slice cols_p cols_n cols_c,
 Value.agg #[Value.int IntKind.i64 n22, Value.string s23, Value.int IntKind.i64 n24, Value.int IntKind.i64 n25, Value.string s26, Value.slice p27 n28 c29]]
 w18 fun (e30 : Ending) (w31 : World) ↦
 ∃ (n32 : Int),
 ∃ (n33 : Int),
 e30 = Ending.returned (Value.tuple #[Value.int IntKind.i64 n32, Value.int IntKind.i64 n33]) ∧
 R (Ending.returned (Value.tuple #[Value.int IntKind.i64 n32, Value.int IntKind.i64 n33])) w31))

set_option maxRecDepth 100000 in
theorem xtype_eq (cols_p : Option Addr) (cols_n : Nat) (cols_c : Nat) (x0 : Int) (x1 : ByteArray) (x2 : Int) (x3 : Int) (x4 : ByteArray) (x5_p : Option Addr) (x5_n : Nat) (x5_c : Nat) (w : World) (R : Ending → World → Prop) : xtype_T cols_p cols_n cols_c x0 x1 x2 x3 x4 x5_p x5_n x5_c w R = vcFn Tryd.prog [] [] Tryd.f12 [Value.slice cols_p cols_n cols_c, Value.agg
 #[Value.int IntKind.i64 x0, Value.string x1, Value.int IntKind.i64 x2, Value.int IntKind.i64 x3, Value.string x4,
 Value.slice x5_p x5_n x5_c]] w R := by kernel_rfl

set_option maxRecDepth 100000 in
theorem xtype_vc (cols_p : Option Addr) (cols_n : Nat) (cols_c : Nat) (x0 : Int) (x1 : ByteArray) (x2 : Int) (x3 : Int) (x4 : ByteArray) (x5_p : Option Addr) (x5_n : Nat) (x5_c : Nat) (w : World) (R : Ending → World → Prop) (h : xtype_T cols_p cols_n cols_c x0 x1 x2 x3 x4 x5_p x5_n x5_c w R) : Calls Tryd.prog 12 #[Value.slice cols_p cols_n cols_c, Value.agg
 #[Value.int IntKind.i64 x0, Value.string x1, Value.int IntKind.i64 x2, Value.int IntKind.i64 x3, Value.string x4,
 Value.slice x5_p x5_n x5_c]] w R :=
  calls_of_vc (args := [Value.slice cols_p cols_n cols_c, Value.agg
 #[Value.int IntKind.i64 x0, Value.string x1, Value.int IntKind.i64 x2, Value.int IntKind.i64 x3, Value.string x4,
 Value.slice x5_p x5_n x5_c]]) [] [] Tryd.mixed Tryd.func12 (cast (xtype_eq _ _ _ _ _ _ _ _ _ _ _ w R) h)

set_option maxRecDepth 100000 in
def xtruth_T (b : Bool) (w : World) (R : Ending → World → Prop) : Prop :=
  ∀ (b1 : Nat) (w'2 : World),
 New w (Obj.cells #[Value.int IntKind.i64 0, Value.int IntKind.i64 0, Value.string (ByteArray.mk #[])] 26) b1 w'2 →
 (b = true →
 (∃ (u5 : Value), w'2.cell? (Addr.mk b1 0 none) = some u5) ∧
 w'2.frozen? (Addr.mk b1 0 none) = false ∧
 (∃ (u6 : Value), w'2.cell? (Addr.mk b1 1 none) = some u6) ∧
 w'2.frozen? (Addr.mk b1 1 none) = false ∧
 (∃ (u7 : Value), w'2.cell? (Addr.mk b1 2 none) = some u7) ∧
 w'2.frozen? (Addr.mk b1 2 none) = false ∧
 ∀ (w'8 : World),
 Put w'2 b1 0 [Value.int IntKind.i64 2, Value.int IntKind.i64 1, Value.string (ByteArray.mk #[])] w'8 →
 ∃ (n10 : Int),
 w'8.cell? (Addr.mk b1 0 none) = some (Value.int IntKind.i64 n10) ∧
 ∃ (n11 : Int),
 w'8.cell? (Addr.mk b1 1 none) = some (Value.int IntKind.i64 n11) ∧
 ∃ (s12 : ByteArray),
 w'8.cell? (Addr.mk b1 2 none) = some (Value.string s12) ∧ R (Ending.returned (Value.agg #[Value.int IntKind.i64 n10, Value.int IntKind.i64 n11, Value.string s12])) w'8) ∧
 (b = false →
 (∃ (u14 : Value), w'2.cell? (Addr.mk b1 0 none) = some u14) ∧
 w'2.frozen? (Addr.mk b1 0 none) = false ∧
 (∃ (u15 : Value), w'2.cell? (Addr.mk b1 1 none) = some u15) ∧
 w'2.frozen? (Addr.mk b1 1 none) = false ∧
 (∃ (u16 : Value), w'2.cell? (Addr.mk b1 2 none) = some u16) ∧
 w'2.frozen? (Addr.mk b1 2 none) = false ∧
 ∀ (w'17 : World),
 Put w'2 b1 0 [Value.int IntKind.i64 2, Value.int IntKind.i64 0, Value.string (ByteArray.mk #[])] w'17 →
 ∃ (n19 : Int),
 w'17.cell? (Addr.mk b1 0 none) = some (Value.int IntKind.i64 n19) ∧
 ∃ (n20 : Int),
 w'17.cell? (Addr.mk b1 1 none) = some (Value.int IntKind.i64 n20) ∧
 ∃ (s21 : ByteArray),
 w'17.cell? (Addr.mk b1 2 none) = some (Value.string s21) ∧ R (Ending.returned (Value.agg #[Value.int IntKind.i64 n19, Value.int IntKind.i64 n20, Value.string s21])) w'17)

set_option maxRecDepth 100000 in
theorem xtruth_eq (b : Bool) (w : World) (R : Ending → World → Prop) : xtruth_T b w R = vcFn Tryd.prog [] [] Tryd.f76 [Value.bool b] w R := by kernel_rfl

set_option maxRecDepth 100000 in
theorem xtruth_vc (b : Bool) (w : World) (R : Ending → World → Prop) (h : xtruth_T b w R) : Calls Tryd.prog 76 #[Value.bool b] w R :=
  calls_of_vc (args := [Value.bool b]) [] [] Tryd.mixed Tryd.func76 (cast (xtruth_eq _ w R) h)

set_option maxRecDepth 100000 in
def times_T (a : Int) (b : Int) (w : World) (R : Ending → World → Prop) : Prop :=
  Calls Tryd.prog 115 #[Value.int IntKind.i64 a] w fun (e1 : Ending) (w2 : World) ↦
 ∃ (n3 : Int),
 e1 = Ending.returned (Value.int IntKind.u64 n3) ∧
 Calls Tryd.prog 115 #[Value.int IntKind.i64 b] w2 fun (e4 : Ending) (w5 : World) ↦
 ∃ (n6 : Int),
 e4 = Ending.returned (Value.int IntKind.u64 n6) ∧
 Calls Tryd.prog 116 #[Value.int IntKind.u64 n3, Value.int IntKind.u64 n6] w5 fun (e7 : Ending) (w8 : World) ↦
 ∃ (n9 : Int),
 ∃ (n10 : Int),
 e7 = Ending.returned (Value.tuple #[Value.int IntKind.u64 n9, Value.int IntKind.u64 n10]) ∧
 (n9 ≠ 0 → R (Ending.returned (Value.tuple #[Value.int IntKind.i64 0, Value.bool false])) w8) ∧
 (n9 = 0 →
 (decide (a < 0) ≠ decide (b < 0) →
 R (Ending.returned (Value.tuple #[Value.int IntKind.i64 (IntKind.i64.wrap (0 - IntKind.i64.wrap n10)), Value.bool (decide (n10 ≤ 9223372036854775808))])) w8) ∧
 (decide (a < 0) = decide (b < 0) → R (Ending.returned (Value.tuple #[Value.int IntKind.i64 (IntKind.i64.wrap n10), Value.bool (decide (n10 < 9223372036854775808))])) w8))

set_option maxRecDepth 100000 in
theorem times_eq (a : Int) (b : Int) (w : World) (R : Ending → World → Prop) : times_T a b w R = vcFn Tryd.prog [] [] Tryd.f104 [Value.int IntKind.i64 a, Value.int IntKind.i64 b] w R := by kernel_rfl

set_option maxRecDepth 100000 in
theorem times_vc (a : Int) (b : Int) (w : World) (R : Ending → World → Prop) (h : times_T a b w R) : Calls Tryd.prog 104 #[Value.int IntKind.i64 a, Value.int IntKind.i64 b] w R :=
  calls_of_vc (args := [Value.int IntKind.i64 a, Value.int IntKind.i64 b]) [] [] Tryd.mixed Tryd.func104 (cast (times_eq _ _ w R) h)

set_option maxRecDepth 100000 in
def times1_T (n : Int) (w : World) (R : Ending → World → Prop) : Prop :=
  (n < 0 → R (Ending.returned (Value.int IntKind.u64 (IntKind.u64.wrap (0 - IntKind.u64.wrap n)))) w) ∧
 (0 ≤ n → R (Ending.returned (Value.int IntKind.u64 (IntKind.u64.wrap n))) w)

set_option maxRecDepth 100000 in
theorem times1_eq (n : Int) (w : World) (R : Ending → World → Prop) : times1_T n w R = vcFn Tryd.prog [] [] Tryd.f115 [Value.int IntKind.i64 n] w R := by kernel_rfl

set_option maxRecDepth 100000 in
theorem times1_vc (n : Int) (w : World) (R : Ending → World → Prop) (h : times1_T n w R) : Calls Tryd.prog 115 #[Value.int IntKind.i64 n] w R :=
  calls_of_vc (args := [Value.int IntKind.i64 n]) [] [] Tryd.mixed Tryd.func115 (cast (times1_eq _ w R) h)

set_option maxRecDepth 100000 in
def mul64_T (x : Int) (y : Int) (w : World) (R : Ending → World → Prop) : Prop :=
  R
 (Ending.returned
 (Value.tuple
 #[Value.int IntKind.u64
 (IntKind.u64.wrap
 (IntKind.u64.wrap
 (IntKind.u64.wrap (shrI IntKind.u64 x 32 * shrI IntKind.u64 y 32) +
 shrI IntKind.u64
 (IntKind.u64.wrap
 (IntKind.u64.wrap (shrI IntKind.u64 x 32 * bits BinOp.and IntKind.u64 y 4294967295) +
 shrI IntKind.u64 (IntKind.u64.wrap (bits BinOp.and IntKind.u64 x 4294967295 * bits BinOp.and IntKind.u64 y 4294967295)) 32))
 32) +
 shrI IntKind.u64
 (IntKind.u64.wrap
 (bits BinOp.and IntKind.u64
 (IntKind.u64.wrap
 (IntKind.u64.wrap (shrI IntKind.u64 x 32 * bits BinOp.and IntKind.u64 y 4294967295) +
 shrI IntKind.u64 (IntKind.u64.wrap (bits BinOp.and IntKind.u64 x 4294967295 * bits BinOp.and IntKind.u64 y 4294967295)) 32))
 4294967295 +
 IntKind.u64.wrap (bits BinOp.and IntKind.u64 x 4294967295 * shrI IntKind.u64 y 32)))
 32)),
 Value.int IntKind.u64 (IntKind.u64.wrap (x * y))]))
 w

set_option maxRecDepth 100000 in
theorem mul64_eq (x : Int) (y : Int) (w : World) (R : Ending → World → Prop) : mul64_T x y w R = vcFn Tryd.prog [] [] Tryd.f116 [Value.int IntKind.u64 x, Value.int IntKind.u64 y] w R := by kernel_rfl

set_option maxRecDepth 100000 in
theorem mul64_vc (x : Int) (y : Int) (w : World) (R : Ending → World → Prop) (h : mul64_T x y w R) : Calls Tryd.prog 116 #[Value.int IntKind.u64 x, Value.int IntKind.u64 y] w R :=
  calls_of_vc (args := [Value.int IntKind.u64 x, Value.int IntKind.u64 y]) [] [] Tryd.mixed Tryd.func116 (cast (mul64_eq _ _ w R) h)

set_option maxRecDepth 100000 in
def xarith_T (op : Int) (a : Int) (b : Int) (w : World) (R : Ending → World → Prop) : Prop :=
  ((op = 6 ∨ op = 7) ∧ b = 0 → R (Ending.returned (Value.tuple #[Value.int IntKind.i64 0, Value.int IntKind.i64 101])) w) ∧
 (op ≠ 6 ∧ op ≠ 7 ∨ b ≠ 0 →
 (op = 3 →
 (bits BinOp.and IntKind.i64 (bits BinOp.xor IntKind.i64 a (IntKind.i64.wrap (a + b))) (bits BinOp.xor IntKind.i64 b (IntKind.i64.wrap (a + b))) < 0 →
 R (Ending.returned (Value.tuple #[Value.int IntKind.i64 0, Value.int IntKind.i64 100])) w) ∧
 (0 ≤ bits BinOp.and IntKind.i64 (bits BinOp.xor IntKind.i64 a (IntKind.i64.wrap (a + b))) (bits BinOp.xor IntKind.i64 b (IntKind.i64.wrap (a + b))) →
 R (Ending.returned (Value.tuple #[Value.int IntKind.i64 (IntKind.i64.wrap (a + b)), Value.int IntKind.i64 0])) w)) ∧
 (op ≠ 3 →
 (op = 4 →
 (bits BinOp.and IntKind.i64 (bits BinOp.xor IntKind.i64 a b) (bits BinOp.xor IntKind.i64 a (IntKind.i64.wrap (a - b))) < 0 →
 R (Ending.returned (Value.tuple #[Value.int IntKind.i64 0, Value.int IntKind.i64 100])) w) ∧
 (0 ≤ bits BinOp.and IntKind.i64 (bits BinOp.xor IntKind.i64 a b) (bits BinOp.xor IntKind.i64 a (IntKind.i64.wrap (a - b))) →
 R (Ending.returned (Value.tuple #[Value.int IntKind.i64 (IntKind.i64.wrap (a - b)), Value.int IntKind.i64 0])) w)) ∧
 (op ≠ 4 →
 (op = 5 →
 Calls Tryd.prog 104 #[Value.int IntKind.i64 a, Value.int IntKind.i64 b] w fun (e12 : Ending) (w13 : World) ↦
 ∃ (n14 : Int),
 ∃ (b15 : Bool),
 e12 = Ending.returned (Value.tuple #[Value.int IntKind.i64 n14, Value.bool b15]) ∧
 (b15 = false → R (Ending.returned (Value.tuple #[Value.int IntKind.i64 0, Value.int IntKind.i64 100])) w13) ∧
 (b15 = true → R (Ending.returned (Value.tuple #[Value.int IntKind.i64 n14, Value.int IntKind.i64 0])) w13)) ∧
 (op ≠ 5 →
 (op = 6 →
 b ≠ 0 ∧
 (a = -9223372036854775808 ∧ b = -1 → R (Ending.returned (Value.tuple #[Value.int IntKind.i64 0, Value.int IntKind.i64 100])) w) ∧
 (a ≠ -9223372036854775808 ∨ b ≠ -1 → R (Ending.returned (Value.tuple #[Value.int IntKind.i64 (quoI IntKind.i64 a b), Value.int IntKind.i64 0])) w)) ∧
 (op ≠ 6 →
 (op = 7 → b ≠ 0 ∧ R (Ending.returned (Value.tuple #[Value.int IntKind.i64 (remI a b), Value.int IntKind.i64 0])) w) ∧
 (op ≠ 7 → R (Ending.returned (Value.tuple #[Value.int IntKind.i64 0, Value.int IntKind.i64 0])) w))))))

set_option maxRecDepth 100000 in
theorem xarith_eq (op : Int) (a : Int) (b : Int) (w : World) (R : Ending → World → Prop) : xarith_T op a b w R = vcFn Tryd.prog [] [] Tryd.f80 [Value.int IntKind.i64 op, Value.int IntKind.i64 a, Value.int IntKind.i64 b] w R := by kernel_rfl

set_option maxRecDepth 100000 in
theorem xarith_vc (op : Int) (a : Int) (b : Int) (w : World) (R : Ending → World → Prop) (h : xarith_T op a b w R) : Calls Tryd.prog 80 #[Value.int IntKind.i64 op, Value.int IntKind.i64 a, Value.int IntKind.i64 b] w R :=
  calls_of_vc (args := [Value.int IntKind.i64 op, Value.int IntKind.i64 a, Value.int IntKind.i64 b]) [] [] Tryd.mixed Tryd.func80 (cast (xarith_eq _ _ _ w R) h)

set_option maxRecDepth 100000 in
def third_T (v0 : Int) (v1 : Int) (v2 : ByteArray) (w : World) (R : Ending → World → Prop) : Prop :=
  ∀ (b1 : Nat) (w'2 : World),
 New w (Obj.cells #[Value.int IntKind.i64 v0, Value.int IntKind.i64 v1, Value.string v2] 26) b1 w'2 →
 ∃ (n4 : Int),
 w'2.cell? (Addr.mk b1 0 none) = some (Value.int IntKind.i64 n4) ∧
 (n4 = 0 → R (Ending.returned (Value.int IntKind.i64 2)) w'2) ∧
 (n4 ≠ 0 → ∃ (n7 : Int), w'2.cell? (Addr.mk b1 1 none) = some (Value.int IntKind.i64 n7) ∧ R (Ending.returned (Value.int IntKind.i64 n7)) w'2)

set_option maxRecDepth 100000 in
theorem third_eq (v0 : Int) (v1 : Int) (v2 : ByteArray) (w : World) (R : Ending → World → Prop) : third_T v0 v1 v2 w R = vcFn Tryd.prog [] [] Tryd.f78 [Value.agg #[Value.int IntKind.i64 v0, Value.int IntKind.i64 v1, Value.string v2]] w R := by kernel_rfl

set_option maxRecDepth 100000 in
theorem third_vc (v0 : Int) (v1 : Int) (v2 : ByteArray) (w : World) (R : Ending → World → Prop) (h : third_T v0 v1 v2 w R) : Calls Tryd.prog 78 #[Value.agg #[Value.int IntKind.i64 v0, Value.int IntKind.i64 v1, Value.string v2]] w R :=
  calls_of_vc (args := [Value.agg #[Value.int IntKind.i64 v0, Value.int IntKind.i64 v1, Value.string v2]]) [] [] Tryd.mixed Tryd.func78 (cast (third_eq _ _ _ w R) h)

set_option maxRecDepth 100000 in
def answer_T (n : Int) (w : World) (R : Ending → World → Prop) : Prop :=
  ∀ (b1 : Nat) (w'2 : World),
 New w (Obj.cells #[Value.int IntKind.i64 0, Value.int IntKind.i64 0, Value.string (ByteArray.mk #[])] 26) b1 w'2 →
 (n = 2 →
 (∃ (u5 : Value), w'2.cell? (Addr.mk b1 0 none) = some u5) ∧
 w'2.frozen? (Addr.mk b1 0 none) = false ∧
 (∃ (u6 : Value), w'2.cell? (Addr.mk b1 1 none) = some u6) ∧
 w'2.frozen? (Addr.mk b1 1 none) = false ∧
 (∃ (u7 : Value), w'2.cell? (Addr.mk b1 2 none) = some u7) ∧
 w'2.frozen? (Addr.mk b1 2 none) = false ∧
 ∀ (w'8 : World),
 Put w'2 b1 0 [Value.int IntKind.i64 0, Value.int IntKind.i64 0, Value.string (ByteArray.mk #[])] w'8 →
 ∃ (n10 : Int),
 w'8.cell? (Addr.mk b1 0 none) = some (Value.int IntKind.i64 n10) ∧
 ∃ (n11 : Int),
 w'8.cell? (Addr.mk b1 1 none) = some (Value.int IntKind.i64 n11) ∧
 ∃ (s12 : ByteArray),
 w'8.cell? (Addr.mk b1 2 none) = some (Value.string s12) ∧ R (Ending.returned (Value.agg #[Value.int IntKind.i64 n10, Value.int IntKind.i64 n11, Value.string s12])) w'8) ∧
 (n ≠ 2 →
 Calls Tryd.prog 76 #[Value.bool (decide (n = 1))] w'2 fun (e14 : Ending) (w15 : World) ↦
 ∃ (n16 : Int),
 ∃ (n17 : Int),
 ∃ (s18 : ByteArray),
 e14 = Ending.returned (Value.agg #[Value.int IntKind.i64 n16, Value.int IntKind.i64 n17, Value.string s18]) ∧
 (∃ (u19 : Value), w15.cell? (Addr.mk b1 0 none) = some u19) ∧
 w15.frozen? (Addr.mk b1 0 none) = false ∧
 (∃ (u20 : Value), w15.cell? (Addr.mk b1 1 none) = some u20) ∧
 w15.frozen? (Addr.mk b1 1 none) = false ∧
 (∃ (u21 : Value), w15.cell? (Addr.mk b1 2 none) = some u21) ∧
 w15.frozen? (Addr.mk b1 2 none) = false ∧
 ∀ (w'22 : World),
 Put w15 b1 0 [Value.int IntKind.i64 n16, Value.int IntKind.i64 n17, Value.string s18] w'22 →
 ∃ (n24 : Int),
 w'22.cell? (Addr.mk b1 0 none) = some (Value.int IntKind.i64 n24) ∧
 ∃ (n25 : Int),
 w'22.cell? (Addr.mk b1 1 none) = some (Value.int IntKind.i64 n25) ∧
 ∃ (s26 : ByteArray),
 w'22.cell? (Addr.mk b1 2 none) = some (Value.string s26) ∧ R (Ending.returned (Value.agg #[Value.int IntKind.i64 n24, Value.int IntKind.i64 n25, Value.string s26])) w'22)

set_option maxRecDepth 100000 in
theorem answer_eq (n : Int) (w : World) (R : Ending → World → Prop) : answer_T n w R = vcFn Tryd.prog [] [] Tryd.f77 [Value.int IntKind.i64 n] w R := by kernel_rfl

set_option maxRecDepth 100000 in
theorem answer_vc (n : Int) (w : World) (R : Ending → World → Prop) (h : answer_T n w R) : Calls Tryd.prog 77 #[Value.int IntKind.i64 n] w R :=
  calls_of_vc (args := [Value.int IntKind.i64 n]) [] [] Tryd.mixed Tryd.func77 (cast (answer_eq _ w R) h)

set_option maxRecDepth 100000 in
def xpair_T (op : Int) (a0 : Int) (a1 : Int) (a2 : ByteArray) (b0 : Int) (b1 : Int) (b2 : ByteArray) (w : World) (R : Ending → World → Prop) : Prop :=
  ∀ (b1_1 : Nat) (w'2 : World),
 New w (Obj.cells #[Value.int IntKind.i64 a0, Value.int IntKind.i64 a1, Value.string a2] 26) b1_1 w'2 →
 ∀ (b4 : Nat) (w'5 : World),
 New w'2 (Obj.cells #[Value.int IntKind.i64 b0, Value.int IntKind.i64 b1, Value.string b2] 26) b4 w'5 →
 ∀ (b7 : Nat) (w'8 : World),
 New w'5 (Obj.cells #[Value.int IntKind.i64 0, Value.int IntKind.i64 0, Value.string (ByteArray.mk #[])] 26) b7 w'8 →
 (op = 12 →
 ∀ (w'11 : World),
 Drew w'8 w'11 →
 ∃ (n13 : Int),
 w'11.cell? (Addr.mk b1_1 0 none) = some (Value.int IntKind.i64 n13) ∧
 ∃ (n14 : Int),
 w'11.cell? (Addr.mk b1_1 1 none) = some (Value.int IntKind.i64 n14) ∧
 ∃ (s15 : ByteArray),
 w'11.cell? (Addr.mk b1_1 2 none) = some (Value.string s15) ∧
 ∃ (n16 : Int),
 w'11.cell? (Addr.mk b4 0 none) = some (Value.int IntKind.i64 n16) ∧
 ∃ (n17 : Int),
 w'11.cell? (Addr.mk b4 1 none) = some (Value.int IntKind.i64 n17) ∧
 ∃ (s18 : ByteArray),
 w'11.cell? (Addr.mk b4 2 none) = some (Value.string s18) ∧
 Calls Tryd.prog 78 #[Value.agg #[Value.int IntKind.i64 n13, Value.int IntKind.i64 n14, Value.string s15]] w'11 fun (e19 : Ending) (w20 : World) ↦
 ∃ (n21 : Int),
 e19 = Ending.returned (Value.int IntKind.i64 n21) ∧
 Same w'11 w20 ∧
 0 ≤ n21 ∧
 n21 < 3 ∧
 Calls Tryd.prog 78 #[Value.agg #[Value.int IntKind.i64 n16, Value.int IntKind.i64 n17, Value.string s18]] w20 fun (e22 : Ending) (w23 : World) ↦
 ∃ (n24 : Int),
 e22 = Ending.returned (Value.int IntKind.i64 n24) ∧
 0 ≤ n24 ∧
 n24 < 3 ∧
 ∃ (n25 : Int),
 w23.cell? (Addr.mk 1 (0 + n21.toNat * 3 + n24.toNat) none) = some (Value.int IntKind.i64 n25) ∧
 Calls Tryd.prog 77 #[Value.int IntKind.i64 n25] w23 fun (e26 : Ending) (w27 : World) ↦
 ∃ (n28 : Int),
 ∃ (n29 : Int),
 ∃ (s30 : ByteArray),
 e26 = Ending.returned (Value.agg #[Value.int IntKind.i64 n28, Value.int IntKind.i64 n29, Value.string s30]) ∧
 (∃ (u31 : Value), w27.cell? (Addr.mk b7 0 none) = some u31) ∧
 w27.frozen? (Addr.mk b7 0 none) = false ∧
 (∃ (u32 : Value), w27.cell? (Addr.mk b7 1 none) = some u32) ∧
 w27.frozen? (Addr.mk b7 1 none) = false ∧
 (∃ (u33 : Value), w27.cell? (Addr.mk b7 2 none) = some u33) ∧
 w27.frozen? (Addr.mk b7 2 none) = false ∧
 ∀ (w'34 : World),
 Put w27 b7 0 [Value.int IntKind.i64 n28, Value.int IntKind.i64 n29, Value.string s30] w'34 →
 ∃ (n36 : Int),
 w'34.cell? (Addr.mk b7 0 none) = some (Value.int IntKind.i64 n36) ∧
 ∃ (n37 : Int),
 w'34.cell? (Addr.mk b7 1 none) = some (Value.int IntKind.i64 n37) ∧
 ∃ (s38 : ByteArray),
 w'34.cell? (Addr.mk b7 2 none) = some (Value.string s38) ∧
 R (Ending.returned (Value.tuple #[Value.agg #[Value.int IntKind.i64 n36, Value.int IntKind.i64 n37, Value.string s38], Value.int IntKind.i64 0])) w'34) ∧
 (op ≠ 12 →
 (op = 13 →
 ∀ (w'41 : World),
 Drew w'8 w'41 →
 ∃ (n43 : Int),
 w'41.cell? (Addr.mk b1_1 0 none) = some (Value.int IntKind.i64 n43) ∧
 ∃ (n44 : Int),
 w'41.cell? (Addr.mk b1_1 1 none) = some (Value.int IntKind.i64 n44) ∧
 ∃ (s45 : ByteArray),
 w'41.cell? (Addr.mk b1_1 2 none) = some (Value.string s45) ∧
 ∃ (n46 : Int),
 w'41.cell? (Addr.mk b4 0 none) = some (Value.int IntKind.i64 n46) ∧
 ∃ (n47 : Int),
 w'41.cell? (Addr.mk b4 1 none) = some (Value.int IntKind.i64 n47) ∧
 ∃ (s48 : ByteArray),
 w'41.cell? (Addr.mk b4 2 none) = some (Value.string s48) ∧
 Calls Tryd.prog 78 #[Value.agg #[Value.int IntKind.i64 n43, Value.int IntKind.i64 n44, Value.string s45]] w'41 fun (e49 : Ending) (w50 : World) ↦
 ∃ (n51 : Int),
 e49 = Ending.returned (Value.int IntKind.i64 n51) ∧
 Same w'41 w50 ∧
 0 ≤ n51 ∧
 n51 < 3 ∧
 Calls Tryd.prog 78 #[Value.agg #[Value.int IntKind.i64 n46, Value.int IntKind.i64 n47, Value.string s48]] w50 fun (e52 : Ending) (w53 : World) ↦
 ∃ (n54 : Int),
 e52 = Ending.returned (Value.int IntKind.i64 n54) ∧
 0 ≤ n54 ∧
 n54 < 3 ∧
 ∃ (n55 : Int),
 w53.cell? (Addr.mk 2 (0 + n51.toNat * 3 + n54.toNat) none) = some (Value.int IntKind.i64 n55) ∧
 Calls Tryd.prog 77 #[Value.int IntKind.i64 n55] w53 fun (e56 : Ending) (w57 : World) ↦
 ∃ (n58 : Int),
 ∃ (n59 : Int),
 ∃ (s60 : ByteArray),
 e56 = Ending.returned (Value.agg #[Value.int IntKind.i64 n58, Value.int IntKind.i64 n59, Value.string s60]) ∧
 (∃ (u61 : Value), w57.cell? (Addr.mk b7 0 none) = some u61) ∧
 w57.frozen? (Addr.mk b7 0 none) = false ∧
 (∃ (u62 : Value), w57.cell? (Addr.mk b7 1 none) = some u62) ∧
 w57.frozen? (Addr.mk b7 1 none) = false ∧
 (∃ (u63 : Value), w57.cell? (Addr.mk b7 2 none) = some u63) ∧
 w57.frozen? (Addr.mk b7 2 none) = false ∧
 ∀ (w'64 : World),
 Put w57 b7 0 [Value.int IntKind.i64 n58, Value.int IntKind.i64 n59, Value.string s60] w'64 →
 ∃ (n66 : Int),
 w'64.cell? (Addr.mk b7 0 none) = some (Value.int IntKind.i64 n66) ∧
 ∃ (n67 : Int),
 w'64.cell? (Addr.mk b7 1 none) = some (Value.int IntKind.i64 n67) ∧
 ∃ (s68 : ByteArray),
 w'64.cell? (Addr.mk b7 2 none) = some (Value.string s68) ∧
 R (Ending.returned (Value.tuple #[Value.agg #[Value.int IntKind.i64 n66, Value.int IntKind.i64 n67, Value.string s68], Value.int IntKind.i64 0])) w'64) ∧
 (op ≠ 13 →
 ∃ (n70 : Int),
 w'8.cell? (Addr.mk b1_1 0 none) = some (Value.int IntKind.i64 n70) ∧
 (n70 = 0 →
 (∃ (u72 : Value), w'8.cell? (Addr.mk b7 0 none) = some u72) ∧
 w'8.frozen? (Addr.mk b7 0 none) = false ∧
 (∃ (u73 : Value), w'8.cell? (Addr.mk b7 1 none) = some u73) ∧
 w'8.frozen? (Addr.mk b7 1 none) = false ∧
 (∃ (u74 : Value), w'8.cell? (Addr.mk b7 2 none) = some u74) ∧
 w'8.frozen? (Addr.mk b7 2 none) = false ∧
 ∀ (w'75 : World),
 Put w'8 b7 0 [Value.int IntKind.i64 0, Value.int IntKind.i64 0, Value.string (ByteArray.mk #[])] w'75 →
 ∃ (n77 : Int),
 w'75.cell? (Addr.mk b7 0 none) = some (Value.int IntKind.i64 n77) ∧
 ∃ (n78 : Int),
 w'75.cell? (Addr.mk b7 1 none) = some (Value.int IntKind.i64 n78) ∧
 ∃ (s79 : ByteArray),
 w'75.cell? (Addr.mk b7 2 none) = some (Value.string s79) ∧
 R (Ending.returned (Value.tuple #[Value.agg #[Value.int IntKind.i64 n77, Value.int IntKind.i64 n78, Value.string s79], Value.int IntKind.i64 0])) w'75) ∧
 (n70 ≠ 0 →
 ∃ (n81 : Int),
 w'8.cell? (Addr.mk b4 0 none) = some (Value.int IntKind.i64 n81) ∧
 (n81 = 0 →
 (∃ (u83 : Value), w'8.cell? (Addr.mk b7 0 none) = some u83) ∧
 w'8.frozen? (Addr.mk b7 0 none) = false ∧
 (∃ (u84 : Value), w'8.cell? (Addr.mk b7 1 none) = some u84) ∧
 w'8.frozen? (Addr.mk b7 1 none) = false ∧
 (∃ (u85 : Value), w'8.cell? (Addr.mk b7 2 none) = some u85) ∧
 w'8.frozen? (Addr.mk b7 2 none) = false ∧
 ∀ (w'86 : World),
 Put w'8 b7 0 [Value.int IntKind.i64 0, Value.int IntKind.i64 0, Value.string (ByteArray.mk #[])] w'86 →
 ∃ (n88 : Int),
 w'86.cell? (Addr.mk b7 0 none) = some (Value.int IntKind.i64 n88) ∧
 ∃ (n89 : Int),
 w'86.cell? (Addr.mk b7 1 none) = some (Value.int IntKind.i64 n89) ∧
 ∃ (s90 : ByteArray),
 w'86.cell? (Addr.mk b7 2 none) = some (Value.string s90) ∧
 R (Ending.returned (Value.tuple #[Value.agg #[Value.int IntKind.i64 n88, Value.int IntKind.i64 n89, Value.string s90], Value.int IntKind.i64 0])) w'86) ∧
 (n81 ≠ 0 →
 ∃ (n92 : Int),
 w'8.cell? (Addr.mk b1_1 0 none) = some (Value.int IntKind.i64 n92) ∧
 ∃ (n93 : Int),
 w'8.cell? (Addr.mk b1_1 1 none) = some (Value.int IntKind.i64 n93) ∧
 ∃ (s94 : ByteArray),
 w'8.cell? (Addr.mk b1_1 2 none) = some (Value.string s94) ∧
 ∃ (n95 : Int),
 w'8.cell? (Addr.mk b4 0 none) = some (Value.int IntKind.i64 n95) ∧
 ∃ (n96 : Int),
 w'8.cell? (Addr.mk b4 1 none) = some (Value.int IntKind.i64 n96) ∧
 ∃ (s97 : ByteArray),
 w'8.cell? (Addr.mk b4 2 none) = some (Value.string s97) ∧
 Calls Tryd.prog 79
 #[Value.agg #[Value.int IntKind.i64 n92, Value.int IntKind.i64 n93, Value.string s94],
 Value.agg #[Value.int IntKind.i64 n95, Value.int IntKind.i64 n96, Value.string s97]]
 w'8 fun (e98 : Ending) (w99 : World) ↦
 ∃ (n100 : Int),
 e98 = Ending.returned (Value.int IntKind.i64 n100) ∧
 (op = 9 →
 Calls Tryd.prog 76 #[Value.bool (decide (n100 = 0))] w99 fun (e102 : Ending) (w103 : World) ↦
 ∃ (n104 : Int),
 ∃ (n105 : Int),
 ∃ (s106 : ByteArray),
 e102 = Ending.returned (Value.agg #[Value.int IntKind.i64 n104, Value.int IntKind.i64 n105, Value.string s106]) ∧
 (∃ (u107 : Value), w103.cell? (Addr.mk b7 0 none) = some u107) ∧
 w103.frozen? (Addr.mk b7 0 none) = false ∧
 (∃ (u108 : Value), w103.cell? (Addr.mk b7 1 none) = some u108) ∧
 w103.frozen? (Addr.mk b7 1 none) = false ∧
 (∃ (u109 : Value), w103.cell? (Addr.mk b7 2 none) = some u109) ∧
 w103.frozen? (Addr.mk b7 2 none) = false ∧
 ∀ (w'110 : World),
 Put w103 b7 0 [Value.int IntKind.i64 n104, Value.int IntKind.i64 n105, Value.string s106] w'110 →
 ∃ (n112 : Int),
 w'110.cell? (Addr.mk b7 0 none) = some (Value.int IntKind.i64 n112) ∧
 ∃ (n113 : Int),
 w'110.cell? (Addr.mk b7 1 none) = some (Value.int IntKind.i64 n113) ∧
 ∃ (s114 : ByteArray),
 w'110.cell? (Addr.mk b7 2 none) = some (Value.string s114) ∧
 R (Ending.returned (Value.tuple #[Value.agg #[Value.int IntKind.i64 n112, Value.int IntKind.i64 n113, Value.string s114], Value.int IntKind.i64 0])) w'110) ∧
 (op ≠ 9 →
 (op = 10 →
 Calls Tryd.prog 76 #[Value.bool (decide (n100 < 0))] w99 fun (e117 : Ending) (w118 : World) ↦
 ∃ (n119 : Int),
 ∃ (n120 : Int),
 ∃ (s121 : ByteArray),
 e117 = Ending.returned (Value.agg #[Value.int IntKind.i64 n119, Value.int IntKind.i64 n120, Value.string s121]) ∧
 (∃ (u122 : Value), w118.cell? (Addr.mk b7 0 none) = some u122) ∧
 w118.frozen? (Addr.mk b7 0 none) = false ∧
 (∃ (u123 : Value), w118.cell? (Addr.mk b7 1 none) = some u123) ∧
 w118.frozen? (Addr.mk b7 1 none) = false ∧
 (∃ (u124 : Value), w118.cell? (Addr.mk b7 2 none) = some u124) ∧
 w118.frozen? (Addr.mk b7 2 none) = false ∧
 ∀ (w'125 : World),
 Put w118 b7 0 [Value.int IntKind.i64 n119, Value.int IntKind.i64 n120, Value.string s121] w'125 →
 ∃ (n127 : Int),
 w'125.cell? (Addr.mk b7 0 none) = some (Value.int IntKind.i64 n127) ∧
 ∃ (n128 : Int),
 w'125.cell? (Addr.mk b7 1 none) = some (Value.int IntKind.i64 n128) ∧
 ∃ (s129 : ByteArray),
 w'125.cell? (Addr.mk b7 2 none) = some (Value.string s129) ∧
 R (Ending.returned (Value.tuple #[Value.agg #[Value.int IntKind.i64 n127, Value.int IntKind.i64 n128, Value.string s129], Value.int IntKind.i64 0])) w'125) ∧
 (op ≠ 10 →
 (op = 11 →
 Calls Tryd.prog 76 #[Value.bool (decide (n100 ≤ 0))] w99 fun (e132 : Ending) (w133 : World) ↦
 ∃ (n134 : Int),
 ∃ (n135 : Int),
 ∃ (s136 : ByteArray),
 e132 = Ending.returned (Value.agg #[Value.int IntKind.i64 n134, Value.int IntKind.i64 n135, Value.string s136]) ∧
 (∃ (u137 : Value), w133.cell? (Addr.mk b7 0 none) = some u137) ∧
 w133.frozen? (Addr.mk b7 0 none) = false ∧
 (∃ (u138 : Value), w133.cell? (Addr.mk b7 1 none) = some u138) ∧
 w133.frozen? (Addr.mk b7 1 none) = false ∧
 (∃ (u139 : Value), w133.cell? (Addr.mk b7 2 none) = some u139) ∧
 w133.frozen? (Addr.mk b7 2 none) = false ∧
 ∀ (w'140 : World),
 Put w133 b7 0 [Value.int IntKind.i64 n134, Value.int IntKind.i64 n135, Value.string s136] w'140 →
 ∃ (n142 : Int),
 w'140.cell? (Addr.mk b7 0 none) = some (Value.int IntKind.i64 n142) ∧
 ∃ (n143 : Int),
 w'140.cell? (Addr.mk b7 1 none) = some (Value.int IntKind.i64 n143) ∧
 ∃ (s144 : ByteArray),
 w'140.cell? (Addr.mk b7 2 none) = some (Value.string s144) ∧
 R (Ending.returned (Value.tuple #[Value.agg #[Value.int IntKind.i64 n142, Value.int IntKind.i64 n143, Value.string s144], Value.int IntKind.i64 0])) w'140) ∧
 (op ≠ 11 →
 ∃ (n146 : Int),
 w99.cell? (Addr.mk b1_1 1 none) = some (Value.int IntKind.i64 n146) ∧
 ∃ (n147 : Int),
 w99.cell? (Addr.mk b4 1 none) = some (Value.int IntKind.i64 n147) ∧
 Calls Tryd.prog 80 #[Value.int IntKind.i64 op, Value.int IntKind.i64 n146, Value.int IntKind.i64 n147] w99 fun (e148 : Ending) (w149 : World) ↦
 ∃ (n150 : Int),
 ∃ (n151 : Int),
 e148 = Ending.returned (Value.tuple #[Value.int IntKind.i64 n150, Value.int IntKind.i64 n151]) ∧
 (n151 ≠ 0 →
 (∃ (u153 : Value), w149.cell? (Addr.mk b7 0 none) = some u153) ∧
 w149.frozen? (Addr.mk b7 0 none) = false ∧
 (∃ (u154 : Value), w149.cell? (Addr.mk b7 1 none) = some u154) ∧
 w149.frozen? (Addr.mk b7 1 none) = false ∧
 (∃ (u155 : Value), w149.cell? (Addr.mk b7 2 none) = some u155) ∧
 w149.frozen? (Addr.mk b7 2 none) = false ∧
 ∀ (w'156 : World),
 Put w149 b7 0 [Value.int IntKind.i64 0, Value.int IntKind.i64 0, Value.string (ByteArray.mk #[])] w'156 →
 ∃ (n158 : Int),
 w'156.cell? (Addr.mk b7 0 none) = some (Value.int IntKind.i64 n158) ∧
 ∃ (n159 : Int),
 w'156.cell? (Addr.mk b7 1 none) = some (Value.int IntKind.i64 n159) ∧
 ∃ (s160 : ByteArray),
 w'156.cell? (Addr.mk b7 2 none) = some (Value.string s160) ∧
 R (Ending.returned (Value.tuple #[Value.agg #[Value.int IntKind.i64 n158, Value.int IntKind.i64 n159, Value.string s160], Value.int IntKind.i64 n151])) w'156) ∧
 (n151 = 0 →
 (∃ (u162 : Value), w149.cell? (Addr.mk b7 0 none) = some u162) ∧
 w149.frozen? (Addr.mk b7 0 none) = false ∧
 (∃ (u163 : Value), w149.cell? (Addr.mk b7 1 none) = some u163) ∧
 w149.frozen? (Addr.mk b7 1 none) = false ∧
 (∃ (u164 : Value), w149.cell? (Addr.mk b7 2 none) = some u164) ∧
 w149.frozen? (Addr.mk b7 2 none) = false ∧
 ∀ (w'165 : World),
 Put w149 b7 0 [Value.int IntKind.i64 1, Value.int IntKind.i64 n150, Value.string (ByteArray.mk #[])] w'165 →
 ∃ (n167 : Int),
 w'165.cell? (Addr.mk b7 0 none) = some (Value.int IntKind.i64 n167) ∧
 ∃ (n168 : Int),
 w'165.cell? (Addr.mk b7 1 none) = some (Value.int IntKind.i64 n168) ∧
 ∃ (s169 : ByteArray),
 w'165.cell? (Addr.mk b7 2 none) = some (Value.string s169) ∧
 R (Ending.returned (Value.tuple #[Value.agg #[Value.int IntKind.i64 n167, Value.int IntKind.i64 n168, Value.string s169], Value.int IntKind.i64 0])) w'165))))))))

set_option maxRecDepth 100000 in
theorem xpair_eq (op : Int) (a0 : Int) (a1 : Int) (a2 : ByteArray) (b0 : Int) (b1 : Int) (b2 : ByteArray) (w : World) (R : Ending → World → Prop) : xpair_T op a0 a1 a2 b0 b1 b2 w R = vcFn Tryd.prog [] [(2, [2, 6, 5, 10, 8, 12, 14, 16, 18, 20, 0]), (4, [2, 6, 5, 10, 8, 12, 14, 16, 18, 20, 0])] Tryd.f52 [Value.int IntKind.i64 op, Value.agg #[Value.int IntKind.i64 a0, Value.int IntKind.i64 a1, Value.string a2], Value.agg #[Value.int IntKind.i64 b0, Value.int IntKind.i64 b1, Value.string b2]] w R := by kernel_rfl

set_option maxRecDepth 100000 in
theorem xpair_vc (op : Int) (a0 : Int) (a1 : Int) (a2 : ByteArray) (b0 : Int) (b1 : Int) (b2 : ByteArray) (w : World) (R : Ending → World → Prop) (h : xpair_T op a0 a1 a2 b0 b1 b2 w R) : Calls Tryd.prog 52 #[Value.int IntKind.i64 op, Value.agg #[Value.int IntKind.i64 a0, Value.int IntKind.i64 a1, Value.string a2], Value.agg #[Value.int IntKind.i64 b0, Value.int IntKind.i64 b1, Value.string b2]] w R :=
  calls_of_vc (args := [Value.int IntKind.i64 op, Value.agg #[Value.int IntKind.i64 a0, Value.int IntKind.i64 a1, Value.string a2], Value.agg #[Value.int IntKind.i64 b0, Value.int IntKind.i64 b1, Value.string b2]]) [] [(2, [2, 6, 5, 10, 8, 12, 14, 16, 18, 20, 0]), (4, [2, 6, 5, 10, 8, 12, 14, 16, 18, 20, 0])] Tryd.mixed Tryd.func52 (cast (xpair_eq _ _ _ _ _ _ _ w R) h)

set_option maxRecDepth 100000 in
def xsingle_T (op : Int) (v0 : Int) (v1 : Int) (v2 : ByteArray) (w : World) (R : Ending → World → Prop) : Prop :=
  ∀ (b1 : Nat) (w'2 : World),
 New w (Obj.cells #[Value.int IntKind.i64 v0, Value.int IntKind.i64 v1, Value.string v2] 26) b1 w'2 →
 ∀ (b4 : Nat) (w'5 : World),
 New w'2 (Obj.cells #[Value.int IntKind.i64 0, Value.int IntKind.i64 0, Value.string (ByteArray.mk #[])] 26) b4 w'5 →
 (op = 15 →
 ∃ (n8 : Int),
 w'5.cell? (Addr.mk b1 0 none) = some (Value.int IntKind.i64 n8) ∧
 Calls Tryd.prog 76 #[Value.bool (decide (n8 = 0))] w'5 fun (e9 : Ending) (w10 : World) ↦
 ∃ (n11 : Int),
 ∃ (n12 : Int),
 ∃ (s13 : ByteArray),
 e9 = Ending.returned (Value.agg #[Value.int IntKind.i64 n11, Value.int IntKind.i64 n12, Value.string s13]) ∧
 (∃ (u14 : Value), w10.cell? (Addr.mk b4 0 none) = some u14) ∧
 w10.frozen? (Addr.mk b4 0 none) = false ∧
 (∃ (u15 : Value), w10.cell? (Addr.mk b4 1 none) = some u15) ∧
 w10.frozen? (Addr.mk b4 1 none) = false ∧
 (∃ (u16 : Value), w10.cell? (Addr.mk b4 2 none) = some u16) ∧
 w10.frozen? (Addr.mk b4 2 none) = false ∧
 ∀ (w'17 : World),
 Put w10 b4 0 [Value.int IntKind.i64 n11, Value.int IntKind.i64 n12, Value.string s13] w'17 →
 ∃ (n19 : Int),
 w'17.cell? (Addr.mk b4 0 none) = some (Value.int IntKind.i64 n19) ∧
 ∃ (n20 : Int),
 w'17.cell? (Addr.mk b4 1 none) = some (Value.int IntKind.i64 n20) ∧
 ∃ (s21 : ByteArray),
 w'17.cell? (Addr.mk b4 2 none) = some (Value.string s21) ∧
 R (Ending.returned (Value.tuple #[Value.agg #[Value.int IntKind.i64 n19, Value.int IntKind.i64 n20, Value.string s21], Value.int IntKind.i64 0])) w'17) ∧
 (op ≠ 15 →
 ∃ (n23 : Int),
 w'5.cell? (Addr.mk b1 0 none) = some (Value.int IntKind.i64 n23) ∧
 (n23 = 0 →
 ∃ (n25 : Int),
 w'5.cell? (Addr.mk b1 0 none) = some (Value.int IntKind.i64 n25) ∧
 ∃ (n26 : Int),
 w'5.cell? (Addr.mk b1 1 none) = some (Value.int IntKind.i64 n26) ∧
 ∃ (s27 : ByteArray),
 w'5.cell? (Addr.mk b1 2 none) = some (Value.string s27) ∧
 (∃ (u28 : Value), w'5.cell? (Addr.mk b4 0 none) = some u28) ∧
 w'5.frozen? (Addr.mk b4 0 none) = false ∧
 (∃ (u29 : Value), w'5.cell? (Addr.mk b4 1 none) = some u29) ∧
 w'5.frozen? (Addr.mk b4 1 none) = false ∧
 (∃ (u30 : Value), w'5.cell? (Addr.mk b4 2 none) = some u30) ∧
 w'5.frozen? (Addr.mk b4 2 none) = false ∧
 ∀ (w'31 : World),
 Put w'5 b4 0 [Value.int IntKind.i64 n25, Value.int IntKind.i64 n26, Value.string s27] w'31 →
 ∃ (n33 : Int),
 w'31.cell? (Addr.mk b4 0 none) = some (Value.int IntKind.i64 n33) ∧
 ∃ (n34 : Int),
 w'31.cell? (Addr.mk b4 1 none) = some (Value.int IntKind.i64 n34) ∧
 ∃ (s35 : ByteArray),
 w'31.cell? (Addr.mk b4 2 none) = some (Value.string s35) ∧
 R (Ending.returned (Value.tuple #[Value.agg #[Value.int IntKind.i64 n33, Value.int IntKind.i64 n34, Value.string s35], Value.int IntKind.i64 0])) w'31) ∧
 (n23 ≠ 0 →
 (op = 14 →
 ∃ (n38 : Int),
 w'5.cell? (Addr.mk b1 1 none) = some (Value.int IntKind.i64 n38) ∧
 Calls Tryd.prog 76 #[Value.bool (decide (n38 = 0))] w'5 fun (e39 : Ending) (w40 : World) ↦
 ∃ (n41 : Int),
 ∃ (n42 : Int),
 ∃ (s43 : ByteArray),
 e39 = Ending.returned (Value.agg #[Value.int IntKind.i64 n41, Value.int IntKind.i64 n42, Value.string s43]) ∧
 (∃ (u44 : Value), w40.cell? (Addr.mk b4 0 none) = some u44) ∧
 w40.frozen? (Addr.mk b4 0 none) = false ∧
 (∃ (u45 : Value), w40.cell? (Addr.mk b4 1 none) = some u45) ∧
 w40.frozen? (Addr.mk b4 1 none) = false ∧
 (∃ (u46 : Value), w40.cell? (Addr.mk b4 2 none) = some u46) ∧
 w40.frozen? (Addr.mk b4 2 none) = false ∧
 ∀ (w'47 : World),
 Put w40 b4 0 [Value.int IntKind.i64 n41, Value.int IntKind.i64 n42, Value.string s43] w'47 →
 ∃ (n49 : Int),
 w'47.cell? (Addr.mk b4 0 none) = some (Value.int IntKind.i64 n49) ∧
 ∃ (n50 : Int),
 w'47.cell? (Addr.mk b4 1 none) = some (Value.int IntKind.i64 n50) ∧
 ∃ (s51 : ByteArray),
 w'47.cell? (Addr.mk b4 2 none) = some (Value.string s51) ∧
 R (Ending.returned (Value.tuple #[Value.agg #[Value.int IntKind.i64 n49, Value.int IntKind.i64 n50, Value.string s51], Value.int IntKind.i64 0])) w'47) ∧
 (op ≠ 14 →
 (op = 16 →
 ∃ (s54 : ByteArray),
 w'5.cell? (Addr.mk b1 2 none) = some (Value.string s54) ∧
 (∃ (u55 : Value), w'5.cell? (Addr.mk b4 0 none) = some u55) ∧
 w'5.frozen? (Addr.mk b4 0 none) = false ∧
 (∃ (u56 : Value), w'5.cell? (Addr.mk b4 1 none) = some u56) ∧
 w'5.frozen? (Addr.mk b4 1 none) = false ∧
 (∃ (u57 : Value), w'5.cell? (Addr.mk b4 2 none) = some u57) ∧
 w'5.frozen? (Addr.mk b4 2 none) = false ∧
 ∀ (w'58 : World),
 Put w'5 b4 0 [Value.int IntKind.i64 1, Value.int IntKind.i64 (↑s54.size : Int), Value.string (ByteArray.mk #[])] w'58 →
 ∃ (n60 : Int),
 w'58.cell? (Addr.mk b4 0 none) = some (Value.int IntKind.i64 n60) ∧
 ∃ (n61 : Int),
 w'58.cell? (Addr.mk b4 1 none) = some (Value.int IntKind.i64 n61) ∧
 ∃ (s62 : ByteArray),
 w'58.cell? (Addr.mk b4 2 none) = some (Value.string s62) ∧
 R (Ending.returned (Value.tuple #[Value.agg #[Value.int IntKind.i64 n60, Value.int IntKind.i64 n61, Value.string s62], Value.int IntKind.i64 0])) w'58) ∧
 (op ≠ 16 →
 ∃ (n64 : Int),
 w'5.cell? (Addr.mk b1 0 none) = some (Value.int IntKind.i64 n64) ∧
 ∃ (n65 : Int),
 w'5.cell? (Addr.mk b1 1 none) = some (Value.int IntKind.i64 n65) ∧
 ∃ (s66 : ByteArray),
 w'5.cell? (Addr.mk b1 2 none) = some (Value.string s66) ∧
 Calls Tryd.prog 52
 #[Value.int IntKind.i64 4, Value.agg #[Value.int IntKind.i64 1, Value.int IntKind.i64 0, Value.string (ByteArray.mk #[])],
 Value.agg #[Value.int IntKind.i64 n64, Value.int IntKind.i64 n65, Value.string s66]]
 w'5 fun (e67 : Ending) (w68 : World) ↦
 ∃ (n69 : Int),
 ∃ (n70 : Int),
 ∃ (s71 : ByteArray),
 ∃ (n72 : Int),
 e67 = Ending.returned (Value.tuple #[Value.agg #[Value.int IntKind.i64 n69, Value.int IntKind.i64 n70, Value.string s71], Value.int IntKind.i64 n72]) ∧
 (∃ (u73 : Value), w68.cell? (Addr.mk b4 0 none) = some u73) ∧
 w68.frozen? (Addr.mk b4 0 none) = false ∧
 (∃ (u74 : Value), w68.cell? (Addr.mk b4 1 none) = some u74) ∧
 w68.frozen? (Addr.mk b4 1 none) = false ∧
 (∃ (u75 : Value), w68.cell? (Addr.mk b4 2 none) = some u75) ∧
 w68.frozen? (Addr.mk b4 2 none) = false ∧
 ∀ (w'76 : World),
 Put w68 b4 0 [Value.int IntKind.i64 n69, Value.int IntKind.i64 n70, Value.string s71] w'76 →
 ∃ (n78 : Int),
 w'76.cell? (Addr.mk b4 0 none) = some (Value.int IntKind.i64 n78) ∧
 ∃ (n79 : Int),
 w'76.cell? (Addr.mk b4 1 none) = some (Value.int IntKind.i64 n79) ∧
 ∃ (s80 : ByteArray),
 w'76.cell? (Addr.mk b4 2 none) = some (Value.string s80) ∧
 R (Ending.returned (Value.tuple #[Value.agg #[Value.int IntKind.i64 n78, Value.int IntKind.i64 n79, Value.string s80], Value.int IntKind.i64 n72])) w'76))))

set_option maxRecDepth 100000 in
theorem xsingle_eq (op : Int) (v0 : Int) (v1 : Int) (v2 : ByteArray) (w : World) (R : Ending → World → Prop) : xsingle_T op v0 v1 v2 w R = vcFn Tryd.prog [] [] Tryd.f51 [Value.int IntKind.i64 op, Value.agg #[Value.int IntKind.i64 v0, Value.int IntKind.i64 v1, Value.string v2]] w R := by kernel_rfl

set_option maxRecDepth 100000 in
theorem xsingle_vc (op : Int) (v0 : Int) (v1 : Int) (v2 : ByteArray) (w : World) (R : Ending → World → Prop) (h : xsingle_T op v0 v1 v2 w R) : Calls Tryd.prog 51 #[Value.int IntKind.i64 op, Value.agg #[Value.int IntKind.i64 v0, Value.int IntKind.i64 v1, Value.string v2]] w R :=
  calls_of_vc (args := [Value.int IntKind.i64 op, Value.agg #[Value.int IntKind.i64 v0, Value.int IntKind.i64 v1, Value.string v2]]) [] [] Tryd.mixed Tryd.func51 (cast (xsingle_eq _ _ _ _ w R) h)

set_option maxRecDepth 100000 in
def xeval_T (cols_p : Option Addr) (cols_n : Nat) (cols_c : Nat) (row_p : Option Addr) (row_n : Nat) (row_c : Nat) (x0 : Int) (x1 : ByteArray) (x2 : Int) (x3 : Int) (x4 : ByteArray) (x5_p : Option Addr) (x5_n : Nat) (x5_c : Nat) (w : World) (R : Ending → World → Prop) : Prop :=
  ∀ (b1 : Nat) (w'2 : World),
 New w (Obj.cells #[Value.int IntKind.i64 x0, Value.string x1, Value.int IntKind.i64 x2, Value.int IntKind.i64 x3, Value.string x4, Value.slice x5_p x5_n x5_c] 29) b1
 w'2 →
 ∀ (b4 : Nat) (w'5 : World),
 New w'2 (Obj.cells #[Value.int IntKind.i64 0, Value.int IntKind.i64 0, Value.string (ByteArray.mk #[])] 26) b4 w'5 →
 ∀ (b7 : Nat) (w'8 : World),
 New w'5
 (Obj.cells
 #[Value.int IntKind.i64 0, Value.int IntKind.i64 0, Value.string (ByteArray.mk #[]), Value.int IntKind.i64 0, Value.int IntKind.i64 0, Value.string (ByteArray.mk #[])]
 72)
 b7 w'8 →
 ∃ (p10 : Option Addr),
 ∃ (n11 : Nat),
 ∃ (c12 : Nat),
 w'8.cell? (Addr.mk b1 5 none) = some (Value.slice p10 n11 c12) ∧
 ∃ (I13 : Int → World → Prop),
 ∃ (M14 : Int → World → Nat),
 I13 0 w'8 ∧
 ∀ (n15 : Int) (w'16 : World),
 I13 n15 w'16 →
 (n15 < (↑n11 : Int) →
 ∃ (b19 : Nat),
 ∃ (o20 : Nat),
 p10 = some (Addr.mk b19 o20 none) ∧
 0 ≤ n15 ∧
 n15 < (↑n11 : Int) ∧
 ∃ (n21 : Int),
 w'16.cell? (Addr.mk b19 (o20 + n15.toNat * 6) none) = some (Value.int IntKind.i64 n21) ∧
 ∃ (s22 : ByteArray),
 w'16.cell? (Addr.mk b19 (o20 + n15.toNat * 6 + 1) none) = some (Value.string s22) ∧
 ∃ (n23 : Int),
 w'16.cell? (Addr.mk b19 (o20 + n15.toNat * 6 + 2) none) = some (Value.int IntKind.i64 n23) ∧
 ∃ (n24 : Int),
 w'16.cell? (Addr.mk b19 (o20 + n15.toNat * 6 + 3) none) = some (Value.int IntKind.i64 n24) ∧
 ∃ (s25 : ByteArray),
 w'16.cell? (Addr.mk b19 (o20 + n15.toNat * 6 + 4) none) = some (Value.string s25) ∧
 ∃ (p26 : Option Addr),
 ∃ (n27 : Nat),
 ∃ (c28 : Nat),
 w'16.cell? (Addr.mk b19 (o20 + n15.toNat * 6 + 5) none) = some (Value.slice p26 n27 c28) ∧
 ∀ (b29 : Nat) (w'30 : World),
 New w'16
 (Obj.cells
 #[Value.int IntKind.i64 0, Value.string (ByteArray.mk #[]), Value.int IntKind.i64 0, Value.int IntKind.i64 0, Value.string (ByteArray.mk #[]), Value.slice none 0 0] 29)
 b29 w'30 →
 (∃ (u32 : Value), w'30.cell? (Addr.mk b29 0 none) = some u32) ∧
 w'30.frozen? (Addr.mk b29 0 none) = false ∧
 (∃ (u33 : Value), w'30.cell? (Addr.mk b29 1 none) = some u33) ∧
 w'30.frozen? (Addr.mk b29 1 none) = false ∧
 (∃ (u34 : Value), w'30.cell? (Addr.mk b29 2 none) = some u34) ∧
 w'30.frozen? (Addr.mk b29 2 none) = false ∧
 (∃ (u35 : Value), w'30.cell? (Addr.mk b29 3 none) = some u35) ∧
 w'30.frozen? (Addr.mk b29 3 none) = false ∧
 (∃ (u36 : Value), w'30.cell? (Addr.mk b29 4 none) = some u36) ∧
 w'30.frozen? (Addr.mk b29 4 none) = false ∧
 (∃ (u37 : Value), w'30.cell? (Addr.mk b29 5 none) = some u37) ∧
 w'30.frozen? (Addr.mk b29 5 none) = false ∧
 ∀ (w'38 : World),
 Put w'30 b29 0 [Value.int IntKind.i64 n21, Value.string s22, Value.int IntKind.i64 n23, Value.int IntKind.i64 n24, Value.string s25, Value.slice p26 n27 c28] w'38 →
 ∃ (n40 : Int),
 w'38.cell? (Addr.mk b29 0 none) = some (Value.int IntKind.i64 n40) ∧
 ∃ (s41 : ByteArray),
 w'38.cell? (Addr.mk b29 1 none) = some (Value.string s41) ∧
 ∃ (n42 : Int),
 w'38.cell? (Addr.mk b29 2 none) = some (Value.int IntKind.i64 n42) ∧
 ∃ (n43 : Int),
 w'38.cell? (Addr.mk b29 3 none) = some (Value.int IntKind.i64 n43) ∧
 ∃ (s44 : ByteArray),
 w'38.cell? (Addr.mk b29 4 none) = some (Value.string s44) ∧
 ∃ (p45 : Option Addr),
 ∃ (n46 : Nat),
 ∃ (c47 : Nat),
 w'38.cell? (Addr.mk b29 5 none) = some (Value.slice p45 n46 c47) ∧
 Calls Tryd.prog 35
 #[Value.slice cols_p cols_n cols_c, Value.slice row_p row_n row_c,
 Value.agg #[Value.int IntKind.i64 n40, Value.string s41, Value.int IntKind.i64 n42, Value.int IntKind.i64 n43, Value.string s44, Value.slice p45 n46 c47]]
 w'38 fun (e48 : Ending) (w49 : World) ↦
 ∃ (n50 : Int),
 ∃ (n51 : Int),
 ∃ (s52 : ByteArray),
 ∃ (n53 : Int),
 e48 = Ending.returned (Value.tuple #[Value.agg #[Value.int IntKind.i64 n50, Value.int IntKind.i64 n51, Value.string s52], Value.int IntKind.i64 n53]) ∧
 ∀ (b54 : Nat) (w'55 : World),
 New w49 (Obj.cells #[Value.int IntKind.i64 0, Value.int IntKind.i64 0, Value.string (ByteArray.mk #[])] 26) b54 w'55 →
 (∃ (u57 : Value), w'55.cell? (Addr.mk b54 0 none) = some u57) ∧
 w'55.frozen? (Addr.mk b54 0 none) = false ∧
 (∃ (u58 : Value), w'55.cell? (Addr.mk b54 1 none) = some u58) ∧
 w'55.frozen? (Addr.mk b54 1 none) = false ∧
 (∃ (u59 : Value), w'55.cell? (Addr.mk b54 2 none) = some u59) ∧
 w'55.frozen? (Addr.mk b54 2 none) = false ∧
 ∀ (w'60 : World),
 Put w'55 b54 0 [Value.int IntKind.i64 n50, Value.int IntKind.i64 n51, Value.string s52] w'60 →
 (n53 ≠ 0 →
 (∃ (u63 : Value), w'60.cell? (Addr.mk b4 0 none) = some u63) ∧
 w'60.frozen? (Addr.mk b4 0 none) = false ∧
 (∃ (u64 : Value), w'60.cell? (Addr.mk b4 1 none) = some u64) ∧
 w'60.frozen? (Addr.mk b4 1 none) = false ∧
 (∃ (u65 : Value), w'60.cell? (Addr.mk b4 2 none) = some u65) ∧
 w'60.frozen? (Addr.mk b4 2 none) = false ∧
 ∀ (w'66 : World),
 Put w'60 b4 0 [Value.int IntKind.i64 0, Value.int IntKind.i64 0, Value.string (ByteArray.mk #[])] w'66 →
 ∃ (n68 : Int),
 w'66.cell? (Addr.mk b4 0 none) = some (Value.int IntKind.i64 n68) ∧
 ∃ (n69 : Int),
 w'66.cell? (Addr.mk b4 1 none) = some (Value.int IntKind.i64 n69) ∧
 ∃ (s70 : ByteArray),
 w'66.cell? (Addr.mk b4 2 none) = some (Value.string s70) ∧
 R (Ending.returned (Value.tuple #[Value.agg #[Value.int IntKind.i64 n68, Value.int IntKind.i64 n69, Value.string s70], Value.int IntKind.i64 n53])) w'66) ∧
 (n53 = 0 →
 ∃ (n72 : Int),
 w'60.cell? (Addr.mk b54 0 none) = some (Value.int IntKind.i64 n72) ∧
 ∃ (n73 : Int),
 w'60.cell? (Addr.mk b54 1 none) = some (Value.int IntKind.i64 n73) ∧
 ∃ (s74 : ByteArray),
 w'60.cell? (Addr.mk b54 2 none) = some (Value.string s74) ∧
 0 ≤ n15 ∧
 n15 < 2 ∧
 (∃ (u75 : Value), w'60.cell? (Addr.mk b7 (0 + n15.toNat * 3) none) = some u75) ∧
 w'60.frozen? (Addr.mk b7 (0 + n15.toNat * 3) none) = false ∧
 (∃ (u76 : Value), w'60.cell? (Addr.mk b7 (0 + n15.toNat * 3 + 1) none) = some u76) ∧
 w'60.frozen? (Addr.mk b7 (0 + n15.toNat * 3 + 1) none) = false ∧
 (∃ (u77 : Value), w'60.cell? (Addr.mk b7 (0 + n15.toNat * 3 + 2) none) = some u77) ∧
 w'60.frozen? (Addr.mk b7 (0 + n15.toNat * 3 + 2) none) = false ∧
 ∀ (w'78 : World),
 Put w'60 b7 (0 + n15.toNat * 3) [Value.int IntKind.i64 n72, Value.int IntKind.i64 n73, Value.string s74] w'78 →
 I13 (IntKind.i64.wrap (n15 + 1)) w'78 ∧ M14 (IntKind.i64.wrap (n15 + 1)) w'78 < M14 n15 w'16)) ∧
 ((↑n11 : Int) ≤ n15 →
 ∃ (n81 : Int),
 w'16.cell? (Addr.mk b1 0 none) = some (Value.int IntKind.i64 n81) ∧
 (n81 = 1 →
 ∃ (s83 : ByteArray),
 w'16.cell? (Addr.mk b1 1 none) = some (Value.string s83) ∧
 Calls Tryd.prog 45 #[Value.slice cols_p cols_n cols_c, Value.string s83] w'16 fun (e84 : Ending) (w85 : World) ↦
 ∃ (n86 : Int),
 e84 = Ending.returned (Value.int IntKind.i64 n86) ∧
 ∃ (b87 : Nat),
 ∃ (o88 : Nat),
 row_p = some (Addr.mk b87 o88 none) ∧
 0 ≤ n86 ∧
 n86 < (↑row_n : Int) ∧
 ∃ (n89 : Int),
 w85.cell? (Addr.mk b87 (o88 + n86.toNat * 3) none) = some (Value.int IntKind.i64 n89) ∧
 ∃ (n90 : Int),
 w85.cell? (Addr.mk b87 (o88 + n86.toNat * 3 + 1) none) = some (Value.int IntKind.i64 n90) ∧
 ∃ (s91 : ByteArray),
 w85.cell? (Addr.mk b87 (o88 + n86.toNat * 3 + 2) none) = some (Value.string s91) ∧
 (∃ (u92 : Value), w85.cell? (Addr.mk b4 0 none) = some u92) ∧
 w85.frozen? (Addr.mk b4 0 none) = false ∧
 (∃ (u93 : Value), w85.cell? (Addr.mk b4 1 none) = some u93) ∧
 w85.frozen? (Addr.mk b4 1 none) = false ∧
 (∃ (u94 : Value), w85.cell? (Addr.mk b4 2 none) = some u94) ∧
 w85.frozen? (Addr.mk b4 2 none) = false ∧
 ∀ (w'95 : World),
 Put w85 b4 0 [Value.int IntKind.i64 n89, Value.int IntKind.i64 n90, Value.string s91] w'95 →
 ∃ (n97 : Int),
 w'95.cell? (Addr.mk b4 0 none) = some (Value.int IntKind.i64 n97) ∧
 ∃ (n98 : Int),
 w'95.cell? (Addr.mk b4 1 none) = some (Value.int IntKind.i64 n98) ∧
 ∃ (s99 : ByteArray),
 w'95.cell? (Addr.mk b4 2 none) = some (Value.string s99) ∧
 R (Ending.returned (Value.tuple #[Value.agg #[Value.int IntKind.i64 n97, Value.int IntKind.i64 n98, Value.string s99], Value.int IntKind.i64 0])) w'95) ∧
 (n81 ≠ 1 →
 ∃ (n101 : Int),
 w'16.cell? (Addr.mk b1 0 none) = some (Value.int IntKind.i64 n101) ∧
 (n101 = 2 →
 ∃ (n103 : Int),
 w'16.cell? (Addr.mk b1 2 none) = some (Value.int IntKind.i64 n103) ∧
 ∃ (n104 : Int),
 w'16.cell? (Addr.mk b1 3 none) = some (Value.int IntKind.i64 n104) ∧
 ∃ (s105 : ByteArray),
 w'16.cell? (Addr.mk b1 4 none) = some (Value.string s105) ∧
 (∃ (u106 : Value), w'16.cell? (Addr.mk b4 0 none) = some u106) ∧
 w'16.frozen? (Addr.mk b4 0 none) = false ∧
 (∃ (u107 : Value), w'16.cell? (Addr.mk b4 1 none) = some u107) ∧
 w'16.frozen? (Addr.mk b4 1 none) = false ∧
 (∃ (u108 : Value), w'16.cell? (Addr.mk b4 2 none) = some u108) ∧
 w'16.frozen? (Addr.mk b4 2 none) = false ∧
 ∀ (w'109 : World),
 Put w'16 b4 0 [Value.int IntKind.i64 n103, Value.int IntKind.i64 n104, Value.string s105] w'109 →
 ∃ (n111 : Int),
 w'109.cell? (Addr.mk b4 0 none) = some (Value.int IntKind.i64 n111) ∧
 ∃ (n112 : Int),
 w'109.cell? (Addr.mk b4 1 none) = some (Value.int IntKind.i64 n112) ∧
 ∃ (s113 : ByteArray),
 w'109.cell? (Addr.mk b4 2 none) = some (Value.string s113) ∧
 R (Ending.returned (Value.tuple #[Value.agg #[Value.int IntKind.i64 n111, Value.int IntKind.i64 n112, Value.string s113], Value.int IntKind.i64 0])) w'109) ∧
 (n101 ≠ 2 →
 ∃ (p115 : Option Addr),
 ∃ (n116 : Nat),
 ∃ (c117 : Nat),
 w'16.cell? (Addr.mk b1 5 none) = some (Value.slice p115 n116 c117) ∧
 ((↑n116 : Int) = 1 →
 ∃ (n119 : Int),
 w'16.cell? (Addr.mk b1 0 none) = some (Value.int IntKind.i64 n119) ∧
 (0 : Int) ≤ 0 ∧
 (0 : Int) < 2 ∧
 ∃ (n120 : Int),
 w'16.cell? (Addr.mk b7 0 none) = some (Value.int IntKind.i64 n120) ∧
 ∃ (n121 : Int),
 w'16.cell? (Addr.mk b7 1 none) = some (Value.int IntKind.i64 n121) ∧
 ∃ (s122 : ByteArray),
 w'16.cell? (Addr.mk b7 2 none) = some (Value.string s122) ∧
 Calls Tryd.prog 51 #[Value.int IntKind.i64 n119, Value.agg #[Value.int IntKind.i64 n120, Value.int IntKind.i64 n121, Value.string s122]] w'16
 fun (e123 : Ending) (w124 : World) ↦
 ∃ (n125 : Int),
 ∃ (n126 : Int),
 ∃ (s127 : ByteArray),
 ∃ (n128 : Int),
 e123 = Ending.returned (Value.tuple #[Value.agg #[Value.int IntKind.i64 n125, Value.int IntKind.i64 n126, Value.string s127], Value.int IntKind.i64 n128]) ∧
 (∃ (u129 : Value), w124.cell? (Addr.mk b4 0 none) = some u129) ∧
 w124.frozen? (Addr.mk b4 0 none) = false ∧
 (∃ (u130 : Value), w124.cell? (Addr.mk b4 1 none) = some u130) ∧
 w124.frozen? (Addr.mk b4 1 none) = false ∧
 (∃ (u131 : Value), w124.cell? (Addr.mk b4 2 none) = some u131) ∧
 w124.frozen? (Addr.mk b4 2 none) = false ∧
 ∀ (w'132 : World),
 Put w124 b4 0 [Value.int IntKind.i64 n125, Value.int IntKind.i64 n126, Value.string s127] w'132 →
 ∃ (n134 : Int),
 w'132.cell? (Addr.mk b4 0 none) = some (Value.int IntKind.i64 n134) ∧
 ∃ (n135 : Int),
 w'132.cell? (Addr.mk b4 1 none) = some (Value.int IntKind.i64 n135) ∧
 ∃ (s136 : ByteArray),
 w'132.cell? (Addr.mk b4 2 none) = some (Value.string s136) ∧
 R (Ending.returned (Value.tuple #[Value.agg #[Value.int IntKind.i64 n134, Value.int IntKind.i64 n135, Value.string s136], Value.int IntKind.i64 n128])) w'132) ∧
 ((↑n116 : Int) ≠ 1 →
 ∃ (n138 : Int),
 w'16.cell? (Addr.mk b1 0 none) = some (Value.int IntKind.i64 n138) ∧
 (0 : Int) ≤ 0 ∧
 (0 : Int) < 2 ∧
 ∃ (n139 : Int),
 w'16.cell? (Addr.mk b7 0 none) = some (Value.int IntKind.i64 n139) ∧
 ∃ (n140 : Int),
 w'16.cell? (Addr.mk b7 1 none) = some (Value.int IntKind.i64 n140) ∧
 ∃ (s141 : ByteArray),
 w'16.cell? (Addr.mk b7 2 none) = some (Value.string s141) ∧
 (0 : Int) ≤ 1 ∧
 (1 : Int) < 2 ∧
 ∃ (n142 : Int),
 w'16.cell? (Addr.mk b7 3 none) = some (Value.int IntKind.i64 n142) ∧
 ∃ (n143 : Int),
 w'16.cell? (Addr.mk b7 4 none) = some (Value.int IntKind.i64 n143) ∧
 ∃ (s144 : ByteArray),
 w'16.cell? (Addr.mk b7 5 none) = some (Value.string s144) ∧
 Calls Tryd.prog 52
 #[Value.int IntKind.i64 n138, Value.agg #[Value.int IntKind.i64 n139, Value.int IntKind.i64 n140, Value.string s141],
 Value.agg #[Value.int IntKind.i64 n142, Value.int IntKind.i64 n143, Value.string s144]]
 w'16 fun (e145 : Ending) (w146 : World) ↦
 ∃ (n147 : Int),
 ∃ (n148 : Int),
 ∃ (s149 : ByteArray),
 ∃ (n150 : Int),
 e145 = Ending.returned (Value.tuple #[Value.agg #[Value.int IntKind.i64 n147, Value.int IntKind.i64 n148, Value.string s149], Value.int IntKind.i64 n150]) ∧
 (∃ (u151 : Value), w146.cell? (Addr.mk b4 0 none) = some u151) ∧
 w146.frozen? (Addr.mk b4 0 none) = false ∧
 (∃ (u152 : Value), w146.cell? (Addr.mk b4 1 none) = some u152) ∧
 w146.frozen? (Addr.mk b4 1 none) = false ∧
 (∃ (u153 : Value), w146.cell? (Addr.mk b4 2 none) = some u153) ∧
 w146.frozen? (Addr.mk b4 2 none) = false ∧
 ∀ (w'154 : World),
 Put w146 b4 0 [Value.int IntKind.i64 n147, Value.int IntKind.i64 n148, Value.string s149] w'154 →
 ∃ (n156 : Int),
 w'154.cell? (Addr.mk b4 0 none) = some (Value.int IntKind.i64 n156) ∧
 ∃ (n157 : Int),
 w'154.cell? (Addr.mk b4 1 none) = some (Value.int IntKind.i64 n157) ∧
 ∃ (s158 : ByteArray),
 w'154.cell? (Addr.mk b4 2 none) = some (Value.string s158) ∧
 R (Ending.returned (Value.tuple #[Value.agg #[Value.int IntKind.i64 n156, Value.int IntKind.i64 n157, Value.string s158], Value.int IntKind.i64 n150])) w'154))))

set_option maxRecDepth 100000 in
theorem xeval_eq (cols_p : Option Addr) (cols_n : Nat) (cols_c : Nat) (row_p : Option Addr) (row_n : Nat) (row_c : Nat) (x0 : Int) (x1 : ByteArray) (x2 : Int) (x3 : Int) (x4 : ByteArray) (x5_p : Option Addr) (x5_n : Nat) (x5_c : Nat) (w : World) (R : Ending → World → Prop) : xeval_T cols_p cols_n cols_c row_p row_n row_c x0 x1 x2 x3 x4 x5_p x5_n x5_c w R = vcFn Tryd.prog [] [] Tryd.f35 [Value.slice cols_p cols_n cols_c, Value.slice row_p row_n row_c, Value.agg
 #[Value.int IntKind.i64 x0, Value.string x1, Value.int IntKind.i64 x2, Value.int IntKind.i64 x3, Value.string x4,
 Value.slice x5_p x5_n x5_c]] w R := by kernel_rfl

set_option maxRecDepth 100000 in
theorem xeval_vc (cols_p : Option Addr) (cols_n : Nat) (cols_c : Nat) (row_p : Option Addr) (row_n : Nat) (row_c : Nat) (x0 : Int) (x1 : ByteArray) (x2 : Int) (x3 : Int) (x4 : ByteArray) (x5_p : Option Addr) (x5_n : Nat) (x5_c : Nat) (w : World) (R : Ending → World → Prop) (h : xeval_T cols_p cols_n cols_c row_p row_n row_c x0 x1 x2 x3 x4 x5_p x5_n x5_c w R) : Calls Tryd.prog 35 #[Value.slice cols_p cols_n cols_c, Value.slice row_p row_n row_c, Value.agg
 #[Value.int IntKind.i64 x0, Value.string x1, Value.int IntKind.i64 x2, Value.int IntKind.i64 x3, Value.string x4,
 Value.slice x5_p x5_n x5_c]] w R :=
  calls_of_vc (args := [Value.slice cols_p cols_n cols_c, Value.slice row_p row_n row_c, Value.agg
 #[Value.int IntKind.i64 x0, Value.string x1, Value.int IntKind.i64 x2, Value.int IntKind.i64 x3, Value.string x4,
 Value.slice x5_p x5_n x5_c]]) [] [] Tryd.mixed Tryd.func35 (cast (xeval_eq _ _ _ _ _ _ _ _ _ _ _ _ _ _ w R) h)

set_option maxRecDepth 100000 in
def xEval_T (cols_p : Option Addr) (cols_n : Nat) (cols_c : Nat) (row_p : Option Addr) (row_n : Nat) (row_c : Nat) (x0 : Int) (x1 : ByteArray) (x2 : Int) (x3 : Int) (x4 : ByteArray) (x5_p : Option Addr) (x5_n : Nat) (x5_c : Nat) (w : World) (R : Ending → World → Prop) : Prop :=
  ∀ (b1 : Nat) (w'2 : World),
 New w (Obj.cells #[Value.int IntKind.i64 x0, Value.string x1, Value.int IntKind.i64 x2, Value.int IntKind.i64 x3, Value.string x4, Value.slice x5_p x5_n x5_c] 29) b1
 w'2 →
 ∀ (b4 : Nat) (w'5 : World),
 New w'2 (Obj.cells #[Value.int IntKind.i64 0, Value.int IntKind.i64 0, Value.string (ByteArray.mk #[])] 26) b4 w'5 →
 ∃ (n7 : Int),
 w'5.cell? (Addr.mk b1 0 none) = some (Value.int IntKind.i64 n7) ∧
 ∃ (s8 : ByteArray),
 w'5.cell? (Addr.mk b1 1 none) = some (Value.string s8) ∧
 ∃ (n9 : Int),
 w'5.cell? (Addr.mk b1 2 none) = some (Value.int IntKind.i64 n9) ∧
 ∃ (n10 : Int),
 w'5.cell? (Addr.mk b1 3 none) = some (Value.int IntKind.i64 n10) ∧
 ∃ (s11 : ByteArray),
 w'5.cell? (Addr.mk b1 4 none) = some (Value.string s11) ∧
 ∃ (p12 : Option Addr),
 ∃ (n13 : Nat),
 ∃ (c14 : Nat),
 w'5.cell? (Addr.mk b1 5 none) = some (Value.slice p12 n13 c14) ∧
 Calls Tryd.prog 12
 #[Value.slice cols_p cols_n cols_c,
 Value.agg #[Value.int IntKind.i64 n7, Value.string s8, Value.int IntKind.i64 n9, Value.int IntKind.i64 n10, Value.string s11, Value.slice p12 n13 c14]]
 w'5 fun (e15 : Ending) (w16 : World) ↦
 ∃ (n17 : Int),
 ∃ (n18 : Int),
 e15 = Ending.returned (Value.tuple #[Value.int IntKind.i64 n17, Value.int IntKind.i64 n18]) ∧
 (n18 ≠ 0 →
 (∃ (u20 : Value), w16.cell? (Addr.mk b4 0 none) = some u20) ∧
 w16.frozen? (Addr.mk b4 0 none) = false ∧
 (∃ (u21 : Value), w16.cell? (Addr.mk b4 1 none) = some u21) ∧
 w16.frozen? (Addr.mk b4 1 none) = false ∧
 (∃ (u22 : Value), w16.cell? (Addr.mk b4 2 none) = some u22) ∧
 w16.frozen? (Addr.mk b4 2 none) = false ∧
 ∀ (w'23 : World),
 Put w16 b4 0 [Value.int IntKind.i64 0, Value.int IntKind.i64 0, Value.string (ByteArray.mk #[])] w'23 →
 ∃ (n25 : Int),
 w'23.cell? (Addr.mk b4 0 none) = some (Value.int IntKind.i64 n25) ∧
 ∃ (n26 : Int),
 w'23.cell? (Addr.mk b4 1 none) = some (Value.int IntKind.i64 n26) ∧
 ∃ (s27 : ByteArray),
 w'23.cell? (Addr.mk b4 2 none) = some (Value.string s27) ∧
 R (Ending.returned (Value.tuple #[Value.agg #[Value.int IntKind.i64 n25, Value.int IntKind.i64 n26, Value.string s27], Value.int IntKind.i64 n18])) w'23) ∧
 (n18 = 0 →
 Calls Tryd.prog 34 #[Value.slice cols_p cols_n cols_c, Value.slice row_p row_n row_c] w16 fun (e29 : Ending) (w30 : World) ↦
 ∃ (b31 : Bool),
 e29 = Ending.returned (Value.bool b31) ∧
 (b31 = false →
 (∃ (u33 : Value), w30.cell? (Addr.mk b4 0 none) = some u33) ∧
 w30.frozen? (Addr.mk b4 0 none) = false ∧
 (∃ (u34 : Value), w30.cell? (Addr.mk b4 1 none) = some u34) ∧
 w30.frozen? (Addr.mk b4 1 none) = false ∧
 (∃ (u35 : Value), w30.cell? (Addr.mk b4 2 none) = some u35) ∧
 w30.frozen? (Addr.mk b4 2 none) = false ∧
 ∀ (w'36 : World),
 Put w30 b4 0 [Value.int IntKind.i64 0, Value.int IntKind.i64 0, Value.string (ByteArray.mk #[])] w'36 →
 ∃ (n38 : Int),
 w'36.cell? (Addr.mk b4 0 none) = some (Value.int IntKind.i64 n38) ∧
 ∃ (n39 : Int),
 w'36.cell? (Addr.mk b4 1 none) = some (Value.int IntKind.i64 n39) ∧
 ∃ (s40 : ByteArray),
 w'36.cell? (Addr.mk b4 2 none) = some (Value.string s40) ∧
 R (Ending.returned (Value.tuple #[Value.agg #[Value.int IntKind.i64 n38, Value.int IntKind.i64 n39, Value.string s40], Value.int IntKind.i64 2])) w'36) ∧
 (b31 = true →
 ∃ (n42 : Int),
 w30.cell? (Addr.mk b1 0 none) = some (Value.int IntKind.i64 n42) ∧
 ∃ (s43 : ByteArray),
 w30.cell? (Addr.mk b1 1 none) = some (Value.string s43) ∧
 ∃ (n44 : Int),
 w30.cell? (Addr.mk b1 2 none) = some (Value.int IntKind.i64 n44) ∧
 ∃ (n45 : Int),
 w30.cell? (Addr.mk b1 3 none) = some (Value.int IntKind.i64 n45) ∧
 ∃ (s46 : ByteArray),
 w30.cell? (Addr.mk b1 4 none) = some (Value.string s46) ∧
 ∃ (p47 : Option Addr),
 ∃ (n48 : Nat),
 ∃ (c49 : Nat),
 w30.cell? (Addr.mk b1 5 none) = some (Value.slice p47 n48 c49) ∧
 Calls Tryd.prog 35
 #[Value.slice cols_p cols_n cols_c, Value.slice row_p row_n row_c,
 Value.agg #[Value.int IntKind.i64 n42, Value.string s43, Value.int IntKind.i64 n44, Value.int IntKind.i64 n45, Value.string s46, Value.slice p47 n48 c49]]
 w30 fun (e50 : Ending) (w51 : World) ↦
 ∃ (n52 : Int),
 ∃ (n53 : Int),
 ∃ (s54 : ByteArray),
 ∃ (n55 : Int),
 e50 = Ending.returned (Value.tuple #[Value.agg #[Value.int IntKind.i64 n52, Value.int IntKind.i64 n53, Value.string s54], Value.int IntKind.i64 n55]) ∧
 (∃ (u56 : Value), w51.cell? (Addr.mk b4 0 none) = some u56) ∧
 w51.frozen? (Addr.mk b4 0 none) = false ∧
 (∃ (u57 : Value), w51.cell? (Addr.mk b4 1 none) = some u57) ∧
 w51.frozen? (Addr.mk b4 1 none) = false ∧
 (∃ (u58 : Value), w51.cell? (Addr.mk b4 2 none) = some u58) ∧
 w51.frozen? (Addr.mk b4 2 none) = false ∧
 ∀ (w'59 : World),
 Put w51 b4 0 [Value.int IntKind.i64 n52, Value.int IntKind.i64 n53, Value.string s54] w'59 →
 ∃ (n61 : Int),
 w'59.cell? (Addr.mk b4 0 none) = some (Value.int IntKind.i64 n61) ∧
 ∃ (n62 : Int),
 w'59.cell? (Addr.mk b4 1 none) = some (Value.int IntKind.i64 n62) ∧
 ∃ (s63 : ByteArray),
 w'59.cell? (Addr.mk b4 2 none) = some (Value.string s63) ∧
 R (Ending.returned (Value.tuple #[Value.agg #[Value.int IntKind.i64 n61, Value.int IntKind.i64 n62, Value.string s63], Value.int IntKind.i64 n55])) w'59))

set_option maxRecDepth 100000 in
theorem xEval_eq (cols_p : Option Addr) (cols_n : Nat) (cols_c : Nat) (row_p : Option Addr) (row_n : Nat) (row_c : Nat) (x0 : Int) (x1 : ByteArray) (x2 : Int) (x3 : Int) (x4 : ByteArray) (x5_p : Option Addr) (x5_n : Nat) (x5_c : Nat) (w : World) (R : Ending → World → Prop) : xEval_T cols_p cols_n cols_c row_p row_n row_c x0 x1 x2 x3 x4 x5_p x5_n x5_c w R = vcFn Tryd.prog [] [] Tryd.f16 [Value.slice cols_p cols_n cols_c, Value.slice row_p row_n row_c, Value.agg
 #[Value.int IntKind.i64 x0, Value.string x1, Value.int IntKind.i64 x2, Value.int IntKind.i64 x3, Value.string x4,
 Value.slice x5_p x5_n x5_c]] w R := by kernel_rfl

set_option maxRecDepth 100000 in
theorem xEval_vc (cols_p : Option Addr) (cols_n : Nat) (cols_c : Nat) (row_p : Option Addr) (row_n : Nat) (row_c : Nat) (x0 : Int) (x1 : ByteArray) (x2 : Int) (x3 : Int) (x4 : ByteArray) (x5_p : Option Addr) (x5_n : Nat) (x5_c : Nat) (w : World) (R : Ending → World → Prop) (h : xEval_T cols_p cols_n cols_c row_p row_n row_c x0 x1 x2 x3 x4 x5_p x5_n x5_c w R) : Calls Tryd.prog 16 #[Value.slice cols_p cols_n cols_c, Value.slice row_p row_n row_c, Value.agg
 #[Value.int IntKind.i64 x0, Value.string x1, Value.int IntKind.i64 x2, Value.int IntKind.i64 x3, Value.string x4,
 Value.slice x5_p x5_n x5_c]] w R :=
  calls_of_vc (args := [Value.slice cols_p cols_n cols_c, Value.slice row_p row_n row_c, Value.agg
 #[Value.int IntKind.i64 x0, Value.string x1, Value.int IntKind.i64 x2, Value.int IntKind.i64 x3, Value.string x4,
 Value.slice x5_p x5_n x5_c]]) [] [] Tryd.mixed Tryd.func16 (cast (xEval_eq _ _ _ _ _ _ _ _ _ _ _ _ _ _ w R) h)


end Go.Proofs.YtdephmdfdgclpaaDoor
