/- The verification conditions of the functions, evaluated: printed by program. -/
import Derived.Test.YtdclhgcgpcddlaaBase
namespace Go.Proofs.Ytdclhgcgpcddlaa
open Go Go.Vc

set_option maxRecDepth 100000 in
def shown6_T (w : World) (R : Ending → World → Prop) : Prop :=
  ∀ (b1 : Nat) (w'2 : World),
 New w (Obj.cells #[Value.int IntKind.i64 5, Value.int IntKind.i64 6, Value.int IntKind.i64 7] 2) b1 w'2 →
 Calls Try.prog 48 #[Value.int IntKind.i64 2, Value.slice (some (Addr.mk b1 0 none)) 3 3] w'2 fun (e4 : Ending) (w5 : World) ↦
 ∃ (p6 : Option Addr),
 ∃ (n7 : Nat),
 ∃ (c8 : Nat),
 ∃ (n9 : Int),
 e4 = Ending.returned (Value.tuple #[Value.slice p6 n7 c8, Value.int IntKind.i64 n9]) ∧
 ∀ (b10 : Nat) (w'11 : World),
 New w5 (Obj.cells #[Value.int IntKind.i64 7, Value.int IntKind.i64 7, Value.int IntKind.i64 7] 2) b10 w'11 →
 Calls Try.prog 50 #[Value.slice (some (Addr.mk b10 0 none)) 3 3] w'11 fun (e13 : Ending) (w14 : World) ↦
 ∃ (n15 : Int),
 ∃ (n16 : Int),
 e13 = Ending.returned (Value.tuple #[Value.int IntKind.i64 n15, Value.int IntKind.i64 n16]) ∧
 (n9 = 0 →
 ∃ (l18 : List UInt8),
 BytesAt w14 p6 n7 l18 ∧ R (Ending.returned (Value.bool (sEq (ByteArray.mk (Array.mk l18)) (ByteArray.mk #[2, 10, 2, 10]) && decide (n16 = 0) && decide (n15 = 1)))) w14) ∧
 (n9 ≠ 0 → R (Ending.returned (Value.bool false)) w14)

set_option maxRecDepth 100000 in
theorem shown6_eq (w : World) (R : Ending → World → Prop) : shown6_T w R = vcFn Try.prog [] [] Try.f47 [] w R := by kernel_rfl

set_option maxRecDepth 100000 in
theorem shown6_vc (w : World) (R : Ending → World → Prop) (h : shown6_T w R) : Calls Try.prog 47 #[] w R :=
  calls_of_vc (args := []) [] [] Try.mixed Try.func47 (cast (shown6_eq w R) h)

set_option maxRecDepth 100000 in
def encode_T (form : Int) (l_p : Option Addr) (l_n : Nat) (l_c : Nat) (w : World) (R : Ending → World → Prop) : Prop :=
  ((form < 0 ∨ 4 ≤ form) ∨ 4096 < (↑l_n : Int) → R (Ending.returned (Value.tuple #[Value.slice none 0 0, Value.int IntKind.i64 2])) w) ∧
 ((0 ≤ form ∧ form < 4) ∧ (↑l_n : Int) ≤ 4096 →
 ∀ (b3 : Nat) (w'4 : World),
 New w (Obj.cells #[Value.int IntKind.u8 (IntKind.u8.wrap form)] 5) b3 w'4 →
 ∀ (b6 : Nat) (w'7 : World),
 New w'4 (Obj.cells #[Value.slice none 0 0] 30) b6 w'7 →
 (∃ (u9 : Value), w'7.cell? (Addr.mk b6 0 none) = some u9) ∧
 w'7.frozen? (Addr.mk b6 0 none) = false ∧
 ∀ (w'10 : World),
 Put w'7 b6 0 [Value.slice (some (Addr.mk b3 0 none)) 1 1] w'10 →
 ((↑l_n : Int) = 0 →
 ∃ (p13 : Option Addr),
 ∃ (n14 : Nat),
 ∃ (c15 : Nat),
 w'10.cell? (Addr.mk b6 0 none) = some (Value.slice p13 n14 c15) ∧ R (Ending.returned (Value.tuple #[Value.slice p13 n14 c15, Value.int IntKind.i64 0])) w'10) ∧
 ((↑l_n : Int) ≠ 0 →
 (form = 0 →
 ∃ (I18 : Int → World → Prop),
 ∃ (M19 : Int → World → Nat),
 I18 0 w'10 ∧
 ∀ (n20 : Int) (w'21 : World),
 I18 n20 w'21 →
 (n20 < (↑l_n : Int) →
 ∃ (b24 : Nat),
 ∃ (o25 : Nat),
 l_p = some (Addr.mk b24 o25 none) ∧
 0 ≤ n20 ∧
 n20 < (↑l_n : Int) ∧
 ∃ (n26 : Int),
 w'21.cell? (Addr.mk b24 (o25 + n20.toNat) none) = some (Value.int IntKind.i64 n26) ∧
 ∃ (p27 : Option Addr),
 ∃ (n28 : Nat),
 ∃ (c29 : Nat),
 w'21.cell? (Addr.mk b6 0 none) = some (Value.slice p27 n28 c29) ∧
 Calls Try.prog 36 #[Value.slice p27 n28 c29, Value.int IntKind.i64 n26] w'21 fun (e30 : Ending) (w31 : World) ↦
 ∃ (p32 : Option Addr),
 ∃ (n33 : Nat),
 ∃ (c34 : Nat),
 e30 = Ending.returned (Value.slice p32 n33 c34) ∧
 (∃ (u35 : Value), w31.cell? (Addr.mk b6 0 none) = some u35) ∧
 w31.frozen? (Addr.mk b6 0 none) = false ∧
 ∀ (w'36 : World), Put w31 b6 0 [Value.slice p32 n33 c34] w'36 → I18 (IntKind.i64.wrap (n20 + 1)) w'36 ∧ M19 (IntKind.i64.wrap (n20 + 1)) w'36 < M19 n20 w'21) ∧
 ((↑l_n : Int) ≤ n20 →
 ∃ (p39 : Option Addr),
 ∃ (n40 : Nat),
 ∃ (c41 : Nat),
 w'21.cell? (Addr.mk b6 0 none) = some (Value.slice p39 n40 c41) ∧ R (Ending.returned (Value.tuple #[Value.slice p39 n40 c41, Value.int IntKind.i64 0])) w'21)) ∧
 (form ≠ 0 →
 (form = 1 →
 Calls Try.prog 62 #[Value.slice l_p l_n l_c] w'10 fun (e44 : Ending) (w45 : World) ↦
 ∃ (v46 : Value),
 e44 = Ending.returned v46 ∧
 ∃ (g47 : FuncId),
 ∃ (lb48 : Array Value),
 v46 = Value.func (Fn.func g47) #[] lb48 ∧
 enterable Try.prog g47 = true ∧
 ∀ (r49 : Nat → Loop) (d50 l51 : Nat) (w152 : World),
 Began w45 r49 d50 l51 w152 →
 (∀ (n54 n55 : Int) (W56 : World) (R57 : Bool → World → Prop),
 Rec r49 l51 0 W56 →
 (Rec r49 l51 0 W56 ∧
 ∀ (Wb59 : World),
 Wb59 = turn r49 l51 1 W56 →
 ∃ (p61 : Option Addr),
 ∃ (n62 : Nat),
 ∃ (c63 : Nat),
 Wb59.cell? (Addr.mk b6 0 none) = some (Value.slice p61 n62 c63) ∧
 Calls Try.prog 35 #[Value.slice p61 n62 c63, Value.int IntKind.u64 (IntKind.u64.wrap n54)] Wb59 fun (e64 : Ending) (w65 : World) ↦
 ∃ (p66 : Option Addr),
 ∃ (n67 : Nat),
 ∃ (c68 : Nat),
 e64 = Ending.returned (Value.slice p66 n67 c68) ∧
 Calls Try.prog 36 #[Value.slice p66 n67 c68, Value.int IntKind.i64 n55] w65 fun (e69 : Ending) (w70 : World) ↦
 ∃ (p71 : Option Addr),
 ∃ (n72 : Nat),
 ∃ (c73 : Nat),
 e69 = Ending.returned (Value.slice p71 n72 c73) ∧
 (∃ (u74 : Value), w70.cell? (Addr.mk b6 0 none) = some u74) ∧
 w70.frozen? (Addr.mk b6 0 none) = false ∧ ∀ (w'75 : World), Put w70 b6 0 [Value.slice p71 n72 c73] w'75 → Rec r49 l51 1 w'75 ∧ R57 true (turn r49 l51 0 w'75)) →
 Yield Try.prog l51 #[Value.int IntKind.i64 n54, Value.int IntKind.i64 n55] W56 fun (b78 : Bool) (w79 : World) ↦ R57 b78 w79) →
 Calls Try.prog g47 (Value.func (Fn.yield l51) #[] #[] :: lb48.1).toArray w152 fun (e81 : Ending) (w82 : World) ↦
 (∃ (v83 : Value), e81 = Ending.returned v83) ∧
 ((Rec r49 l51 0 w82 ∧
 ∃ (p84 : Option Addr),
 ∃ (n85 : Nat),
 ∃ (c86 : Nat),
 (turn r49 l51 2 w82).cell? (Addr.mk b6 0 none) = some (Value.slice p84 n85 c86) ∧
 (turn r49 l51 2 w82).heap[d50]? = some (Obj.deferred (some [])) ∧
 R (Ending.returned (Value.tuple #[Value.slice p84 n85 c86, Value.int IntKind.i64 0])) ((turn r49 l51 2 w82).putObj d50 (Obj.deferred none))) ∨
 False)) ∧
 (form ≠ 1 →
 (form = 2 →
 (0 : Int) ≤ 1 ∧
 1 ≤ (↑l_n : Int) ∧
 ∃ (I91 : Option Addr → Nat → Nat → Int → World → Prop),
 ∃ (M92 : Option Addr → Nat → Nat → Int → World → Nat),
 I91 none 0 0 0 w'10 ∧
 ∀ (p93 : Option Addr) (n94 c95 : Nat) (n96 : Int) (w'97 : World),
 I91 p93 n94 c95 n96 w'97 →
 (n96 < (↑(l_n - 1) : Int) →
 ∃ (b100 : Nat),
 ∃ (o101 : Nat),
 slBase l_p 1 l_c 1 = some (Addr.mk b100 o101 none) ∧
 0 ≤ n96 ∧
 n96 < (↑(l_n - 1) : Int) ∧
 ∃ (n102 : Int),
 w'97.cell? (Addr.mk b100 (o101 + n96.toNat) none) = some (Value.int IntKind.i64 n102) ∧
 ∃ (b103 : Nat),
 ∃ (o104 : Nat),
 l_p = some (Addr.mk b103 o104 none) ∧
 0 ≤ n96 ∧
 n96 < (↑l_n : Int) ∧
 ∃ (n105 : Int),
 w'97.cell? (Addr.mk b103 (o104 + n96.toNat) none) = some (Value.int IntKind.i64 n105) ∧
 Calls Try.prog 63 #[Value.int IntKind.i64 (IntKind.i64.wrap (n102 - n105))] w'97 fun (e106 : Ending) (w107 : World) ↦
 ∃ (n108 : Int),
 e106 = Ending.returned (Value.int IntKind.u64 n108) ∧
 ∀ (b109 : Nat) (w'110 : World),
 New w107 (Obj.cells #[Value.int IntKind.u64 n108] 48) b109 w'110 →
 ∃ (p112 : Option Addr),
 ∃ (n113 : Nat),
 ∃ (c114 : Nat),
 ∃ (w'115 : World),
 Sem.run Try.prog (Builtin.append_ #[22, 22] 22 #[Value.slice p93 n94 c95, Value.slice (some (Addr.mk b109 0 none)) 1 1]) w'110 =
 Result.ok (Value.slice p112 n113 c114) w'115 ∧
 I91 p112 n113 c114 (IntKind.i64.wrap (n96 + 1)) w'115 ∧ M92 p112 n113 c114 (IntKind.i64.wrap (n96 + 1)) w'115 < M92 p93 n94 c95 n96 w'97) ∧
 ((↑(l_n - 1) : Int) ≤ n96 →
 ∃ (b117 : Nat),
 ∃ (o118 : Nat),
 l_p = some (Addr.mk b117 o118 none) ∧
 (0 : Int) ≤ 0 ∧
 0 < (↑l_n : Int) ∧
 ∃ (n119 : Int),
 w'97.cell? (Addr.mk b117 (o118 + 0) none) = some (Value.int IntKind.i64 n119) ∧
 Calls Try.prog 64 #[Value.int IntKind.u8 (IntKind.u8.wrap form), Value.int IntKind.i64 n119, Value.slice p93 n94 c95] w'97 fun (e120 : Ending) (w121 : World) ↦
 ∃ (p122 : Option Addr),
 ∃ (n123 : Nat),
 ∃ (c124 : Nat),
 e120 = Ending.returned (Value.slice p122 n123 c124) ∧
 (∃ (u125 : Value), w121.cell? (Addr.mk b6 0 none) = some u125) ∧
 w121.frozen? (Addr.mk b6 0 none) = false ∧
 ∀ (w'126 : World),
 Put w121 b6 0 [Value.slice p122 n123 c124] w'126 →
 ∃ (p128 : Option Addr),
 ∃ (n129 : Nat),
 ∃ (c130 : Nat),
 w'126.cell? (Addr.mk b6 0 none) = some (Value.slice p128 n129 c130) ∧ R (Ending.returned (Value.tuple #[Value.slice p128 n129 c130, Value.int IntKind.i64 0])) w'126)) ∧
 (form ≠ 2 →
 (form = 3 →
 Calls Try.prog 65 #[Value.slice l_p l_n l_c] w'10 fun (e133 : Ending) (w134 : World) ↦
 ∃ (n135 : Int),
 e133 = Ending.returned (Value.int IntKind.i64 n135) ∧
 ∃ (I136 : Option Addr → Nat → Nat → Int → World → Prop),
 ∃ (M137 : Option Addr → Nat → Nat → Int → World → Nat),
 I136 none 0 0 0 w134 ∧
 ∀ (p138 : Option Addr) (n139 c140 : Nat) (n141 : Int) (w'142 : World),
 I136 p138 n139 c140 n141 w'142 →
 (n141 < (↑l_n : Int) →
 ∃ (b145 : Nat),
 ∃ (o146 : Nat),
 l_p = some (Addr.mk b145 o146 none) ∧
 0 ≤ n141 ∧
 n141 < (↑l_n : Int) ∧
 ∃ (n147 : Int),
 w'142.cell? (Addr.mk b145 (o146 + n141.toNat) none) = some (Value.int IntKind.i64 n147) ∧
 ∀ (b148 : Nat) (w'149 : World),
 New w'142 (Obj.cells #[Value.int IntKind.u64 (IntKind.u64.wrap (IntKind.i64.wrap (n147 - n135)))] 48) b148 w'149 →
 ∃ (p151 : Option Addr),
 ∃ (n152 : Nat),
 ∃ (c153 : Nat),
 ∃ (w'154 : World),
 Sem.run Try.prog (Builtin.append_ #[22, 22] 22 #[Value.slice p138 n139 c140, Value.slice (some (Addr.mk b148 0 none)) 1 1]) w'149 =
 Result.ok (Value.slice p151 n152 c153) w'154 ∧
 I136 p151 n152 c153 (IntKind.i64.wrap (n141 + 1)) w'154 ∧ M137 p151 n152 c153 (IntKind.i64.wrap (n141 + 1)) w'154 < M137 p138 n139 c140 n141 w'142) ∧
 ((↑l_n : Int) ≤ n141 →
 Calls Try.prog 64 #[Value.int IntKind.u8 (IntKind.u8.wrap form), Value.int IntKind.i64 n135, Value.slice p138 n139 c140] w'142 fun (e156 : Ending) (w157 : World) ↦
 ∃ (p158 : Option Addr),
 ∃ (n159 : Nat),
 ∃ (c160 : Nat),
 e156 = Ending.returned (Value.slice p158 n159 c160) ∧
 (∃ (u161 : Value), w157.cell? (Addr.mk b6 0 none) = some u161) ∧
 w157.frozen? (Addr.mk b6 0 none) = false ∧
 ∀ (w'162 : World),
 Put w157 b6 0 [Value.slice p158 n159 c160] w'162 →
 ∃ (p164 : Option Addr),
 ∃ (n165 : Nat),
 ∃ (c166 : Nat),
 w'162.cell? (Addr.mk b6 0 none) = some (Value.slice p164 n165 c166) ∧ R (Ending.returned (Value.tuple #[Value.slice p164 n165 c166, Value.int IntKind.i64 0])) w'162)) ∧
 (form ≠ 3 →
 ∃ (p168 : Option Addr),
 ∃ (n169 : Nat),
 ∃ (c170 : Nat),
 w'10.cell? (Addr.mk b6 0 none) = some (Value.slice p168 n169 c170) ∧ R (Ending.returned (Value.tuple #[Value.slice p168 n169 c170, Value.int IntKind.i64 0])) w'10))))))

set_option maxRecDepth 100000 in
theorem encode_eq (form : Int) (l_p : Option Addr) (l_n : Nat) (l_c : Nat) (w : World) (R : Ending → World → Prop) : encode_T form l_p l_n l_c w R = vcFn Try.prog [] [] Try.f48 [Value.int IntKind.i64 form, Value.slice l_p l_n l_c] w R := by kernel_rfl

set_option maxRecDepth 100000 in
theorem encode_vc (form : Int) (l_p : Option Addr) (l_n : Nat) (l_c : Nat) (w : World) (R : Ending → World → Prop) (h : encode_T form l_p l_n l_c w R) : Calls Try.prog 48 #[Value.int IntKind.i64 form, Value.slice l_p l_n l_c] w R :=
  calls_of_vc (args := [Value.int IntKind.i64 form, Value.slice l_p l_n l_c]) [] [] Try.mixed Try.func48 (cast (encode_eq _ _ _ _ w R) h)

set_option maxRecDepth 100000 in
def best_T (l_p : Option Addr) (l_n : Nat) (l_c : Nat) (w : World) (R : Ending → World → Prop) : Prop :=
  ∃ (I1 : Option Addr → Nat → Nat → Int → World → Prop),
 ∃ (M2 : Option Addr → Nat → Nat → Int → World → Nat),
 I1 none 0 0 0 w ∧
 ∀ (p3 : Option Addr) (n4 c5 : Nat) (n6 : Int) (w'7 : World),
 I1 p3 n4 c5 n6 w'7 →
 (n6 < 4 →
 Calls Try.prog 48 #[Value.int IntKind.i64 n6, Value.slice l_p l_n l_c] w'7 fun (e10 : Ending) (w11 : World) ↦
 ∃ (p12 : Option Addr),
 ∃ (n13 : Nat),
 ∃ (c14 : Nat),
 ∃ (n15 : Int),
 e10 = Ending.returned (Value.tuple #[Value.slice p12 n13 c14, Value.int IntKind.i64 n15]) ∧
 (n15 ≠ 0 → R (Ending.returned (Value.tuple #[Value.int IntKind.i64 0, Value.int IntKind.i64 n15])) w11) ∧
 (n15 = 0 →
 ∀ (b18 : Nat) (w'19 : World),
 New w11 (Obj.cells #[Value.int IntKind.i64 (↑n13 : Int)] 3) b18 w'19 →
 ∃ (p21 : Option Addr),
 ∃ (n22 : Nat),
 ∃ (c23 : Nat),
 ∃ (w'24 : World),
 Sem.run Try.prog (Builtin.append_ #[92, 92] 92 #[Value.slice p3 n4 c5, Value.slice (some (Addr.mk b18 0 none)) 1 1]) w'19 = Result.ok (Value.slice p21 n22 c23) w'24 ∧
 I1 p21 n22 c23 (IntKind.i64.wrap (n6 + 1)) w'24 ∧ M2 p21 n22 c23 (IntKind.i64.wrap (n6 + 1)) w'24 < M2 p3 n4 c5 n6 w'7)) ∧
 (4 ≤ n6 →
 Calls Try.prog 69 #[Value.slice p3 n4 c5] w'7 fun (e26 : Ending) (w27 : World) ↦
 ∃ (n28 : Int), e26 = Ending.returned (Value.int IntKind.i64 n28) ∧ R (Ending.returned (Value.tuple #[Value.int IntKind.i64 n28, Value.int IntKind.i64 0])) w27)

set_option maxRecDepth 100000 in
theorem best_eq (l_p : Option Addr) (l_n : Nat) (l_c : Nat) (w : World) (R : Ending → World → Prop) : best_T l_p l_n l_c w R = vcFn Try.prog [] [] Try.f50 [Value.slice l_p l_n l_c] w R := by kernel_rfl

set_option maxRecDepth 100000 in
theorem best_vc (l_p : Option Addr) (l_n : Nat) (l_c : Nat) (w : World) (R : Ending → World → Prop) (h : best_T l_p l_n l_c w R) : Calls Try.prog 50 #[Value.slice l_p l_n l_c] w R :=
  calls_of_vc (args := [Value.slice l_p l_n l_c]) [] [] Try.mixed Try.func50 (cast (best_eq _ _ _ w R) h)

set_option maxRecDepth 100000 in
def decode_T (b_p : Option Addr) (b_n : Nat) (b_c : Nat) (n : Int) (w : World) (R : Ending → World → Prop) : Prop :=
  (n < 0 ∨ 4096 < n → R (Ending.returned (Value.tuple #[Value.slice none 0 0, Value.int IntKind.i64 2])) w) ∧
 (0 ≤ n ∧ n ≤ 4096 →
 ((↑b_n : Int) = 0 → R (Ending.returned (Value.tuple #[Value.slice none 0 0, Value.int IntKind.i64 60])) w) ∧
 ((↑b_n : Int) ≠ 0 →
 ∃ (b5 : Nat),
 ∃ (o6 : Nat),
 b_p = some (Addr.mk b5 o6 none) ∧
 (0 : Int) ≤ 0 ∧
 0 < (↑b_n : Int) ∧
 ∃ (n7 : Int),
 w.cell? (Addr.mk b5 (o6 + 0) none) = some (Value.int IntKind.u8 n7) ∧
 (4 ≤ n7 → R (Ending.returned (Value.tuple #[Value.slice none 0 0, Value.int IntKind.i64 60])) w) ∧
 (n7 < 4 →
 ∃ (b10 : Nat),
 ∃ (o11 : Nat),
 b_p = some (Addr.mk b10 o11 none) ∧
 (0 : Int) ≤ 0 ∧
 0 < (↑b_n : Int) ∧
 ∃ (n12 : Int),
 w.cell? (Addr.mk b10 (o11 + 0) none) = some (Value.int IntKind.u8 n12) ∧
 (2 ≤ n12 →
 Calls Try.prog 71 #[Value.slice b_p b_n b_c, Value.int IntKind.i64 n] w fun (e14 : Ending) (w15 : World) ↦
 ∃ (p16 : Option Addr),
 ∃ (n17 : Nat),
 ∃ (c18 : Nat),
 ∃ (b19 : Bool),
 e14 = Ending.returned (Value.tuple #[Value.slice p16 n17 c18, Value.bool b19]) ∧
 (b19 = false → R (Ending.returned (Value.tuple #[Value.slice none 0 0, Value.int IntKind.i64 60])) w15) ∧
 (b19 = true →
 ∃ (b22 : Nat),
 ∃ (o23 : Nat),
 b_p = some (Addr.mk b22 o23 none) ∧
 (0 : Int) ≤ 0 ∧
 0 < (↑b_n : Int) ∧
 ∃ (n24 : Int),
 w15.cell? (Addr.mk b22 (o23 + 0) none) = some (Value.int IntKind.u8 n24) ∧
 Calls Try.prog 48 #[Value.int IntKind.i64 (IntKind.i64.wrap n24), Value.slice p16 n17 c18] w15 fun (e25 : Ending) (w26 : World) ↦
 ∃ (p27 : Option Addr),
 ∃ (n28 : Nat),
 ∃ (c29 : Nat),
 ∃ (n30 : Int),
 e25 = Ending.returned (Value.tuple #[Value.slice p27 n28 c29, Value.int IntKind.i64 n30]) ∧
 Calls Try.prog 72 #[Value.slice p27 n28 c29, Value.slice b_p b_n b_c] w26 fun (e31 : Ending) (w32 : World) ↦
 ∃ (b33 : Bool),
 e31 = Ending.returned (Value.bool b33) ∧
 (b33 = false → R (Ending.returned (Value.tuple #[Value.slice none 0 0, Value.int IntKind.i64 60])) w32) ∧
 (b33 = true → R (Ending.returned (Value.tuple #[Value.slice p16 n17 c18, Value.int IntKind.i64 0])) w32))) ∧
 (n12 < 2 →
 Calls Try.prog 70 #[Value.slice b_p b_n b_c, Value.int IntKind.i64 n] w fun (e37 : Ending) (w38 : World) ↦
 ∃ (p39 : Option Addr),
 ∃ (n40 : Nat),
 ∃ (c41 : Nat),
 ∃ (b42 : Bool),
 e37 = Ending.returned (Value.tuple #[Value.slice p39 n40 c41, Value.bool b42]) ∧
 (b42 = false → R (Ending.returned (Value.tuple #[Value.slice none 0 0, Value.int IntKind.i64 60])) w38) ∧
 (b42 = true →
 ∃ (b45 : Nat),
 ∃ (o46 : Nat),
 b_p = some (Addr.mk b45 o46 none) ∧
 (0 : Int) ≤ 0 ∧
 0 < (↑b_n : Int) ∧
 ∃ (n47 : Int),
 w38.cell? (Addr.mk b45 (o46 + 0) none) = some (Value.int IntKind.u8 n47) ∧
 Calls Try.prog 48 #[Value.int IntKind.i64 (IntKind.i64.wrap n47), Value.slice p39 n40 c41] w38 fun (e48 : Ending) (w49 : World) ↦
 ∃ (p50 : Option Addr),
 ∃ (n51 : Nat),
 ∃ (c52 : Nat),
 ∃ (n53 : Int),
 e48 = Ending.returned (Value.tuple #[Value.slice p50 n51 c52, Value.int IntKind.i64 n53]) ∧
 Calls Try.prog 72 #[Value.slice p50 n51 c52, Value.slice b_p b_n b_c] w49 fun (e54 : Ending) (w55 : World) ↦
 ∃ (b56 : Bool),
 e54 = Ending.returned (Value.bool b56) ∧
 (b56 = false → R (Ending.returned (Value.tuple #[Value.slice none 0 0, Value.int IntKind.i64 60])) w55) ∧
 (b56 = true → R (Ending.returned (Value.tuple #[Value.slice p39 n40 c41, Value.int IntKind.i64 0])) w55))))))

set_option maxRecDepth 100000 in
theorem decode_eq (b_p : Option Addr) (b_n : Nat) (b_c : Nat) (n : Int) (w : World) (R : Ending → World → Prop) : decode_T b_p b_n b_c n w R = vcFn Try.prog [] [] Try.f52 [Value.slice b_p b_n b_c, Value.int IntKind.i64 n] w R := by kernel_rfl

set_option maxRecDepth 100000 in
theorem decode_vc (b_p : Option Addr) (b_n : Nat) (b_c : Nat) (n : Int) (w : World) (R : Ending → World → Prop) (h : decode_T b_p b_n b_c n w R) : Calls Try.prog 52 #[Value.slice b_p b_n b_c, Value.int IntKind.i64 n] w R :=
  calls_of_vc (args := [Value.slice b_p b_n b_c, Value.int IntKind.i64 n]) [] [] Try.mixed Try.func52 (cast (decode_eq _ _ _ _ w R) h)

set_option maxRecDepth 100000 in
def inRuns_T (l_p : Option Addr) (l_n : Nat) (l_c : Nat) (w : World) (R : Ending → World → Prop) : Prop :=
  ∀ (b1 : Nat) (w'2 : World),
 New w (Obj.cells #[Value.slice l_p l_n l_c] 63) b1 w'2 → R (Ending.returned (Value.func (Fn.func 77) #[] #[Value.pointer (some (Addr.mk b1 0 none))])) w'2

set_option maxRecDepth 100000 in
theorem inRuns_eq (l_p : Option Addr) (l_n : Nat) (l_c : Nat) (w : World) (R : Ending → World → Prop) : inRuns_T l_p l_n l_c w R = vcFn Try.prog [] [] Try.f62 [Value.slice l_p l_n l_c] w R := by kernel_rfl

set_option maxRecDepth 100000 in
theorem inRuns_vc (l_p : Option Addr) (l_n : Nat) (l_c : Nat) (w : World) (R : Ending → World → Prop) (h : inRuns_T l_p l_n l_c w R) : Calls Try.prog 62 #[Value.slice l_p l_n l_c] w R :=
  calls_of_vc (args := [Value.slice l_p l_n l_c]) [] [] Try.mixed Try.func62 (cast (inRuns_eq _ _ _ w R) h)

set_option maxRecDepth 100000 in
def zigP_T (d : Int) (w : World) (R : Ending → World → Prop) : Prop :=
  R (Ending.returned (Value.int IntKind.u64 (bits BinOp.xor IntKind.u64 (IntKind.u64.wrap (shlI IntKind.i64 d 1)) (IntKind.u64.wrap (shrI IntKind.i64 d 63))))) w

set_option maxRecDepth 100000 in
theorem zigP_eq (d : Int) (w : World) (R : Ending → World → Prop) : zigP_T d w R = vcFn Try.prog [] [] Try.f63 [Value.int IntKind.i64 d] w R := by kernel_rfl

set_option maxRecDepth 100000 in
theorem zigP_vc (d : Int) (w : World) (R : Ending → World → Prop) (h : zigP_T d w R) : Calls Try.prog 63 #[Value.int IntKind.i64 d] w R :=
  calls_of_vc (args := [Value.int IntKind.i64 d]) [] [] Try.mixed Try.func63 (cast (zigP_eq _ w R) h)

set_option maxRecDepth 100000 in
def packed_T (form : Int) (first : Int) (l_p : Option Addr) (l_n : Nat) (l_c : Nat) (w : World) (R : Ending → World → Prop) : Prop :=
  Calls Try.prog 25 #[Value.slice l_p l_n l_c] w fun (e1 : Ending) (w2 : World) ↦
 ∃ (n3 : Int),
 e1 = Ending.returned (Value.int IntKind.i64 n3) ∧
 Calls Try.prog 27 #[Value.int IntKind.i64 n3, Value.slice l_p l_n l_c] w2 fun (e4 : Ending) (w5 : World) ↦
 ∃ (p6 : Option Addr),
 ∃ (n7 : Nat),
 ∃ (c8 : Nat),
 ∃ (n9 : Int),
 e4 = Ending.returned (Value.tuple #[Value.slice p6 n7 c8, Value.int IntKind.i64 n9]) ∧
 ∀ (b10 : Nat) (w'11 : World),
 New w5 (Obj.cells #[Value.int IntKind.u8 form] 5) b10 w'11 →
 Calls Try.prog 36 #[Value.slice (some (Addr.mk b10 0 none)) 1 1, Value.int IntKind.i64 first] w'11 fun (e13 : Ending) (w14 : World) ↦
 ∃ (p15 : Option Addr),
 ∃ (n16 : Nat),
 ∃ (c17 : Nat),
 e13 = Ending.returned (Value.slice p15 n16 c17) ∧
 ∀ (b18 : Nat) (w'19 : World),
 New w14 (Obj.cells #[Value.int IntKind.u8 (IntKind.u8.wrap n3)] 5) b18 w'19 →
 ∀ (b21 : Nat) (w'22 : World),
 New w'19 (Obj.cells #[Value.slice p15 n16 c17, Value.slice (some (Addr.mk b18 0 none)) 1 1, Value.slice p6 n7 c8] 30) b21 w'22 →
 Calls Try.prog 59 #[Value.slice (some (Addr.mk b21 0 none)) 3 3] w'22 fun (e24 : Ending) (w25 : World) ↦
 ∃ (p26 : Option Addr), ∃ (n27 : Nat), ∃ (c28 : Nat), e24 = Ending.returned (Value.slice p26 n27 c28) ∧ R (Ending.returned (Value.slice p26 n27 c28)) w25

set_option maxRecDepth 100000 in
theorem packed_eq (form : Int) (first : Int) (l_p : Option Addr) (l_n : Nat) (l_c : Nat) (w : World) (R : Ending → World → Prop) : packed_T form first l_p l_n l_c w R = vcFn Try.prog [] [] Try.f64 [Value.int IntKind.u8 form, Value.int IntKind.i64 first, Value.slice l_p l_n l_c] w R := by kernel_rfl

set_option maxRecDepth 100000 in
theorem packed_vc (form : Int) (first : Int) (l_p : Option Addr) (l_n : Nat) (l_c : Nat) (w : World) (R : Ending → World → Prop) (h : packed_T form first l_p l_n l_c w R) : Calls Try.prog 64 #[Value.int IntKind.u8 form, Value.int IntKind.i64 first, Value.slice l_p l_n l_c] w R :=
  calls_of_vc (args := [Value.int IntKind.u8 form, Value.int IntKind.i64 first, Value.slice l_p l_n l_c]) [] [] Try.mixed Try.func64 (cast (packed_eq _ _ _ _ _ w R) h)

set_option maxRecDepth 100000 in
def minI_T (x_p : Option Addr) (x_n : Nat) (x_c : Nat) (w : World) (R : Ending → World → Prop) : Prop :=
  ((↑x_n : Int) < 1 → False) ∧
 (1 ≤ (↑x_n : Int) →
 ∃ (b3 : Nat),
 ∃ (o4 : Nat),
 x_p = some (Addr.mk b3 o4 none) ∧
 (0 : Int) ≤ 0 ∧
 0 < (↑x_n : Int) ∧
 ∃ (n5 : Int),
 w.cell? (Addr.mk b3 (o4 + 0) none) = some (Value.int IntKind.i64 n5) ∧
 ∃ (I6 : Int → Int → World → Prop),
 ∃ (M7 : Int → Int → World → Nat),
 I6 n5 1 w ∧
 ∀ (n8 n9 : Int) (w'10 : World),
 I6 n8 n9 w'10 →
 (n9 < (↑x_n : Int) →
 ∃ (b13 : Nat),
 ∃ (o14 : Nat),
 x_p = some (Addr.mk b13 o14 none) ∧
 0 ≤ n9 ∧
 n9 < (↑x_n : Int) ∧
 ∃ (n15 : Int),
 w'10.cell? (Addr.mk b13 (o14 + n9.toNat) none) = some (Value.int IntKind.i64 n15) ∧
 I6 (mmI false n8 n15) (IntKind.i64.wrap (n9 + 1)) w'10 ∧ M7 (mmI false n8 n15) (IntKind.i64.wrap (n9 + 1)) w'10 < M7 n8 n9 w'10) ∧
 ((↑x_n : Int) ≤ n9 → R (Ending.returned (Value.int IntKind.i64 n8)) w'10))

set_option maxRecDepth 100000 in
theorem minI_eq (x_p : Option Addr) (x_n : Nat) (x_c : Nat) (w : World) (R : Ending → World → Prop) : minI_T x_p x_n x_c w R = vcFn Try.prog [] [] Try.f65 [Value.slice x_p x_n x_c] w R := by kernel_rfl

set_option maxRecDepth 100000 in
theorem minI_vc (x_p : Option Addr) (x_n : Nat) (x_c : Nat) (w : World) (R : Ending → World → Prop) (h : minI_T x_p x_n x_c w R) : Calls Try.prog 65 #[Value.slice x_p x_n x_c] w R :=
  calls_of_vc (args := [Value.slice x_p x_n x_c]) [] [] Try.mixed Try.func65 (cast (minI_eq _ _ _ w R) h)

set_option maxRecDepth 100000 in
def least_T (l_p : Option Addr) (l_n : Nat) (l_c : Nat) (w : World) (R : Ending → World → Prop) : Prop :=
  Calls Try.prog 80 #[Value.slice l_p l_n l_c] w fun (e1 : Ending) (w2 : World) ↦
 ∃ (n3 : Int),
 e1 = Ending.returned (Value.int IntKind.i64 n3) ∧
 Calls Try.prog 79 #[Value.slice l_p l_n l_c, Value.int IntKind.i64 n3] w2 fun (e4 : Ending) (w5 : World) ↦
 ∃ (n6 : Int), e4 = Ending.returned (Value.int IntKind.i64 n6) ∧ R (Ending.returned (Value.int IntKind.i64 n6)) w5

set_option maxRecDepth 100000 in
theorem least_eq (l_p : Option Addr) (l_n : Nat) (l_c : Nat) (w : World) (R : Ending → World → Prop) : least_T l_p l_n l_c w R = vcFn Try.prog [] [] Try.f69 [Value.slice l_p l_n l_c] w R := by kernel_rfl

set_option maxRecDepth 100000 in
theorem least_vc (l_p : Option Addr) (l_n : Nat) (l_c : Nat) (w : World) (R : Ending → World → Prop) (h : least_T l_p l_n l_c w R) : Calls Try.prog 69 #[Value.slice l_p l_n l_c] w R :=
  calls_of_vc (args := [Value.slice l_p l_n l_c]) [] [] Try.mixed Try.func69 (cast (least_eq _ _ _ w R) h)

set_option maxRecDepth 100000 in
def loose_T (b_p : Option Addr) (b_n : Nat) (b_c : Nat) (n : Int) (w : World) (R : Ending → World → Prop) : Prop :=
  ∃ (I1 : Option Addr → Nat → Nat → Int → World → Prop),
 ∃ (M2 : Option Addr → Nat → Nat → Int → World → Nat),
 I1 none 0 0 1 w ∧
 ∀ (p3 : Option Addr) (n4 c5 : Nat) (n6 : Int) (w'7 : World),
 I1 p3 n4 c5 n6 w'7 →
 (n6 < (↑b_n : Int) →
 ∃ (b10 : Nat),
 ∃ (o11 : Nat),
 b_p = some (Addr.mk b10 o11 none) ∧
 (0 : Int) ≤ 0 ∧
 0 < (↑b_n : Int) ∧
 ∃ (n12 : Int),
 w'7.cell? (Addr.mk b10 (o11 + 0) none) = some (Value.int IntKind.u8 n12) ∧
 (n12 = 1 →
 Calls Try.prog 38 #[Value.slice b_p b_n b_c, Value.int IntKind.i64 n6] w'7 fun (e14 : Ending) (w15 : World) ↦
 ∃ (n16 : Int),
 ∃ (n17 : Int),
 ∃ (n18 : Int),
 e14 = Ending.returned (Value.tuple #[Value.int IntKind.u64 n16, Value.int IntKind.i64 n17, Value.int IntKind.i64 n18]) ∧
 Calls Try.prog 40 #[Value.slice b_p b_n b_c, Value.int IntKind.i64 n17] w15 fun (e19 : Ending) (w20 : World) ↦
 ∃ (n21 : Int),
 ∃ (n22 : Int),
 ∃ (n23 : Int),
 e19 = Ending.returned (Value.tuple #[Value.int IntKind.i64 n21, Value.int IntKind.i64 n22, Value.int IntKind.i64 n23]) ∧
 (((n18 ≠ 0 ∨ n23 ≠ 0) ∨ n16 = 0) ∨ IntKind.u64.wrap (IntKind.i64.wrap (n - (↑n4 : Int))) < n16 →
 R (Ending.returned (Value.tuple #[Value.slice none 0 0, Value.bool false])) w20) ∧
 (((n18 = 0 ∧ n23 = 0) ∧ n16 ≠ 0) ∧ n16 ≤ IntKind.u64.wrap (IntKind.i64.wrap (n - (↑n4 : Int))) →
 ∃ (I26 : Option Addr → Nat → Nat → Int → World → Prop),
 ∃ (M27 : Option Addr → Nat → Nat → Int → World → Nat),
 I26 p3 n4 c5 0 w20 ∧
 ∀ (p28 : Option Addr) (n29 c30 : Nat) (n31 : Int) (w'32 : World),
 I26 p28 n29 c30 n31 w'32 →
 (n31 < n16 →
 ∀ (b35 : Nat) (w'36 : World),
 New w'32 (Obj.cells #[Value.int IntKind.i64 n21] 2) b35 w'36 →
 ∃ (p38 : Option Addr),
 ∃ (n39 : Nat),
 ∃ (c40 : Nat),
 ∃ (w'41 : World),
 Sem.run Try.prog (Builtin.append_ #[63, 63] 63 #[Value.slice p28 n29 c30, Value.slice (some (Addr.mk b35 0 none)) 1 1]) w'36 = Result.ok (Value.slice p38 n39 c40) w'41 ∧
 I26 p38 n39 c40 (IntKind.u64.wrap (n31 + 1)) w'41 ∧ M27 p38 n39 c40 (IntKind.u64.wrap (n31 + 1)) w'41 < M27 p28 n29 c30 n31 w'32) ∧
 (n16 ≤ n31 → I1 p28 n29 c30 n22 w'32 ∧ M2 p28 n29 c30 n22 w'32 < M2 p3 n4 c5 n6 w'7))) ∧
 (n12 ≠ 1 →
 Calls Try.prog 40 #[Value.slice b_p b_n b_c, Value.int IntKind.i64 n6] w'7 fun (e44 : Ending) (w45 : World) ↦
 ∃ (n46 : Int),
 ∃ (n47 : Int),
 ∃ (n48 : Int),
 e44 = Ending.returned (Value.tuple #[Value.int IntKind.i64 n46, Value.int IntKind.i64 n47, Value.int IntKind.i64 n48]) ∧
 ((((0 : Int) ≠ 0 ∨ n48 ≠ 0) ∨ (1 : Int) = 0) ∨ IntKind.u64.wrap (IntKind.i64.wrap (n - (↑n4 : Int))) < 1 →
 R (Ending.returned (Value.tuple #[Value.slice none 0 0, Value.bool false])) w45) ∧
 ((((0 : Int) = 0 ∧ n48 = 0) ∧ (1 : Int) ≠ 0) ∧ 1 ≤ IntKind.u64.wrap (IntKind.i64.wrap (n - (↑n4 : Int))) →
 ∃ (I51 : Option Addr → Nat → Nat → Int → World → Prop),
 ∃ (M52 : Option Addr → Nat → Nat → Int → World → Nat),
 I51 p3 n4 c5 0 w45 ∧
 ∀ (p53 : Option Addr) (n54 c55 : Nat) (n56 : Int) (w'57 : World),
 I51 p53 n54 c55 n56 w'57 →
 (n56 < 1 →
 ∀ (b60 : Nat) (w'61 : World),
 New w'57 (Obj.cells #[Value.int IntKind.i64 n46] 2) b60 w'61 →
 ∃ (p63 : Option Addr),
 ∃ (n64 : Nat),
 ∃ (c65 : Nat),
 ∃ (w'66 : World),
 Sem.run Try.prog (Builtin.append_ #[63, 63] 63 #[Value.slice p53 n54 c55, Value.slice (some (Addr.mk b60 0 none)) 1 1]) w'61 = Result.ok (Value.slice p63 n64 c65) w'66 ∧
 I51 p63 n64 c65 (IntKind.u64.wrap (n56 + 1)) w'66 ∧ M52 p63 n64 c65 (IntKind.u64.wrap (n56 + 1)) w'66 < M52 p53 n54 c55 n56 w'57) ∧
 (1 ≤ n56 → I1 p53 n54 c55 n47 w'57 ∧ M2 p53 n54 c55 n47 w'57 < M2 p3 n4 c5 n6 w'7)))) ∧
 ((↑b_n : Int) ≤ n6 → R (Ending.returned (Value.tuple #[Value.slice p3 n4 c5, Value.bool (decide ((↑n4 : Int) = n))])) w'7)

set_option maxRecDepth 100000 in
theorem loose_eq (b_p : Option Addr) (b_n : Nat) (b_c : Nat) (n : Int) (w : World) (R : Ending → World → Prop) : loose_T b_p b_n b_c n w R = vcFn Try.prog [] [] Try.f70 [Value.slice b_p b_n b_c, Value.int IntKind.i64 n] w R := by kernel_rfl

set_option maxRecDepth 100000 in
theorem loose_vc (b_p : Option Addr) (b_n : Nat) (b_c : Nat) (n : Int) (w : World) (R : Ending → World → Prop) (h : loose_T b_p b_n b_c n w R) : Calls Try.prog 70 #[Value.slice b_p b_n b_c, Value.int IntKind.i64 n] w R :=
  calls_of_vc (args := [Value.slice b_p b_n b_c, Value.int IntKind.i64 n]) [] [] Try.mixed Try.func70 (cast (loose_eq _ _ _ _ w R) h)

set_option maxRecDepth 100000 in
def tight_T (b_p : Option Addr) (b_n : Nat) (b_c : Nat) (n : Int) (w : World) (R : Ending → World → Prop) : Prop :=
  (n = 0 → R (Ending.returned (Value.tuple #[Value.slice none 0 0, Value.bool (decide ((↑b_n : Int) = 1))])) w) ∧
 (n ≠ 0 →
 Calls Try.prog 40 #[Value.slice b_p b_n b_c, Value.int IntKind.i64 1] w fun (e3 : Ending) (w4 : World) ↦
 ∃ (n5 : Int),
 ∃ (n6 : Int),
 ∃ (n7 : Int),
 e3 = Ending.returned (Value.tuple #[Value.int IntKind.i64 n5, Value.int IntKind.i64 n6, Value.int IntKind.i64 n7]) ∧
 (n7 ≠ 0 ∨ (↑b_n : Int) ≤ n6 → R (Ending.returned (Value.tuple #[Value.slice none 0 0, Value.bool false])) w4) ∧
 (n7 = 0 ∧ n6 < (↑b_n : Int) →
 (0 : Int) ≤ 0 ∧
 0 ≤ n ∧
 8 * n ≤ 281474976710656 ∧
 n ≤ 9223372036854775807 ∧
 ∀ (b10 : Nat) (w'11 : World),
 New w4 (Obj.cells (madeCells #[Value.int IntKind.i64 0] n.toNat) 2) b10 w'11 →
 ∃ (b13 : Nat),
 ∃ (o14 : Nat),
 b_p = some (Addr.mk b13 o14 none) ∧
 (0 : Int) ≤ 0 ∧
 0 < (↑b_n : Int) ∧
 ∃ (n15 : Int),
 w'11.cell? (Addr.mk b13 (o14 + 0) none) = some (Value.int IntKind.u8 n15) ∧
 (n15 = 2 →
 ∀ (b17 : Nat) (w'18 : World),
 New w'11 (Obj.cells #[Value.int IntKind.i64 n5] 2) b17 w'18 →
 ∃ (p20 : Option Addr),
 ∃ (n21 : Nat),
 ∃ (c22 : Nat),
 ∃ (w'23 : World),
 Sem.run Try.prog (Builtin.append_ #[63, 63] 63 #[Value.slice (some (Addr.mk b10 0 none)) 0 n.toNat, Value.slice (some (Addr.mk b17 0 none)) 1 1]) w'18 =
 Result.ok (Value.slice p20 n21 c22) w'23 ∧
 ∀ (w'24 : World),
 Drew w'23 w'24 →
 0 ≤ IntKind.i64.wrap (n6 + 1) ∧
 IntKind.i64.wrap (n6 + 1) ≤ (↑b_n : Int) ∧
 ∃ (b26 : Nat),
 ∃ (o27 : Nat),
 b_p = some (Addr.mk b26 o27 none) ∧
 0 ≤ n6 ∧
 n6 < (↑b_n : Int) ∧
 ∃ (n28 : Int),
 w'24.cell? (Addr.mk b26 (o27 + n6.toNat) none) = some (Value.int IntKind.u8 n28) ∧
 Calls Try.prog 29
 #[Value.slice (slBase b_p (IntKind.i64.wrap (n6 + 1)).toNat b_c 1) (b_n - (IntKind.i64.wrap (n6 + 1)).toNat) (b_c - (IntKind.i64.wrap (n6 + 1)).toNat),
 Value.int IntKind.i64 (IntKind.i64.wrap (n - 1)), Value.int IntKind.i64 (IntKind.i64.wrap n28)]
 w'24 fun (e29 : Ending) (w30 : World) ↦
 ∃ (p31 : Option Addr),
 ∃ (n32 : Nat),
 ∃ (c33 : Nat),
 ∃ (n34 : Int),
 e29 = Ending.returned (Value.tuple #[Value.slice p31 n32 c33, Value.int IntKind.i64 n34]) ∧
 ∃ (I35 : Int → Option Addr → Nat → Nat → Int → World → Prop),
 ∃ (M36 : Int → Option Addr → Nat → Nat → Int → World → Nat),
 I35 n5 p20 n21 c22 0 w30 ∧
 ∀ (n37 : Int) (p38 : Option Addr) (n39 c40 : Nat) (n41 : Int) (w'42 : World),
 I35 n37 p38 n39 c40 n41 w'42 →
 (n41 < (↑n32 : Int) →
 ∃ (b45 : Nat),
 ∃ (o46 : Nat),
 p31 = some (Addr.mk b45 o46 none) ∧
 0 ≤ n41 ∧
 n41 < (↑n32 : Int) ∧
 ∃ (n47 : Int),
 w'42.cell? (Addr.mk b45 (o46 + n41.toNat) none) = some (Value.int IntKind.u64 n47) ∧
 ∃ (b48 : Nat),
 ∃ (o49 : Nat),
 b_p = some (Addr.mk b48 o49 none) ∧
 (0 : Int) ≤ 0 ∧
 0 < (↑b_n : Int) ∧
 ∃ (n50 : Int),
 w'42.cell? (Addr.mk b48 (o49 + 0) none) = some (Value.int IntKind.u8 n50) ∧
 (n50 = 2 →
 Calls Try.prog 81 #[Value.int IntKind.u64 n47] w'42 fun (e52 : Ending) (w53 : World) ↦
 ∃ (n54 : Int),
 e52 = Ending.returned (Value.int IntKind.i64 n54) ∧
 ∀ (b55 : Nat) (w'56 : World),
 New w53 (Obj.cells #[Value.int IntKind.i64 (IntKind.i64.wrap (n37 + n54))] 2) b55 w'56 →
 ∃ (p58 : Option Addr),
 ∃ (n59 : Nat),
 ∃ (c60 : Nat),
 ∃ (w'61 : World),
 Sem.run Try.prog (Builtin.append_ #[63, 63] 63 #[Value.slice p38 n39 c40, Value.slice (some (Addr.mk b55 0 none)) 1 1]) w'56 = Result.ok (Value.slice p58 n59 c60) w'61 ∧
 I35 (IntKind.i64.wrap (n37 + n54)) p58 n59 c60 (IntKind.i64.wrap (n41 + 1)) w'61 ∧
 M36 (IntKind.i64.wrap (n37 + n54)) p58 n59 c60 (IntKind.i64.wrap (n41 + 1)) w'61 < M36 n37 p38 n39 c40 n41 w'42) ∧
 (n50 ≠ 2 →
 ∀ (b63 : Nat) (w'64 : World),
 New w'42 (Obj.cells #[Value.int IntKind.i64 (IntKind.i64.wrap (IntKind.u64.wrap (IntKind.u64.wrap n37 + n47)))] 2) b63 w'64 →
 ∃ (p66 : Option Addr),
 ∃ (n67 : Nat),
 ∃ (c68 : Nat),
 ∃ (w'69 : World),
 Sem.run Try.prog (Builtin.append_ #[63, 63] 63 #[Value.slice p38 n39 c40, Value.slice (some (Addr.mk b63 0 none)) 1 1]) w'64 = Result.ok (Value.slice p66 n67 c68) w'69 ∧
 I35 n37 p66 n67 c68 (IntKind.i64.wrap (n41 + 1)) w'69 ∧ M36 n37 p66 n67 c68 (IntKind.i64.wrap (n41 + 1)) w'69 < M36 n37 p38 n39 c40 n41 w'42)) ∧
 ((↑n32 : Int) ≤ n41 → R (Ending.returned (Value.tuple #[Value.slice p38 n39 c40, Value.bool (decide (n34 = 0))])) w'42)) ∧
 (n15 ≠ 2 →
 ∀ (w'72 : World),
 Drew w'11 w'72 →
 0 ≤ IntKind.i64.wrap (n6 + 1) ∧
 IntKind.i64.wrap (n6 + 1) ≤ (↑b_n : Int) ∧
 ∃ (b74 : Nat),
 ∃ (o75 : Nat),
 b_p = some (Addr.mk b74 o75 none) ∧
 0 ≤ n6 ∧
 n6 < (↑b_n : Int) ∧
 ∃ (n76 : Int),
 w'72.cell? (Addr.mk b74 (o75 + n6.toNat) none) = some (Value.int IntKind.u8 n76) ∧
 Calls Try.prog 29
 #[Value.slice (slBase b_p (IntKind.i64.wrap (n6 + 1)).toNat b_c 1) (b_n - (IntKind.i64.wrap (n6 + 1)).toNat) (b_c - (IntKind.i64.wrap (n6 + 1)).toNat),
 Value.int IntKind.i64 n, Value.int IntKind.i64 (IntKind.i64.wrap n76)]
 w'72 fun (e77 : Ending) (w78 : World) ↦
 ∃ (p79 : Option Addr),
 ∃ (n80 : Nat),
 ∃ (c81 : Nat),
 ∃ (n82 : Int),
 e77 = Ending.returned (Value.tuple #[Value.slice p79 n80 c81, Value.int IntKind.i64 n82]) ∧
 ∃ (I83 : Int → Option Addr → Nat → Nat → Int → World → Prop),
 ∃ (M84 : Int → Option Addr → Nat → Nat → Int → World → Nat),
 I83 n5 (some (Addr.mk b10 0 none)) 0 n.toNat 0 w78 ∧
 ∀ (n85 : Int) (p86 : Option Addr) (n87 c88 : Nat) (n89 : Int) (w'90 : World),
 I83 n85 p86 n87 c88 n89 w'90 →
 (n89 < (↑n80 : Int) →
 ∃ (b93 : Nat),
 ∃ (o94 : Nat),
 p79 = some (Addr.mk b93 o94 none) ∧
 0 ≤ n89 ∧
 n89 < (↑n80 : Int) ∧
 ∃ (n95 : Int),
 w'90.cell? (Addr.mk b93 (o94 + n89.toNat) none) = some (Value.int IntKind.u64 n95) ∧
 ∃ (b96 : Nat),
 ∃ (o97 : Nat),
 b_p = some (Addr.mk b96 o97 none) ∧
 (0 : Int) ≤ 0 ∧
 0 < (↑b_n : Int) ∧
 ∃ (n98 : Int),
 w'90.cell? (Addr.mk b96 (o97 + 0) none) = some (Value.int IntKind.u8 n98) ∧
 (n98 = 2 →
 Calls Try.prog 81 #[Value.int IntKind.u64 n95] w'90 fun (e100 : Ending) (w101 : World) ↦
 ∃ (n102 : Int),
 e100 = Ending.returned (Value.int IntKind.i64 n102) ∧
 ∀ (b103 : Nat) (w'104 : World),
 New w101 (Obj.cells #[Value.int IntKind.i64 (IntKind.i64.wrap (n85 + n102))] 2) b103 w'104 →
 ∃ (p106 : Option Addr),
 ∃ (n107 : Nat),
 ∃ (c108 : Nat),
 ∃ (w'109 : World),
 Sem.run Try.prog (Builtin.append_ #[63, 63] 63 #[Value.slice p86 n87 c88, Value.slice (some (Addr.mk b103 0 none)) 1 1]) w'104 =
 Result.ok (Value.slice p106 n107 c108) w'109 ∧
 I83 (IntKind.i64.wrap (n85 + n102)) p106 n107 c108 (IntKind.i64.wrap (n89 + 1)) w'109 ∧
 M84 (IntKind.i64.wrap (n85 + n102)) p106 n107 c108 (IntKind.i64.wrap (n89 + 1)) w'109 < M84 n85 p86 n87 c88 n89 w'90) ∧
 (n98 ≠ 2 →
 ∀ (b111 : Nat) (w'112 : World),
 New w'90 (Obj.cells #[Value.int IntKind.i64 (IntKind.i64.wrap (IntKind.u64.wrap (IntKind.u64.wrap n85 + n95)))] 2) b111 w'112 →
 ∃ (p114 : Option Addr),
 ∃ (n115 : Nat),
 ∃ (c116 : Nat),
 ∃ (w'117 : World),
 Sem.run Try.prog (Builtin.append_ #[63, 63] 63 #[Value.slice p86 n87 c88, Value.slice (some (Addr.mk b111 0 none)) 1 1]) w'112 =
 Result.ok (Value.slice p114 n115 c116) w'117 ∧
 I83 n85 p114 n115 c116 (IntKind.i64.wrap (n89 + 1)) w'117 ∧ M84 n85 p114 n115 c116 (IntKind.i64.wrap (n89 + 1)) w'117 < M84 n85 p86 n87 c88 n89 w'90)) ∧
 ((↑n80 : Int) ≤ n89 → R (Ending.returned (Value.tuple #[Value.slice p86 n87 c88, Value.bool (decide (n82 = 0))])) w'90))))

set_option maxRecDepth 100000 in
theorem tight_eq (b_p : Option Addr) (b_n : Nat) (b_c : Nat) (n : Int) (w : World) (R : Ending → World → Prop) : tight_T b_p b_n b_c n w R = vcFn Try.prog [] [(10, [0, 2, 4, 6, 8, 10, 12, 14, 16, 18, 20, 22, 24, 26, 28, 30])] Try.f71 [Value.slice b_p b_n b_c, Value.int IntKind.i64 n] w R := by kernel_rfl

set_option maxRecDepth 100000 in
theorem tight_vc (b_p : Option Addr) (b_n : Nat) (b_c : Nat) (n : Int) (w : World) (R : Ending → World → Prop) (h : tight_T b_p b_n b_c n w R) : Calls Try.prog 71 #[Value.slice b_p b_n b_c, Value.int IntKind.i64 n] w R :=
  calls_of_vc (args := [Value.slice b_p b_n b_c, Value.int IntKind.i64 n]) [] [(10, [0, 2, 4, 6, 8, 10, 12, 14, 16, 18, 20, 22, 24, 26, 28, 30])] Try.mixed Try.func71 (cast (tight_eq _ _ _ _ w R) h)

set_option maxRecDepth 100000 in
def bytesEqual_T (a_p : Option Addr) (a_n : Nat) (a_c : Nat) (b_p : Option Addr) (b_n : Nat) (b_c : Nat) (w : World) (R : Ending → World → Prop) : Prop :=
  ∃ (l1 : List UInt8),
 BytesAt w a_p a_n l1 ∧ ∃ (l2 : List UInt8), BytesAt w b_p b_n l2 ∧ R (Ending.returned (Value.bool (sEq (ByteArray.mk (Array.mk l1)) (ByteArray.mk (Array.mk l2))))) w

set_option maxRecDepth 100000 in
theorem bytesEqual_eq (a_p : Option Addr) (a_n : Nat) (a_c : Nat) (b_p : Option Addr) (b_n : Nat) (b_c : Nat) (w : World) (R : Ending → World → Prop) : bytesEqual_T a_p a_n a_c b_p b_n b_c w R = vcFn Try.prog [] [] Try.f72 [Value.slice a_p a_n a_c, Value.slice b_p b_n b_c] w R := by kernel_rfl

set_option maxRecDepth 100000 in
theorem bytesEqual_vc (a_p : Option Addr) (a_n : Nat) (a_c : Nat) (b_p : Option Addr) (b_n : Nat) (b_c : Nat) (w : World) (R : Ending → World → Prop) (h : bytesEqual_T a_p a_n a_c b_p b_n b_c w R) : Calls Try.prog 72 #[Value.slice a_p a_n a_c, Value.slice b_p b_n b_c] w R :=
  calls_of_vc (args := [Value.slice a_p a_n a_c, Value.slice b_p b_n b_c]) [] [] Try.mixed Try.func72 (cast (bytesEqual_eq _ _ _ _ _ _ w R) h)

set_option maxRecDepth 100000 in
def inRuns1_T (l0 : Nat) (fv0 : Nat) (w : World) (R : Ending → World → Prop) : Prop :=
  ∃ (I1 : World → Prop),
 ∃ (M2 : World → Nat),
 I1 w ∧
 ∀ (w'3 : World),
 I1 w'3 →
 ∃ (p5 : Option Addr),
 ∃ (n6 : Nat),
 ∃ (c7 : Nat),
 w'3.cell? (Addr.mk fv0 0 none) = some (Value.slice p5 n6 c7) ∧
 (0 < (↑n6 : Int) →
 ∃ (I9 : Int → World → Prop),
 ∃ (M10 : Int → World → Nat),
 I9 1 w'3 ∧
 ∀ (n11 : Int) (w'12 : World),
 I9 n11 w'12 →
 ∀ (w'14 : World),
 Drew w'12 w'14 →
 ∃ (p16 : Option Addr),
 ∃ (n17 : Nat),
 ∃ (c18 : Nat),
 w'14.cell? (Addr.mk fv0 0 none) = some (Value.slice p16 n17 c18) ∧
 (n11 < (↑n17 : Int) →
 ∃ (p20 : Option Addr),
 ∃ (n21 : Nat),
 ∃ (c22 : Nat),
 w'14.cell? (Addr.mk fv0 0 none) = some (Value.slice p20 n21 c22) ∧
 ∃ (b23 : Nat),
 ∃ (o24 : Nat),
 p20 = some (Addr.mk b23 o24 none) ∧
 0 ≤ n11 ∧
 n11 < (↑n21 : Int) ∧
 ∃ (n25 : Int),
 w'14.cell? (Addr.mk b23 (o24 + n11.toNat) none) = some (Value.int IntKind.i64 n25) ∧
 ∃ (p26 : Option Addr),
 ∃ (n27 : Nat),
 ∃ (c28 : Nat),
 w'14.cell? (Addr.mk fv0 0 none) = some (Value.slice p26 n27 c28) ∧
 ∃ (b29 : Nat),
 ∃ (o30 : Nat),
 p26 = some (Addr.mk b29 o30 none) ∧
 (0 : Int) ≤ 0 ∧
 0 < (↑n27 : Int) ∧
 ∃ (n31 : Int),
 w'14.cell? (Addr.mk b29 (o30 + 0) none) = some (Value.int IntKind.i64 n31) ∧
 (n25 = n31 → I9 (IntKind.i64.wrap (n11 + 1)) w'14 ∧ M10 (IntKind.i64.wrap (n11 + 1)) w'14 < M10 n11 w'12) ∧
 (n25 ≠ n31 →
 ∃ (p34 : Option Addr),
 ∃ (n35 : Nat),
 ∃ (c36 : Nat),
 w'14.cell? (Addr.mk fv0 0 none) = some (Value.slice p34 n35 c36) ∧
 ∃ (b37 : Nat),
 ∃ (o38 : Nat),
 p34 = some (Addr.mk b37 o38 none) ∧
 (0 : Int) ≤ 0 ∧
 0 < (↑n35 : Int) ∧
 ∃ (n39 : Int),
 w'14.cell? (Addr.mk b37 (o38 + 0) none) = some (Value.int IntKind.i64 n39) ∧
 Yield Try.prog l0 #[Value.int IntKind.i64 n11, Value.int IntKind.i64 n39] w'14 fun (b40 : Bool) (w41 : World) ↦
 (b40 = false → R (Ending.returned (Value.tuple #[])) w41) ∧
 (b40 = true →
 ∃ (p44 : Option Addr),
 ∃ (n45 : Nat),
 ∃ (c46 : Nat),
 w41.cell? (Addr.mk fv0 0 none) = some (Value.slice p44 n45 c46) ∧
 0 ≤ n11 ∧
 n11 ≤ (↑n45 : Int) ∧
 (∃ (u47 : Value), w41.cell? (Addr.mk fv0 0 none) = some u47) ∧
 w41.frozen? (Addr.mk fv0 0 none) = false ∧
 ∀ (w'48 : World), Put w41 fv0 0 [Value.slice (slBase p44 n11.toNat c46 1) (n45 - n11.toNat) (c46 - n11.toNat)] w'48 → I1 w'48 ∧ M2 w'48 < M2 w'3))) ∧
 ((↑n17 : Int) ≤ n11 →
 ∃ (p51 : Option Addr),
 ∃ (n52 : Nat),
 ∃ (c53 : Nat),
 w'14.cell? (Addr.mk fv0 0 none) = some (Value.slice p51 n52 c53) ∧
 ∃ (b54 : Nat),
 ∃ (o55 : Nat),
 p51 = some (Addr.mk b54 o55 none) ∧
 (0 : Int) ≤ 0 ∧
 0 < (↑n52 : Int) ∧
 ∃ (n56 : Int),
 w'14.cell? (Addr.mk b54 (o55 + 0) none) = some (Value.int IntKind.i64 n56) ∧
 Yield Try.prog l0 #[Value.int IntKind.i64 n11, Value.int IntKind.i64 n56] w'14 fun (b57 : Bool) (w58 : World) ↦
 (b57 = false → R (Ending.returned (Value.tuple #[])) w58) ∧
 (b57 = true →
 ∃ (p61 : Option Addr),
 ∃ (n62 : Nat),
 ∃ (c63 : Nat),
 w58.cell? (Addr.mk fv0 0 none) = some (Value.slice p61 n62 c63) ∧
 0 ≤ n11 ∧
 n11 ≤ (↑n62 : Int) ∧
 (∃ (u64 : Value), w58.cell? (Addr.mk fv0 0 none) = some u64) ∧
 w58.frozen? (Addr.mk fv0 0 none) = false ∧
 ∀ (w'65 : World), Put w58 fv0 0 [Value.slice (slBase p61 n11.toNat c63 1) (n62 - n11.toNat) (c63 - n11.toNat)] w'65 → I1 w'65 ∧ M2 w'65 < M2 w'3))) ∧
 ((↑n6 : Int) ≤ 0 → R (Ending.returned (Value.tuple #[])) w'3)

set_option maxRecDepth 100000 in
theorem inRuns1_eq (l0 : Nat) (fv0 : Nat) (w : World) (R : Ending → World → Prop) : inRuns1_T l0 fv0 w R = vcFn Try.prog [] [(2, [0, 2, 4, 6, 8, 10, 12, 14, 16, 18, 20, 22, 24, 26])] Try.f77 [Value.func (Fn.yield l0) #[] #[], Value.pointer (some (Addr.mk fv0 0 none))] w R := by kernel_rfl

set_option maxRecDepth 100000 in
theorem inRuns1_vc (l0 : Nat) (fv0 : Nat) (w : World) (R : Ending → World → Prop) (h : inRuns1_T l0 fv0 w R) : Calls Try.prog 77 #[Value.func (Fn.yield l0) #[] #[], Value.pointer (some (Addr.mk fv0 0 none))] w R :=
  calls_of_vc (args := [Value.func (Fn.yield l0) #[] #[], Value.pointer (some (Addr.mk fv0 0 none))]) [] [(2, [0, 2, 4, 6, 8, 10, 12, 14, 16, 18, 20, 22, 24, 26])] Try.mixed Try.func77 (cast (inRuns1_eq _ _ w R) h)

set_option maxRecDepth 100000 in
def index_T (s_p : Option Addr) (s_n : Nat) (s_c : Nat) (v : Int) (w : World) (R : Ending → World → Prop) : Prop :=
  ∃ (I1 : Int → World → Prop),
 ∃ (M2 : Int → World → Nat),
 I1 0 w ∧
 ∀ (n3 : Int) (w'4 : World),
 I1 n3 w'4 →
 (n3 < (↑s_n : Int) →
 ∃ (b7 : Nat),
 ∃ (o8 : Nat),
 s_p = some (Addr.mk b7 o8 none) ∧
 0 ≤ n3 ∧
 n3 < (↑s_n : Int) ∧
 ∃ (n9 : Int),
 w'4.cell? (Addr.mk b7 (o8 + n3.toNat) none) = some (Value.int IntKind.i64 n9) ∧
 (v = n9 → R (Ending.returned (Value.int IntKind.i64 n3)) w'4) ∧ (v ≠ n9 → I1 (IntKind.i64.wrap (n3 + 1)) w'4 ∧ M2 (IntKind.i64.wrap (n3 + 1)) w'4 < M2 n3 w'4)) ∧
 ((↑s_n : Int) ≤ n3 → R (Ending.returned (Value.int IntKind.i64 (-1))) w'4)

set_option maxRecDepth 100000 in
theorem index_eq (s_p : Option Addr) (s_n : Nat) (s_c : Nat) (v : Int) (w : World) (R : Ending → World → Prop) : index_T s_p s_n s_c v w R = vcFn Try.prog [] [] Try.f79 [Value.slice s_p s_n s_c, Value.int IntKind.i64 v] w R := by kernel_rfl

set_option maxRecDepth 100000 in
theorem index_vc (s_p : Option Addr) (s_n : Nat) (s_c : Nat) (v : Int) (w : World) (R : Ending → World → Prop) (h : index_T s_p s_n s_c v w R) : Calls Try.prog 79 #[Value.slice s_p s_n s_c, Value.int IntKind.i64 v] w R :=
  calls_of_vc (args := [Value.slice s_p s_n s_c, Value.int IntKind.i64 v]) [] [] Try.mixed Try.func79 (cast (index_eq _ _ _ _ w R) h)

set_option maxRecDepth 100000 in
def minN_T (x_p : Option Addr) (x_n : Nat) (x_c : Nat) (w : World) (R : Ending → World → Prop) : Prop :=
  ((↑x_n : Int) < 1 → False) ∧
 (1 ≤ (↑x_n : Int) →
 ∃ (b3 : Nat),
 ∃ (o4 : Nat),
 x_p = some (Addr.mk b3 o4 none) ∧
 (0 : Int) ≤ 0 ∧
 0 < (↑x_n : Int) ∧
 ∃ (n5 : Int),
 w.cell? (Addr.mk b3 (o4 + 0) none) = some (Value.int IntKind.i64 n5) ∧
 ∃ (I6 : Int → Int → World → Prop),
 ∃ (M7 : Int → Int → World → Nat),
 I6 n5 1 w ∧
 ∀ (n8 n9 : Int) (w'10 : World),
 I6 n8 n9 w'10 →
 (n9 < (↑x_n : Int) →
 ∃ (b13 : Nat),
 ∃ (o14 : Nat),
 x_p = some (Addr.mk b13 o14 none) ∧
 0 ≤ n9 ∧
 n9 < (↑x_n : Int) ∧
 ∃ (n15 : Int),
 w'10.cell? (Addr.mk b13 (o14 + n9.toNat) none) = some (Value.int IntKind.i64 n15) ∧
 I6 (mmI false n8 n15) (IntKind.i64.wrap (n9 + 1)) w'10 ∧ M7 (mmI false n8 n15) (IntKind.i64.wrap (n9 + 1)) w'10 < M7 n8 n9 w'10) ∧
 ((↑x_n : Int) ≤ n9 → R (Ending.returned (Value.int IntKind.i64 n8)) w'10))

set_option maxRecDepth 100000 in
theorem minN_eq (x_p : Option Addr) (x_n : Nat) (x_c : Nat) (w : World) (R : Ending → World → Prop) : minN_T x_p x_n x_c w R = vcFn Try.prog [] [] Try.f80 [Value.slice x_p x_n x_c] w R := by kernel_rfl

set_option maxRecDepth 100000 in
theorem minN_vc (x_p : Option Addr) (x_n : Nat) (x_c : Nat) (w : World) (R : Ending → World → Prop) (h : minN_T x_p x_n x_c w R) : Calls Try.prog 80 #[Value.slice x_p x_n x_c] w R :=
  calls_of_vc (args := [Value.slice x_p x_n x_c]) [] [] Try.mixed Try.func80 (cast (minN_eq _ _ _ w R) h)

set_option maxRecDepth 100000 in
def zagP_T (u : Int) (w : World) (R : Ending → World → Prop) : Prop :=
  R
 (Ending.returned
 (Value.int IntKind.i64 (bits BinOp.xor IntKind.i64 (IntKind.i64.wrap (shrI IntKind.u64 u 1)) (IntKind.i64.wrap (0 - IntKind.i64.wrap (bits BinOp.and IntKind.u64 u 1))))))
 w

set_option maxRecDepth 100000 in
theorem zagP_eq (u : Int) (w : World) (R : Ending → World → Prop) : zagP_T u w R = vcFn Try.prog [] [] Try.f81 [Value.int IntKind.u64 u] w R := by kernel_rfl

set_option maxRecDepth 100000 in
theorem zagP_vc (u : Int) (w : World) (R : Ending → World → Prop) (h : zagP_T u w R) : Calls Try.prog 81 #[Value.int IntKind.u64 u] w R :=
  calls_of_vc (args := [Value.int IntKind.u64 u]) [] [] Try.mixed Try.func81 (cast (zagP_eq _ w R) h)


end Go.Proofs.Ytdclhgcgpcddlaa
