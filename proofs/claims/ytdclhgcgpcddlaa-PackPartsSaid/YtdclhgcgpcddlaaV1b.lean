/- The verification conditions of the functions, evaluated: printed by program. -/
import Derived.Test.YtdclhgcgpcddlaaBase
namespace Go.Proofs.Ytdclhgcgpcddlaa
open Go Go.Vc

set_option maxRecDepth 100000 in
def lawWidths_T (l_p : Option Addr) (l_n : Nat) (l_c : Nat) (n : Int) (w_ : Int) (w : World) (R : Ending → World → Prop) : Prop :=
  Calls Try.prog 22 #[] w fun (e1 : Ending) (w2 : World) ↦
 ∃ (b3 : Bool),
 e1 = Ending.returned (Value.bool b3) ∧
 Calls Try.prog 23 #[Value.int IntKind.i64 n, Value.int IntKind.i64 w_] w2 fun (e4 : Ending) (w5 : World) ↦
 ∃ (n6 : Int),
 ∃ (n7 : Int),
 e4 = Ending.returned (Value.tuple #[Value.int IntKind.i64 n6, Value.int IntKind.i64 n7]) ∧
 Calls Try.prog 24 #[Value.int IntKind.i64 n, Value.int IntKind.i64 w_] w5 fun (e8 : Ending) (w9 : World) ↦
 ∃ (n10 : Int),
 ∃ (n11 : Int),
 e8 = Ending.returned (Value.tuple #[Value.int IntKind.i64 n10, Value.int IntKind.i64 n11]) ∧
 (b3 = true →
 Calls Try.prog 25 #[Value.slice l_p l_n l_c] w9 fun (e13 : Ending) (w14 : World) ↦
 ∃ (n15 : Int),
 e13 = Ending.returned (Value.int IntKind.i64 n15) ∧
 Calls Try.prog 26 #[Value.slice l_p l_n l_c] w14 fun (e16 : Ending) (w17 : World) ↦
 ∃ (n18 : Int), e16 = Ending.returned (Value.int IntKind.i64 n18) ∧ R (Ending.returned (Value.bool (decide (n15 = n18) && decide (n6 = n10) && decide (n7 = n11)))) w17) ∧
 (b3 = false → R (Ending.returned (Value.bool false)) w9)

set_option maxRecDepth 100000 in
theorem lawWidths_eq (l_p : Option Addr) (l_n : Nat) (l_c : Nat) (n : Int) (w_ : Int) (w : World) (R : Ending → World → Prop) : lawWidths_T l_p l_n l_c n w_ w R = vcFn Try.prog [] [] Try.f3 [Value.slice l_p l_n l_c, Value.int IntKind.i64 n, Value.int IntKind.i64 w_] w R := by kernel_rfl

set_option maxRecDepth 100000 in
theorem lawWidths_vc (l_p : Option Addr) (l_n : Nat) (l_c : Nat) (n : Int) (w_ : Int) (w : World) (R : Ending → World → Prop) (h : lawWidths_T l_p l_n l_c n w_ w R) : Calls Try.prog 3 #[Value.slice l_p l_n l_c, Value.int IntKind.i64 n, Value.int IntKind.i64 w_] w R :=
  calls_of_vc (args := [Value.slice l_p l_n l_c, Value.int IntKind.i64 n, Value.int IntKind.i64 w_]) [] [] Try.mixed Try.func3 (cast (lawWidths_eq _ _ _ _ _ w R) h)

set_option maxRecDepth 100000 in
def lawWords_T (w_ : Int) (l_p : Option Addr) (l_n : Nat) (l_c : Nat) (w : World) (R : Ending → World → Prop) : Prop :=
  Calls Try.prog 22 #[] w fun (e1 : Ending) (w2 : World) ↦
 ∃ (b3 : Bool),
 e1 = Ending.returned (Value.bool b3) ∧
 Calls Try.prog 27 #[Value.int IntKind.i64 w_, Value.slice l_p l_n l_c] w2 fun (e4 : Ending) (w5 : World) ↦
 ∃ (p6 : Option Addr),
 ∃ (n7 : Nat),
 ∃ (c8 : Nat),
 ∃ (n9 : Int),
 e4 = Ending.returned (Value.tuple #[Value.slice p6 n7 c8, Value.int IntKind.i64 n9]) ∧
 Calls Try.prog 28 #[Value.int IntKind.i64 w_, Value.slice l_p l_n l_c] w5 fun (e10 : Ending) (w11 : World) ↦
 ∃ (p12 : Option Addr),
 ∃ (n13 : Nat),
 ∃ (c14 : Nat),
 ∃ (n15 : Int),
 e10 = Ending.returned (Value.tuple #[Value.slice p12 n13 c14, Value.int IntKind.i64 n15]) ∧
 (b3 = true →
 ∃ (l17 : List UInt8),
 BytesAt w11 p6 n7 l17 ∧
 ∃ (l18 : List UInt8),
 BytesAt w11 p12 n13 l18 ∧ R (Ending.returned (Value.bool (sEq (ByteArray.mk (Array.mk l17)) (ByteArray.mk (Array.mk l18)) && decide (n9 = n15)))) w11) ∧
 (b3 = false → R (Ending.returned (Value.bool false)) w11)

set_option maxRecDepth 100000 in
theorem lawWords_eq (w_ : Int) (l_p : Option Addr) (l_n : Nat) (l_c : Nat) (w : World) (R : Ending → World → Prop) : lawWords_T w_ l_p l_n l_c w R = vcFn Try.prog [] [] Try.f4 [Value.int IntKind.i64 w_, Value.slice l_p l_n l_c] w R := by kernel_rfl

set_option maxRecDepth 100000 in
theorem lawWords_vc (w_ : Int) (l_p : Option Addr) (l_n : Nat) (l_c : Nat) (w : World) (R : Ending → World → Prop) (h : lawWords_T w_ l_p l_n l_c w R) : Calls Try.prog 4 #[Value.int IntKind.i64 w_, Value.slice l_p l_n l_c] w R :=
  calls_of_vc (args := [Value.int IntKind.i64 w_, Value.slice l_p l_n l_c]) [] [] Try.mixed Try.func4 (cast (lawWords_eq _ _ _ _ w R) h)

set_option maxRecDepth 100000 in
def lawParts_T (w_ : Int) (a_p : Option Addr) (a_n : Nat) (a_c : Nat) (c_p : Option Addr) (c_n : Nat) (c_c : Nat) (w : World) (R : Ending → World → Prop) : Prop :=
  Calls Try.prog 22 #[] w fun (e1 : Ending) (w2 : World) ↦
 ∃ (b3 : Bool),
 e1 = Ending.returned (Value.bool b3) ∧
 ((((w_ < 0 ∨ 64 < w_) ∨ remI w_ 8 ≠ 0) ∨ 2000 < (↑a_n : Int)) ∨ 2000 < (↑c_n : Int) → R (Ending.returned (Value.bool b3)) w2) ∧
 ((((0 ≤ w_ ∧ w_ ≤ 64) ∧ remI w_ 8 = 0) ∧ (↑a_n : Int) ≤ 2000) ∧ (↑c_n : Int) ≤ 2000 →
 Calls Try.prog 27 #[Value.int IntKind.i64 w_, Value.slice a_p a_n a_c] w2 fun (e6 : Ending) (w7 : World) ↦
 ∃ (p8 : Option Addr),
 ∃ (n9 : Nat),
 ∃ (c10 : Nat),
 ∃ (n11 : Int),
 e6 = Ending.returned (Value.tuple #[Value.slice p8 n9 c10, Value.int IntKind.i64 n11]) ∧
 Calls Try.prog 27 #[Value.int IntKind.i64 w_, Value.slice c_p c_n c_c] w7 fun (e12 : Ending) (w13 : World) ↦
 ∃ (p14 : Option Addr),
 ∃ (n15 : Nat),
 ∃ (c16 : Nat),
 ∃ (n17 : Int),
 e12 = Ending.returned (Value.tuple #[Value.slice p14 n15 c16, Value.int IntKind.i64 n17]) ∧
 (0 : Int) ≤ 0 ∧
 0 ≤ IntKind.i64.wrap ((↑a_n : Int) + (↑c_n : Int)) ∧
 8 * IntKind.i64.wrap ((↑a_n : Int) + (↑c_n : Int)) ≤ 281474976710656 ∧
 IntKind.i64.wrap ((↑a_n : Int) + (↑c_n : Int)) ≤ 9223372036854775807 ∧
 ∀ (b18 : Nat) (w'19 : World),
 New w13 (Obj.cells (madeCells #[Value.int IntKind.u64 0] (IntKind.i64.wrap ((↑a_n : Int) + (↑c_n : Int))).toNat) 48) b18 w'19 →
 ∃ (p21 : Option Addr),
 ∃ (n22 : Nat),
 ∃ (c23 : Nat),
 ∃ (w'24 : World),
 Sem.run Try.prog
 (Builtin.append_ #[22, 22] 22 #[Value.slice (some (Addr.mk b18 0 none)) 0 (IntKind.i64.wrap ((↑a_n : Int) + (↑c_n : Int))).toNat, Value.slice a_p a_n a_c]) w'19 =
 Result.ok (Value.slice p21 n22 c23) w'24 ∧
 ∃ (p25 : Option Addr),
 ∃ (n26 : Nat),
 ∃ (c27 : Nat),
 ∃ (w'28 : World),
 Sem.run Try.prog (Builtin.append_ #[22, 22] 22 #[Value.slice p21 n22 c23, Value.slice c_p c_n c_c]) w'24 = Result.ok (Value.slice p25 n26 c27) w'28 ∧
 Calls Try.prog 27 #[Value.int IntKind.i64 w_, Value.slice p25 n26 c27] w'28 fun (e29 : Ending) (w30 : World) ↦
 ∃ (p31 : Option Addr),
 ∃ (n32 : Nat),
 ∃ (c33 : Nat),
 ∃ (n34 : Int),
 e29 = Ending.returned (Value.tuple #[Value.slice p31 n32 c33, Value.int IntKind.i64 n34]) ∧
 (n11 ≠ 0 ∨ n17 ≠ 0 → R (Ending.returned (Value.bool (b3 && decide (n34 = 2)))) w30) ∧
 (n11 = 0 ∧ n17 = 0 →
 (b3 = true ∧ n34 = 0 →
 ∃ (l38 : List UInt8),
 BytesAt w30 p31 n32 l38 ∧
 ∃ (l39 : List UInt8),
 BytesAt w30 p8 n9 l39 ∧
 ∃ (l40 : List UInt8),
 BytesAt w30 p14 n15 l40 ∧
 (ByteArray.mk (Array.mk l39)).size + (ByteArray.mk (Array.mk l40)).size ≤ 9223372036854775807 ∧
 R (Ending.returned (Value.bool (sEq (ByteArray.mk (Array.mk l38)) (ByteArray.instAppend.1 (ByteArray.mk (Array.mk l39)) (ByteArray.mk (Array.mk l40)))))) w30) ∧
 (b3 = false ∨ n34 ≠ 0 → R (Ending.returned (Value.bool false)) w30)))

set_option maxRecDepth 100000 in
theorem lawParts_eq (w_ : Int) (a_p : Option Addr) (a_n : Nat) (a_c : Nat) (c_p : Option Addr) (c_n : Nat) (c_c : Nat) (w : World) (R : Ending → World → Prop) : lawParts_T w_ a_p a_n a_c c_p c_n c_c w R = vcFn Try.prog [] [] Try.f5 [Value.int IntKind.i64 w_, Value.slice a_p a_n a_c, Value.slice c_p c_n c_c] w R := by kernel_rfl

set_option maxRecDepth 100000 in
theorem lawParts_vc (w_ : Int) (a_p : Option Addr) (a_n : Nat) (a_c : Nat) (c_p : Option Addr) (c_n : Nat) (c_c : Nat) (w : World) (R : Ending → World → Prop) (h : lawParts_T w_ a_p a_n a_c c_p c_n c_c w R) : Calls Try.prog 5 #[Value.int IntKind.i64 w_, Value.slice a_p a_n a_c, Value.slice c_p c_n c_c] w R :=
  calls_of_vc (args := [Value.int IntKind.i64 w_, Value.slice a_p a_n a_c, Value.slice c_p c_n c_c]) [] [] Try.mixed Try.func5 (cast (lawParts_eq _ _ _ _ _ _ _ w R) h)

set_option maxRecDepth 100000 in
def lawLeast_T (l_p : Option Addr) (l_n : Nat) (l_c : Nat) (w : World) (R : Ending → World → Prop) : Prop :=
  Calls Try.prog 22 #[] w fun (e1 : Ending) (w2 : World) ↦
 ∃ (b3 : Bool),
 e1 = Ending.returned (Value.bool b3) ∧
 (4000 < (↑l_n : Int) → R (Ending.returned (Value.bool b3)) w2) ∧
 ((↑l_n : Int) ≤ 4000 →
 Calls Try.prog 25 #[Value.slice l_p l_n l_c] w2 fun (e6 : Ending) (w7 : World) ↦
 ∃ (n8 : Int),
 e6 = Ending.returned (Value.int IntKind.i64 n8) ∧
 Calls Try.prog 27 #[Value.int IntKind.i64 n8, Value.slice l_p l_n l_c] w7 fun (e9 : Ending) (w10 : World) ↦
 ∃ (p11 : Option Addr),
 ∃ (n12 : Nat),
 ∃ (c13 : Nat),
 ∃ (n14 : Int),
 e9 = Ending.returned (Value.tuple #[Value.slice p11 n12 c13, Value.int IntKind.i64 n14]) ∧
 ((n8 < 0 ∨ 64 < n8) ∨ n14 ≠ 0 → R (Ending.returned (Value.bool false)) w10) ∧
 ((0 ≤ n8 ∧ n8 ≤ 64) ∧ n14 = 0 →
 Calls Try.prog 27 #[Value.int IntKind.i64 (IntKind.i64.wrap (n8 - 1)), Value.slice l_p l_n l_c] w10 fun (e17 : Ending) (w18 : World) ↦
 ∃ (p19 : Option Addr),
 ∃ (n20 : Nat),
 ∃ (c21 : Nat),
 ∃ (n22 : Int), e17 = Ending.returned (Value.tuple #[Value.slice p19 n20 c21, Value.int IntKind.i64 n22]) ∧ R (Ending.returned (Value.bool (b3 && decide (n22 = 2)))) w18))

set_option maxRecDepth 100000 in
theorem lawLeast_eq (l_p : Option Addr) (l_n : Nat) (l_c : Nat) (w : World) (R : Ending → World → Prop) : lawLeast_T l_p l_n l_c w R = vcFn Try.prog [] [] Try.f6 [Value.slice l_p l_n l_c] w R := by kernel_rfl

set_option maxRecDepth 100000 in
theorem lawLeast_vc (l_p : Option Addr) (l_n : Nat) (l_c : Nat) (w : World) (R : Ending → World → Prop) (h : lawLeast_T l_p l_n l_c w R) : Calls Try.prog 6 #[Value.slice l_p l_n l_c] w R :=
  calls_of_vc (args := [Value.slice l_p l_n l_c]) [] [] Try.mixed Try.func6 (cast (lawLeast_eq _ _ _ w R) h)

set_option maxRecDepth 100000 in
def lawReads_T (b_p : Option Addr) (b_n : Nat) (b_c : Nat) (n : Int) (w_ : Int) (w : World) (R : Ending → World → Prop) : Prop :=
  Calls Try.prog 22 #[] w fun (e1 : Ending) (w2 : World) ↦
 ∃ (b3 : Bool),
 e1 = Ending.returned (Value.bool b3) ∧
 Calls Try.prog 29 #[Value.slice b_p b_n b_c, Value.int IntKind.i64 n, Value.int IntKind.i64 w_] w2 fun (e4 : Ending) (w5 : World) ↦
 ∃ (p6 : Option Addr),
 ∃ (n7 : Nat),
 ∃ (c8 : Nat),
 ∃ (n9 : Int),
 e4 = Ending.returned (Value.tuple #[Value.slice p6 n7 c8, Value.int IntKind.i64 n9]) ∧
 Calls Try.prog 30 #[Value.slice b_p b_n b_c, Value.int IntKind.i64 n, Value.int IntKind.i64 w_] w5 fun (e10 : Ending) (w11 : World) ↦
 ∃ (p12 : Option Addr),
 ∃ (n13 : Nat),
 ∃ (c14 : Nat),
 ∃ (n15 : Int),
 e10 = Ending.returned (Value.tuple #[Value.slice p12 n13 c14, Value.int IntKind.i64 n15]) ∧
 (b3 = true →
 Calls Try.prog 31 #[Value.slice p6 n7 c8, Value.slice p12 n13 c14] w11 fun (e17 : Ending) (w18 : World) ↦
 ∃ (b19 : Bool), e17 = Ending.returned (Value.bool b19) ∧ R (Ending.returned (Value.bool (b19 && decide (n9 = n15)))) w18) ∧
 (b3 = false → R (Ending.returned (Value.bool false)) w11)

set_option maxRecDepth 100000 in
theorem lawReads_eq (b_p : Option Addr) (b_n : Nat) (b_c : Nat) (n : Int) (w_ : Int) (w : World) (R : Ending → World → Prop) : lawReads_T b_p b_n b_c n w_ w R = vcFn Try.prog [] [] Try.f7 [Value.slice b_p b_n b_c, Value.int IntKind.i64 n, Value.int IntKind.i64 w_] w R := by kernel_rfl

set_option maxRecDepth 100000 in
theorem lawReads_vc (b_p : Option Addr) (b_n : Nat) (b_c : Nat) (n : Int) (w_ : Int) (w : World) (R : Ending → World → Prop) (h : lawReads_T b_p b_n b_c n w_ w R) : Calls Try.prog 7 #[Value.slice b_p b_n b_c, Value.int IntKind.i64 n, Value.int IntKind.i64 w_] w R :=
  calls_of_vc (args := [Value.slice b_p b_n b_c, Value.int IntKind.i64 n, Value.int IntKind.i64 w_]) [] [] Try.mixed Try.func7 (cast (lawReads_eq _ _ _ _ _ w R) h)

set_option maxRecDepth 100000 in
def lawBack_T (w_ : Int) (l_p : Option Addr) (l_n : Nat) (l_c : Nat) (b_p : Option Addr) (b_n : Nat) (b_c : Nat) (n : Int) (w : World) (R : Ending → World → Prop) : Prop :=
  Calls Try.prog 22 #[] w fun (e1 : Ending) (w2 : World) ↦
 ∃ (b3 : Bool),
 e1 = Ending.returned (Value.bool b3) ∧
 Calls Try.prog 27 #[Value.int IntKind.i64 w_, Value.slice l_p l_n l_c] w2 fun (e4 : Ending) (w5 : World) ↦
 ∃ (p6 : Option Addr),
 ∃ (n7 : Nat),
 ∃ (c8 : Nat),
 ∃ (n9 : Int),
 e4 = Ending.returned (Value.tuple #[Value.slice p6 n7 c8, Value.int IntKind.i64 n9]) ∧
 (n9 = 0 →
 Calls Try.prog 29 #[Value.slice p6 n7 c8, Value.int IntKind.i64 (↑l_n : Int), Value.int IntKind.i64 w_] w5 fun (e11 : Ending) (w12 : World) ↦
 ∃ (p13 : Option Addr),
 ∃ (n14 : Nat),
 ∃ (c15 : Nat),
 ∃ (n16 : Int),
 e11 = Ending.returned (Value.tuple #[Value.slice p13 n14 c15, Value.int IntKind.i64 n16]) ∧
 (n16 ≠ 0 → R (Ending.returned (Value.bool false)) w12) ∧
 (n16 = 0 →
 Calls Try.prog 31 #[Value.slice p13 n14 c15, Value.slice l_p l_n l_c] w12 fun (e19 : Ending) (w20 : World) ↦
 ∃ (b21 : Bool),
 e19 = Ending.returned (Value.bool b21) ∧
 (b21 = false → R (Ending.returned (Value.bool false)) w20) ∧
 (b21 = true →
 Calls Try.prog 29 #[Value.slice b_p b_n b_c, Value.int IntKind.i64 n, Value.int IntKind.i64 w_] w20 fun (e24 : Ending) (w25 : World) ↦
 ∃ (p26 : Option Addr),
 ∃ (n27 : Nat),
 ∃ (c28 : Nat),
 ∃ (n29 : Int),
 e24 = Ending.returned (Value.tuple #[Value.slice p26 n27 c28, Value.int IntKind.i64 n29]) ∧
 (n29 ≠ 0 → R (Ending.returned (Value.bool (b3 && decide ((↑n27 : Int) = 0)))) w25) ∧
 (n29 = 0 →
 Calls Try.prog 27 #[Value.int IntKind.i64 w_, Value.slice p26 n27 c28] w25 fun (e32 : Ending) (w33 : World) ↦
 ∃ (p34 : Option Addr),
 ∃ (n35 : Nat),
 ∃ (c36 : Nat),
 ∃ (n37 : Int),
 e32 = Ending.returned (Value.tuple #[Value.slice p34 n35 c36, Value.int IntKind.i64 n37]) ∧
 ((b3 = true ∧ (↑n27 : Int) = n) ∧ n37 = 0 →
 ∃ (l39 : List UInt8),
 BytesAt w33 p34 n35 l39 ∧
 ∃ (l40 : List UInt8), BytesAt w33 b_p b_n l40 ∧ R (Ending.returned (Value.bool (sEq (ByteArray.mk (Array.mk l39)) (ByteArray.mk (Array.mk l40))))) w33) ∧
 ((b3 = false ∨ (↑n27 : Int) ≠ n) ∨ n37 ≠ 0 → R (Ending.returned (Value.bool false)) w33))))) ∧
 (n9 ≠ 0 →
 Calls Try.prog 29 #[Value.slice b_p b_n b_c, Value.int IntKind.i64 n, Value.int IntKind.i64 w_] w5 fun (e43 : Ending) (w44 : World) ↦
 ∃ (p45 : Option Addr),
 ∃ (n46 : Nat),
 ∃ (c47 : Nat),
 ∃ (n48 : Int),
 e43 = Ending.returned (Value.tuple #[Value.slice p45 n46 c47, Value.int IntKind.i64 n48]) ∧
 (n48 ≠ 0 → R (Ending.returned (Value.bool (b3 && decide ((↑n46 : Int) = 0)))) w44) ∧
 (n48 = 0 →
 Calls Try.prog 27 #[Value.int IntKind.i64 w_, Value.slice p45 n46 c47] w44 fun (e51 : Ending) (w52 : World) ↦
 ∃ (p53 : Option Addr),
 ∃ (n54 : Nat),
 ∃ (c55 : Nat),
 ∃ (n56 : Int),
 e51 = Ending.returned (Value.tuple #[Value.slice p53 n54 c55, Value.int IntKind.i64 n56]) ∧
 ((b3 = true ∧ (↑n46 : Int) = n) ∧ n56 = 0 →
 ∃ (l58 : List UInt8),
 BytesAt w52 p53 n54 l58 ∧
 ∃ (l59 : List UInt8), BytesAt w52 b_p b_n l59 ∧ R (Ending.returned (Value.bool (sEq (ByteArray.mk (Array.mk l58)) (ByteArray.mk (Array.mk l59))))) w52) ∧
 ((b3 = false ∨ (↑n46 : Int) ≠ n) ∨ n56 ≠ 0 → R (Ending.returned (Value.bool false)) w52)))

set_option maxRecDepth 100000 in
theorem lawBack_eq (w_ : Int) (l_p : Option Addr) (l_n : Nat) (l_c : Nat) (b_p : Option Addr) (b_n : Nat) (b_c : Nat) (n : Int) (w : World) (R : Ending → World → Prop) : lawBack_T w_ l_p l_n l_c b_p b_n b_c n w R = vcFn Try.prog [] [] Try.f8 [Value.int IntKind.i64 w_, Value.slice l_p l_n l_c, Value.slice b_p b_n b_c, Value.int IntKind.i64 n] w R := by kernel_rfl

set_option maxRecDepth 100000 in
theorem lawBack_vc (w_ : Int) (l_p : Option Addr) (l_n : Nat) (l_c : Nat) (b_p : Option Addr) (b_n : Nat) (b_c : Nat) (n : Int) (w : World) (R : Ending → World → Prop) (h : lawBack_T w_ l_p l_n l_c b_p b_n b_c n w R) : Calls Try.prog 8 #[Value.int IntKind.i64 w_, Value.slice l_p l_n l_c, Value.slice b_p b_n b_c, Value.int IntKind.i64 n] w R :=
  calls_of_vc (args := [Value.int IntKind.i64 w_, Value.slice l_p l_n l_c, Value.slice b_p b_n b_c, Value.int IntKind.i64 n]) [] [] Try.mixed Try.func8 (cast (lawBack_eq _ _ _ _ _ _ _ _ w R) h)


end Go.Proofs.Ytdclhgcgpcddlaa
