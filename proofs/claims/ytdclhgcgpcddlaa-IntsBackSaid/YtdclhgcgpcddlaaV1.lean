/- The verification conditions of the functions, evaluated: printed by program. -/
import Derived.Test.YtdclhgcgpcddlaaBase
namespace Go.Proofs.Ytdclhgcgpcddlaa
open Go Go.Vc

set_option maxRecDepth 100000 in
def shown1_T (w : World) (R : Ending → World → Prop) : Prop :=
  ∀ (b1 : Nat) (w'2 : World),
 New w (Obj.cells #[Value.int IntKind.u64 5, Value.int IntKind.u64 2, Value.int IntKind.u64 7] 48) b1 w'2 →
 Calls Try.prog 27 #[Value.int IntKind.i64 3, Value.slice (some (Addr.mk b1 0 none)) 3 3] w'2 fun (e4 : Ending) (w5 : World) ↦
 ∃ (p6 : Option Addr),
 ∃ (n7 : Nat),
 ∃ (c8 : Nat),
 ∃ (n9 : Int),
 e4 = Ending.returned (Value.tuple #[Value.slice p6 n7 c8, Value.int IntKind.i64 n9]) ∧
 (n9 = 0 →
 ∃ (l11 : List UInt8),
 BytesAt w5 p6 n7 l11 ∧
 (ByteArray.mk (Array.mk l11) = ByteArray.mk #[213, 1] →
 ∀ (b13 : Nat) (w'14 : World),
 New w5 (Obj.cells #[Value.int IntKind.u64 5, Value.int IntKind.u64 2] 48) b13 w'14 →
 Calls Try.prog 25 #[Value.slice (some (Addr.mk b13 0 none)) 2 2] w'14 fun (e16 : Ending) (w17 : World) ↦
 ∃ (n18 : Int), e16 = Ending.returned (Value.int IntKind.i64 n18) ∧ R (Ending.returned (Value.bool (decide (n18 = 3)))) w17) ∧
 (ByteArray.mk (Array.mk l11) ≠ ByteArray.mk #[213, 1] → R (Ending.returned (Value.bool false)) w5)) ∧
 (n9 ≠ 0 → R (Ending.returned (Value.bool false)) w5)

set_option maxRecDepth 100000 in
theorem shown1_eq (w : World) (R : Ending → World → Prop) : shown1_T w R = vcFn Try.prog [] [] Try.f22 [] w R := by kernel_rfl

set_option maxRecDepth 100000 in
theorem shown1_vc (w : World) (R : Ending → World → Prop) (h : shown1_T w R) : Calls Try.prog 22 #[] w R :=
  calls_of_vc (args := []) [] [] Try.mixed Try.func22 (cast (shown1_eq w R) h)

set_option maxRecDepth 100000 in
def size_T (n : Int) (w_ : Int) (w : World) (R : Ending → World → Prop) : Prop :=
  (((n < 0 ∨ 4096 < n) ∨ w_ < 0) ∨ 64 < w_ → R (Ending.returned (Value.tuple #[Value.int IntKind.i64 0, Value.int IntKind.i64 2])) w) ∧
 (((0 ≤ n ∧ n ≤ 4096) ∧ 0 ≤ w_) ∧ w_ ≤ 64 →
 R (Ending.returned (Value.tuple #[Value.int IntKind.i64 (quoI IntKind.i64 (IntKind.i64.wrap (IntKind.i64.wrap (n * w_) + 7)) 8), Value.int IntKind.i64 0])) w)

set_option maxRecDepth 100000 in
theorem size_eq (n : Int) (w_ : Int) (w : World) (R : Ending → World → Prop) : size_T n w_ w R = vcFn Try.prog [] [] Try.f23 [Value.int IntKind.i64 n, Value.int IntKind.i64 w_] w R := by kernel_rfl

set_option maxRecDepth 100000 in
theorem size_vc (n : Int) (w_ : Int) (w : World) (R : Ending → World → Prop) (h : size_T n w_ w R) : Calls Try.prog 23 #[Value.int IntKind.i64 n, Value.int IntKind.i64 w_] w R :=
  calls_of_vc (args := [Value.int IntKind.i64 n, Value.int IntKind.i64 w_]) [] [] Try.mixed Try.func23 (cast (size_eq _ _ w R) h)

set_option maxRecDepth 100000 in
def rsize_T (n : Int) (w_ : Int) (w : World) (R : Ending → World → Prop) : Prop :=
  Calls Try.prog 55 #[Value.int IntKind.i64 w_] w fun (e1 : Ending) (w2 : World) ↦
 ∃ (b3 : Bool),
 e1 = Ending.returned (Value.bool b3) ∧
 ((b3 = false ∨ n < 0) ∨ 4096 < n → R (Ending.returned (Value.tuple #[Value.int IntKind.i64 0, Value.int IntKind.i64 2])) w2) ∧
 ((b3 = true ∧ 0 ≤ n) ∧ n ≤ 4096 →
 R (Ending.returned (Value.tuple #[Value.int IntKind.i64 (quoI IntKind.i64 (IntKind.i64.wrap (IntKind.i64.wrap (n * w_) + 7)) 8), Value.int IntKind.i64 0])) w2)

set_option maxRecDepth 100000 in
theorem rsize_eq (n : Int) (w_ : Int) (w : World) (R : Ending → World → Prop) : rsize_T n w_ w R = vcFn Try.prog [] [] Try.f24 [Value.int IntKind.i64 n, Value.int IntKind.i64 w_] w R := by kernel_rfl

set_option maxRecDepth 100000 in
theorem rsize_vc (n : Int) (w_ : Int) (w : World) (R : Ending → World → Prop) (h : rsize_T n w_ w R) : Calls Try.prog 24 #[Value.int IntKind.i64 n, Value.int IntKind.i64 w_] w R :=
  calls_of_vc (args := [Value.int IntKind.i64 n, Value.int IntKind.i64 w_]) [] [] Try.mixed Try.func24 (cast (rsize_eq _ _ w R) h)

set_option maxRecDepth 100000 in
def width_T (l_p : Option Addr) (l_n : Nat) (l_c : Nat) (w : World) (R : Ending → World → Prop) : Prop :=
  ∃ (I1 : Int → Int → World → Prop),
 ∃ (M2 : Int → Int → World → Nat),
 I1 0 0 w ∧
 ∀ (n3 n4 : Int) (w'5 : World),
 I1 n3 n4 w'5 →
 (n4 < (↑l_n : Int) →
 ∃ (b8 : Nat),
 ∃ (o9 : Nat),
 l_p = some (Addr.mk b8 o9 none) ∧
 0 ≤ n4 ∧
 n4 < (↑l_n : Int) ∧
 ∃ (n10 : Int),
 w'5.cell? (Addr.mk b8 (o9 + n4.toNat) none) = some (Value.int IntKind.u64 n10) ∧
 I1 (bits BinOp.or IntKind.u64 n3 n10) (IntKind.i64.wrap (n4 + 1)) w'5 ∧ M2 (bits BinOp.or IntKind.u64 n3 n10) (IntKind.i64.wrap (n4 + 1)) w'5 < M2 n3 n4 w'5) ∧
 ((↑l_n : Int) ≤ n4 →
 Calls Try.prog 56 #[Value.int IntKind.u64 n3] w'5 fun (e12 : Ending) (w13 : World) ↦
 ∃ (n14 : Int), e12 = Ending.returned (Value.int IntKind.i64 n14) ∧ R (Ending.returned (Value.int IntKind.i64 n14)) w13)

set_option maxRecDepth 100000 in
theorem width_eq (l_p : Option Addr) (l_n : Nat) (l_c : Nat) (w : World) (R : Ending → World → Prop) : width_T l_p l_n l_c w R = vcFn Try.prog [] [] Try.f25 [Value.slice l_p l_n l_c] w R := by kernel_rfl

set_option maxRecDepth 100000 in
theorem width_vc (l_p : Option Addr) (l_n : Nat) (l_c : Nat) (w : World) (R : Ending → World → Prop) (h : width_T l_p l_n l_c w R) : Calls Try.prog 25 #[Value.slice l_p l_n l_c] w R :=
  calls_of_vc (args := [Value.slice l_p l_n l_c]) [] [] Try.mixed Try.func25 (cast (width_eq _ _ _ w R) h)

set_option maxRecDepth 100000 in
def rwidth_T (l_p : Option Addr) (l_n : Nat) (l_c : Nat) (w : World) (R : Ending → World → Prop) : Prop :=
  ∃ (I1 : Int → Int → World → Prop),
 ∃ (M2 : Int → Int → World → Nat),
 I1 0 0 w ∧
 ∀ (n3 n4 : Int) (w'5 : World),
 I1 n3 n4 w'5 →
 (n4 < (↑l_n : Int) →
 ∃ (b8 : Nat),
 ∃ (o9 : Nat),
 l_p = some (Addr.mk b8 o9 none) ∧
 0 ≤ n4 ∧
 n4 < (↑l_n : Int) ∧
 ∃ (n10 : Int),
 w'5.cell? (Addr.mk b8 (o9 + n4.toNat) none) = some (Value.int IntKind.u64 n10) ∧
 Calls Try.prog 57 #[Value.int IntKind.u64 n10, Value.int IntKind.i64 n3] w'5 fun (e11 : Ending) (w12 : World) ↦
 ∃ (b13 : Bool),
 e11 = Ending.returned (Value.bool b13) ∧
 ∃ (I14 : Int → Bool → World → Prop),
 ∃ (M15 : Int → Bool → World → Nat),
 I14 n3 b13 w12 ∧
 ∀ (n16 : Int) (b17 : Bool) (w'18 : World),
 I14 n16 b17 w'18 →
 (b17 = false →
 ∃ (b21 : Nat),
 ∃ (o22 : Nat),
 l_p = some (Addr.mk b21 o22 none) ∧
 0 ≤ n4 ∧
 n4 < (↑l_n : Int) ∧
 ∃ (n23 : Int),
 w'18.cell? (Addr.mk b21 (o22 + n4.toNat) none) = some (Value.int IntKind.u64 n23) ∧
 Calls Try.prog 57 #[Value.int IntKind.u64 n23, Value.int IntKind.i64 (IntKind.i64.wrap (n16 + 1))] w'18 fun (e24 : Ending) (w25 : World) ↦
 ∃ (b26 : Bool), e24 = Ending.returned (Value.bool b26) ∧ I14 (IntKind.i64.wrap (n16 + 1)) b26 w25 ∧ M15 (IntKind.i64.wrap (n16 + 1)) b26 w25 < M15 n16 b17 w'18) ∧
 (b17 = true → I1 n16 (IntKind.i64.wrap (n4 + 1)) w'18 ∧ M2 n16 (IntKind.i64.wrap (n4 + 1)) w'18 < M2 n3 n4 w'5)) ∧
 ((↑l_n : Int) ≤ n4 → R (Ending.returned (Value.int IntKind.i64 n3)) w'5)

set_option maxRecDepth 100000 in
theorem rwidth_eq (l_p : Option Addr) (l_n : Nat) (l_c : Nat) (w : World) (R : Ending → World → Prop) : rwidth_T l_p l_n l_c w R = vcFn Try.prog [] [] Try.f26 [Value.slice l_p l_n l_c] w R := by kernel_rfl

set_option maxRecDepth 100000 in
theorem rwidth_vc (l_p : Option Addr) (l_n : Nat) (l_c : Nat) (w : World) (R : Ending → World → Prop) (h : rwidth_T l_p l_n l_c w R) : Calls Try.prog 26 #[Value.slice l_p l_n l_c] w R :=
  calls_of_vc (args := [Value.slice l_p l_n l_c]) [] [] Try.mixed Try.func26 (cast (rwidth_eq _ _ _ w R) h)

set_option maxRecDepth 100000 in
def pack_T (w_ : Int) (l_p : Option Addr) (l_n : Nat) (l_c : Nat) (w : World) (R : Ending → World → Prop) : Prop :=
  ∀ (b1 : Nat) (w'2 : World),
 New w (Obj.cells #[Value.int IntKind.i64 w_] 3) b1 w'2 →
 ∀ (b4 : Nat) (w'5 : World),
 New w'2 (Obj.cells #[Value.slice l_p l_n l_c] 22) b4 w'5 →
 ∃ (p7 : Option Addr),
 ∃ (n8 : Nat),
 ∃ (c9 : Nat),
 w'5.cell? (Addr.mk b4 0 none) = some (Value.slice p7 n8 c9) ∧
 ∃ (n10 : Int),
 w'5.cell? (Addr.mk b1 0 none) = some (Value.int IntKind.i64 n10) ∧
 Calls Try.prog 23 #[Value.int IntKind.i64 (↑n8 : Int), Value.int IntKind.i64 n10] w'5 fun (e11 : Ending) (w12 : World) ↦
 ∃ (n13 : Int),
 ∃ (n14 : Int),
 e11 = Ending.returned (Value.tuple #[Value.int IntKind.i64 n13, Value.int IntKind.i64 n14]) ∧
 ∀ (w'15 : World),
 Drew w12 w'15 →
 (n14 ≠ 0 → Same w'15 w'15 ∧ R (Ending.returned (Value.tuple #[Value.slice none 0 0, Value.int IntKind.i64 2])) w'15) ∧
 (n14 = 0 →
 ∃ (p19 : Option Addr),
 ∃ (n20 : Nat),
 ∃ (c21 : Nat),
 w'15.cell? (Addr.mk b4 0 none) = some (Value.slice p19 n20 c21) ∧
 ∃ (n22 : Int),
 w'15.cell? (Addr.mk b1 0 none) = some (Value.int IntKind.i64 n22) ∧
 Calls Try.prog 25 #[Value.slice p19 n20 c21] w'15 fun (e23 : Ending) (w24 : World) ↦
 ∃ (n25 : Int),
 e23 = Ending.returned (Value.int IntKind.i64 n25) ∧
 Same w'15 w24 ∧
 (n22 < n25 → R (Ending.returned (Value.tuple #[Value.slice none 0 0, Value.int IntKind.i64 2])) w24) ∧
 (n25 ≤ n22 →
 0 ≤ n13 ∧
 n13 ≤ n13 ∧
 1 * n13 ≤ 281474976710656 ∧
 n13 ≤ 9223372036854775807 ∧
 ∀ (b28 : Nat) (w'29 : World),
 New w24 (Obj.cells (madeCells #[Value.int IntKind.u8 0] n13.toNat) 5) b28 w'29 →
 ∀ (b31 : Nat) (w'32 : World),
 New w'29 (Obj.cells #[Value.slice none 0 0] 30) b31 w'32 →
 (∃ (u34 : Value), w'32.cell? (Addr.mk b31 0 none) = some u34) ∧
 w'32.frozen? (Addr.mk b31 0 none) = false ∧
 ∀ (w'35 : World),
 Put w'32 b31 0 [Value.slice (some (Addr.mk b28 0 none)) n13.toNat n13.toNat] w'35 →
 ∃ (p37 : Option Addr),
 ∃ (n38 : Nat),
 ∃ (c39 : Nat),
 w'35.cell? (Addr.mk b4 0 none) = some (Value.slice p37 n38 c39) ∧
 ∃ (n40 : Int),
 w'35.cell? (Addr.mk b1 0 none) = some (Value.int IntKind.i64 n40) ∧
 Calls Try.prog 58 #[Value.int IntKind.i64 (↑n38 : Int), Value.int IntKind.i64 n40] w'35 fun (e41 : Ending) (w42 : World) ↦
 ∃ (v43 : Value),
 e41 = Ending.returned v43 ∧
 ∃ (g44 : FuncId),
 ∃ (lb45 : Array Value),
 v43 = Value.func (Fn.func g44) #[] lb45 ∧
 enterable Try.prog g44 = true ∧
 ∀ (r46 : Nat → Loop) (d47 l48 : Nat) (w149 : World),
 Began w42 r46 d47 l48 w149 →
 (∀ (n51 n52 : Int) (W53 : World) (R54 : Bool → World → Prop),
 Rec r46 l48 0 W53 →
 (Rec r46 l48 0 W53 ∧
 ∀ (Wb56 : World),
 Wb56 = turn r46 l48 1 W53 →
 ∃ (n58 : Int),
 Wb56.cell? (Addr.mk b1 0 none) = some (Value.int IntKind.i64 n58) ∧
 ∀ (w'59 : World),
 Drew Wb56 w'59 →
 ∃ (p61 : Option Addr),
 ∃ (n62 : Nat),
 ∃ (c63 : Nat),
 w'59.cell? (Addr.mk b31 0 none) = some (Value.slice p61 n62 c63) ∧
 ∃ (b64 : Nat),
 ∃ (o65 : Nat),
 p61 = some (Addr.mk b64 o65 none) ∧
 0 ≤ shrI IntKind.i64 (IntKind.i64.wrap (IntKind.i64.wrap (n51 * n58) + n52)) 3 ∧
 shrI IntKind.i64 (IntKind.i64.wrap (IntKind.i64.wrap (n51 * n58) + n52)) 3 < (↑n62 : Int) ∧
 ∃ (n66 : Int),
 w'59.cell? (Addr.mk b64 (o65 + (shrI IntKind.i64 (IntKind.i64.wrap (IntKind.i64.wrap (n51 * n58) + n52)) 3).toNat) none) = some (Value.int IntKind.u8 n66) ∧
 ∃ (p67 : Option Addr),
 ∃ (n68 : Nat),
 ∃ (c69 : Nat),
 w'59.cell? (Addr.mk b4 0 none) = some (Value.slice p67 n68 c69) ∧
 ∃ (b70 : Nat),
 ∃ (o71 : Nat),
 p67 = some (Addr.mk b70 o71 none) ∧
 0 ≤ n51 ∧
 n51 < (↑n68 : Int) ∧
 ∃ (n72 : Int),
 w'59.cell? (Addr.mk b70 (o71 + n51.toNat) none) = some (Value.int IntKind.u64 n72) ∧
 0 ≤ n52 ∧
 0 ≤ bits BinOp.and IntKind.i64 (IntKind.i64.wrap (IntKind.i64.wrap (n51 * n58) + n52)) 7 ∧
 ∃ (b73 : Nat),
 ∃ (o74 : Nat),
 p61 = some (Addr.mk b73 o74 none) ∧
 0 ≤ shrI IntKind.i64 (IntKind.i64.wrap (IntKind.i64.wrap (n51 * n58) + n52)) 3 ∧
 shrI IntKind.i64 (IntKind.i64.wrap (IntKind.i64.wrap (n51 * n58) + n52)) 3 < (↑n62 : Int) ∧
 (∃ (u75 : Value), w'59.cell? (Addr.mk b73 (o74 + (shrI IntKind.i64 (IntKind.i64.wrap (IntKind.i64.wrap (n51 * n58) + n52)) 3).toNat) none) = some u75) ∧
 w'59.frozen? (Addr.mk b73 (o74 + (shrI IntKind.i64 (IntKind.i64.wrap (IntKind.i64.wrap (n51 * n58) + n52)) 3).toNat) none) = false ∧
 ∀ (w'76 : World),
 Put w'59 b73 (o74 + (shrI IntKind.i64 (IntKind.i64.wrap (IntKind.i64.wrap (n51 * n58) + n52)) 3).toNat)
 [Value.int IntKind.u8
 (bits BinOp.or IntKind.u8 n66
 (shlI IntKind.u8 (IntKind.u8.wrap (bits BinOp.and IntKind.u64 (shrI IntKind.u64 n72 n52.toNat) 1))
 (bits BinOp.and IntKind.i64 (IntKind.i64.wrap (IntKind.i64.wrap (n51 * n58) + n52)) 7).toNat))]
 w'76 →
 Rec r46 l48 1 w'76 ∧ R54 true (turn r46 l48 0 w'76)) →
 Yield Try.prog l48 #[Value.int IntKind.i64 n51, Value.int IntKind.i64 n52] W53 fun (b79 : Bool) (w80 : World) ↦ R54 b79 w80) →
 Calls Try.prog g44 (Value.func (Fn.yield l48) #[] #[] :: lb45.1).toArray w149 fun (e82 : Ending) (w83 : World) ↦
 (∃ (v84 : Value), e82 = Ending.returned v84) ∧
 ((Rec r46 l48 0 w83 ∧
 ∃ (p85 : Option Addr),
 ∃ (n86 : Nat),
 ∃ (c87 : Nat),
 (turn r46 l48 2 w83).cell? (Addr.mk b31 0 none) = some (Value.slice p85 n86 c87) ∧
 (turn r46 l48 2 w83).heap[d47]? = some (Obj.deferred (some [])) ∧
 R (Ending.returned (Value.tuple #[Value.slice p85 n86 c87, Value.int IntKind.i64 0])) ((turn r46 l48 2 w83).putObj d47 (Obj.deferred none))) ∨
 False)))

set_option maxRecDepth 100000 in
theorem pack_eq (w_ : Int) (l_p : Option Addr) (l_n : Nat) (l_c : Nat) (w : World) (R : Ending → World → Prop) : pack_T w_ l_p l_n l_c w R = vcFn Try.prog [] [(2, [0, 2, 4, 6, 10, 9, 12, 14]), (9, [0, 2, 4, 6, 8, 10, 12, 14, 16, 18, 20, 22, 24, 26, 28, 30, 32, 34, 36])] Try.f27 [Value.int IntKind.i64 w_, Value.slice l_p l_n l_c] w R := by kernel_rfl

set_option maxRecDepth 100000 in
theorem pack_vc (w_ : Int) (l_p : Option Addr) (l_n : Nat) (l_c : Nat) (w : World) (R : Ending → World → Prop) (h : pack_T w_ l_p l_n l_c w R) : Calls Try.prog 27 #[Value.int IntKind.i64 w_, Value.slice l_p l_n l_c] w R :=
  calls_of_vc (args := [Value.int IntKind.i64 w_, Value.slice l_p l_n l_c]) [] [(2, [0, 2, 4, 6, 10, 9, 12, 14]), (9, [0, 2, 4, 6, 8, 10, 12, 14, 16, 18, 20, 22, 24, 26, 28, 30, 32, 34, 36])] Try.mixed Try.func27 (cast (pack_eq _ _ _ _ w R) h)

set_option maxRecDepth 100000 in
def rpack_T (w_ : Int) (l_p : Option Addr) (l_n : Nat) (l_c : Nat) (w : World) (R : Ending → World → Prop) : Prop :=
  Calls Try.prog 24 #[Value.int IntKind.i64 (↑l_n : Int), Value.int IntKind.i64 w_] w fun (e1 : Ending) (w2 : World) ↦
 ∃ (n3 : Int),
 ∃ (n4 : Int),
 e1 = Ending.returned (Value.tuple #[Value.int IntKind.i64 n3, Value.int IntKind.i64 n4]) ∧
 (n4 ≠ 0 → R (Ending.returned (Value.tuple #[Value.slice none 0 0, Value.int IntKind.i64 n4])) w2) ∧
 (n4 = 0 →
 0 ≤ n3 ∧
 n3 ≤ n3 ∧
 1 * n3 ≤ 281474976710656 ∧
 n3 ≤ 9223372036854775807 ∧
 ∀ (b7 : Nat) (w'8 : World),
 New w2 (Obj.cells (madeCells #[Value.int IntKind.u8 0] n3.toNat) 5) b7 w'8 →
 ∃ (I10 : Int → World → Prop),
 ∃ (M11 : Int → World → Nat),
 I10 0 w'8 ∧
 ∀ (n12 : Int) (w'13 : World),
 I10 n12 w'13 →
 (n12 < (↑l_n : Int) →
 ∃ (b16 : Nat),
 ∃ (o17 : Nat),
 l_p = some (Addr.mk b16 o17 none) ∧
 0 ≤ n12 ∧
 n12 < (↑l_n : Int) ∧
 ∃ (n18 : Int),
 w'13.cell? (Addr.mk b16 (o17 + n12.toNat) none) = some (Value.int IntKind.u64 n18) ∧
 Calls Try.prog 57 #[Value.int IntKind.u64 n18, Value.int IntKind.i64 w_] w'13 fun (e19 : Ending) (w20 : World) ↦
 ∃ (b21 : Bool),
 e19 = Ending.returned (Value.bool b21) ∧
 (b21 = false → R (Ending.returned (Value.tuple #[Value.slice none 0 0, Value.int IntKind.i64 2])) w20) ∧
 (b21 = true →
 ∃ (b24 : Nat),
 ∃ (o25 : Nat),
 l_p = some (Addr.mk b24 o25 none) ∧
 0 ≤ n12 ∧
 n12 < (↑l_n : Int) ∧
 ∃ (n26 : Int),
 w20.cell? (Addr.mk b24 (o25 + n12.toNat) none) = some (Value.int IntKind.u64 n26) ∧
 ∃ (I27 : Int → Int → World → Prop),
 ∃ (M28 : Int → Int → World → Nat),
 I27 n26 0 w20 ∧
 ∀ (n29 n30 : Int) (w'31 : World),
 I27 n29 n30 w'31 →
 (n30 < w_ →
 (remI n29 2 = 1 →
 ∀ (w'35 : World),
 Drew w'31 w'35 →
 ∃ (b37 : Nat),
 ∃ (o38 : Nat),
 some (Addr.mk b7 0 none) = some (Addr.mk b37 o38 none) ∧
 0 ≤ quoI IntKind.i64 (IntKind.i64.wrap (IntKind.i64.wrap (n12 * w_) + n30)) 8 ∧
 quoI IntKind.i64 (IntKind.i64.wrap (IntKind.i64.wrap (n12 * w_) + n30)) 8 < (↑n3.toNat : Int) ∧
 ∃ (n39 : Int),
 w'35.cell? (Addr.mk b37 (o38 + (quoI IntKind.i64 (IntKind.i64.wrap (IntKind.i64.wrap (n12 * w_) + n30)) 8).toNat) none) = some (Value.int IntKind.u8 n39) ∧
 0 ≤ remI (IntKind.i64.wrap (IntKind.i64.wrap (n12 * w_) + n30)) 8 ∧
 ∃ (b40 : Nat),
 ∃ (o41 : Nat),
 some (Addr.mk b7 0 none) = some (Addr.mk b40 o41 none) ∧
 0 ≤ quoI IntKind.i64 (IntKind.i64.wrap (IntKind.i64.wrap (n12 * w_) + n30)) 8 ∧
 quoI IntKind.i64 (IntKind.i64.wrap (IntKind.i64.wrap (n12 * w_) + n30)) 8 < (↑n3.toNat : Int) ∧
 (∃ (u42 : Value), w'35.cell? (Addr.mk b40 (o41 + (quoI IntKind.i64 (IntKind.i64.wrap (IntKind.i64.wrap (n12 * w_) + n30)) 8).toNat) none) = some u42) ∧
 w'35.frozen? (Addr.mk b40 (o41 + (quoI IntKind.i64 (IntKind.i64.wrap (IntKind.i64.wrap (n12 * w_) + n30)) 8).toNat) none) = false ∧
 ∀ (w'43 : World),
 Put w'35 b40 (o41 + (quoI IntKind.i64 (IntKind.i64.wrap (IntKind.i64.wrap (n12 * w_) + n30)) 8).toNat)
 [Value.int IntKind.u8 (bits BinOp.or IntKind.u8 n39 (shlI IntKind.u8 1 (remI (IntKind.i64.wrap (IntKind.i64.wrap (n12 * w_) + n30)) 8).toNat))] w'43 →
 I27 (quoI IntKind.u64 n29 2) (IntKind.i64.wrap (n30 + 1)) w'43 ∧ M28 (quoI IntKind.u64 n29 2) (IntKind.i64.wrap (n30 + 1)) w'43 < M28 n29 n30 w'31) ∧
 (remI n29 2 ≠ 1 → I27 (quoI IntKind.u64 n29 2) (IntKind.i64.wrap (n30 + 1)) w'31 ∧ M28 (quoI IntKind.u64 n29 2) (IntKind.i64.wrap (n30 + 1)) w'31 < M28 n29 n30 w'31)) ∧
 (w_ ≤ n30 → I10 (IntKind.i64.wrap (n12 + 1)) w'31 ∧ M11 (IntKind.i64.wrap (n12 + 1)) w'31 < M11 n12 w'13))) ∧
 ((↑l_n : Int) ≤ n12 → R (Ending.returned (Value.tuple #[Value.slice (some (Addr.mk b7 0 none)) n3.toNat n3.toNat, Value.int IntKind.i64 0])) w'13))

set_option maxRecDepth 100000 in
theorem rpack_eq (w_ : Int) (l_p : Option Addr) (l_n : Nat) (l_c : Nat) (w : World) (R : Ending → World → Prop) : rpack_T w_ l_p l_n l_c w R = vcFn Try.prog [] [(17, [0, 2, 4, 6, 8, 10, 12, 14, 16, 18, 20, 22, 24, 26])] Try.f28 [Value.int IntKind.i64 w_, Value.slice l_p l_n l_c] w R := by kernel_rfl

set_option maxRecDepth 100000 in
theorem rpack_vc (w_ : Int) (l_p : Option Addr) (l_n : Nat) (l_c : Nat) (w : World) (R : Ending → World → Prop) (h : rpack_T w_ l_p l_n l_c w R) : Calls Try.prog 28 #[Value.int IntKind.i64 w_, Value.slice l_p l_n l_c] w R :=
  calls_of_vc (args := [Value.int IntKind.i64 w_, Value.slice l_p l_n l_c]) [] [(17, [0, 2, 4, 6, 8, 10, 12, 14, 16, 18, 20, 22, 24, 26])] Try.mixed Try.func28 (cast (rpack_eq _ _ _ _ w R) h)

set_option maxRecDepth 100000 in
def same_T (a_p : Option Addr) (a_n : Nat) (a_c : Nat) (b_p : Option Addr) (b_n : Nat) (b_c : Nat) (w : World) (R : Ending → World → Prop) : Prop :=
  ((↑a_n : Int) ≠ (↑b_n : Int) → R (Ending.returned (Value.bool false)) w) ∧
 ((↑a_n : Int) = (↑b_n : Int) →
 ∃ (I3 : Int → World → Prop),
 ∃ (M4 : Int → World → Nat),
 I3 0 w ∧
 ∀ (n5 : Int) (w'6 : World),
 I3 n5 w'6 →
 (n5 < (↑a_n : Int) →
 ∀ (w'9 : World),
 Drew w'6 w'9 →
 ∃ (b11 : Nat),
 ∃ (o12 : Nat),
 a_p = some (Addr.mk b11 o12 none) ∧
 0 ≤ n5 ∧
 n5 < (↑a_n : Int) ∧
 ∃ (n13 : Int),
 w'9.cell? (Addr.mk b11 (o12 + n5.toNat) none) = some (Value.int IntKind.u64 n13) ∧
 ∃ (b14 : Nat),
 ∃ (o15 : Nat),
 b_p = some (Addr.mk b14 o15 none) ∧
 0 ≤ n5 ∧
 n5 < (↑b_n : Int) ∧
 ∃ (n16 : Int),
 w'9.cell? (Addr.mk b14 (o15 + n5.toNat) none) = some (Value.int IntKind.u64 n16) ∧
 (n13 ≠ n16 → R (Ending.returned (Value.bool false)) w'9) ∧ (n13 = n16 → I3 (IntKind.i64.wrap (n5 + 1)) w'9 ∧ M4 (IntKind.i64.wrap (n5 + 1)) w'9 < M4 n5 w'6)) ∧
 ((↑a_n : Int) ≤ n5 → R (Ending.returned (Value.bool true)) w'6))

set_option maxRecDepth 100000 in
theorem same_eq (a_p : Option Addr) (a_n : Nat) (a_c : Nat) (b_p : Option Addr) (b_n : Nat) (b_c : Nat) (w : World) (R : Ending → World → Prop) : same_T a_p a_n a_c b_p b_n b_c w R = vcFn Try.prog [] [(6, [0, 2, 4, 6, 8, 10, 12, 14, 16])] Try.f31 [Value.slice a_p a_n a_c, Value.slice b_p b_n b_c] w R := by kernel_rfl

set_option maxRecDepth 100000 in
theorem same_vc (a_p : Option Addr) (a_n : Nat) (a_c : Nat) (b_p : Option Addr) (b_n : Nat) (b_c : Nat) (w : World) (R : Ending → World → Prop) (h : same_T a_p a_n a_c b_p b_n b_c w R) : Calls Try.prog 31 #[Value.slice a_p a_n a_c, Value.slice b_p b_n b_c] w R :=
  calls_of_vc (args := [Value.slice a_p a_n a_c, Value.slice b_p b_n b_c]) [] [(6, [0, 2, 4, 6, 8, 10, 12, 14, 16])] Try.mixed Try.func31 (cast (same_eq _ _ _ _ _ _ w R) h)

set_option maxRecDepth 100000 in
def isWidth_T (w_ : Int) (w : World) (R : Ending → World → Prop) : Prop :=
  R (Ending.returned (Value.bool (decide (0 ≤ w_) && decide (w_ ≤ 64)))) w

set_option maxRecDepth 100000 in
theorem isWidth_eq (w_ : Int) (w : World) (R : Ending → World → Prop) : isWidth_T w_ w R = vcFn Try.prog [] [] Try.f55 [Value.int IntKind.i64 w_] w R := by kernel_rfl

set_option maxRecDepth 100000 in
theorem isWidth_vc (w_ : Int) (w : World) (R : Ending → World → Prop) (h : isWidth_T w_ w R) : Calls Try.prog 55 #[Value.int IntKind.i64 w_] w R :=
  calls_of_vc (args := [Value.int IntKind.i64 w_]) [] [] Try.mixed Try.func55 (cast (isWidth_eq _ w R) h)

set_option maxRecDepth 100000 in
def len64_T (x : Int) (w : World) (R : Ending → World → Prop) : Prop :=
  (4294967296 ≤ x →
 (65536 ≤ shrI IntKind.u64 x 32 →
 (256 ≤ shrI IntKind.u64 (shrI IntKind.u64 x 32) 16 →
 0 ≤ IntKind.u8.wrap (shrI IntKind.u64 (shrI IntKind.u64 (shrI IntKind.u64 x 32) 16) 8) ∧
 IntKind.u8.wrap (shrI IntKind.u64 (shrI IntKind.u64 (shrI IntKind.u64 x 32) 16) 8) < 256 ∧
 R
 (Ending.returned
 (Value.int IntKind.i64
 (IntKind.i64.wrap
 (56 +
 IntKind.i64.wrap
 (bAt
 (ByteArray.mk
 #[0, 1, 2, 2, 3, 3, 3, 3, 4, 4, 4, 4, 4, 4, 4, 4, 5, 5, 5, 5, 5, 5, 5, 5, 5, 5, 5, 5, 5, 5, 5, 5, 6, 6, 6, 6, 6, 6, 6, 6, 6, 6, 6, 6, 6, 6, 6, 6, 6, 6, 6, 6, 6, 6, 6, 6,
 6, 6, 6, 6, 6, 6, 6, 6, 7, 7, 7, 7, 7, 7, 7, 7, 7, 7, 7, 7, 7, 7, 7, 7, 7, 7, 7, 7, 7, 7, 7, 7, 7, 7, 7, 7, 7, 7, 7, 7, 7, 7, 7, 7, 7, 7, 7, 7, 7, 7, 7, 7, 7, 7, 7, 7, 7,
 7, 7, 7, 7, 7, 7, 7, 7, 7, 7, 7, 7, 7, 7, 7, 8, 8, 8, 8, 8, 8, 8, 8, 8, 8, 8, 8, 8, 8, 8, 8, 8, 8, 8, 8, 8, 8, 8, 8, 8, 8, 8, 8, 8, 8, 8, 8, 8, 8, 8, 8, 8, 8, 8, 8, 8, 8,
 8, 8, 8, 8, 8, 8, 8, 8, 8, 8, 8, 8, 8, 8, 8, 8, 8, 8, 8, 8, 8, 8, 8, 8, 8, 8, 8, 8, 8, 8, 8, 8, 8, 8, 8, 8, 8, 8, 8, 8, 8, 8, 8, 8, 8, 8, 8, 8, 8, 8, 8, 8, 8, 8, 8, 8, 8,
 8, 8, 8, 8, 8, 8, 8, 8, 8, 8, 8, 8, 8, 8, 8, 8, 8, 8, 8, 8, 8, 8, 8, 8, 8, 8, 8, 8, 8])
 (IntKind.u8.wrap (shrI IntKind.u64 (shrI IntKind.u64 (shrI IntKind.u64 x 32) 16) 8)).toNat)))))
 w) ∧
 (shrI IntKind.u64 (shrI IntKind.u64 x 32) 16 < 256 →
 0 ≤ IntKind.u8.wrap (shrI IntKind.u64 (shrI IntKind.u64 x 32) 16) ∧
 IntKind.u8.wrap (shrI IntKind.u64 (shrI IntKind.u64 x 32) 16) < 256 ∧
 R
 (Ending.returned
 (Value.int IntKind.i64
 (IntKind.i64.wrap
 (48 +
 IntKind.i64.wrap
 (bAt
 (ByteArray.mk
 #[0, 1, 2, 2, 3, 3, 3, 3, 4, 4, 4, 4, 4, 4, 4, 4, 5, 5, 5, 5, 5, 5, 5, 5, 5, 5, 5, 5, 5, 5, 5, 5, 6, 6, 6, 6, 6, 6, 6, 6, 6, 6, 6, 6, 6, 6, 6, 6, 6, 6, 6, 6, 6, 6, 6, 6,
 6, 6, 6, 6, 6, 6, 6, 6, 7, 7, 7, 7, 7, 7, 7, 7, 7, 7, 7, 7, 7, 7, 7, 7, 7, 7, 7, 7, 7, 7, 7, 7, 7, 7, 7, 7, 7, 7, 7, 7, 7, 7, 7, 7, 7, 7, 7, 7, 7, 7, 7, 7, 7, 7, 7, 7, 7,
 7, 7, 7, 7, 7, 7, 7, 7, 7, 7, 7, 7, 7, 7, 7, 8, 8, 8, 8, 8, 8, 8, 8, 8, 8, 8, 8, 8, 8, 8, 8, 8, 8, 8, 8, 8, 8, 8, 8, 8, 8, 8, 8, 8, 8, 8, 8, 8, 8, 8, 8, 8, 8, 8, 8, 8, 8,
 8, 8, 8, 8, 8, 8, 8, 8, 8, 8, 8, 8, 8, 8, 8, 8, 8, 8, 8, 8, 8, 8, 8, 8, 8, 8, 8, 8, 8, 8, 8, 8, 8, 8, 8, 8, 8, 8, 8, 8, 8, 8, 8, 8, 8, 8, 8, 8, 8, 8, 8, 8, 8, 8, 8, 8, 8,
 8, 8, 8, 8, 8, 8, 8, 8, 8, 8, 8, 8, 8, 8, 8, 8, 8, 8, 8, 8, 8, 8, 8, 8, 8, 8, 8, 8, 8])
 (IntKind.u8.wrap (shrI IntKind.u64 (shrI IntKind.u64 x 32) 16)).toNat)))))
 w)) ∧
 (shrI IntKind.u64 x 32 < 65536 →
 (256 ≤ shrI IntKind.u64 x 32 →
 0 ≤ IntKind.u8.wrap (shrI IntKind.u64 (shrI IntKind.u64 x 32) 8) ∧
 IntKind.u8.wrap (shrI IntKind.u64 (shrI IntKind.u64 x 32) 8) < 256 ∧
 R
 (Ending.returned
 (Value.int IntKind.i64
 (IntKind.i64.wrap
 (40 +
 IntKind.i64.wrap
 (bAt
 (ByteArray.mk
 #[0, 1, 2, 2, 3, 3, 3, 3, 4, 4, 4, 4, 4, 4, 4, 4, 5, 5, 5, 5, 5, 5, 5, 5, 5, 5, 5, 5, 5, 5, 5, 5, 6, 6, 6, 6, 6, 6, 6, 6, 6, 6, 6, 6, 6, 6, 6, 6, 6, 6, 6, 6, 6, 6, 6, 6,
 6, 6, 6, 6, 6, 6, 6, 6, 7, 7, 7, 7, 7, 7, 7, 7, 7, 7, 7, 7, 7, 7, 7, 7, 7, 7, 7, 7, 7, 7, 7, 7, 7, 7, 7, 7, 7, 7, 7, 7, 7, 7, 7, 7, 7, 7, 7, 7, 7, 7, 7, 7, 7, 7, 7, 7, 7,
 7, 7, 7, 7, 7, 7, 7, 7, 7, 7, 7, 7, 7, 7, 7, 8, 8, 8, 8, 8, 8, 8, 8, 8, 8, 8, 8, 8, 8, 8, 8, 8, 8, 8, 8, 8, 8, 8, 8, 8, 8, 8, 8, 8, 8, 8, 8, 8, 8, 8, 8, 8, 8, 8, 8, 8, 8,
 8, 8, 8, 8, 8, 8, 8, 8, 8, 8, 8, 8, 8, 8, 8, 8, 8, 8, 8, 8, 8, 8, 8, 8, 8, 8, 8, 8, 8, 8, 8, 8, 8, 8, 8, 8, 8, 8, 8, 8, 8, 8, 8, 8, 8, 8, 8, 8, 8, 8, 8, 8, 8, 8, 8, 8, 8,
 8, 8, 8, 8, 8, 8, 8, 8, 8, 8, 8, 8, 8, 8, 8, 8, 8, 8, 8, 8, 8, 8, 8, 8, 8, 8, 8, 8, 8])
 (IntKind.u8.wrap (shrI IntKind.u64 (shrI IntKind.u64 x 32) 8)).toNat)))))
 w) ∧
 (shrI IntKind.u64 x 32 < 256 →
 0 ≤ IntKind.u8.wrap (shrI IntKind.u64 x 32) ∧
 IntKind.u8.wrap (shrI IntKind.u64 x 32) < 256 ∧
 R
 (Ending.returned
 (Value.int IntKind.i64
 (IntKind.i64.wrap
 (32 +
 IntKind.i64.wrap
 (bAt
 (ByteArray.mk
 #[0, 1, 2, 2, 3, 3, 3, 3, 4, 4, 4, 4, 4, 4, 4, 4, 5, 5, 5, 5, 5, 5, 5, 5, 5, 5, 5, 5, 5, 5, 5, 5, 6, 6, 6, 6, 6, 6, 6, 6, 6, 6, 6, 6, 6, 6, 6, 6, 6, 6, 6, 6, 6, 6, 6, 6,
 6, 6, 6, 6, 6, 6, 6, 6, 7, 7, 7, 7, 7, 7, 7, 7, 7, 7, 7, 7, 7, 7, 7, 7, 7, 7, 7, 7, 7, 7, 7, 7, 7, 7, 7, 7, 7, 7, 7, 7, 7, 7, 7, 7, 7, 7, 7, 7, 7, 7, 7, 7, 7, 7, 7, 7, 7,
 7, 7, 7, 7, 7, 7, 7, 7, 7, 7, 7, 7, 7, 7, 7, 8, 8, 8, 8, 8, 8, 8, 8, 8, 8, 8, 8, 8, 8, 8, 8, 8, 8, 8, 8, 8, 8, 8, 8, 8, 8, 8, 8, 8, 8, 8, 8, 8, 8, 8, 8, 8, 8, 8, 8, 8, 8,
 8, 8, 8, 8, 8, 8, 8, 8, 8, 8, 8, 8, 8, 8, 8, 8, 8, 8, 8, 8, 8, 8, 8, 8, 8, 8, 8, 8, 8, 8, 8, 8, 8, 8, 8, 8, 8, 8, 8, 8, 8, 8, 8, 8, 8, 8, 8, 8, 8, 8, 8, 8, 8, 8, 8, 8, 8,
 8, 8, 8, 8, 8, 8, 8, 8, 8, 8, 8, 8, 8, 8, 8, 8, 8, 8, 8, 8, 8, 8, 8, 8, 8, 8, 8, 8, 8])
 (IntKind.u8.wrap (shrI IntKind.u64 x 32)).toNat)))))
 w))) ∧
 (x < 4294967296 →
 (65536 ≤ x →
 (256 ≤ shrI IntKind.u64 x 16 →
 0 ≤ IntKind.u8.wrap (shrI IntKind.u64 (shrI IntKind.u64 x 16) 8) ∧
 IntKind.u8.wrap (shrI IntKind.u64 (shrI IntKind.u64 x 16) 8) < 256 ∧
 R
 (Ending.returned
 (Value.int IntKind.i64
 (IntKind.i64.wrap
 (24 +
 IntKind.i64.wrap
 (bAt
 (ByteArray.mk
 #[0, 1, 2, 2, 3, 3, 3, 3, 4, 4, 4, 4, 4, 4, 4, 4, 5, 5, 5, 5, 5, 5, 5, 5, 5, 5, 5, 5, 5, 5, 5, 5, 6, 6, 6, 6, 6, 6, 6, 6, 6, 6, 6, 6, 6, 6, 6, 6, 6, 6, 6, 6, 6, 6, 6, 6,
 6, 6, 6, 6, 6, 6, 6, 6, 7, 7, 7, 7, 7, 7, 7, 7, 7, 7, 7, 7, 7, 7, 7, 7, 7, 7, 7, 7, 7, 7, 7, 7, 7, 7, 7, 7, 7, 7, 7, 7, 7, 7, 7, 7, 7, 7, 7, 7, 7, 7, 7, 7, 7, 7, 7, 7, 7,
 7, 7, 7, 7, 7, 7, 7, 7, 7, 7, 7, 7, 7, 7, 7, 8, 8, 8, 8, 8, 8, 8, 8, 8, 8, 8, 8, 8, 8, 8, 8, 8, 8, 8, 8, 8, 8, 8, 8, 8, 8, 8, 8, 8, 8, 8, 8, 8, 8, 8, 8, 8, 8, 8, 8, 8, 8,
 8, 8, 8, 8, 8, 8, 8, 8, 8, 8, 8, 8, 8, 8, 8, 8, 8, 8, 8, 8, 8, 8, 8, 8, 8, 8, 8, 8, 8, 8, 8, 8, 8, 8, 8, 8, 8, 8, 8, 8, 8, 8, 8, 8, 8, 8, 8, 8, 8, 8, 8, 8, 8, 8, 8, 8, 8,
 8, 8, 8, 8, 8, 8, 8, 8, 8, 8, 8, 8, 8, 8, 8, 8, 8, 8, 8, 8, 8, 8, 8, 8, 8, 8, 8, 8, 8])
 (IntKind.u8.wrap (shrI IntKind.u64 (shrI IntKind.u64 x 16) 8)).toNat)))))
 w) ∧
 (shrI IntKind.u64 x 16 < 256 →
 0 ≤ IntKind.u8.wrap (shrI IntKind.u64 x 16) ∧
 IntKind.u8.wrap (shrI IntKind.u64 x 16) < 256 ∧
 R
 (Ending.returned
 (Value.int IntKind.i64
 (IntKind.i64.wrap
 (16 +
 IntKind.i64.wrap
 (bAt
 (ByteArray.mk
 #[0, 1, 2, 2, 3, 3, 3, 3, 4, 4, 4, 4, 4, 4, 4, 4, 5, 5, 5, 5, 5, 5, 5, 5, 5, 5, 5, 5, 5, 5, 5, 5, 6, 6, 6, 6, 6, 6, 6, 6, 6, 6, 6, 6, 6, 6, 6, 6, 6, 6, 6, 6, 6, 6, 6, 6,
 6, 6, 6, 6, 6, 6, 6, 6, 7, 7, 7, 7, 7, 7, 7, 7, 7, 7, 7, 7, 7, 7, 7, 7, 7, 7, 7, 7, 7, 7, 7, 7, 7, 7, 7, 7, 7, 7, 7, 7, 7, 7, 7, 7, 7, 7, 7, 7, 7, 7, 7, 7, 7, 7, 7, 7, 7,
 7, 7, 7, 7, 7, 7, 7, 7, 7, 7, 7, 7, 7, 7, 7, 8, 8, 8, 8, 8, 8, 8, 8, 8, 8, 8, 8, 8, 8, 8, 8, 8, 8, 8, 8, 8, 8, 8, 8, 8, 8, 8, 8, 8, 8, 8, 8, 8, 8, 8, 8, 8, 8, 8, 8, 8, 8,
 8, 8, 8, 8, 8, 8, 8, 8, 8, 8, 8, 8, 8, 8, 8, 8, 8, 8, 8, 8, 8, 8, 8, 8, 8, 8, 8, 8, 8, 8, 8, 8, 8, 8, 8, 8, 8, 8, 8, 8, 8, 8, 8, 8, 8, 8, 8, 8, 8, 8, 8, 8, 8, 8, 8, 8, 8,
 8, 8, 8, 8, 8, 8, 8, 8, 8, 8, 8, 8, 8, 8, 8, 8, 8, 8, 8, 8, 8, 8, 8, 8, 8, 8, 8, 8, 8])
 (IntKind.u8.wrap (shrI IntKind.u64 x 16)).toNat)))))
 w)) ∧
 (x < 65536 →
 (256 ≤ x →
 0 ≤ IntKind.u8.wrap (shrI IntKind.u64 x 8) ∧
 IntKind.u8.wrap (shrI IntKind.u64 x 8) < 256 ∧
 R
 (Ending.returned
 (Value.int IntKind.i64
 (IntKind.i64.wrap
 (8 +
 IntKind.i64.wrap
 (bAt
 (ByteArray.mk
 #[0, 1, 2, 2, 3, 3, 3, 3, 4, 4, 4, 4, 4, 4, 4, 4, 5, 5, 5, 5, 5, 5, 5, 5, 5, 5, 5, 5, 5, 5, 5, 5, 6, 6, 6, 6, 6, 6, 6, 6, 6, 6, 6, 6, 6, 6, 6, 6, 6, 6, 6, 6, 6, 6, 6, 6,
 6, 6, 6, 6, 6, 6, 6, 6, 7, 7, 7, 7, 7, 7, 7, 7, 7, 7, 7, 7, 7, 7, 7, 7, 7, 7, 7, 7, 7, 7, 7, 7, 7, 7, 7, 7, 7, 7, 7, 7, 7, 7, 7, 7, 7, 7, 7, 7, 7, 7, 7, 7, 7, 7, 7, 7, 7,
 7, 7, 7, 7, 7, 7, 7, 7, 7, 7, 7, 7, 7, 7, 7, 8, 8, 8, 8, 8, 8, 8, 8, 8, 8, 8, 8, 8, 8, 8, 8, 8, 8, 8, 8, 8, 8, 8, 8, 8, 8, 8, 8, 8, 8, 8, 8, 8, 8, 8, 8, 8, 8, 8, 8, 8, 8,
 8, 8, 8, 8, 8, 8, 8, 8, 8, 8, 8, 8, 8, 8, 8, 8, 8, 8, 8, 8, 8, 8, 8, 8, 8, 8, 8, 8, 8, 8, 8, 8, 8, 8, 8, 8, 8, 8, 8, 8, 8, 8, 8, 8, 8, 8, 8, 8, 8, 8, 8, 8, 8, 8, 8, 8, 8,
 8, 8, 8, 8, 8, 8, 8, 8, 8, 8, 8, 8, 8, 8, 8, 8, 8, 8, 8, 8, 8, 8, 8, 8, 8, 8, 8, 8, 8])
 (IntKind.u8.wrap (shrI IntKind.u64 x 8)).toNat)))))
 w) ∧
 (x < 256 →
 0 ≤ IntKind.u8.wrap x ∧
 IntKind.u8.wrap x < 256 ∧
 R
 (Ending.returned
 (Value.int IntKind.i64
 (IntKind.i64.wrap
 (0 +
 IntKind.i64.wrap
 (bAt
 (ByteArray.mk
 #[0, 1, 2, 2, 3, 3, 3, 3, 4, 4, 4, 4, 4, 4, 4, 4, 5, 5, 5, 5, 5, 5, 5, 5, 5, 5, 5, 5, 5, 5, 5, 5, 6, 6, 6, 6, 6, 6, 6, 6, 6, 6, 6, 6, 6, 6, 6, 6, 6, 6, 6, 6, 6, 6, 6, 6,
 6, 6, 6, 6, 6, 6, 6, 6, 7, 7, 7, 7, 7, 7, 7, 7, 7, 7, 7, 7, 7, 7, 7, 7, 7, 7, 7, 7, 7, 7, 7, 7, 7, 7, 7, 7, 7, 7, 7, 7, 7, 7, 7, 7, 7, 7, 7, 7, 7, 7, 7, 7, 7, 7, 7, 7, 7,
 7, 7, 7, 7, 7, 7, 7, 7, 7, 7, 7, 7, 7, 7, 7, 8, 8, 8, 8, 8, 8, 8, 8, 8, 8, 8, 8, 8, 8, 8, 8, 8, 8, 8, 8, 8, 8, 8, 8, 8, 8, 8, 8, 8, 8, 8, 8, 8, 8, 8, 8, 8, 8, 8, 8, 8, 8,
 8, 8, 8, 8, 8, 8, 8, 8, 8, 8, 8, 8, 8, 8, 8, 8, 8, 8, 8, 8, 8, 8, 8, 8, 8, 8, 8, 8, 8, 8, 8, 8, 8, 8, 8, 8, 8, 8, 8, 8, 8, 8, 8, 8, 8, 8, 8, 8, 8, 8, 8, 8, 8, 8, 8, 8, 8,
 8, 8, 8, 8, 8, 8, 8, 8, 8, 8, 8, 8, 8, 8, 8, 8, 8, 8, 8, 8, 8, 8, 8, 8, 8, 8, 8, 8, 8])
 (IntKind.u8.wrap x).toNat)))))
 w)))

set_option maxRecDepth 100000 in
theorem len64_eq (x : Int) (w : World) (R : Ending → World → Prop) : len64_T x w R = vcFn Try.prog [] [] Try.f56 [Value.int IntKind.u64 x] w R := by kernel_rfl

set_option maxRecDepth 100000 in
theorem len64_vc (x : Int) (w : World) (R : Ending → World → Prop) (h : len64_T x w R) : Calls Try.prog 56 #[Value.int IntKind.u64 x] w R :=
  calls_of_vc (args := [Value.int IntKind.u64 x]) [] [] Try.mixed Try.func56 (cast (len64_eq _ w R) h)

set_option maxRecDepth 100000 in
def of_T (x : Int) (w_ : Int) (w : World) (R : Ending → World → Prop) : Prop :=
  ∃ (I1 : Int → Int → World → Prop),
 ∃ (M2 : Int → Int → World → Nat),
 I1 x 0 w ∧
 ∀ (n3 n4 : Int) (w'5 : World),
 I1 n3 n4 w'5 →
 (n4 < w_ → I1 (quoI IntKind.u64 n3 2) (IntKind.i64.wrap (n4 + 1)) w'5 ∧ M2 (quoI IntKind.u64 n3 2) (IntKind.i64.wrap (n4 + 1)) w'5 < M2 n3 n4 w'5) ∧
 (w_ ≤ n4 → R (Ending.returned (Value.bool (decide (n3 = 0)))) w'5)

set_option maxRecDepth 100000 in
theorem of_eq (x : Int) (w_ : Int) (w : World) (R : Ending → World → Prop) : of_T x w_ w R = vcFn Try.prog [] [] Try.f57 [Value.int IntKind.u64 x, Value.int IntKind.i64 w_] w R := by kernel_rfl

set_option maxRecDepth 100000 in
theorem of_vc (x : Int) (w_ : Int) (w : World) (R : Ending → World → Prop) (h : of_T x w_ w R) : Calls Try.prog 57 #[Value.int IntKind.u64 x, Value.int IntKind.i64 w_] w R :=
  calls_of_vc (args := [Value.int IntKind.u64 x, Value.int IntKind.i64 w_]) [] [] Try.mixed Try.func57 (cast (of_eq _ _ w R) h)

set_option maxRecDepth 100000 in
def places_T (n : Int) (w_ : Int) (w : World) (R : Ending → World → Prop) : Prop :=
  ∀ (b1 : Nat) (w'2 : World),
 New w (Obj.cells #[Value.int IntKind.i64 n] 3) b1 w'2 →
 ∀ (b4 : Nat) (w'5 : World),
 New w'2 (Obj.cells #[Value.int IntKind.i64 w_] 3) b4 w'5 →
 R (Ending.returned (Value.func (Fn.func 75) #[] #[Value.pointer (some (Addr.mk b1 0 none)), Value.pointer (some (Addr.mk b4 0 none))])) w'5

set_option maxRecDepth 100000 in
theorem places_eq (n : Int) (w_ : Int) (w : World) (R : Ending → World → Prop) : places_T n w_ w R = vcFn Try.prog [] [] Try.f58 [Value.int IntKind.i64 n, Value.int IntKind.i64 w_] w R := by kernel_rfl

set_option maxRecDepth 100000 in
theorem places_vc (n : Int) (w_ : Int) (w : World) (R : Ending → World → Prop) (h : places_T n w_ w R) : Calls Try.prog 58 #[Value.int IntKind.i64 n, Value.int IntKind.i64 w_] w R :=
  calls_of_vc (args := [Value.int IntKind.i64 n, Value.int IntKind.i64 w_]) [] [] Try.mixed Try.func58 (cast (places_eq _ _ w R) h)

set_option maxRecDepth 100000 in
def places1_T (l0 : Nat) (fv0 : Nat) (fv1 : Nat) (w : World) (R : Ending → World → Prop) : Prop :=
  ∃ (I1 : Int → World → Prop),
 ∃ (M2 : Int → World → Nat),
 I1 0 w ∧
 ∀ (n3 : Int) (w'4 : World),
 I1 n3 w'4 →
 ∃ (n6 : Int),
 w'4.cell? (Addr.mk fv0 0 none) = some (Value.int IntKind.i64 n6) ∧
 ∃ (n7 : Int),
 w'4.cell? (Addr.mk fv1 0 none) = some (Value.int IntKind.i64 n7) ∧
 (n3 < IntKind.i64.wrap (n6 * n7) →
 ∀ (w'9 : World),
 Drew w'4 w'9 →
 ∃ (n11 : Int),
 w'9.cell? (Addr.mk fv1 0 none) = some (Value.int IntKind.i64 n11) ∧
 n11 ≠ 0 ∧
 ∃ (n12 : Int),
 w'9.cell? (Addr.mk fv1 0 none) = some (Value.int IntKind.i64 n12) ∧
 n12 ≠ 0 ∧
 Yield Try.prog l0 #[Value.int IntKind.i64 (quoI IntKind.i64 n3 n11), Value.int IntKind.i64 (remI n3 n12)] w'9 fun (b13 : Bool) (w14 : World) ↦
 (b13 = false → R (Ending.returned (Value.tuple #[])) w14) ∧ (b13 = true → I1 (IntKind.i64.wrap (n3 + 1)) w14 ∧ M2 (IntKind.i64.wrap (n3 + 1)) w14 < M2 n3 w'4)) ∧
 (IntKind.i64.wrap (n6 * n7) ≤ n3 → R (Ending.returned (Value.tuple #[])) w'4)

set_option maxRecDepth 100000 in
theorem places1_eq (l0 : Nat) (fv0 : Nat) (fv1 : Nat) (w : World) (R : Ending → World → Prop) : places1_T l0 fv0 fv1 w R = vcFn Try.prog [] [(3, [0, 2, 4, 6, 8, 10, 12, 14, 16])] Try.f75 [Value.func (Fn.yield l0) #[] #[], Value.pointer (some (Addr.mk fv0 0 none)), Value.pointer (some (Addr.mk fv1 0 none))] w R := by kernel_rfl

set_option maxRecDepth 100000 in
theorem places1_vc (l0 : Nat) (fv0 : Nat) (fv1 : Nat) (w : World) (R : Ending → World → Prop) (h : places1_T l0 fv0 fv1 w R) : Calls Try.prog 75 #[Value.func (Fn.yield l0) #[] #[], Value.pointer (some (Addr.mk fv0 0 none)), Value.pointer (some (Addr.mk fv1 0 none))] w R :=
  calls_of_vc (args := [Value.func (Fn.yield l0) #[] #[], Value.pointer (some (Addr.mk fv0 0 none)), Value.pointer (some (Addr.mk fv1 0 none))]) [] [(3, [0, 2, 4, 6, 8, 10, 12, 14, 16])] Try.mixed Try.func75 (cast (places1_eq _ _ _ w R) h)

set_option maxRecDepth 100000 in
def unpack_T (b_p : Option Addr) (b_n : Nat) (b_c : Nat) (n : Int) (w_ : Int) (w : World) (R : Ending → World → Prop) : Prop :=
  ∀ (b1 : Nat) (w'2 : World),
 New w (Obj.cells #[Value.slice b_p b_n b_c] 30) b1 w'2 →
 ∀ (b4 : Nat) (w'5 : World),
 New w'2 (Obj.cells #[Value.int IntKind.i64 w_] 3) b4 w'5 →
 ∃ (n7 : Int),
 w'5.cell? (Addr.mk b4 0 none) = some (Value.int IntKind.i64 n7) ∧
 Calls Try.prog 23 #[Value.int IntKind.i64 n, Value.int IntKind.i64 n7] w'5 fun (e8 : Ending) (w9 : World) ↦
 ∃ (n10 : Int),
 ∃ (n11 : Int),
 e8 = Ending.returned (Value.tuple #[Value.int IntKind.i64 n10, Value.int IntKind.i64 n11]) ∧
 ∃ (J12 : World → Prop),
 ((n11 ≠ 0 → R (Ending.returned (Value.tuple #[Value.slice none 0 0, Value.int IntKind.i64 n11])) w9) ∧
 (n11 = 0 →
 ∃ (p15 : Option Addr),
 ∃ (n16 : Nat),
 ∃ (c17 : Nat),
 w9.cell? (Addr.mk b1 0 none) = some (Value.slice p15 n16 c17) ∧
 ((↑n16 : Int) ≠ n10 → ((↑n16 : Int) ≠ n10 → R (Ending.returned (Value.tuple #[Value.slice none 0 0, Value.int IntKind.i64 10])) w9) ∧ ((↑n16 : Int) = n10 → J12 w9)) ∧
 ((↑n16 : Int) = n10 →
 ∀ (w'22 : World),
 Drew w9 w'22 →
 (0 < n10 →
 ∃ (n25 : Int),
 w'22.cell? (Addr.mk b4 0 none) = some (Value.int IntKind.i64 n25) ∧
 (remI (IntKind.i64.wrap (n * n25)) 8 ≠ 0 →
 ∃ (p27 : Option Addr),
 ∃ (n28 : Nat),
 ∃ (c29 : Nat),
 w'22.cell? (Addr.mk b1 0 none) = some (Value.slice p27 n28 c29) ∧
 ∃ (b30 : Nat),
 ∃ (o31 : Nat),
 p27 = some (Addr.mk b30 o31 none) ∧
 0 ≤ IntKind.i64.wrap (n10 - 1) ∧
 IntKind.i64.wrap (n10 - 1) < (↑n28 : Int) ∧
 ∃ (n32 : Int),
 w'22.cell? (Addr.mk b30 (o31 + (IntKind.i64.wrap (n10 - 1)).toNat) none) = some (Value.int IntKind.u8 n32) ∧
 ∃ (n33 : Int),
 w'22.cell? (Addr.mk b4 0 none) = some (Value.int IntKind.i64 n33) ∧
 0 ≤ remI (IntKind.i64.wrap (n * n33)) 8 ∧
 (shrI IntKind.u8 n32 (remI (IntKind.i64.wrap (n * n33)) 8).toNat ≠ 0 → R (Ending.returned (Value.tuple #[Value.slice none 0 0, Value.int IntKind.i64 10])) w'22) ∧
 (shrI IntKind.u8 n32 (remI (IntKind.i64.wrap (n * n33)) 8).toNat = 0 → J12 w'22)) ∧
 (remI (IntKind.i64.wrap (n * n25)) 8 = 0 → J12 w'22)) ∧
 (n10 ≤ 0 → J12 w'22)))) ∧
 ∀ (w'38 : World),
 J12 w'38 →
 0 ≤ n ∧
 n ≤ n ∧
 8 * n ≤ 281474976710656 ∧
 n ≤ 9223372036854775807 ∧
 ∀ (b40 : Nat) (w'41 : World),
 New w'38 (Obj.cells (madeCells #[Value.int IntKind.u64 0] n.toNat) 48) b40 w'41 →
 ∀ (b43 : Nat) (w'44 : World),
 New w'41 (Obj.cells #[Value.slice none 0 0] 22) b43 w'44 →
 (∃ (u46 : Value), w'44.cell? (Addr.mk b43 0 none) = some u46) ∧
 w'44.frozen? (Addr.mk b43 0 none) = false ∧
 ∀ (w'47 : World),
 Put w'44 b43 0 [Value.slice (some (Addr.mk b40 0 none)) n.toNat n.toNat] w'47 →
 ∃ (n49 : Int),
 w'47.cell? (Addr.mk b4 0 none) = some (Value.int IntKind.i64 n49) ∧
 Calls Try.prog 58 #[Value.int IntKind.i64 n, Value.int IntKind.i64 n49] w'47 fun (e50 : Ending) (w51 : World) ↦
 ∃ (v52 : Value),
 e50 = Ending.returned v52 ∧
 ∃ (g53 : FuncId),
 ∃ (lb54 : Array Value),
 v52 = Value.func (Fn.func g53) #[] lb54 ∧
 enterable Try.prog g53 = true ∧
 ∀ (r55 : Nat → Loop) (d56 l57 : Nat) (w158 : World),
 Began w51 r55 d56 l57 w158 →
 (∀ (n60 n61 : Int) (W62 : World) (R63 : Bool → World → Prop),
 Rec r55 l57 0 W62 →
 (Rec r55 l57 0 W62 ∧
 ∀ (Wb65 : World),
 Wb65 = turn r55 l57 1 W62 →
 ∃ (n67 : Int),
 Wb65.cell? (Addr.mk b4 0 none) = some (Value.int IntKind.i64 n67) ∧
 ∀ (w'68 : World),
 Drew Wb65 w'68 →
 ∃ (p70 : Option Addr),
 ∃ (n71 : Nat),
 ∃ (c72 : Nat),
 w'68.cell? (Addr.mk b43 0 none) = some (Value.slice p70 n71 c72) ∧
 ∃ (b73 : Nat),
 ∃ (o74 : Nat),
 p70 = some (Addr.mk b73 o74 none) ∧
 0 ≤ n60 ∧
 n60 < (↑n71 : Int) ∧
 ∃ (n75 : Int),
 w'68.cell? (Addr.mk b73 (o74 + n60.toNat) none) = some (Value.int IntKind.u64 n75) ∧
 ∃ (p76 : Option Addr),
 ∃ (n77 : Nat),
 ∃ (c78 : Nat),
 w'68.cell? (Addr.mk b1 0 none) = some (Value.slice p76 n77 c78) ∧
 ∃ (b79 : Nat),
 ∃ (o80 : Nat),
 p76 = some (Addr.mk b79 o80 none) ∧
 0 ≤ shrI IntKind.i64 (IntKind.i64.wrap (IntKind.i64.wrap (n60 * n67) + n61)) 3 ∧
 shrI IntKind.i64 (IntKind.i64.wrap (IntKind.i64.wrap (n60 * n67) + n61)) 3 < (↑n77 : Int) ∧
 ∃ (n81 : Int),
 w'68.cell? (Addr.mk b79 (o80 + (shrI IntKind.i64 (IntKind.i64.wrap (IntKind.i64.wrap (n60 * n67) + n61)) 3).toNat) none) = some (Value.int IntKind.u8 n81) ∧
 0 ≤ bits BinOp.and IntKind.i64 (IntKind.i64.wrap (IntKind.i64.wrap (n60 * n67) + n61)) 7 ∧
 0 ≤ n61 ∧
 ∃ (b82 : Nat),
 ∃ (o83 : Nat),
 p70 = some (Addr.mk b82 o83 none) ∧
 0 ≤ n60 ∧
 n60 < (↑n71 : Int) ∧
 (∃ (u84 : Value), w'68.cell? (Addr.mk b82 (o83 + n60.toNat) none) = some u84) ∧
 w'68.frozen? (Addr.mk b82 (o83 + n60.toNat) none) = false ∧
 ∀ (w'85 : World),
 Put w'68 b82 (o83 + n60.toNat)
 [Value.int IntKind.u64
 (bits BinOp.or IntKind.u64 n75
 (shlI IntKind.u64
 (IntKind.u64.wrap (bits BinOp.and IntKind.u8 (shrI IntKind.u8 n81 (bits BinOp.and IntKind.i64 (IntKind.i64.wrap (IntKind.i64.wrap (n60 * n67) + n61)) 7).toNat) 1))
 n61.toNat))]
 w'85 →
 Rec r55 l57 1 w'85 ∧ R63 true (turn r55 l57 0 w'85)) →
 Yield Try.prog l57 #[Value.int IntKind.i64 n60, Value.int IntKind.i64 n61] W62 fun (b88 : Bool) (w89 : World) ↦ R63 b88 w89) →
 Calls Try.prog g53 (Value.func (Fn.yield l57) #[] #[] :: lb54.1).toArray w158 fun (e91 : Ending) (w92 : World) ↦
 (∃ (v93 : Value), e91 = Ending.returned v93) ∧
 ((Rec r55 l57 0 w92 ∧
 ∃ (p94 : Option Addr),
 ∃ (n95 : Nat),
 ∃ (c96 : Nat),
 (turn r55 l57 2 w92).cell? (Addr.mk b43 0 none) = some (Value.slice p94 n95 c96) ∧
 (turn r55 l57 2 w92).heap[d56]? = some (Obj.deferred (some [])) ∧
 R (Ending.returned (Value.tuple #[Value.slice p94 n95 c96, Value.int IntKind.i64 0])) ((turn r55 l57 2 w92).putObj d56 (Obj.deferred none))) ∨
 False)

set_option maxRecDepth 100000 in
theorem unpack_eq (b_p : Option Addr) (b_n : Nat) (b_c : Nat) (n : Int) (w_ : Int) (w : World) (R : Ending → World → Prop) : unpack_T b_p b_n b_c n w_ w R = vcFn Try.prog [7] [(5, [0, 2, 4, 6, 8, 10, 12, 14, 16, 18, 20, 22, 24, 26, 28, 30, 32, 34, 36, 38, 40, 42, 44]), (12, [0, 2, 4, 6, 8, 10, 12, 14, 16, 18, 20, 22, 24, 26, 28, 30, 32, 34, 36])] Try.f29 [Value.slice b_p b_n b_c, Value.int IntKind.i64 n, Value.int IntKind.i64 w_] w R := by kernel_rfl

set_option maxRecDepth 100000 in
theorem unpack_vc (b_p : Option Addr) (b_n : Nat) (b_c : Nat) (n : Int) (w_ : Int) (w : World) (R : Ending → World → Prop) (h : unpack_T b_p b_n b_c n w_ w R) : Calls Try.prog 29 #[Value.slice b_p b_n b_c, Value.int IntKind.i64 n, Value.int IntKind.i64 w_] w R :=
  calls_of_vc (args := [Value.slice b_p b_n b_c, Value.int IntKind.i64 n, Value.int IntKind.i64 w_]) [7] [(5, [0, 2, 4, 6, 8, 10, 12, 14, 16, 18, 20, 22, 24, 26, 28, 30, 32, 34, 36, 38, 40, 42, 44]), (12, [0, 2, 4, 6, 8, 10, 12, 14, 16, 18, 20, 22, 24, 26, 28, 30, 32, 34, 36])] Try.mixed Try.func29 (cast (unpack_eq _ _ _ _ _ w R) h)

set_option maxRecDepth 100000 in
def runpack_T (b_p : Option Addr) (b_n : Nat) (b_c : Nat) (n : Int) (w_ : Int) (w : World) (R : Ending → World → Prop) : Prop :=
  Calls Try.prog 24 #[Value.int IntKind.i64 n, Value.int IntKind.i64 w_] w fun (e1 : Ending) (w2 : World) ↦
 ∃ (n3 : Int),
 ∃ (n4 : Int),
 e1 = Ending.returned (Value.tuple #[Value.int IntKind.i64 n3, Value.int IntKind.i64 n4]) ∧
 (n4 ≠ 0 → R (Ending.returned (Value.tuple #[Value.slice none 0 0, Value.int IntKind.i64 n4])) w2) ∧
 (n4 = 0 →
 ((↑b_n : Int) ≠ n3 → R (Ending.returned (Value.tuple #[Value.slice none 0 0, Value.int IntKind.i64 10])) w2) ∧
 ((↑b_n : Int) = n3 →
 0 ≤ n ∧
 n ≤ n ∧
 8 * n ≤ 281474976710656 ∧
 n ≤ 9223372036854775807 ∧
 ∀ (b9 : Nat) (w'10 : World),
 New w2 (Obj.cells (madeCells #[Value.int IntKind.u64 0] n.toNat) 48) b9 w'10 →
 ∃ (I12 : Int → World → Prop),
 ∃ (M13 : Int → World → Nat),
 I12 0 w'10 ∧
 ∀ (n14 : Int) (w'15 : World),
 I12 n14 w'15 →
 (n14 < n →
 ∃ (I18 : Int → World → Prop),
 ∃ (M19 : Int → World → Nat),
 I18 0 w'15 ∧
 ∀ (n20 : Int) (w'21 : World),
 I18 n20 w'21 →
 (n20 < w_ →
 ∃ (b24 : Nat),
 ∃ (o25 : Nat),
 b_p = some (Addr.mk b24 o25 none) ∧
 0 ≤ quoI IntKind.i64 (IntKind.i64.wrap (IntKind.i64.wrap (n14 * w_) + n20)) 8 ∧
 quoI IntKind.i64 (IntKind.i64.wrap (IntKind.i64.wrap (n14 * w_) + n20)) 8 < (↑b_n : Int) ∧
 ∃ (n26 : Int),
 w'21.cell? (Addr.mk b24 (o25 + (quoI IntKind.i64 (IntKind.i64.wrap (IntKind.i64.wrap (n14 * w_) + n20)) 8).toNat) none) = some (Value.int IntKind.u8 n26) ∧
 0 ≤ remI (IntKind.i64.wrap (IntKind.i64.wrap (n14 * w_) + n20)) 8 ∧
 (bits BinOp.and IntKind.u8 (shrI IntKind.u8 n26 (remI (IntKind.i64.wrap (IntKind.i64.wrap (n14 * w_) + n20)) 8).toNat) 1 = 1 →
 ∀ (w'28 : World),
 Drew w'21 w'28 →
 ∃ (b30 : Nat),
 ∃ (o31 : Nat),
 some (Addr.mk b9 0 none) = some (Addr.mk b30 o31 none) ∧
 0 ≤ n14 ∧
 n14 < (↑n.toNat : Int) ∧
 ∃ (n32 : Int),
 w'28.cell? (Addr.mk b30 (o31 + n14.toNat) none) = some (Value.int IntKind.u64 n32) ∧
 0 ≤ n20 ∧
 ∃ (b33 : Nat),
 ∃ (o34 : Nat),
 some (Addr.mk b9 0 none) = some (Addr.mk b33 o34 none) ∧
 0 ≤ n14 ∧
 n14 < (↑n.toNat : Int) ∧
 (∃ (u35 : Value), w'28.cell? (Addr.mk b33 (o34 + n14.toNat) none) = some u35) ∧
 w'28.frozen? (Addr.mk b33 (o34 + n14.toNat) none) = false ∧
 ∀ (w'36 : World),
 Put w'28 b33 (o34 + n14.toNat) [Value.int IntKind.u64 (bits BinOp.or IntKind.u64 n32 (shlI IntKind.u64 1 n20.toNat))] w'36 →
 I18 (IntKind.i64.wrap (n20 + 1)) w'36 ∧ M19 (IntKind.i64.wrap (n20 + 1)) w'36 < M19 n20 w'21) ∧
 (bits BinOp.and IntKind.u8 (shrI IntKind.u8 n26 (remI (IntKind.i64.wrap (IntKind.i64.wrap (n14 * w_) + n20)) 8).toNat) 1 ≠ 1 →
 I18 (IntKind.i64.wrap (n20 + 1)) w'21 ∧ M19 (IntKind.i64.wrap (n20 + 1)) w'21 < M19 n20 w'21)) ∧
 (w_ ≤ n20 → I12 (IntKind.i64.wrap (n14 + 1)) w'21 ∧ M13 (IntKind.i64.wrap (n14 + 1)) w'21 < M13 n14 w'15)) ∧
 (n ≤ n14 →
 Calls Try.prog 28 #[Value.int IntKind.i64 w_, Value.slice (some (Addr.mk b9 0 none)) n.toNat n.toNat] w'15 fun (e41 : Ending) (w42 : World) ↦
 ∃ (p43 : Option Addr),
 ∃ (n44 : Nat),
 ∃ (c45 : Nat),
 ∃ (n46 : Int),
 e41 = Ending.returned (Value.tuple #[Value.slice p43 n44 c45, Value.int IntKind.i64 n46]) ∧
 ∃ (l47 : List UInt8),
 BytesAt w42 p43 n44 l47 ∧
 ∃ (l48 : List UInt8),
 BytesAt w42 b_p b_n l48 ∧
 (ByteArray.mk (Array.mk l47) ≠ ByteArray.mk (Array.mk l48) → R (Ending.returned (Value.tuple #[Value.slice none 0 0, Value.int IntKind.i64 10])) w42) ∧
 (ByteArray.mk (Array.mk l47) = ByteArray.mk (Array.mk l48) →
 R (Ending.returned (Value.tuple #[Value.slice (some (Addr.mk b9 0 none)) n.toNat n.toNat, Value.int IntKind.i64 0])) w42))))

set_option maxRecDepth 100000 in
theorem runpack_eq (b_p : Option Addr) (b_n : Nat) (b_c : Nat) (n : Int) (w_ : Int) (w : World) (R : Ending → World → Prop) : runpack_T b_p b_n b_c n w_ w R = vcFn Try.prog [] [(15, [0, 2, 4, 6, 8, 10, 12, 14, 16, 18, 20])] Try.f30 [Value.slice b_p b_n b_c, Value.int IntKind.i64 n, Value.int IntKind.i64 w_] w R := by kernel_rfl

set_option maxRecDepth 100000 in
theorem runpack_vc (b_p : Option Addr) (b_n : Nat) (b_c : Nat) (n : Int) (w_ : Int) (w : World) (R : Ending → World → Prop) (h : runpack_T b_p b_n b_c n w_ w R) : Calls Try.prog 30 #[Value.slice b_p b_n b_c, Value.int IntKind.i64 n, Value.int IntKind.i64 w_] w R :=
  calls_of_vc (args := [Value.slice b_p b_n b_c, Value.int IntKind.i64 n, Value.int IntKind.i64 w_]) [] [(15, [0, 2, 4, 6, 8, 10, 12, 14, 16, 18, 20])] Try.mixed Try.func30 (cast (runpack_eq _ _ _ _ _ w R) h)


end Go.Proofs.Ytdclhgcgpcddlaa
