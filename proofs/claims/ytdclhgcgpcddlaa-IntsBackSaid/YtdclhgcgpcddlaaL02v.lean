/- The verification conditions of the functions, evaluated: printed by program. -/
import Derived.Test.YtdclhgcgpcddlaaBase
namespace Go.Proofs.Ytdclhgcgpcddlaa
open Go Go.Vc

set_option maxRecDepth 100000 in
def shown2_T (w : World) (R : Ending → World → Prop) : Prop :=
  Calls Try.prog 35 #[Value.slice none 0 0, Value.int IntKind.u64 300] w fun (e1 : Ending) (w2 : World) ↦
 ∃ (p3 : Option Addr),
 ∃ (n4 : Nat),
 ∃ (c5 : Nat),
 e1 = Ending.returned (Value.slice p3 n4 c5) ∧
 ∃ (l6 : List UInt8),
 BytesAt w2 p3 n4 l6 ∧
 (ByteArray.mk (Array.mk l6) = ByteArray.mk #[172, 2] →
 ∀ (b8 : Nat) (w'9 : World),
 New w2
 (Obj.cells
 #[Value.int IntKind.u8 49, Value.int IntKind.u8 50, Value.int IntKind.u8 51, Value.int IntKind.u8 52, Value.int IntKind.u8 53, Value.int IntKind.u8 54,
 Value.int IntKind.u8 55, Value.int IntKind.u8 56, Value.int IntKind.u8 57]
 5)
 b8 w'9 →
 ∃ (b11 : Nat),
 ∃ (o12 : Nat),
 ∃ (cs13 : Array Value),
 ∃ (t14 : TypeId),
 ∃ (fr15 : Nat × Nat),
 some (Addr.mk b8 0 none) = some (Addr.mk b11 o12 none) ∧
 w'9.heap[b11]? = some (Obj.cells cs13 t14 fr15) ∧
 ∀ (b18 : Nat) (w'19 : World),
 New (w'9.freeze (Addr.mk b11 cs13.size none) 1) (Obj.cells #[Value.slice (some (Addr.mk b8 0 none)) 9 9] 30) b18 w'19 →
 Calls Try.prog 33 #[Value.slice (some (Addr.mk b18 0 none)) 1 1] w'19 fun (e21 : Ending) (w22 : World) ↦
 ∃ (n23 : Int), e21 = Ending.returned (Value.int IntKind.u32 n23) ∧ R (Ending.returned (Value.bool (decide (n23 = 3808858755)))) w22) ∧
 (ByteArray.mk (Array.mk l6) ≠ ByteArray.mk #[172, 2] → R (Ending.returned (Value.bool false)) w2)

set_option maxRecDepth 100000 in
theorem shown2_eq (w : World) (R : Ending → World → Prop) : shown2_T w R = vcFn Try.prog [] [] Try.f32 [] w R := by kernel_rfl

set_option maxRecDepth 100000 in
theorem shown2_vc (w : World) (R : Ending → World → Prop) (h : shown2_T w R) : Calls Try.prog 32 #[] w R :=
  calls_of_vc (args := []) [] [] Try.mixed Try.func32 (cast (shown2_eq w R) h)

set_option maxRecDepth 100000 in
def wireSum_T (parts_p : Option Addr) (parts_n : Nat) (parts_c : Nat) (w : World) (R : Ending → World → Prop) : Prop :=
  ∃ (I1 : Int → Int → World → Prop),
 ∃ (M2 : Int → Int → World → Nat),
 I1 4294967295 0 w ∧
 ∀ (n3 n4 : Int) (w'5 : World),
 I1 n3 n4 w'5 →
 (n4 < (↑parts_n : Int) →
 ∃ (b8 : Nat),
 ∃ (o9 : Nat),
 parts_p = some (Addr.mk b8 o9 none) ∧
 0 ≤ n4 ∧
 n4 < (↑parts_n : Int) ∧
 ∃ (p10 : Option Addr),
 ∃ (n11 : Nat),
 ∃ (c12 : Nat),
 w'5.cell? (Addr.mk b8 (o9 + n4.toNat) none) = some (Value.slice p10 n11 c12) ∧
 ∃ (I13 : Int → Int → World → Prop),
 ∃ (M14 : Int → Int → World → Nat),
 I13 n3 0 w'5 ∧
 ∀ (n15 n16 : Int) (w'17 : World),
 I13 n15 n16 w'17 →
 (n16 < (↑n11 : Int) →
 ∃ (b20 : Nat),
 ∃ (o21 : Nat),
 p10 = some (Addr.mk b20 o21 none) ∧
 0 ≤ n16 ∧
 n16 < (↑n11 : Int) ∧
 ∃ (n22 : Int),
 w'17.cell? (Addr.mk b20 (o21 + n16.toNat) none) = some (Value.int IntKind.u8 n22) ∧
 ∃ (I23 : Int → Int → World → Prop),
 ∃ (M24 : Int → Int → World → Nat),
 I23 (bits BinOp.xor IntKind.u32 n15 (IntKind.u32.wrap n22)) 0 w'17 ∧
 ∀ (n25 n26 : Int) (w'27 : World),
 I23 n25 n26 w'27 →
 (n26 < 8 →
 I23 (bits BinOp.xor IntKind.u32 (shrI IntKind.u32 n25 1) (bits BinOp.and IntKind.u32 2197175160 (IntKind.u32.wrap (0 - bits BinOp.and IntKind.u32 n25 1))))
 (IntKind.i64.wrap (n26 + 1)) w'27 ∧
 M24 (bits BinOp.xor IntKind.u32 (shrI IntKind.u32 n25 1) (bits BinOp.and IntKind.u32 2197175160 (IntKind.u32.wrap (0 - bits BinOp.and IntKind.u32 n25 1))))
 (IntKind.i64.wrap (n26 + 1)) w'27 <
 M24 n25 n26 w'27) ∧
 (8 ≤ n26 → I13 n25 (IntKind.i64.wrap (n16 + 1)) w'27 ∧ M14 n25 (IntKind.i64.wrap (n16 + 1)) w'27 < M14 n15 n16 w'17)) ∧
 ((↑n11 : Int) ≤ n16 → I1 n15 (IntKind.i64.wrap (n4 + 1)) w'17 ∧ M2 n15 (IntKind.i64.wrap (n4 + 1)) w'17 < M2 n3 n4 w'5)) ∧
 ((↑parts_n : Int) ≤ n4 → R (Ending.returned (Value.int IntKind.u32 (bits BinOp.xor IntKind.u32 4294967295 n3))) w'5)

set_option maxRecDepth 100000 in
theorem wireSum_eq (parts_p : Option Addr) (parts_n : Nat) (parts_c : Nat) (w : World) (R : Ending → World → Prop) : wireSum_T parts_p parts_n parts_c w R = vcFn Try.prog [] [] Try.f33 [Value.slice parts_p parts_n parts_c] w R := by kernel_rfl

set_option maxRecDepth 100000 in
theorem wireSum_vc (parts_p : Option Addr) (parts_n : Nat) (parts_c : Nat) (w : World) (R : Ending → World → Prop) (h : wireSum_T parts_p parts_n parts_c w R) : Calls Try.prog 33 #[Value.slice parts_p parts_n parts_c] w R :=
  calls_of_vc (args := [Value.slice parts_p parts_n parts_c]) [] [] Try.mixed Try.func33 (cast (wireSum_eq _ _ _ w R) h)

set_option maxRecDepth 100000 in
def refSum_T (b_p : Option Addr) (b_n : Nat) (b_c : Nat) (w : World) (R : Ending → World → Prop) : Prop :=
  ∃ (I1 : Int → Int → World → Prop),
 ∃ (M2 : Int → Int → World → Nat),
 I1 4294967295 0 w ∧
 ∀ (n3 n4 : Int) (w'5 : World),
 I1 n3 n4 w'5 →
 (n4 < (↑b_n : Int) →
 ∃ (b8 : Nat),
 ∃ (o9 : Nat),
 b_p = some (Addr.mk b8 o9 none) ∧
 0 ≤ n4 ∧
 n4 < (↑b_n : Int) ∧
 ∃ (n10 : Int),
 w'5.cell? (Addr.mk b8 (o9 + n4.toNat) none) = some (Value.int IntKind.u8 n10) ∧
 ∃ (I11 : Int → Int → World → Prop),
 ∃ (M12 : Int → Int → World → Nat),
 I11 (bits BinOp.xor IntKind.u32 n3 (IntKind.u32.wrap n10)) 0 w'5 ∧
 ∀ (n13 n14 : Int) (w'15 : World),
 I11 n13 n14 w'15 →
 (n14 < 8 →
 (remI n13 2 = 1 →
 I11 (bits BinOp.xor IntKind.u32 (quoI IntKind.u32 n13 2) 2197175160) (IntKind.i64.wrap (n14 + 1)) w'15 ∧
 M12 (bits BinOp.xor IntKind.u32 (quoI IntKind.u32 n13 2) 2197175160) (IntKind.i64.wrap (n14 + 1)) w'15 < M12 n13 n14 w'15) ∧
 (remI n13 2 ≠ 1 → I11 (quoI IntKind.u32 n13 2) (IntKind.i64.wrap (n14 + 1)) w'15 ∧ M12 (quoI IntKind.u32 n13 2) (IntKind.i64.wrap (n14 + 1)) w'15 < M12 n13 n14 w'15)) ∧
 (8 ≤ n14 → I1 n13 (IntKind.i64.wrap (n4 + 1)) w'15 ∧ M2 n13 (IntKind.i64.wrap (n4 + 1)) w'15 < M2 n3 n4 w'5)) ∧
 ((↑b_n : Int) ≤ n4 → R (Ending.returned (Value.int IntKind.u32 (bits BinOp.xor IntKind.u32 n3 4294967295))) w'5)

set_option maxRecDepth 100000 in
theorem refSum_eq (b_p : Option Addr) (b_n : Nat) (b_c : Nat) (w : World) (R : Ending → World → Prop) : refSum_T b_p b_n b_c w R = vcFn Try.prog [] [] Try.f34 [Value.slice b_p b_n b_c] w R := by kernel_rfl

set_option maxRecDepth 100000 in
theorem refSum_vc (b_p : Option Addr) (b_n : Nat) (b_c : Nat) (w : World) (R : Ending → World → Prop) (h : refSum_T b_p b_n b_c w R) : Calls Try.prog 34 #[Value.slice b_p b_n b_c] w R :=
  calls_of_vc (args := [Value.slice b_p b_n b_c]) [] [] Try.mixed Try.func34 (cast (refSum_eq _ _ _ w R) h)

set_option maxRecDepth 100000 in
def wireNumber_T (b_p : Option Addr) (b_n : Nat) (b_c : Nat) (n : Int) (w : World) (R : Ending → World → Prop) : Prop :=
  Calls Try.prog 60 #[Value.int IntKind.u64 n] w fun (e1 : Ending) (w2 : World) ↦
 ∃ (p3 : Option Addr),
 ∃ (n4 : Nat),
 ∃ (c5 : Nat),
 e1 = Ending.returned (Value.slice p3 n4 c5) ∧
 ∀ (b6 : Nat) (w'7 : World),
 New w2 (Obj.cells #[Value.slice b_p b_n b_c, Value.slice p3 n4 c5] 30) b6 w'7 →
 Calls Try.prog 59 #[Value.slice (some (Addr.mk b6 0 none)) 2 2] w'7 fun (e9 : Ending) (w10 : World) ↦
 ∃ (p11 : Option Addr), ∃ (n12 : Nat), ∃ (c13 : Nat), e9 = Ending.returned (Value.slice p11 n12 c13) ∧ R (Ending.returned (Value.slice p11 n12 c13)) w10

set_option maxRecDepth 100000 in
theorem wireNumber_eq (b_p : Option Addr) (b_n : Nat) (b_c : Nat) (n : Int) (w : World) (R : Ending → World → Prop) : wireNumber_T b_p b_n b_c n w R = vcFn Try.prog [] [] Try.f35 [Value.slice b_p b_n b_c, Value.int IntKind.u64 n] w R := by kernel_rfl

set_option maxRecDepth 100000 in
theorem wireNumber_vc (b_p : Option Addr) (b_n : Nat) (b_c : Nat) (n : Int) (w : World) (R : Ending → World → Prop) (h : wireNumber_T b_p b_n b_c n w R) : Calls Try.prog 35 #[Value.slice b_p b_n b_c, Value.int IntKind.u64 n] w R :=
  calls_of_vc (args := [Value.slice b_p b_n b_c, Value.int IntKind.u64 n]) [] [] Try.mixed Try.func35 (cast (wireNumber_eq _ _ _ _ w R) h)

set_option maxRecDepth 100000 in
def concat_T (slices_p : Option Addr) (slices_n : Nat) (slices_c : Nat) (w : World) (R : Ending → World → Prop) : Prop :=
  ∃ (I1 : Int → Int → World → Prop),
 ∃ (M2 : Int → Int → World → Nat),
 I1 0 0 w ∧
 ∀ (n3 n4 : Int) (w'5 : World),
 I1 n3 n4 w'5 →
 (n4 < (↑slices_n : Int) →
 ∃ (b8 : Nat),
 ∃ (o9 : Nat),
 slices_p = some (Addr.mk b8 o9 none) ∧
 0 ≤ n4 ∧
 n4 < (↑slices_n : Int) ∧
 ∃ (p10 : Option Addr),
 ∃ (n11 : Nat),
 ∃ (c12 : Nat),
 w'5.cell? (Addr.mk b8 (o9 + n4.toNat) none) = some (Value.slice p10 n11 c12) ∧
 (IntKind.i64.wrap (n3 + (↑n11 : Int)) < 0 → False) ∧
 (0 ≤ IntKind.i64.wrap (n3 + (↑n11 : Int)) →
 I1 (IntKind.i64.wrap (n3 + (↑n11 : Int))) (IntKind.i64.wrap (n4 + 1)) w'5 ∧ M2 (IntKind.i64.wrap (n3 + (↑n11 : Int))) (IntKind.i64.wrap (n4 + 1)) w'5 < M2 n3 n4 w'5)) ∧
 ((↑slices_n : Int) ≤ n4 →
 Calls Try.prog 76 #[Value.slice none 0 0, Value.int IntKind.i64 n3] w'5 fun (e16 : Ending) (w17 : World) ↦
 ∃ (p18 : Option Addr),
 ∃ (n19 : Nat),
 ∃ (c20 : Nat),
 e16 = Ending.returned (Value.slice p18 n19 c20) ∧
 ∃ (I21 : Option Addr → Nat → Nat → Int → World → Prop),
 ∃ (M22 : Option Addr → Nat → Nat → Int → World → Nat),
 I21 p18 n19 c20 0 w17 ∧
 ∀ (p23 : Option Addr) (n24 c25 : Nat) (n26 : Int) (w'27 : World),
 I21 p23 n24 c25 n26 w'27 →
 (n26 < (↑slices_n : Int) →
 ∃ (b30 : Nat),
 ∃ (o31 : Nat),
 slices_p = some (Addr.mk b30 o31 none) ∧
 0 ≤ n26 ∧
 n26 < (↑slices_n : Int) ∧
 ∃ (p32 : Option Addr),
 ∃ (n33 : Nat),
 ∃ (c34 : Nat),
 w'27.cell? (Addr.mk b30 (o31 + n26.toNat) none) = some (Value.slice p32 n33 c34) ∧
 ∃ (p35 : Option Addr),
 ∃ (n36 : Nat),
 ∃ (c37 : Nat),
 ∃ (w'38 : World),
 Sem.run Try.prog (Builtin.append_ #[30, 30] 30 #[Value.slice p23 n24 c25, Value.slice p32 n33 c34]) w'27 = Result.ok (Value.slice p35 n36 c37) w'38 ∧
 I21 p35 n36 c37 (IntKind.i64.wrap (n26 + 1)) w'38 ∧ M22 p35 n36 c37 (IntKind.i64.wrap (n26 + 1)) w'38 < M22 p23 n24 c25 n26 w'27) ∧
 ((↑slices_n : Int) ≤ n26 → R (Ending.returned (Value.slice p23 n24 c25)) w'27))

set_option maxRecDepth 100000 in
theorem concat_eq (slices_p : Option Addr) (slices_n : Nat) (slices_c : Nat) (w : World) (R : Ending → World → Prop) : concat_T slices_p slices_n slices_c w R = vcFn Try.prog [] [] Try.f59 [Value.slice slices_p slices_n slices_c] w R := by kernel_rfl

set_option maxRecDepth 100000 in
theorem concat_vc (slices_p : Option Addr) (slices_n : Nat) (slices_c : Nat) (w : World) (R : Ending → World → Prop) (h : concat_T slices_p slices_n slices_c w R) : Calls Try.prog 59 #[Value.slice slices_p slices_n slices_c] w R :=
  calls_of_vc (args := [Value.slice slices_p slices_n slices_c]) [] [] Try.mixed Try.func59 (cast (concat_eq _ _ _ w R) h)

set_option maxRecDepth 100000 in
def digits_T (n : Int) (w : World) (R : Ending → World → Prop) : Prop :=
  ∃ (I1 : Int → Option Addr → Nat → Nat → World → Prop),
 ∃ (M2 : Int → Option Addr → Nat → Nat → World → Nat),
 I1 n none 0 0 w ∧
 ∀ (n3 : Int) (p4 : Option Addr) (n5 c6 : Nat) (w'7 : World),
 I1 n3 p4 n5 c6 w'7 →
 (shrI IntKind.u64 n3 7 = 0 →
 ∀ (b10 : Nat) (w'11 : World),
 New w'7 (Obj.cells #[Value.int IntKind.u8 (IntKind.u8.wrap (bits BinOp.and IntKind.u64 n3 127))] 5) b10 w'11 →
 ∃ (p13 : Option Addr),
 ∃ (n14 : Nat),
 ∃ (c15 : Nat),
 ∃ (w'16 : World),
 Sem.run Try.prog (Builtin.append_ #[30, 30] 30 #[Value.slice p4 n5 c6, Value.slice (some (Addr.mk b10 0 none)) 1 1]) w'11 = Result.ok (Value.slice p13 n14 c15) w'16 ∧
 R (Ending.returned (Value.slice p13 n14 c15)) w'16) ∧
 (shrI IntKind.u64 n3 7 ≠ 0 →
 ∀ (b18 : Nat) (w'19 : World),
 New w'7 (Obj.cells #[Value.int IntKind.u8 (bits BinOp.or IntKind.u8 (IntKind.u8.wrap (bits BinOp.and IntKind.u64 n3 127)) 128)] 5) b18 w'19 →
 ∃ (p21 : Option Addr),
 ∃ (n22 : Nat),
 ∃ (c23 : Nat),
 ∃ (w'24 : World),
 Sem.run Try.prog (Builtin.append_ #[30, 30] 30 #[Value.slice p4 n5 c6, Value.slice (some (Addr.mk b18 0 none)) 1 1]) w'19 = Result.ok (Value.slice p21 n22 c23) w'24 ∧
 I1 (shrI IntKind.u64 n3 7) p21 n22 c23 w'24 ∧ M2 (shrI IntKind.u64 n3 7) p21 n22 c23 w'24 < M2 n3 p4 n5 c6 w'7)

set_option maxRecDepth 100000 in
theorem digits_eq (n : Int) (w : World) (R : Ending → World → Prop) : digits_T n w R = vcFn Try.prog [] [] Try.f60 [Value.int IntKind.u64 n] w R := by kernel_rfl

set_option maxRecDepth 100000 in
theorem digits_vc (n : Int) (w : World) (R : Ending → World → Prop) (h : digits_T n w R) : Calls Try.prog 60 #[Value.int IntKind.u64 n] w R :=
  calls_of_vc (args := [Value.int IntKind.u64 n]) [] [] Try.mixed Try.func60 (cast (digits_eq _ w R) h)

set_option maxRecDepth 100000 in
def grow_T (s_p : Option Addr) (s_n : Nat) (s_c : Nat) (n : Int) (w : World) (R : Ending → World → Prop) : Prop :=
  (n < 0 → False) ∧
 (0 ≤ n →
 (0 < IntKind.i64.wrap (n - IntKind.i64.wrap ((↑s_c : Int) - (↑s_n : Int))) →
 0 ≤ (↑s_c : Int) ∧
 (↑s_c : Int) ≤ (↑s_c : Int) ∧
 ∃ (p4 : Option Addr),
 ∃ (n5 : Nat),
 ∃ (c6 : Nat),
 ∃ (w'7 : World),
 Sem.run Try.prog (Builtin.append_ #[30, 3] 30 #[Value.slice s_p s_c s_c, Value.int IntKind.i64 (IntKind.i64.wrap (n - IntKind.i64.wrap ((↑s_c : Int) - (↑s_n : Int))))])
 w =
 Result.ok (Value.slice p4 n5 c6) w'7 ∧
 0 ≤ (↑s_n : Int) ∧ (↑s_n : Int) ≤ (↑c6 : Int) ∧ R (Ending.returned (Value.slice p4 s_n c6)) w'7) ∧
 (IntKind.i64.wrap (n - IntKind.i64.wrap ((↑s_c : Int) - (↑s_n : Int))) ≤ 0 → R (Ending.returned (Value.slice s_p s_n s_c)) w))

set_option maxRecDepth 100000 in
theorem grow_eq (s_p : Option Addr) (s_n : Nat) (s_c : Nat) (n : Int) (w : World) (R : Ending → World → Prop) : grow_T s_p s_n s_c n w R = vcFn Try.prog [] [] Try.f76 [Value.slice s_p s_n s_c, Value.int IntKind.i64 n] w R := by kernel_rfl

set_option maxRecDepth 100000 in
theorem grow_vc (s_p : Option Addr) (s_n : Nat) (s_c : Nat) (n : Int) (w : World) (R : Ending → World → Prop) (h : grow_T s_p s_n s_c n w R) : Calls Try.prog 76 #[Value.slice s_p s_n s_c, Value.int IntKind.i64 n] w R :=
  calls_of_vc (args := [Value.slice s_p s_n s_c, Value.int IntKind.i64 n]) [] [] Try.mixed Try.func76 (cast (grow_eq _ _ _ _ w R) h)

set_option maxRecDepth 100000 in
def lawTurns_T (b_p : Option Addr) (b_n : Nat) (b_c : Nat) (at_ : Int) (c : Int) (w : World) (R : Ending → World → Prop) : Prop :=
  Calls Try.prog 32 #[] w fun (e1 : Ending) (w2 : World) ↦
 ∃ (b3 : Bool),
 e1 = Ending.returned (Value.bool b3) ∧
 0 ≤ mmI false (↑b_n : Int) 10000 ∧
 mmI false (↑b_n : Int) 10000 ≤ (↑b_c : Int) ∧
 (at_ < 0 ∨ (↑(mmI false (↑b_n : Int) 10000).toNat : Int) ≤ at_ → R (Ending.returned (Value.bool b3)) w2) ∧
 (0 ≤ at_ ∧ at_ < (↑(mmI false (↑b_n : Int) 10000).toNat : Int) →
 ∃ (b6 : Nat),
 ∃ (o7 : Nat),
 b_p = some (Addr.mk b6 o7 none) ∧
 0 ≤ at_ ∧
 at_ < (↑(mmI false (↑b_n : Int) 10000).toNat : Int) ∧
 ∃ (n8 : Int),
 w2.cell? (Addr.mk b6 (o7 + at_.toNat) none) = some (Value.int IntKind.u8 n8) ∧
 (n8 = c → R (Ending.returned (Value.bool b3)) w2) ∧
 (n8 ≠ c →
 (0 : Int) ≤ 0 ∧
 0 ≤ (↑(mmI false (↑b_n : Int) 10000).toNat : Int) ∧
 1 * (↑(mmI false (↑b_n : Int) 10000).toNat : Int) ≤ 281474976710656 ∧
 (↑(mmI false (↑b_n : Int) 10000).toNat : Int) ≤ 9223372036854775807 ∧
 ∀ (b11 : Nat) (w'12 : World),
 New w2 (Obj.cells (madeCells #[Value.int IntKind.u8 0] (mmI false (↑b_n : Int) 10000).toNat) 5) b11 w'12 →
 ∃ (p14 : Option Addr),
 ∃ (n15 : Nat),
 ∃ (c16 : Nat),
 ∃ (w'17 : World),
 Sem.run Try.prog
 (Builtin.append_ #[30, 30] 30 #[Value.slice (some (Addr.mk b11 0 none)) 0 (mmI false (↑b_n : Int) 10000).toNat, Value.slice b_p (mmI false (↑b_n : Int) 10000).toNat b_c])
 w'12 =
 Result.ok (Value.slice p14 n15 c16) w'17 ∧
 ∃ (b18 : Nat),
 ∃ (o19 : Nat),
 p14 = some (Addr.mk b18 o19 none) ∧
 0 ≤ at_ ∧
 at_ < (↑n15 : Int) ∧
 (∃ (u20 : Value), w'17.cell? (Addr.mk b18 (o19 + at_.toNat) none) = some u20) ∧
 w'17.frozen? (Addr.mk b18 (o19 + at_.toNat) none) = false ∧
 ∀ (w'21 : World),
 Put w'17 b18 (o19 + at_.toNat) [Value.int IntKind.u8 c] w'21 →
 (b3 = true →
 ∀ (b24 : Nat) (w'25 : World),
 New w'21 (Obj.cells #[Value.slice p14 n15 c16] 30) b24 w'25 →
 Calls Try.prog 33 #[Value.slice (some (Addr.mk b24 0 none)) 1 1] w'25 fun (e27 : Ending) (w28 : World) ↦
 ∃ (n29 : Int),
 e27 = Ending.returned (Value.int IntKind.u32 n29) ∧
 ∀ (b30 : Nat) (w'31 : World),
 New w28 (Obj.cells #[Value.slice b_p (mmI false (↑b_n : Int) 10000).toNat b_c] 30) b30 w'31 →
 Calls Try.prog 33 #[Value.slice (some (Addr.mk b30 0 none)) 1 1] w'31 fun (e33 : Ending) (w34 : World) ↦
 ∃ (n35 : Int), e33 = Ending.returned (Value.int IntKind.u32 n35) ∧ R (Ending.returned (Value.bool !decide (n29 = n35))) w34) ∧
 (b3 = false → R (Ending.returned (Value.bool false)) w'21)))

set_option maxRecDepth 100000 in
theorem lawTurns_eq (b_p : Option Addr) (b_n : Nat) (b_c : Nat) (at_ : Int) (c : Int) (w : World) (R : Ending → World → Prop) : lawTurns_T b_p b_n b_c at_ c w R = vcFn Try.prog [] [] Try.f10 [Value.slice b_p b_n b_c, Value.int IntKind.i64 at_, Value.int IntKind.u8 c] w R := by kernel_rfl

set_option maxRecDepth 100000 in
theorem lawTurns_vc (b_p : Option Addr) (b_n : Nat) (b_c : Nat) (at_ : Int) (c : Int) (w : World) (R : Ending → World → Prop) (h : lawTurns_T b_p b_n b_c at_ c w R) : Calls Try.prog 10 #[Value.slice b_p b_n b_c, Value.int IntKind.i64 at_, Value.int IntKind.u8 c] w R :=
  calls_of_vc (args := [Value.slice b_p b_n b_c, Value.int IntKind.i64 at_, Value.int IntKind.u8 c]) [] [] Try.mixed Try.func10 (cast (lawTurns_eq _ _ _ _ _ w R) h)


end Go.Proofs.Ytdclhgcgpcddlaa
