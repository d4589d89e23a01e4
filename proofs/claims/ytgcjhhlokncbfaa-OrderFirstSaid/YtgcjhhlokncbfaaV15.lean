/- The verification conditions of the functions, evaluated: printed by program. -/
import Derived.Test.YtgcjhhlokncbfaaBase
import Derived.Test.YtgcjhhlokncbfaaVcF
namespace Go.Proofs.Ytgcjhhlokncbfaa
open Go Go.Vc

set_option maxRecDepth 100000 in
def oright_T (row_p : Option Addr) (row_n : Nat) (row_c : Nat) (keys_p : Option Addr) (keys_n : Nat) (keys_c : Nat) (w : World) (R : Ending → World → Prop) : Prop :=
  ∀ (b1 : Nat) (w'2 : World),
 New w (Obj.cells #[Value.slice row_p row_n row_c] 23) b1 w'2 →
 ∃ (p4 : Option Addr),
 ∃ (n5 : Nat),
 ∃ (c6 : Nat),
 w'2.cell? (Addr.mk b1 0 none) = some (Value.slice p4 n5 c6) ∧
 ∃ (I7 : Int → World → Prop),
 ∃ (M8 : Int → World → Nat),
 I7 0 w'2 ∧
 ∀ (n9 : Int) (w'10 : World),
 I7 n9 w'10 →
 (n9 < (↑n5 : Int) →
 ∃ (b13 : Nat),
 ∃ (o14 : Nat),
 p4 = some (Addr.mk b13 o14 none) ∧
 0 ≤ n9 ∧
 n9 < (↑n5 : Int) ∧
 ∃ (n15 : Int),
 w'10.cell? (Addr.mk b13 (o14 + n9.toNat * 3) none) = some (Value.int IntKind.i64 n15) ∧
 ∃ (n16 : Int),
 w'10.cell? (Addr.mk b13 (o14 + n9.toNat * 3 + 1) none) = some (Value.int IntKind.i64 n16) ∧
 ∃ (s17 : ByteArray),
 w'10.cell? (Addr.mk b13 (o14 + n9.toNat * 3 + 2) none) = some (Value.string s17) ∧
 ∀ (b18 : Nat) (w'19 : World),
 New w'10 (Obj.cells #[Value.int IntKind.i64 0, Value.int IntKind.i64 0, Value.string (ByteArray.mk #[])] 48) b18 w'19 →
 (∃ (u21 : Value), w'19.cell? (Addr.mk b18 0 none) = some u21) ∧
 w'19.frozen? (Addr.mk b18 0 none) = false ∧
 (∃ (u22 : Value), w'19.cell? (Addr.mk b18 1 none) = some u22) ∧
 w'19.frozen? (Addr.mk b18 1 none) = false ∧
 (∃ (u23 : Value), w'19.cell? (Addr.mk b18 2 none) = some u23) ∧
 w'19.frozen? (Addr.mk b18 2 none) = false ∧
 ∀ (w'24 : World),
 Put w'19 b18 0 [Value.int IntKind.i64 n15, Value.int IntKind.i64 n16, Value.string s17] w'24 →
 ∃ (n26 : Int),
 w'24.cell? (Addr.mk b18 0 none) = some (Value.int IntKind.i64 n26) ∧
 ∃ (n27 : Int),
 w'24.cell? (Addr.mk b18 1 none) = some (Value.int IntKind.i64 n27) ∧
 ∃ (s28 : ByteArray),
 w'24.cell? (Addr.mk b18 2 none) = some (Value.string s28) ∧
 Calls Try.prog 32 #[Value.agg #[Value.int IntKind.i64 n26, Value.int IntKind.i64 n27, Value.string s28]] w'24 fun (e29 : Ending) (w30 : World) ↦
 ∃ (b31 : Bool),
 e29 = Ending.returned (Value.bool b31) ∧
 (b31 = false → R (Ending.returned (Value.bool false)) w30) ∧ (b31 = true → I7 (IntKind.i64.wrap (n9 + 1)) w30 ∧ M8 (IntKind.i64.wrap (n9 + 1)) w30 < M8 n9 w'10)) ∧
 ((↑n5 : Int) ≤ n9 →
 Calls Try.prog 33 #[Value.slice keys_p keys_n keys_c, Value.func (Fn.func 34) #[] #[Value.pointer (some (Addr.mk b1 0 none))]] w'10 fun (e35 : Ending) (w36 : World) ↦
 ∃ (b37 : Bool), e35 = Ending.returned (Value.bool b37) ∧ R (Ending.returned (Value.bool !b37)) w36)

set_option maxRecDepth 100000 in
theorem oright_eq (row_p : Option Addr) (row_n : Nat) (row_c : Nat) (keys_p : Option Addr) (keys_n : Nat) (keys_c : Nat) (w : World) (R : Ending → World → Prop) : oright_T row_p row_n row_c keys_p keys_n keys_c w R = vcFn Try.prog [] [] Try.f21 [Value.slice row_p row_n row_c, Value.slice keys_p keys_n keys_c] w R := by kernel_rfl

set_option maxRecDepth 100000 in
theorem oright_vc (row_p : Option Addr) (row_n : Nat) (row_c : Nat) (keys_p : Option Addr) (keys_n : Nat) (keys_c : Nat) (w : World) (R : Ending → World → Prop) (h : oright_T row_p row_n row_c keys_p keys_n keys_c w R) : Calls Try.prog 21 #[Value.slice row_p row_n row_c, Value.slice keys_p keys_n keys_c] w R :=
  calls_of_vc (args := [Value.slice row_p row_n row_c, Value.slice keys_p keys_n keys_c]) [] [] Try.mixed Try.func21 (cast (oright_eq _ _ _ _ _ _ w R) h)

set_option maxRecDepth 100000 in
def oright1_T (k0 : Int) (k1 : Bool) (fv0 : Nat) (w : World) (R : Ending → World → Prop) : Prop :=
  ∀ (b1 : Nat) (w'2 : World),
 New w (Obj.cells #[Value.int IntKind.i64 k0, Value.bool k1] 43) b1 w'2 →
 ∃ (n4 : Int),
 w'2.cell? (Addr.mk b1 0 none) = some (Value.int IntKind.i64 n4) ∧
 (n4 < 0 → R (Ending.returned (Value.bool true)) w'2) ∧
 (0 ≤ n4 →
 ∃ (n7 : Int),
 w'2.cell? (Addr.mk b1 0 none) = some (Value.int IntKind.i64 n7) ∧
 ∃ (p8 : Option Addr),
 ∃ (n9 : Nat), ∃ (c10 : Nat), w'2.cell? (Addr.mk fv0 0 none) = some (Value.slice p8 n9 c10) ∧ R (Ending.returned (Value.bool (decide ((↑n9 : Int) ≤ n7)))) w'2)

set_option maxRecDepth 100000 in
theorem oright1_eq (k0 : Int) (k1 : Bool) (fv0 : Nat) (w : World) (R : Ending → World → Prop) : oright1_T k0 k1 fv0 w R = vcFn Try.prog [] [] Try.f34 [Value.agg #[Value.int IntKind.i64 k0, Value.bool k1], Value.pointer (some (Addr.mk fv0 0 none))] w R := by kernel_rfl

set_option maxRecDepth 100000 in
theorem oright1_vc (k0 : Int) (k1 : Bool) (fv0 : Nat) (w : World) (R : Ending → World → Prop) (h : oright1_T k0 k1 fv0 w R) : Calls Try.prog 34 #[Value.agg #[Value.int IntKind.i64 k0, Value.bool k1], Value.pointer (some (Addr.mk fv0 0 none))] w R :=
  calls_of_vc (args := [Value.agg #[Value.int IntKind.i64 k0, Value.bool k1], Value.pointer (some (Addr.mk fv0 0 none))]) [] [] Try.mixed Try.func34 (cast (oright1_eq _ _ _ w R) h)

set_option maxRecDepth 100000 in
def ckey_T (s_p : Option Addr) (s_n : Nat) (s_c : Nat) (cv1_0 : Nat) (w : World) (R : Ending → World → Prop) : Prop :=
  Calls Try.prog 43 #[Value.slice s_p s_n s_c, Value.func (Fn.func 34) #[] #[Value.pointer (some (Addr.mk cv1_0 0 none))]] w fun (e1 : Ending) (w2 : World) ↦
 ∃ (n3 : Int), e1 = Ending.returned (Value.int IntKind.i64 n3) ∧ R (Ending.returned (Value.bool (decide (0 ≤ n3)))) w2

set_option maxRecDepth 100000 in
theorem ckey_eq (s_p : Option Addr) (s_n : Nat) (s_c : Nat) (cv1_0 : Nat) (w : World) (R : Ending → World → Prop) : ckey_T s_p s_n s_c cv1_0 w R = vcFn Try.prog [] [] Try.f33 [Value.slice s_p s_n s_c, Value.func (Fn.func 34) #[] #[Value.pointer (some (Addr.mk cv1_0 0 none))]] w R := by kernel_rfl

set_option maxRecDepth 100000 in
theorem ckey_vc (s_p : Option Addr) (s_n : Nat) (s_c : Nat) (cv1_0 : Nat) (w : World) (R : Ending → World → Prop) (h : ckey_T s_p s_n s_c cv1_0 w R) : Calls Try.prog 33 #[Value.slice s_p s_n s_c, Value.func (Fn.func 34) #[] #[Value.pointer (some (Addr.mk cv1_0 0 none))]] w R :=
  calls_of_vc (args := [Value.slice s_p s_n s_c, Value.func (Fn.func 34) #[] #[Value.pointer (some (Addr.mk cv1_0 0 none))]]) [] [] Try.mixed Try.func33 (cast (ckey_eq _ _ _ _ w R) h)

set_option maxRecDepth 100000 in
def ikey_T (s_p : Option Addr) (s_n : Nat) (s_c : Nat) (cv1_0 : Nat) (w : World) (R : Ending → World → Prop) : Prop :=
  ∃ (I1 : Int → World → Prop),
 ∃ (M2 : Int → World → Nat),
 I1 0 w ∧
 ∀ (n3 : Int) (w'4 : World),
 I1 n3 w'4 →
 (n3 < (↑s_n : Int) →
 ∃ (b7 : Nat),
 ∃ (o8 : Nat),
 s_p = some (Addr.mk b7 o8 none) ∧
 0 ≤ n3 ∧
 n3 < (↑s_n : Int) ∧
 ∃ (n9 : Int),
 w'4.cell? (Addr.mk b7 (o8 + n3.toNat * 2) none) = some (Value.int IntKind.i64 n9) ∧
 ∃ (b10 : Bool),
 w'4.cell? (Addr.mk b7 (o8 + n3.toNat * 2 + 1) none) = some (Value.bool b10) ∧
 Calls Try.prog 34 #[Value.agg #[Value.int IntKind.i64 n9, Value.bool b10], Value.pointer (some (Addr.mk cv1_0 0 none))] w'4 fun (e11 : Ending) (w12 : World) ↦
 ∃ (b13 : Bool),
 e11 = Ending.returned (Value.bool b13) ∧
 (b13 = true → R (Ending.returned (Value.int IntKind.i64 n3)) w12) ∧ (b13 = false → I1 (IntKind.i64.wrap (n3 + 1)) w12 ∧ M2 (IntKind.i64.wrap (n3 + 1)) w12 < M2 n3 w'4)) ∧
 ((↑s_n : Int) ≤ n3 → R (Ending.returned (Value.int IntKind.i64 (-1))) w'4)

set_option maxRecDepth 100000 in
theorem ikey_eq (s_p : Option Addr) (s_n : Nat) (s_c : Nat) (cv1_0 : Nat) (w : World) (R : Ending → World → Prop) : ikey_T s_p s_n s_c cv1_0 w R = vcFn Try.prog [] [] Try.f43 [Value.slice s_p s_n s_c, Value.func (Fn.func 34) #[] #[Value.pointer (some (Addr.mk cv1_0 0 none))]] w R := by kernel_rfl

set_option maxRecDepth 100000 in
theorem ikey_vc (s_p : Option Addr) (s_n : Nat) (s_c : Nat) (cv1_0 : Nat) (w : World) (R : Ending → World → Prop) (h : ikey_T s_p s_n s_c cv1_0 w R) : Calls Try.prog 43 #[Value.slice s_p s_n s_c, Value.func (Fn.func 34) #[] #[Value.pointer (some (Addr.mk cv1_0 0 none))]] w R :=
  calls_of_vc (args := [Value.slice s_p s_n s_c, Value.func (Fn.func 34) #[] #[Value.pointer (some (Addr.mk cv1_0 0 none))]]) [] [] Try.mixed Try.func43 (cast (ikey_eq _ _ _ _ w R) h)

set_option maxRecDepth 100000 in
def ostands_T (a_p : Option Addr) (a_n : Nat) (a_c : Nat) (b_p : Option Addr) (b_n : Nat) (b_c : Nat) (keys_p : Option Addr) (keys_n : Nat) (keys_c : Nat) (w : World) (R : Ending → World → Prop) : Prop :=
  ∃ (I1 : Int → Int → World → Prop),
 ∃ (M2 : Int → Int → World → Nat),
 I1 0 0 w ∧
 ∀ (n3 n4 : Int) (w'5 : World),
 I1 n3 n4 w'5 →
 (n4 < (↑keys_n : Int) →
 ∃ (b8 : Nat),
 ∃ (o9 : Nat),
 keys_p = some (Addr.mk b8 o9 none) ∧
 0 ≤ n4 ∧
 n4 < (↑keys_n : Int) ∧
 ∃ (n10 : Int),
 w'5.cell? (Addr.mk b8 (o9 + n4.toNat * 2) none) = some (Value.int IntKind.i64 n10) ∧
 ∃ (b11 : Bool),
 w'5.cell? (Addr.mk b8 (o9 + n4.toNat * 2 + 1) none) = some (Value.bool b11) ∧
 ∀ (b12 : Nat) (w'13 : World),
 New w'5 (Obj.cells #[Value.int IntKind.i64 0, Value.bool false] 43) b12 w'13 →
 (∃ (u15 : Value), w'13.cell? (Addr.mk b12 0 none) = some u15) ∧
 w'13.frozen? (Addr.mk b12 0 none) = false ∧
 (∃ (u16 : Value), w'13.cell? (Addr.mk b12 1 none) = some u16) ∧
 w'13.frozen? (Addr.mk b12 1 none) = false ∧
 ∀ (w'17 : World),
 Put w'13 b12 0 [Value.int IntKind.i64 n10, Value.bool b11] w'17 →
 ∀ (w'19 : World),
 Drew w'17 w'19 →
 ∃ (n21 : Int),
 w'19.cell? (Addr.mk b12 0 none) = some (Value.int IntKind.i64 n21) ∧
 ∃ (b22 : Nat),
 ∃ (o23 : Nat),
 a_p = some (Addr.mk b22 o23 none) ∧
 0 ≤ n21 ∧
 n21 < (↑a_n : Int) ∧
 ∃ (n24 : Int),
 w'19.cell? (Addr.mk b22 (o23 + n21.toNat * 3) none) = some (Value.int IntKind.i64 n24) ∧
 ∃ (n25 : Int),
 w'19.cell? (Addr.mk b22 (o23 + n21.toNat * 3 + 1) none) = some (Value.int IntKind.i64 n25) ∧
 ∃ (s26 : ByteArray),
 w'19.cell? (Addr.mk b22 (o23 + n21.toNat * 3 + 2) none) = some (Value.string s26) ∧
 ∃ (n27 : Int),
 w'19.cell? (Addr.mk b12 0 none) = some (Value.int IntKind.i64 n27) ∧
 ∃ (b28 : Nat),
 ∃ (o29 : Nat),
 b_p = some (Addr.mk b28 o29 none) ∧
 0 ≤ n27 ∧
 n27 < (↑b_n : Int) ∧
 ∃ (n30 : Int),
 w'19.cell? (Addr.mk b28 (o29 + n27.toNat * 3) none) = some (Value.int IntKind.i64 n30) ∧
 ∃ (n31 : Int),
 w'19.cell? (Addr.mk b28 (o29 + n27.toNat * 3 + 1) none) = some (Value.int IntKind.i64 n31) ∧
 ∃ (s32 : ByteArray),
 w'19.cell? (Addr.mk b28 (o29 + n27.toNat * 3 + 2) none) = some (Value.string s32) ∧
 Calls Try.prog 35
 #[Value.agg #[Value.int IntKind.i64 n24, Value.int IntKind.i64 n25, Value.string s26],
 Value.agg #[Value.int IntKind.i64 n30, Value.int IntKind.i64 n31, Value.string s32]]
 w'19 fun (e33 : Ending) (w34 : World) ↦
 ∃ (n35 : Int),
 e33 = Ending.returned (Value.int IntKind.i64 n35) ∧
 ∃ (b36 : Bool),
 w34.cell? (Addr.mk b12 1 none) = some (Value.bool b36) ∧
 (b36 = true →
 (IntKind.i64.wrap (0 - n35) ≠ 0 → R (Ending.returned (Value.int IntKind.i64 (IntKind.i64.wrap (0 - n35)))) w34) ∧
 (IntKind.i64.wrap (0 - n35) = 0 →
 I1 (IntKind.i64.wrap (0 - n35)) (IntKind.i64.wrap (n4 + 1)) w34 ∧ M2 (IntKind.i64.wrap (0 - n35)) (IntKind.i64.wrap (n4 + 1)) w34 < M2 n3 n4 w'5)) ∧
 (b36 = false →
 (n35 ≠ 0 → R (Ending.returned (Value.int IntKind.i64 n35)) w34) ∧
 (n35 = 0 → I1 n35 (IntKind.i64.wrap (n4 + 1)) w34 ∧ M2 n35 (IntKind.i64.wrap (n4 + 1)) w34 < M2 n3 n4 w'5))) ∧
 ((↑keys_n : Int) ≤ n4 → R (Ending.returned (Value.int IntKind.i64 n3)) w'5)

set_option maxRecDepth 100000 in
theorem ostands_eq (a_p : Option Addr) (a_n : Nat) (a_c : Nat) (b_p : Option Addr) (b_n : Nat) (b_c : Nat) (keys_p : Option Addr) (keys_n : Nat) (keys_c : Nat) (w : World) (R : Ending → World → Prop) : ostands_T a_p a_n a_c b_p b_n b_c keys_p keys_n keys_c w R = vcFn Try.prog [] [(5, [0, 2, 4, 6, 8, 10, 12, 14, 16, 18, 20, 22])] Try.f22 [Value.slice a_p a_n a_c, Value.slice b_p b_n b_c, Value.slice keys_p keys_n keys_c] w R := by kernel_rfl

set_option maxRecDepth 100000 in
theorem ostands_vc (a_p : Option Addr) (a_n : Nat) (a_c : Nat) (b_p : Option Addr) (b_n : Nat) (b_c : Nat) (keys_p : Option Addr) (keys_n : Nat) (keys_c : Nat) (w : World) (R : Ending → World → Prop) (h : ostands_T a_p a_n a_c b_p b_n b_c keys_p keys_n keys_c w R) : Calls Try.prog 22 #[Value.slice a_p a_n a_c, Value.slice b_p b_n b_c, Value.slice keys_p keys_n keys_c] w R :=
  calls_of_vc (args := [Value.slice a_p a_n a_c, Value.slice b_p b_n b_c, Value.slice keys_p keys_n keys_c]) [] [(5, [0, 2, 4, 6, 8, 10, 12, 14, 16, 18, 20, 22])] Try.mixed Try.func22 (cast (ostands_eq _ _ _ _ _ _ _ _ _ w R) h)

set_option maxRecDepth 100000 in
def ocompare_T (a_p : Option Addr) (a_n : Nat) (a_c : Nat) (b_p : Option Addr) (b_n : Nat) (b_c : Nat) (keys_p : Option Addr) (keys_n : Nat) (keys_c : Nat) (w : World) (R : Ending → World → Prop) : Prop :=
  Calls Try.prog 21 #[Value.slice a_p a_n a_c, Value.slice keys_p keys_n keys_c] w fun (e1 : Ending) (w2 : World) ↦
 ∃ (b3 : Bool),
 e1 = Ending.returned (Value.bool b3) ∧
 (b3 = false → R (Ending.returned (Value.tuple #[Value.int IntKind.i64 0, Value.int IntKind.i64 2])) w2) ∧
 (b3 = true →
 Calls Try.prog 21 #[Value.slice b_p b_n b_c, Value.slice keys_p keys_n keys_c] w2 fun (e6 : Ending) (w7 : World) ↦
 ∃ (b8 : Bool),
 e6 = Ending.returned (Value.bool b8) ∧
 (b8 = false → R (Ending.returned (Value.tuple #[Value.int IntKind.i64 0, Value.int IntKind.i64 2])) w7) ∧
 (b8 = true →
 Calls Try.prog 22 #[Value.slice a_p a_n a_c, Value.slice b_p b_n b_c, Value.slice keys_p keys_n keys_c] w7 fun (e11 : Ending) (w12 : World) ↦
 ∃ (n13 : Int), e11 = Ending.returned (Value.int IntKind.i64 n13) ∧ R (Ending.returned (Value.tuple #[Value.int IntKind.i64 n13, Value.int IntKind.i64 0])) w12))

set_option maxRecDepth 100000 in
theorem ocompare_eq (a_p : Option Addr) (a_n : Nat) (a_c : Nat) (b_p : Option Addr) (b_n : Nat) (b_c : Nat) (keys_p : Option Addr) (keys_n : Nat) (keys_c : Nat) (w : World) (R : Ending → World → Prop) : ocompare_T a_p a_n a_c b_p b_n b_c keys_p keys_n keys_c w R = vcFn Try.prog [] [] Try.f10 [Value.slice a_p a_n a_c, Value.slice b_p b_n b_c, Value.slice keys_p keys_n keys_c] w R := by kernel_rfl

set_option maxRecDepth 100000 in
theorem ocompare_vc (a_p : Option Addr) (a_n : Nat) (a_c : Nat) (b_p : Option Addr) (b_n : Nat) (b_c : Nat) (keys_p : Option Addr) (keys_n : Nat) (keys_c : Nat) (w : World) (R : Ending → World → Prop) (h : ocompare_T a_p a_n a_c b_p b_n b_c keys_p keys_n keys_c w R) : Calls Try.prog 10 #[Value.slice a_p a_n a_c, Value.slice b_p b_n b_c, Value.slice keys_p keys_n keys_c] w R :=
  calls_of_vc (args := [Value.slice a_p a_n a_c, Value.slice b_p b_n b_c, Value.slice keys_p keys_n keys_c]) [] [] Try.mixed Try.func10 (cast (ocompare_eq _ _ _ _ _ _ _ _ _ w R) h)

set_option maxRecDepth 100000 in
def r15right_T (row_p : Option Addr) (row_n : Nat) (row_c : Nat) (keys_p : Option Addr) (keys_n : Nat) (keys_c : Nat) (w : World) (R : Ending → World → Prop) : Prop :=
  ∃ (I1 : Int → World → Prop),
 ∃ (M2 : Int → World → Nat),
 I1 0 w ∧
 ∀ (n3 : Int) (w'4 : World),
 I1 n3 w'4 →
 (n3 < (↑row_n : Int) →
 ∃ (b7 : Nat),
 ∃ (o8 : Nat),
 row_p = some (Addr.mk b7 o8 none) ∧
 0 ≤ n3 ∧
 n3 < (↑row_n : Int) ∧
 ∃ (n9 : Int),
 w'4.cell? (Addr.mk b7 (o8 + n3.toNat * 3) none) = some (Value.int IntKind.i64 n9) ∧
 ∃ (n10 : Int),
 w'4.cell? (Addr.mk b7 (o8 + n3.toNat * 3 + 1) none) = some (Value.int IntKind.i64 n10) ∧
 ∃ (s11 : ByteArray),
 w'4.cell? (Addr.mk b7 (o8 + n3.toNat * 3 + 2) none) = some (Value.string s11) ∧
 Calls Try.prog 36 #[Value.agg #[Value.int IntKind.i64 n9, Value.int IntKind.i64 n10, Value.string s11]] w'4 fun (e12 : Ending) (w13 : World) ↦
 ∃ (b14 : Bool),
 e12 = Ending.returned (Value.bool b14) ∧
 (b14 = false → R (Ending.returned (Value.bool false)) w13) ∧ (b14 = true → I1 (IntKind.i64.wrap (n3 + 1)) w13 ∧ M2 (IntKind.i64.wrap (n3 + 1)) w13 < M2 n3 w'4)) ∧
 ((↑row_n : Int) ≤ n3 →
 ∃ (I18 : Int → World → Prop),
 ∃ (M19 : Int → World → Nat),
 I18 0 w'4 ∧
 ∀ (n20 : Int) (w'21 : World),
 I18 n20 w'21 →
 (n20 < (↑keys_n : Int) →
 ∃ (b24 : Nat),
 ∃ (o25 : Nat),
 keys_p = some (Addr.mk b24 o25 none) ∧
 0 ≤ n20 ∧
 n20 < (↑keys_n : Int) ∧
 ∃ (n26 : Int),
 w'21.cell? (Addr.mk b24 (o25 + n20.toNat * 2) none) = some (Value.int IntKind.i64 n26) ∧
 (n26 < 0 → R (Ending.returned (Value.bool false)) w'21) ∧
 (0 ≤ n26 →
 ∃ (b29 : Nat),
 ∃ (o30 : Nat),
 keys_p = some (Addr.mk b29 o30 none) ∧
 0 ≤ n20 ∧
 n20 < (↑keys_n : Int) ∧
 ∃ (n31 : Int),
 w'21.cell? (Addr.mk b29 (o30 + n20.toNat * 2) none) = some (Value.int IntKind.i64 n31) ∧
 ((↑row_n : Int) ≤ n31 → R (Ending.returned (Value.bool false)) w'21) ∧
 (n31 < (↑row_n : Int) → I18 (IntKind.i64.wrap (n20 + 1)) w'21 ∧ M19 (IntKind.i64.wrap (n20 + 1)) w'21 < M19 n20 w'21))) ∧
 ((↑keys_n : Int) ≤ n20 → R (Ending.returned (Value.bool true)) w'21))

set_option maxRecDepth 100000 in
theorem r15right_eq (row_p : Option Addr) (row_n : Nat) (row_c : Nat) (keys_p : Option Addr) (keys_n : Nat) (keys_c : Nat) (w : World) (R : Ending → World → Prop) : r15right_T row_p row_n row_c keys_p keys_n keys_c w R = vcFn Try.prog [] [] Try.f23 [Value.slice row_p row_n row_c, Value.slice keys_p keys_n keys_c] w R := by kernel_rfl

set_option maxRecDepth 100000 in
theorem r15right_vc (row_p : Option Addr) (row_n : Nat) (row_c : Nat) (keys_p : Option Addr) (keys_n : Nat) (keys_c : Nat) (w : World) (R : Ending → World → Prop) (h : r15right_T row_p row_n row_c keys_p keys_n keys_c w R) : Calls Try.prog 23 #[Value.slice row_p row_n row_c, Value.slice keys_p keys_n keys_c] w R :=
  calls_of_vc (args := [Value.slice row_p row_n row_c, Value.slice keys_p keys_n keys_c]) [] [] Try.mixed Try.func23 (cast (r15right_eq _ _ _ _ _ _ w R) h)

set_option maxRecDepth 100000 in
def r15stands_T (a_p : Option Addr) (a_n : Nat) (a_c : Nat) (b_p : Option Addr) (b_n : Nat) (b_c : Nat) (keys_p : Option Addr) (keys_n : Nat) (keys_c : Nat) (w : World) (R : Ending → World → Prop) : Prop :=
  ∃ (I1 : Int → World → Prop),
 ∃ (M2 : Int → World → Nat),
 I1 0 w ∧
 ∀ (n3 : Int) (w'4 : World),
 I1 n3 w'4 →
 (n3 < (↑keys_n : Int) →
 ∃ (b7 : Nat),
 ∃ (o8 : Nat),
 keys_p = some (Addr.mk b7 o8 none) ∧
 0 ≤ n3 ∧
 n3 < (↑keys_n : Int) ∧
 ∃ (n9 : Int),
 w'4.cell? (Addr.mk b7 (o8 + n3.toNat * 2) none) = some (Value.int IntKind.i64 n9) ∧
 ∀ (w'10 : World),
 Drew w'4 w'10 →
 ∃ (b12 : Nat),
 ∃ (o13 : Nat),
 a_p = some (Addr.mk b12 o13 none) ∧
 0 ≤ n9 ∧
 n9 < (↑a_n : Int) ∧
 ∃ (n14 : Int),
 w'10.cell? (Addr.mk b12 (o13 + n9.toNat * 3) none) = some (Value.int IntKind.i64 n14) ∧
 ∃ (n15 : Int),
 w'10.cell? (Addr.mk b12 (o13 + n9.toNat * 3 + 1) none) = some (Value.int IntKind.i64 n15) ∧
 ∃ (s16 : ByteArray),
 w'10.cell? (Addr.mk b12 (o13 + n9.toNat * 3 + 2) none) = some (Value.string s16) ∧
 ∃ (b17 : Nat),
 ∃ (o18 : Nat),
 b_p = some (Addr.mk b17 o18 none) ∧
 0 ≤ n9 ∧
 n9 < (↑b_n : Int) ∧
 ∃ (n19 : Int),
 w'10.cell? (Addr.mk b17 (o18 + n9.toNat * 3) none) = some (Value.int IntKind.i64 n19) ∧
 ∃ (n20 : Int),
 w'10.cell? (Addr.mk b17 (o18 + n9.toNat * 3 + 1) none) = some (Value.int IntKind.i64 n20) ∧
 ∃ (s21 : ByteArray),
 w'10.cell? (Addr.mk b17 (o18 + n9.toNat * 3 + 2) none) = some (Value.string s21) ∧
 Calls Try.prog 37
 #[Value.agg #[Value.int IntKind.i64 n14, Value.int IntKind.i64 n15, Value.string s16],
 Value.agg #[Value.int IntKind.i64 n19, Value.int IntKind.i64 n20, Value.string s21]]
 w'10 fun (e22 : Ending) (w23 : World) ↦
 ∃ (n24 : Int),
 e22 = Ending.returned (Value.int IntKind.i64 n24) ∧
 (n24 ≠ 0 →
 ∃ (b26 : Nat),
 ∃ (o27 : Nat),
 keys_p = some (Addr.mk b26 o27 none) ∧
 0 ≤ n3 ∧
 n3 < (↑keys_n : Int) ∧
 ∃ (b28 : Bool),
 w23.cell? (Addr.mk b26 (o27 + n3.toNat * 2 + 1) none) = some (Value.bool b28) ∧
 (b28 = true → R (Ending.returned (Value.int IntKind.i64 (IntKind.i64.wrap (0 - n24)))) w23) ∧
 (b28 = false →
 (n24 ≠ 0 → R (Ending.returned (Value.int IntKind.i64 n24)) w23) ∧ (n24 = 0 → I1 (IntKind.i64.wrap (n3 + 1)) w23 ∧ M2 (IntKind.i64.wrap (n3 + 1)) w23 < M2 n3 w'4))) ∧
 (n24 = 0 →
 (n24 ≠ 0 → R (Ending.returned (Value.int IntKind.i64 n24)) w23) ∧ (n24 = 0 → I1 (IntKind.i64.wrap (n3 + 1)) w23 ∧ M2 (IntKind.i64.wrap (n3 + 1)) w23 < M2 n3 w'4))) ∧
 ((↑keys_n : Int) ≤ n3 → R (Ending.returned (Value.int IntKind.i64 0)) w'4)

set_option maxRecDepth 100000 in
theorem r15stands_eq (a_p : Option Addr) (a_n : Nat) (a_c : Nat) (b_p : Option Addr) (b_n : Nat) (b_c : Nat) (keys_p : Option Addr) (keys_n : Nat) (keys_c : Nat) (w : World) (R : Ending → World → Prop) : r15stands_T a_p a_n a_c b_p b_n b_c keys_p keys_n keys_c w R = vcFn Try.prog [] [(5, [0, 2, 4, 6, 8, 10, 12, 14, 16, 18])] Try.f24 [Value.slice a_p a_n a_c, Value.slice b_p b_n b_c, Value.slice keys_p keys_n keys_c] w R := by kernel_rfl

set_option maxRecDepth 100000 in
theorem r15stands_vc (a_p : Option Addr) (a_n : Nat) (a_c : Nat) (b_p : Option Addr) (b_n : Nat) (b_c : Nat) (keys_p : Option Addr) (keys_n : Nat) (keys_c : Nat) (w : World) (R : Ending → World → Prop) (h : r15stands_T a_p a_n a_c b_p b_n b_c keys_p keys_n keys_c w R) : Calls Try.prog 24 #[Value.slice a_p a_n a_c, Value.slice b_p b_n b_c, Value.slice keys_p keys_n keys_c] w R :=
  calls_of_vc (args := [Value.slice a_p a_n a_c, Value.slice b_p b_n b_c, Value.slice keys_p keys_n keys_c]) [] [(5, [0, 2, 4, 6, 8, 10, 12, 14, 16, 18])] Try.mixed Try.func24 (cast (r15stands_eq _ _ _ _ _ _ _ _ _ w R) h)

set_option maxRecDepth 100000 in
def r15compare_T (a_p : Option Addr) (a_n : Nat) (a_c : Nat) (b_p : Option Addr) (b_n : Nat) (b_c : Nat) (keys_p : Option Addr) (keys_n : Nat) (keys_c : Nat) (w : World) (R : Ending → World → Prop) : Prop :=
  Calls Try.prog 23 #[Value.slice a_p a_n a_c, Value.slice keys_p keys_n keys_c] w fun (e1 : Ending) (w2 : World) ↦
 ∃ (b3 : Bool),
 e1 = Ending.returned (Value.bool b3) ∧
 Calls Try.prog 23 #[Value.slice b_p b_n b_c, Value.slice keys_p keys_n keys_c] w2 fun (e4 : Ending) (w5 : World) ↦
 ∃ (b6 : Bool),
 e4 = Ending.returned (Value.bool b6) ∧
 (b3 = false ∨ b6 = false → R (Ending.returned (Value.tuple #[Value.int IntKind.i64 0, Value.int IntKind.i64 2])) w5) ∧
 (b3 = true ∧ b6 = true →
 Calls Try.prog 24 #[Value.slice a_p a_n a_c, Value.slice b_p b_n b_c, Value.slice keys_p keys_n keys_c] w5 fun (e9 : Ending) (w10 : World) ↦
 ∃ (n11 : Int), e9 = Ending.returned (Value.int IntKind.i64 n11) ∧ R (Ending.returned (Value.tuple #[Value.int IntKind.i64 n11, Value.int IntKind.i64 0])) w10)

set_option maxRecDepth 100000 in
theorem r15compare_eq (a_p : Option Addr) (a_n : Nat) (a_c : Nat) (b_p : Option Addr) (b_n : Nat) (b_c : Nat) (keys_p : Option Addr) (keys_n : Nat) (keys_c : Nat) (w : World) (R : Ending → World → Prop) : r15compare_T a_p a_n a_c b_p b_n b_c keys_p keys_n keys_c w R = vcFn Try.prog [] [] Try.f11 [Value.slice a_p a_n a_c, Value.slice b_p b_n b_c, Value.slice keys_p keys_n keys_c] w R := by kernel_rfl

set_option maxRecDepth 100000 in
theorem r15compare_vc (a_p : Option Addr) (a_n : Nat) (a_c : Nat) (b_p : Option Addr) (b_n : Nat) (b_c : Nat) (keys_p : Option Addr) (keys_n : Nat) (keys_c : Nat) (w : World) (R : Ending → World → Prop) (h : r15compare_T a_p a_n a_c b_p b_n b_c keys_p keys_n keys_c w R) : Calls Try.prog 11 #[Value.slice a_p a_n a_c, Value.slice b_p b_n b_c, Value.slice keys_p keys_n keys_c] w R :=
  calls_of_vc (args := [Value.slice a_p a_n a_c, Value.slice b_p b_n b_c, Value.slice keys_p keys_n keys_c]) [] [] Try.mixed Try.func11 (cast (r15compare_eq _ _ _ _ _ _ _ _ _ w R) h)

set_option maxRecDepth 100000 in
def oall_T (rows_p : Option Addr) (rows_n : Nat) (rows_c : Nat) (keys_p : Option Addr) (keys_n : Nat) (keys_c : Nat) (w : World) (R : Ending → World → Prop) : Prop :=
  ∀ (b1 : Nat) (w'2 : World),
 New w (Obj.cells #[Value.slice keys_p keys_n keys_c] 24) b1 w'2 →
 Calls Try.prog 38 #[Value.slice rows_p rows_n rows_c, Value.func (Fn.func 39) #[] #[Value.pointer (some (Addr.mk b1 0 none))]] w'2 fun (e4 : Ending) (w5 : World) ↦
 ∃ (b6 : Bool), e4 = Ending.returned (Value.bool b6) ∧ R (Ending.returned (Value.bool !b6)) w5

set_option maxRecDepth 100000 in
theorem oall_eq (rows_p : Option Addr) (rows_n : Nat) (rows_c : Nat) (keys_p : Option Addr) (keys_n : Nat) (keys_c : Nat) (w : World) (R : Ending → World → Prop) : oall_T rows_p rows_n rows_c keys_p keys_n keys_c w R = vcFn Try.prog [] [] Try.f25 [Value.slice rows_p rows_n rows_c, Value.slice keys_p keys_n keys_c] w R := by kernel_rfl

set_option maxRecDepth 100000 in
theorem oall_vc (rows_p : Option Addr) (rows_n : Nat) (rows_c : Nat) (keys_p : Option Addr) (keys_n : Nat) (keys_c : Nat) (w : World) (R : Ending → World → Prop) (h : oall_T rows_p rows_n rows_c keys_p keys_n keys_c w R) : Calls Try.prog 25 #[Value.slice rows_p rows_n rows_c, Value.slice keys_p keys_n keys_c] w R :=
  calls_of_vc (args := [Value.slice rows_p rows_n rows_c, Value.slice keys_p keys_n keys_c]) [] [] Try.mixed Try.func25 (cast (oall_eq _ _ _ _ _ _ w R) h)

set_option maxRecDepth 100000 in
def oall1_T (r_p : Option Addr) (r_n : Nat) (r_c : Nat) (fv0 : Nat) (w : World) (R : Ending → World → Prop) : Prop :=
  ∃ (p1 : Option Addr),
 ∃ (n2 : Nat),
 ∃ (c3 : Nat),
 w.cell? (Addr.mk fv0 0 none) = some (Value.slice p1 n2 c3) ∧
 Calls Try.prog 21 #[Value.slice r_p r_n r_c, Value.slice p1 n2 c3] w fun (e4 : Ending) (w5 : World) ↦
 ∃ (b6 : Bool), e4 = Ending.returned (Value.bool b6) ∧ R (Ending.returned (Value.bool !b6)) w5

set_option maxRecDepth 100000 in
theorem oall1_eq (r_p : Option Addr) (r_n : Nat) (r_c : Nat) (fv0 : Nat) (w : World) (R : Ending → World → Prop) : oall1_T r_p r_n r_c fv0 w R = vcFn Try.prog [] [] Try.f39 [Value.slice r_p r_n r_c, Value.pointer (some (Addr.mk fv0 0 none))] w R := by kernel_rfl

set_option maxRecDepth 100000 in
theorem oall1_vc (r_p : Option Addr) (r_n : Nat) (r_c : Nat) (fv0 : Nat) (w : World) (R : Ending → World → Prop) (h : oall1_T r_p r_n r_c fv0 w R) : Calls Try.prog 39 #[Value.slice r_p r_n r_c, Value.pointer (some (Addr.mk fv0 0 none))] w R :=
  calls_of_vc (args := [Value.slice r_p r_n r_c, Value.pointer (some (Addr.mk fv0 0 none))]) [] [] Try.mixed Try.func39 (cast (oall1_eq _ _ _ _ w R) h)

set_option maxRecDepth 100000 in
def crow_T (s_p : Option Addr) (s_n : Nat) (s_c : Nat) (cv1_0 : Nat) (w : World) (R : Ending → World → Prop) : Prop :=
  Calls Try.prog 49 #[Value.slice s_p s_n s_c, Value.func (Fn.func 39) #[] #[Value.pointer (some (Addr.mk cv1_0 0 none))]] w fun (e1 : Ending) (w2 : World) ↦
 ∃ (n3 : Int), e1 = Ending.returned (Value.int IntKind.i64 n3) ∧ R (Ending.returned (Value.bool (decide (0 ≤ n3)))) w2

set_option maxRecDepth 100000 in
theorem crow_eq (s_p : Option Addr) (s_n : Nat) (s_c : Nat) (cv1_0 : Nat) (w : World) (R : Ending → World → Prop) : crow_T s_p s_n s_c cv1_0 w R = vcFn Try.prog [] [] Try.f38 [Value.slice s_p s_n s_c, Value.func (Fn.func 39) #[] #[Value.pointer (some (Addr.mk cv1_0 0 none))]] w R := by kernel_rfl

set_option maxRecDepth 100000 in
theorem crow_vc (s_p : Option Addr) (s_n : Nat) (s_c : Nat) (cv1_0 : Nat) (w : World) (R : Ending → World → Prop) (h : crow_T s_p s_n s_c cv1_0 w R) : Calls Try.prog 38 #[Value.slice s_p s_n s_c, Value.func (Fn.func 39) #[] #[Value.pointer (some (Addr.mk cv1_0 0 none))]] w R :=
  calls_of_vc (args := [Value.slice s_p s_n s_c, Value.func (Fn.func 39) #[] #[Value.pointer (some (Addr.mk cv1_0 0 none))]]) [] [] Try.mixed Try.func38 (cast (crow_eq _ _ _ _ w R) h)

set_option maxRecDepth 100000 in
def irow_T (s_p : Option Addr) (s_n : Nat) (s_c : Nat) (cv1_0 : Nat) (w : World) (R : Ending → World → Prop) : Prop :=
  ∃ (I1 : Int → World → Prop),
 ∃ (M2 : Int → World → Nat),
 I1 0 w ∧
 ∀ (n3 : Int) (w'4 : World),
 I1 n3 w'4 →
 (n3 < (↑s_n : Int) →
 ∃ (b7 : Nat),
 ∃ (o8 : Nat),
 s_p = some (Addr.mk b7 o8 none) ∧
 0 ≤ n3 ∧
 n3 < (↑s_n : Int) ∧
 ∃ (p9 : Option Addr),
 ∃ (n10 : Nat),
 ∃ (c11 : Nat),
 w'4.cell? (Addr.mk b7 (o8 + n3.toNat) none) = some (Value.slice p9 n10 c11) ∧
 Calls Try.prog 39 #[Value.slice p9 n10 c11, Value.pointer (some (Addr.mk cv1_0 0 none))] w'4 fun (e12 : Ending) (w13 : World) ↦
 ∃ (b14 : Bool),
 e12 = Ending.returned (Value.bool b14) ∧
 (b14 = true → R (Ending.returned (Value.int IntKind.i64 n3)) w13) ∧ (b14 = false → I1 (IntKind.i64.wrap (n3 + 1)) w13 ∧ M2 (IntKind.i64.wrap (n3 + 1)) w13 < M2 n3 w'4)) ∧
 ((↑s_n : Int) ≤ n3 → R (Ending.returned (Value.int IntKind.i64 (-1))) w'4)

set_option maxRecDepth 100000 in
theorem irow_eq (s_p : Option Addr) (s_n : Nat) (s_c : Nat) (cv1_0 : Nat) (w : World) (R : Ending → World → Prop) : irow_T s_p s_n s_c cv1_0 w R = vcFn Try.prog [] [] Try.f49 [Value.slice s_p s_n s_c, Value.func (Fn.func 39) #[] #[Value.pointer (some (Addr.mk cv1_0 0 none))]] w R := by kernel_rfl

set_option maxRecDepth 100000 in
theorem irow_vc (s_p : Option Addr) (s_n : Nat) (s_c : Nat) (cv1_0 : Nat) (w : World) (R : Ending → World → Prop) (h : irow_T s_p s_n s_c cv1_0 w R) : Calls Try.prog 49 #[Value.slice s_p s_n s_c, Value.func (Fn.func 39) #[] #[Value.pointer (some (Addr.mk cv1_0 0 none))]] w R :=
  calls_of_vc (args := [Value.slice s_p s_n s_c, Value.func (Fn.func 39) #[] #[Value.pointer (some (Addr.mk cv1_0 0 none))]]) [] [] Try.mixed Try.func49 (cast (irow_eq _ _ _ _ w R) h)

set_option maxRecDepth 100000 in
def ocopied_T (rows_p : Option Addr) (rows_n : Nat) (rows_c : Nat) (w : World) (R : Ending → World → Prop) : Prop :=
  ∃ (I1 : Option Addr → Nat → Nat → Int → World → Prop),
 ∃ (M2 : Option Addr → Nat → Nat → Int → World → Nat),
 I1 none 0 0 0 w ∧
 ∀ (p3 : Option Addr) (n4 c5 : Nat) (n6 : Int) (w'7 : World),
 I1 p3 n4 c5 n6 w'7 →
 (n6 < (↑rows_n : Int) →
 ∃ (b10 : Nat),
 ∃ (o11 : Nat),
 rows_p = some (Addr.mk b10 o11 none) ∧
 0 ≤ n6 ∧
 n6 < (↑rows_n : Int) ∧
 ∃ (p12 : Option Addr),
 ∃ (n13 : Nat),
 ∃ (c14 : Nat),
 w'7.cell? (Addr.mk b10 (o11 + n6.toNat) none) = some (Value.slice p12 n13 c14) ∧
 Calls Try.prog 40 #[Value.slice p12 n13 c14] w'7 fun (e15 : Ending) (w16 : World) ↦
 ∃ (p17 : Option Addr),
 ∃ (n18 : Nat),
 ∃ (c19 : Nat),
 e15 = Ending.returned (Value.slice p17 n18 c19) ∧
 ∀ (b20 : Nat) (w'21 : World),
 New w16 (Obj.cells #[Value.slice p17 n18 c19] 23) b20 w'21 →
 ∃ (p23 : Option Addr),
 ∃ (n24 : Nat),
 ∃ (c25 : Nat),
 ∃ (w'26 : World),
 Sem.run Try.prog (Builtin.append_ #[31, 31] 31 #[Value.slice p3 n4 c5, Value.slice (some (Addr.mk b20 0 none)) 1 1]) w'21 = Result.ok (Value.slice p23 n24 c25) w'26 ∧
 I1 p23 n24 c25 (IntKind.i64.wrap (n6 + 1)) w'26 ∧ M2 p23 n24 c25 (IntKind.i64.wrap (n6 + 1)) w'26 < M2 p3 n4 c5 n6 w'7) ∧
 ((↑rows_n : Int) ≤ n6 → R (Ending.returned (Value.slice p3 n4 c5)) w'7)

set_option maxRecDepth 100000 in
theorem ocopied_eq (rows_p : Option Addr) (rows_n : Nat) (rows_c : Nat) (w : World) (R : Ending → World → Prop) : ocopied_T rows_p rows_n rows_c w R = vcFn Try.prog [] [] Try.f26 [Value.slice rows_p rows_n rows_c] w R := by kernel_rfl

set_option maxRecDepth 100000 in
theorem ocopied_vc (rows_p : Option Addr) (rows_n : Nat) (rows_c : Nat) (w : World) (R : Ending → World → Prop) (h : ocopied_T rows_p rows_n rows_c w R) : Calls Try.prog 26 #[Value.slice rows_p rows_n rows_c] w R :=
  calls_of_vc (args := [Value.slice rows_p rows_n rows_c]) [] [] Try.mixed Try.func26 (cast (ocopied_eq _ _ _ w R) h)

set_option maxRecDepth 100000 in
def clonerow_T (s_p : Option Addr) (s_n : Nat) (s_c : Nat) (w : World) (R : Ending → World → Prop) : Prop :=
  (s_p.isNone = true → R (Ending.returned (Value.slice none 0 0)) w) ∧
 (s_p.isNone = false →
 ∀ (b3 : Nat) (w'4 : World),
 New w (Obj.cells #[] 48) b3 w'4 →
 ∃ (p6 : Option Addr),
 ∃ (n7 : Nat),
 ∃ (c8 : Nat),
 ∃ (w'9 : World),
 Sem.run Try.prog (Builtin.append_ #[23, 23] 23 #[Value.slice (some (Addr.mk b3 0 none)) 0 0, Value.slice s_p s_n s_c]) w'4 = Result.ok (Value.slice p6 n7 c8) w'9 ∧
 R (Ending.returned (Value.slice p6 n7 c8)) w'9)

set_option maxRecDepth 100000 in
theorem clonerow_eq (s_p : Option Addr) (s_n : Nat) (s_c : Nat) (w : World) (R : Ending → World → Prop) : clonerow_T s_p s_n s_c w R = vcFn Try.prog [] [] Try.f40 [Value.slice s_p s_n s_c] w R := by kernel_rfl

set_option maxRecDepth 100000 in
theorem clonerow_vc (s_p : Option Addr) (s_n : Nat) (s_c : Nat) (w : World) (R : Ending → World → Prop) (h : clonerow_T s_p s_n s_c w R) : Calls Try.prog 40 #[Value.slice s_p s_n s_c] w R :=
  calls_of_vc (args := [Value.slice s_p s_n s_c]) [] [] Try.mixed Try.func40 (cast (clonerow_eq _ _ _ w R) h)

set_option maxRecDepth 100000 in
def osort_T (rows_p : Option Addr) (rows_n : Nat) (rows_c : Nat) (keys_p : Option Addr) (keys_n : Nat) (keys_c : Nat) (w : World) (R : Ending → World → Prop) : Prop :=
  ∀ (b1 : Nat) (w'2 : World),
 New w (Obj.cells #[Value.slice keys_p keys_n keys_c] 24) b1 w'2 →
 ∃ (p4 : Option Addr),
 ∃ (n5 : Nat),
 ∃ (c6 : Nat),
 w'2.cell? (Addr.mk b1 0 none) = some (Value.slice p4 n5 c6) ∧
 Calls Try.prog 25 #[Value.slice rows_p rows_n rows_c, Value.slice p4 n5 c6] w'2 fun (e7 : Ending) (w8 : World) ↦
 ∃ (b9 : Bool),
 e7 = Ending.returned (Value.bool b9) ∧
 (b9 = false → R (Ending.returned (Value.tuple #[Value.slice none 0 0, Value.int IntKind.i64 2])) w8) ∧
 (b9 = true →
 Calls Try.prog 26 #[Value.slice rows_p rows_n rows_c] w8 fun (e12 : Ending) (w13 : World) ↦
 ∃ (p14 : Option Addr),
 ∃ (n15 : Nat),
 ∃ (c16 : Nat),
 e12 = Ending.returned (Value.slice p14 n15 c16) ∧
 Calls Try.prog 27 #[Value.slice p14 n15 c16, Value.func (Fn.func 28) #[] #[Value.pointer (some (Addr.mk b1 0 none))]] w13 fun (e17 : Ending) (w18 : World) ↦
 e17 = Ending.returned (Value.tuple #[]) ∧ R (Ending.returned (Value.tuple #[Value.slice p14 n15 c16, Value.int IntKind.i64 0])) w18)

set_option maxRecDepth 100000 in
theorem osort_eq (rows_p : Option Addr) (rows_n : Nat) (rows_c : Nat) (keys_p : Option Addr) (keys_n : Nat) (keys_c : Nat) (w : World) (R : Ending → World → Prop) : osort_T rows_p rows_n rows_c keys_p keys_n keys_c w R = vcFn Try.prog [] [] Try.f12 [Value.slice rows_p rows_n rows_c, Value.slice keys_p keys_n keys_c] w R := by kernel_rfl

set_option maxRecDepth 100000 in
theorem osort_vc (rows_p : Option Addr) (rows_n : Nat) (rows_c : Nat) (keys_p : Option Addr) (keys_n : Nat) (keys_c : Nat) (w : World) (R : Ending → World → Prop) (h : osort_T rows_p rows_n rows_c keys_p keys_n keys_c w R) : Calls Try.prog 12 #[Value.slice rows_p rows_n rows_c, Value.slice keys_p keys_n keys_c] w R :=
  calls_of_vc (args := [Value.slice rows_p rows_n rows_c, Value.slice keys_p keys_n keys_c]) [] [] Try.mixed Try.func12 (cast (osort_eq _ _ _ _ _ _ w R) h)

set_option maxRecDepth 100000 in
def r15sort_T (rows_p : Option Addr) (rows_n : Nat) (rows_c : Nat) (keys_p : Option Addr) (keys_n : Nat) (keys_c : Nat) (w : World) (R : Ending → World → Prop) : Prop :=
  ∃ (I1 : Option Addr → Nat → Nat → Int → World → Prop),
 ∃ (M2 : Option Addr → Nat → Nat → Int → World → Nat),
 I1 none 0 0 0 w ∧
 ∀ (p3 : Option Addr) (n4 c5 : Nat) (n6 : Int) (w'7 : World),
 I1 p3 n4 c5 n6 w'7 →
 (n6 < (↑rows_n : Int) →
 ∃ (b10 : Nat),
 ∃ (o11 : Nat),
 rows_p = some (Addr.mk b10 o11 none) ∧
 0 ≤ n6 ∧
 n6 < (↑rows_n : Int) ∧
 ∃ (p12 : Option Addr),
 ∃ (n13 : Nat),
 ∃ (c14 : Nat),
 w'7.cell? (Addr.mk b10 (o11 + n6.toNat) none) = some (Value.slice p12 n13 c14) ∧
 Calls Try.prog 23 #[Value.slice p12 n13 c14, Value.slice keys_p keys_n keys_c] w'7 fun (e15 : Ending) (w16 : World) ↦
 ∃ (b17 : Bool),
 e15 = Ending.returned (Value.bool b17) ∧
 (b17 = false → R (Ending.returned (Value.tuple #[Value.slice none 0 0, Value.int IntKind.i64 2])) w16) ∧
 (b17 = true →
 ∃ (J20 : Int → World → Prop),
 (∃ (I21 : Int → World → Prop),
 ∃ (M22 : Int → World → Nat),
 I21 (↑n4 : Int) w16 ∧
 ∀ (n23 : Int) (w'24 : World),
 I21 n23 w'24 →
 ∀ (w'26 : World),
 Drew w'24 w'26 →
 (0 < n23 →
 ∃ (b29 : Nat),
 ∃ (o30 : Nat),
 p3 = some (Addr.mk b29 o30 none) ∧
 0 ≤ IntKind.i64.wrap (n23 - 1) ∧
 IntKind.i64.wrap (n23 - 1) < (↑n4 : Int) ∧
 ∃ (p31 : Option Addr),
 ∃ (n32 : Nat),
 ∃ (c33 : Nat),
 w'26.cell? (Addr.mk b29 (o30 + (IntKind.i64.wrap (n23 - 1)).toNat) none) = some (Value.slice p31 n32 c33) ∧
 ∃ (b34 : Nat),
 ∃ (o35 : Nat),
 rows_p = some (Addr.mk b34 o35 none) ∧
 0 ≤ n6 ∧
 n6 < (↑rows_n : Int) ∧
 ∃ (p36 : Option Addr),
 ∃ (n37 : Nat),
 ∃ (c38 : Nat),
 w'26.cell? (Addr.mk b34 (o35 + n6.toNat) none) = some (Value.slice p36 n37 c38) ∧
 Calls Try.prog 24 #[Value.slice p31 n32 c33, Value.slice p36 n37 c38, Value.slice keys_p keys_n keys_c] w'26 fun (e39 : Ending) (w40 : World) ↦
 ∃ (n41 : Int),
 e39 = Ending.returned (Value.int IntKind.i64 n41) ∧
 (0 < n41 → I21 (IntKind.i64.wrap (n23 - 1)) w40 ∧ M22 (IntKind.i64.wrap (n23 - 1)) w40 < M22 n23 w'24) ∧ (n41 ≤ 0 → J20 n23 w40)) ∧
 (n23 ≤ 0 → J20 n23 w'26)) ∧
 ∀ (n45 : Int) (w'46 : World),
 J20 n45 w'46 →
 ∀ (w'48 : World),
 Drew w'46 w'48 →
 0 ≤ n45 ∧
 n45 ≤ (↑c5 : Int) ∧
 (0 : Int) ≤ 0 ∧
 0 ≤ IntKind.i64.wrap ((↑n4 : Int) + 1) ∧
 24 * IntKind.i64.wrap ((↑n4 : Int) + 1) ≤ 281474976710656 ∧
 IntKind.i64.wrap ((↑n4 : Int) + 1) ≤ 9223372036854775807 ∧
 ∀ (b50 : Nat) (w'51 : World),
 New w'48 (Obj.cells (madeCells #[Value.slice none 0 0] (IntKind.i64.wrap ((↑n4 : Int) + 1)).toNat) 23) b50 w'51 →
 ∃ (p53 : Option Addr),
 ∃ (n54 : Nat),
 ∃ (c55 : Nat),
 ∃ (w'56 : World),
 Sem.run Try.prog (Builtin.append_ #[31, 31] 31 #[Value.slice (some (Addr.mk b50 0 none)) 0 (IntKind.i64.wrap ((↑n4 : Int) + 1)).toNat, Value.slice p3 n45.toNat c5])
 w'51 =
 Result.ok (Value.slice p53 n54 c55) w'56 ∧
 ∃ (b57 : Nat),
 ∃ (o58 : Nat),
 rows_p = some (Addr.mk b57 o58 none) ∧
 0 ≤ n6 ∧
 n6 < (↑rows_n : Int) ∧
 ∃ (p59 : Option Addr),
 ∃ (n60 : Nat),
 ∃ (c61 : Nat),
 w'56.cell? (Addr.mk b57 (o58 + n6.toNat) none) = some (Value.slice p59 n60 c61) ∧
 ∀ (b62 : Nat) (w'63 : World),
 New w'56 (Obj.cells #[Value.slice p59 n60 c61] 23) b62 w'63 →
 ∃ (p65 : Option Addr),
 ∃ (n66 : Nat),
 ∃ (c67 : Nat),
 ∃ (w'68 : World),
 Sem.run Try.prog (Builtin.append_ #[31, 31] 31 #[Value.slice p53 n54 c55, Value.slice (some (Addr.mk b62 0 none)) 1 1]) w'63 = Result.ok (Value.slice p65 n66 c67) w'68 ∧
 0 ≤ n45 ∧
 n45 ≤ (↑n4 : Int) ∧
 ∃ (p69 : Option Addr),
 ∃ (n70 : Nat),
 ∃ (c71 : Nat),
 ∃ (w'72 : World),
 Sem.run Try.prog (Builtin.append_ #[31, 31] 31 #[Value.slice p65 n66 c67, Value.slice (slBase p3 n45.toNat c5 1) (n4 - n45.toNat) (c5 - n45.toNat)]) w'68 =
 Result.ok (Value.slice p69 n70 c71) w'72 ∧
 I1 p69 n70 c71 (IntKind.i64.wrap (n6 + 1)) w'72 ∧ M2 p69 n70 c71 (IntKind.i64.wrap (n6 + 1)) w'72 < M2 p3 n4 c5 n6 w'7)) ∧
 ((↑rows_n : Int) ≤ n6 → R (Ending.returned (Value.tuple #[Value.slice p3 n4 c5, Value.int IntKind.i64 0])) w'7)

set_option maxRecDepth 100000 in
theorem r15sort_eq (rows_p : Option Addr) (rows_n : Nat) (rows_c : Nat) (keys_p : Option Addr) (keys_n : Nat) (keys_c : Nat) (w : World) (R : Ending → World → Prop) : r15sort_T rows_p rows_n rows_c keys_p keys_n keys_c w R = vcFn Try.prog [11] [(9, [0, 2, 4, 6, 8, 10, 12, 14, 16, 18, 20, 22, 24, 26, 28, 30]), (11, [0, 2, 4, 8, 10, 12, 6, 14, 16])] Try.f14 [Value.slice rows_p rows_n rows_c, Value.slice keys_p keys_n keys_c] w R := by kernel_rfl

set_option maxRecDepth 100000 in
theorem r15sort_vc (rows_p : Option Addr) (rows_n : Nat) (rows_c : Nat) (keys_p : Option Addr) (keys_n : Nat) (keys_c : Nat) (w : World) (R : Ending → World → Prop) (h : r15sort_T rows_p rows_n rows_c keys_p keys_n keys_c w R) : Calls Try.prog 14 #[Value.slice rows_p rows_n rows_c, Value.slice keys_p keys_n keys_c] w R :=
  calls_of_vc (args := [Value.slice rows_p rows_n rows_c, Value.slice keys_p keys_n keys_c]) [11] [(9, [0, 2, 4, 6, 8, 10, 12, 14, 16, 18, 20, 22, 24, 26, 28, 30]), (11, [0, 2, 4, 8, 10, 12, 6, 14, 16])] Try.mixed Try.func14 (cast (r15sort_eq _ _ _ _ _ _ w R) h)

set_option maxRecDepth 100000 in
def ofirst_T (rows_p : Option Addr) (rows_n : Nat) (rows_c : Nat) (n : Int) (keys_p : Option Addr) (keys_n : Nat) (keys_c : Nat) (w : World) (R : Ending → World → Prop) : Prop :=
  Calls Try.prog 12 #[Value.slice rows_p rows_n rows_c, Value.slice keys_p keys_n keys_c] w fun (e1 : Ending) (w2 : World) ↦
 ∃ (p3 : Option Addr),
 ∃ (n4 : Nat),
 ∃ (c5 : Nat),
 ∃ (n6 : Int),
 e1 = Ending.returned (Value.tuple #[Value.slice p3 n4 c5, Value.int IntKind.i64 n6]) ∧
 (n6 ≠ 0 ∨ n < -1 → R (Ending.returned (Value.tuple #[Value.slice none 0 0, Value.int IntKind.i64 2])) w2) ∧
 (n6 = 0 ∧ -1 ≤ n →
 (0 ≤ n ∧ n < (↑n4 : Int) → 0 ≤ n ∧ n ≤ n ∧ n ≤ (↑c5 : Int) ∧ R (Ending.returned (Value.tuple #[Value.slice p3 n.toNat n.toNat, Value.int IntKind.i64 0])) w2) ∧
 (n < 0 ∨ (↑n4 : Int) ≤ n → R (Ending.returned (Value.tuple #[Value.slice p3 n4 c5, Value.int IntKind.i64 0])) w2))

set_option maxRecDepth 100000 in
theorem ofirst_eq (rows_p : Option Addr) (rows_n : Nat) (rows_c : Nat) (n : Int) (keys_p : Option Addr) (keys_n : Nat) (keys_c : Nat) (w : World) (R : Ending → World → Prop) : ofirst_T rows_p rows_n rows_c n keys_p keys_n keys_c w R = vcFn Try.prog [] [] Try.f15 [Value.slice rows_p rows_n rows_c, Value.int IntKind.i64 n, Value.slice keys_p keys_n keys_c] w R := by kernel_rfl

set_option maxRecDepth 100000 in
theorem ofirst_vc (rows_p : Option Addr) (rows_n : Nat) (rows_c : Nat) (n : Int) (keys_p : Option Addr) (keys_n : Nat) (keys_c : Nat) (w : World) (R : Ending → World → Prop) (h : ofirst_T rows_p rows_n rows_c n keys_p keys_n keys_c w R) : Calls Try.prog 15 #[Value.slice rows_p rows_n rows_c, Value.int IntKind.i64 n, Value.slice keys_p keys_n keys_c] w R :=
  calls_of_vc (args := [Value.slice rows_p rows_n rows_c, Value.int IntKind.i64 n, Value.slice keys_p keys_n keys_c]) [] [] Try.mixed Try.func15 (cast (ofirst_eq _ _ _ _ _ _ _ w R) h)

set_option maxRecDepth 100000 in
def r15first_T (rows_p : Option Addr) (rows_n : Nat) (rows_c : Nat) (n : Int) (keys_p : Option Addr) (keys_n : Nat) (keys_c : Nat) (w : World) (R : Ending → World → Prop) : Prop :=
  Calls Try.prog 14 #[Value.slice rows_p rows_n rows_c, Value.slice keys_p keys_n keys_c] w fun (e1 : Ending) (w2 : World) ↦
 ∃ (p3 : Option Addr),
 ∃ (n4 : Nat),
 ∃ (c5 : Nat),
 ∃ (n6 : Int),
 e1 = Ending.returned (Value.tuple #[Value.slice p3 n4 c5, Value.int IntKind.i64 n6]) ∧
 (n6 ≠ 0 ∨ n < -1 → R (Ending.returned (Value.tuple #[Value.slice none 0 0, Value.int IntKind.i64 2])) w2) ∧
 (n6 = 0 ∧ -1 ≤ n →
 (0 ≤ n ∧ n < (↑n4 : Int) → 0 ≤ n ∧ n ≤ (↑c5 : Int) ∧ R (Ending.returned (Value.tuple #[Value.slice p3 n.toNat c5, Value.int IntKind.i64 0])) w2) ∧
 (n < 0 ∨ (↑n4 : Int) ≤ n → R (Ending.returned (Value.tuple #[Value.slice p3 n4 c5, Value.int IntKind.i64 0])) w2))

set_option maxRecDepth 100000 in
theorem r15first_eq (rows_p : Option Addr) (rows_n : Nat) (rows_c : Nat) (n : Int) (keys_p : Option Addr) (keys_n : Nat) (keys_c : Nat) (w : World) (R : Ending → World → Prop) : r15first_T rows_p rows_n rows_c n keys_p keys_n keys_c w R = vcFn Try.prog [] [] Try.f16 [Value.slice rows_p rows_n rows_c, Value.int IntKind.i64 n, Value.slice keys_p keys_n keys_c] w R := by kernel_rfl

set_option maxRecDepth 100000 in
theorem r15first_vc (rows_p : Option Addr) (rows_n : Nat) (rows_c : Nat) (n : Int) (keys_p : Option Addr) (keys_n : Nat) (keys_c : Nat) (w : World) (R : Ending → World → Prop) (h : r15first_T rows_p rows_n rows_c n keys_p keys_n keys_c w R) : Calls Try.prog 16 #[Value.slice rows_p rows_n rows_c, Value.int IntKind.i64 n, Value.slice keys_p keys_n keys_c] w R :=
  calls_of_vc (args := [Value.slice rows_p rows_n rows_c, Value.int IntKind.i64 n, Value.slice keys_p keys_n keys_c]) [] [] Try.mixed Try.func16 (cast (r15first_eq _ _ _ _ _ _ _ w R) h)

set_option maxRecDepth 100000 in
def law15Stands_T (a_p : Option Addr) (a_n : Nat) (a_c : Nat) (b_p : Option Addr) (b_n : Nat) (b_c : Nat) (keys_p : Option Addr) (keys_n : Nat) (keys_c : Nat) (w : World) (R : Ending → World → Prop) : Prop :=
  Calls Try.prog 9 #[] w fun (e1 : Ending) (w2 : World) ↦
 ∃ (b3 : Bool),
 e1 = Ending.returned (Value.bool b3) ∧
 Calls Try.prog 10 #[Value.slice a_p a_n a_c, Value.slice b_p b_n b_c, Value.slice keys_p keys_n keys_c] w2 fun (e4 : Ending) (w5 : World) ↦
 ∃ (n6 : Int),
 ∃ (n7 : Int),
 e4 = Ending.returned (Value.tuple #[Value.int IntKind.i64 n6, Value.int IntKind.i64 n7]) ∧
 Calls Try.prog 11 #[Value.slice a_p a_n a_c, Value.slice b_p b_n b_c, Value.slice keys_p keys_n keys_c] w5 fun (e8 : Ending) (w9 : World) ↦
 ∃ (n10 : Int),
 ∃ (n11 : Int),
 e8 = Ending.returned (Value.tuple #[Value.int IntKind.i64 n10, Value.int IntKind.i64 n11]) ∧
 R (Ending.returned (Value.bool (b3 && decide (n6 = n10) && decide (n7 = n11)))) w9

set_option maxRecDepth 100000 in
theorem law15Stands_eq (a_p : Option Addr) (a_n : Nat) (a_c : Nat) (b_p : Option Addr) (b_n : Nat) (b_c : Nat) (keys_p : Option Addr) (keys_n : Nat) (keys_c : Nat) (w : World) (R : Ending → World → Prop) : law15Stands_T a_p a_n a_c b_p b_n b_c keys_p keys_n keys_c w R = vcFn Try.prog [] [] Try.f3 [Value.slice a_p a_n a_c, Value.slice b_p b_n b_c, Value.slice keys_p keys_n keys_c] w R := by kernel_rfl

set_option maxRecDepth 100000 in
theorem law15Stands_vc (a_p : Option Addr) (a_n : Nat) (a_c : Nat) (b_p : Option Addr) (b_n : Nat) (b_c : Nat) (keys_p : Option Addr) (keys_n : Nat) (keys_c : Nat) (w : World) (R : Ending → World → Prop) (h : law15Stands_T a_p a_n a_c b_p b_n b_c keys_p keys_n keys_c w R) : Calls Try.prog 3 #[Value.slice a_p a_n a_c, Value.slice b_p b_n b_c, Value.slice keys_p keys_n keys_c] w R :=
  calls_of_vc (args := [Value.slice a_p a_n a_c, Value.slice b_p b_n b_c, Value.slice keys_p keys_n keys_c]) [] [] Try.mixed Try.func3 (cast (law15Stands_eq _ _ _ _ _ _ _ _ _ w R) h)

set_option maxRecDepth 100000 in
def law15Sorts_T (rows_p : Option Addr) (rows_n : Nat) (rows_c : Nat) (n : Int) (keys_p : Option Addr) (keys_n : Nat) (keys_c : Nat) (w : World) (R : Ending → World → Prop) : Prop :=
  Calls Try.prog 9 #[] w fun (e1 : Ending) (w2 : World) ↦
 ∃ (b3 : Bool),
 e1 = Ending.returned (Value.bool b3) ∧
 0 ≤ mmI false (↑rows_n : Int) 500 ∧
 mmI false (↑rows_n : Int) 500 ≤ (↑rows_c : Int) ∧
 Calls Try.prog 12 #[Value.slice rows_p (mmI false (↑rows_n : Int) 500).toNat rows_c, Value.slice keys_p keys_n keys_c] w2 fun (e4 : Ending) (w5 : World) ↦
 ∃ (p6 : Option Addr),
 ∃ (n7 : Nat),
 ∃ (c8 : Nat),
 ∃ (n9 : Int),
 e4 = Ending.returned (Value.tuple #[Value.slice p6 n7 c8, Value.int IntKind.i64 n9]) ∧
 Calls Try.prog 14 #[Value.slice rows_p (mmI false (↑rows_n : Int) 500).toNat rows_c, Value.slice keys_p keys_n keys_c] w5 fun (e10 : Ending) (w11 : World) ↦
 ∃ (p12 : Option Addr),
 ∃ (n13 : Nat),
 ∃ (c14 : Nat),
 ∃ (n15 : Int),
 e10 = Ending.returned (Value.tuple #[Value.slice p12 n13 c14, Value.int IntKind.i64 n15]) ∧
 Calls Try.prog 15 #[Value.slice rows_p (mmI false (↑rows_n : Int) 500).toNat rows_c, Value.int IntKind.i64 n, Value.slice keys_p keys_n keys_c] w11
 fun (e16 : Ending) (w17 : World) ↦
 ∃ (p18 : Option Addr),
 ∃ (n19 : Nat),
 ∃ (c20 : Nat),
 ∃ (n21 : Int),
 e16 = Ending.returned (Value.tuple #[Value.slice p18 n19 c20, Value.int IntKind.i64 n21]) ∧
 Calls Try.prog 16 #[Value.slice rows_p (mmI false (↑rows_n : Int) 500).toNat rows_c, Value.int IntKind.i64 n, Value.slice keys_p keys_n keys_c] w17
 fun (e22 : Ending) (w23 : World) ↦
 ∃ (p24 : Option Addr),
 ∃ (n25 : Nat),
 ∃ (c26 : Nat),
 ∃ (n27 : Int),
 e22 = Ending.returned (Value.tuple #[Value.slice p24 n25 c26, Value.int IntKind.i64 n27]) ∧
 (b3 = true →
 Calls Try.prog 17 #[Value.slice p6 n7 c8, Value.slice p12 n13 c14] w23 fun (e29 : Ending) (w30 : World) ↦
 ∃ (b31 : Bool),
 e29 = Ending.returned (Value.bool b31) ∧
 (b31 = true ∧ n9 = n15 →
 Calls Try.prog 17 #[Value.slice p18 n19 c20, Value.slice p24 n25 c26] w30 fun (e33 : Ending) (w34 : World) ↦
 ∃ (b35 : Bool), e33 = Ending.returned (Value.bool b35) ∧ R (Ending.returned (Value.bool (b35 && decide (n21 = n27)))) w34) ∧
 (b31 = false ∨ n9 ≠ n15 → R (Ending.returned (Value.bool false)) w30)) ∧
 (b3 = false → R (Ending.returned (Value.bool false)) w23)

set_option maxRecDepth 100000 in
theorem law15Sorts_eq (rows_p : Option Addr) (rows_n : Nat) (rows_c : Nat) (n : Int) (keys_p : Option Addr) (keys_n : Nat) (keys_c : Nat) (w : World) (R : Ending → World → Prop) : law15Sorts_T rows_p rows_n rows_c n keys_p keys_n keys_c w R = vcFn Try.prog [] [] Try.f5 [Value.slice rows_p rows_n rows_c, Value.int IntKind.i64 n, Value.slice keys_p keys_n keys_c] w R := by kernel_rfl

set_option maxRecDepth 100000 in
theorem law15Sorts_vc (rows_p : Option Addr) (rows_n : Nat) (rows_c : Nat) (n : Int) (keys_p : Option Addr) (keys_n : Nat) (keys_c : Nat) (w : World) (R : Ending → World → Prop) (h : law15Sorts_T rows_p rows_n rows_c n keys_p keys_n keys_c w R) : Calls Try.prog 5 #[Value.slice rows_p rows_n rows_c, Value.int IntKind.i64 n, Value.slice keys_p keys_n keys_c] w R :=
  calls_of_vc (args := [Value.slice rows_p rows_n rows_c, Value.int IntKind.i64 n, Value.slice keys_p keys_n keys_c]) [] [] Try.mixed Try.func5 (cast (law15Sorts_eq _ _ _ _ _ _ _ w R) h)

set_option maxRecDepth 100000 in
def law15Merges_T (a_p : Option Addr) (a_n : Nat) (a_c : Nat) (b_p : Option Addr) (b_n : Nat) (b_c : Nat) (keys_p : Option Addr) (keys_n : Nat) (keys_c : Nat) (w : World) (R : Ending → World → Prop) : Prop :=
  Calls Try.prog 9 #[] w fun (e1 : Ending) (w2 : World) ↦
 ∃ (b3 : Bool),
 e1 = Ending.returned (Value.bool b3) ∧
 0 ≤ mmI false (↑a_n : Int) 300 ∧
 mmI false (↑a_n : Int) 300 ≤ (↑a_c : Int) ∧
 0 ≤ mmI false (↑b_n : Int) 300 ∧
 mmI false (↑b_n : Int) 300 ≤ (↑b_c : Int) ∧
 Calls Try.prog 18 #[Value.slice a_p (mmI false (↑a_n : Int) 300).toNat a_c, Value.slice b_p (mmI false (↑b_n : Int) 300).toNat b_c, Value.slice keys_p keys_n keys_c] w2
 fun (e4 : Ending) (w5 : World) ↦
 ∃ (p6 : Option Addr),
 ∃ (n7 : Nat),
 ∃ (c8 : Nat),
 ∃ (n9 : Int),
 e4 = Ending.returned (Value.tuple #[Value.slice p6 n7 c8, Value.int IntKind.i64 n9]) ∧
 Calls Try.prog 19 #[Value.slice a_p (mmI false (↑a_n : Int) 300).toNat a_c, Value.slice b_p (mmI false (↑b_n : Int) 300).toNat b_c, Value.slice keys_p keys_n keys_c] w5
 fun (e10 : Ending) (w11 : World) ↦
 ∃ (p12 : Option Addr),
 ∃ (n13 : Nat),
 ∃ (c14 : Nat),
 ∃ (n15 : Int),
 e10 = Ending.returned (Value.tuple #[Value.slice p12 n13 c14, Value.int IntKind.i64 n15]) ∧
 (b3 = true →
 Calls Try.prog 17 #[Value.slice p6 n7 c8, Value.slice p12 n13 c14] w11 fun (e17 : Ending) (w18 : World) ↦
 ∃ (b19 : Bool), e17 = Ending.returned (Value.bool b19) ∧ R (Ending.returned (Value.bool (b19 && decide (n9 = n15)))) w18) ∧
 (b3 = false → R (Ending.returned (Value.bool false)) w11)

set_option maxRecDepth 100000 in
theorem law15Merges_eq (a_p : Option Addr) (a_n : Nat) (a_c : Nat) (b_p : Option Addr) (b_n : Nat) (b_c : Nat) (keys_p : Option Addr) (keys_n : Nat) (keys_c : Nat) (w : World) (R : Ending → World → Prop) : law15Merges_T a_p a_n a_c b_p b_n b_c keys_p keys_n keys_c w R = vcFn Try.prog [] [] Try.f7 [Value.slice a_p a_n a_c, Value.slice b_p b_n b_c, Value.slice keys_p keys_n keys_c] w R := by kernel_rfl

set_option maxRecDepth 100000 in
theorem law15Merges_vc (a_p : Option Addr) (a_n : Nat) (a_c : Nat) (b_p : Option Addr) (b_n : Nat) (b_c : Nat) (keys_p : Option Addr) (keys_n : Nat) (keys_c : Nat) (w : World) (R : Ending → World → Prop) (h : law15Merges_T a_p a_n a_c b_p b_n b_c keys_p keys_n keys_c w R) : Calls Try.prog 7 #[Value.slice a_p a_n a_c, Value.slice b_p b_n b_c, Value.slice keys_p keys_n keys_c] w R :=
  calls_of_vc (args := [Value.slice a_p a_n a_c, Value.slice b_p b_n b_c, Value.slice keys_p keys_n keys_c]) [] [] Try.mixed Try.func7 (cast (law15Merges_eq _ _ _ _ _ _ _ _ _ w R) h)

set_option maxRecDepth 100000 in
def law15Both_T (a_p : Option Addr) (a_n : Nat) (a_c : Nat) (b_p : Option Addr) (b_n : Nat) (b_c : Nat) (keys_p : Option Addr) (keys_n : Nat) (keys_c : Nat) (w : World) (R : Ending → World → Prop) : Prop :=
  Calls Try.prog 9 #[] w fun (e1 : Ending) (w2 : World) ↦
 ∃ (b3 : Bool),
 e1 = Ending.returned (Value.bool b3) ∧
 0 ≤ mmI false (↑a_n : Int) 300 ∧
 mmI false (↑a_n : Int) 300 ≤ (↑a_c : Int) ∧
 0 ≤ mmI false (↑b_n : Int) 300 ∧
 mmI false (↑b_n : Int) 300 ≤ (↑b_c : Int) ∧
 Calls Try.prog 12 #[Value.slice a_p (mmI false (↑a_n : Int) 300).toNat a_c, Value.slice keys_p keys_n keys_c] w2 fun (e4 : Ending) (w5 : World) ↦
 ∃ (p6 : Option Addr),
 ∃ (n7 : Nat),
 ∃ (c8 : Nat),
 ∃ (n9 : Int),
 e4 = Ending.returned (Value.tuple #[Value.slice p6 n7 c8, Value.int IntKind.i64 n9]) ∧
 Calls Try.prog 12 #[Value.slice b_p (mmI false (↑b_n : Int) 300).toNat b_c, Value.slice keys_p keys_n keys_c] w5 fun (e10 : Ending) (w11 : World) ↦
 ∃ (p12 : Option Addr),
 ∃ (n13 : Nat),
 ∃ (c14 : Nat),
 ∃ (n15 : Int),
 e10 = Ending.returned (Value.tuple #[Value.slice p12 n13 c14, Value.int IntKind.i64 n15]) ∧
 (0 : Int) ≤ 0 ∧
 0 ≤ IntKind.i64.wrap ((↑(mmI false (↑a_n : Int) 300).toNat : Int) + (↑(mmI false (↑b_n : Int) 300).toNat : Int)) ∧
 24 * IntKind.i64.wrap ((↑(mmI false (↑a_n : Int) 300).toNat : Int) + (↑(mmI false (↑b_n : Int) 300).toNat : Int)) ≤ 281474976710656 ∧
 IntKind.i64.wrap ((↑(mmI false (↑a_n : Int) 300).toNat : Int) + (↑(mmI false (↑b_n : Int) 300).toNat : Int)) ≤ 9223372036854775807 ∧
 ∀ (b16 : Nat) (w'17 : World),
 New w11
 (Obj.cells (madeCells #[Value.slice none 0 0] (IntKind.i64.wrap ((↑(mmI false (↑a_n : Int) 300).toNat : Int) + (↑(mmI false (↑b_n : Int) 300).toNat : Int))).toNat) 23)
 b16 w'17 →
 ∃ (p19 : Option Addr),
 ∃ (n20 : Nat),
 ∃ (c21 : Nat),
 ∃ (w'22 : World),
 Sem.run Try.prog
 (Builtin.append_ #[31, 31] 31
 #[Value.slice (some (Addr.mk b16 0 none)) 0 (IntKind.i64.wrap ((↑(mmI false (↑a_n : Int) 300).toNat : Int) + (↑(mmI false (↑b_n : Int) 300).toNat : Int))).toNat,
 Value.slice a_p (mmI false (↑a_n : Int) 300).toNat a_c])
 w'17 =
 Result.ok (Value.slice p19 n20 c21) w'22 ∧
 ∃ (p23 : Option Addr),
 ∃ (n24 : Nat),
 ∃ (c25 : Nat),
 ∃ (w'26 : World),
 Sem.run Try.prog (Builtin.append_ #[31, 31] 31 #[Value.slice p19 n20 c21, Value.slice b_p (mmI false (↑b_n : Int) 300).toNat b_c]) w'22 =
 Result.ok (Value.slice p23 n24 c25) w'26 ∧
 Calls Try.prog 12 #[Value.slice p23 n24 c25, Value.slice keys_p keys_n keys_c] w'26 fun (e27 : Ending) (w28 : World) ↦
 ∃ (p29 : Option Addr),
 ∃ (n30 : Nat),
 ∃ (c31 : Nat),
 ∃ (n32 : Int),
 e27 = Ending.returned (Value.tuple #[Value.slice p29 n30 c31, Value.int IntKind.i64 n32]) ∧
 (n9 ≠ 0 ∨ n15 ≠ 0 → R (Ending.returned (Value.bool (b3 && decide (n32 = 2)))) w28) ∧
 (n9 = 0 ∧ n15 = 0 →
 Calls Try.prog 18 #[Value.slice p6 n7 c8, Value.slice p12 n13 c14, Value.slice keys_p keys_n keys_c] w28 fun (e35 : Ending) (w36 : World) ↦
 ∃ (p37 : Option Addr),
 ∃ (n38 : Nat),
 ∃ (c39 : Nat),
 ∃ (n40 : Int),
 e35 = Ending.returned (Value.tuple #[Value.slice p37 n38 c39, Value.int IntKind.i64 n40]) ∧
 Calls Try.prog 12 #[Value.slice p29 n30 c31, Value.slice keys_p keys_n keys_c] w36 fun (e41 : Ending) (w42 : World) ↦
 ∃ (p43 : Option Addr),
 ∃ (n44 : Nat),
 ∃ (c45 : Nat),
 ∃ (n46 : Int),
 e41 = Ending.returned (Value.tuple #[Value.slice p43 n44 c45, Value.int IntKind.i64 n46]) ∧
 (((b3 = true ∧ n32 = 0) ∧ n40 = 0) ∧ n46 = 0 →
 Calls Try.prog 17 #[Value.slice p37 n38 c39, Value.slice p29 n30 c31] w42 fun (e48 : Ending) (w49 : World) ↦
 ∃ (b50 : Bool),
 e48 = Ending.returned (Value.bool b50) ∧
 (b50 = true →
 Calls Try.prog 17 #[Value.slice p43 n44 c45, Value.slice p29 n30 c31] w49 fun (e52 : Ending) (w53 : World) ↦
 ∃ (b54 : Bool), e52 = Ending.returned (Value.bool b54) ∧ R (Ending.returned (Value.bool b54)) w53) ∧
 (b50 = false → R (Ending.returned (Value.bool false)) w49)) ∧
 (((b3 = false ∨ n32 ≠ 0) ∨ n40 ≠ 0) ∨ n46 ≠ 0 → R (Ending.returned (Value.bool false)) w42))

set_option maxRecDepth 100000 in
theorem law15Both_eq (a_p : Option Addr) (a_n : Nat) (a_c : Nat) (b_p : Option Addr) (b_n : Nat) (b_c : Nat) (keys_p : Option Addr) (keys_n : Nat) (keys_c : Nat) (w : World) (R : Ending → World → Prop) : law15Both_T a_p a_n a_c b_p b_n b_c keys_p keys_n keys_c w R = vcFn Try.prog [] [] Try.f8 [Value.slice a_p a_n a_c, Value.slice b_p b_n b_c, Value.slice keys_p keys_n keys_c] w R := by kernel_rfl

set_option maxRecDepth 100000 in
theorem law15Both_vc (a_p : Option Addr) (a_n : Nat) (a_c : Nat) (b_p : Option Addr) (b_n : Nat) (b_c : Nat) (keys_p : Option Addr) (keys_n : Nat) (keys_c : Nat) (w : World) (R : Ending → World → Prop) (h : law15Both_T a_p a_n a_c b_p b_n b_c keys_p keys_n keys_c w R) : Calls Try.prog 8 #[Value.slice a_p a_n a_c, Value.slice b_p b_n b_c, Value.slice keys_p keys_n keys_c] w R :=
  calls_of_vc (args := [Value.slice a_p a_n a_c, Value.slice b_p b_n b_c, Value.slice keys_p keys_n keys_c]) [] [] Try.mixed Try.func8 (cast (law15Both_eq _ _ _ _ _ _ _ _ _ w R) h)

set_option maxRecDepth 100000 in
def law15Same_T (rows_p : Option Addr) (rows_n : Nat) (rows_c : Nat) (keys_p : Option Addr) (keys_n : Nat) (keys_c : Nat) (w : World) (R : Ending → World → Prop) : Prop :=
  Calls Try.prog 9 #[] w fun (e1 : Ending) (w2 : World) ↦
 ∃ (b3 : Bool),
 e1 = Ending.returned (Value.bool b3) ∧
 0 ≤ mmI false (↑rows_n : Int) 300 ∧
 mmI false (↑rows_n : Int) 300 ≤ (↑rows_c : Int) ∧
 Calls Try.prog 12 #[Value.slice rows_p (mmI false (↑rows_n : Int) 300).toNat rows_c, Value.slice keys_p keys_n keys_c] w2 fun (e4 : Ending) (w5 : World) ↦
 ∃ (p6 : Option Addr),
 ∃ (n7 : Nat),
 ∃ (c8 : Nat),
 ∃ (n9 : Int),
 e4 = Ending.returned (Value.tuple #[Value.slice p6 n7 c8, Value.int IntKind.i64 n9]) ∧
 (n9 ≠ 0 → R (Ending.returned (Value.bool (b3 && decide ((↑n7 : Int) = 0)))) w5) ∧
 (n9 = 0 →
 ((↑n7 : Int) ≠ (↑(mmI false (↑rows_n : Int) 300).toNat : Int) → R (Ending.returned (Value.bool false)) w5) ∧
 ((↑n7 : Int) = (↑(mmI false (↑rows_n : Int) 300).toNat : Int) →
 0 ≤ (↑n7 : Int) ∧
 (↑n7 : Int) ≤ (↑n7 : Int) ∧
 1 * (↑n7 : Int) ≤ 281474976710656 ∧
 (↑n7 : Int) ≤ 9223372036854775807 ∧
 ∀ (b14 : Nat) (w'15 : World),
 New w5 (Obj.cells (madeCells #[Value.bool false] n7) 4) b14 w'15 →
 ∃ (I17 : Int → World → Prop),
 ∃ (M18 : Int → World → Nat),
 I17 0 w'15 ∧
 ∀ (n19 : Int) (w'20 : World),
 I17 n19 w'20 →
 (n19 < (↑(mmI false (↑rows_n : Int) 300).toNat : Int) →
 ∃ (I23 : Bool → Int → World → Prop),
 ∃ (M24 : Bool → Int → World → Nat),
 I23 false 0 w'20 ∧
 ∀ (b25 : Bool) (n26 : Int) (w'27 : World),
 I23 b25 n26 w'27 →
 (n26 < (↑n7 : Int) ∧ b25 = false →
 ∀ (w'30 : World),
 Drew w'27 w'30 →
 ∃ (b32 : Nat),
 ∃ (o33 : Nat),
 some (Addr.mk b14 0 none) = some (Addr.mk b32 o33 none) ∧
 0 ≤ n26 ∧
 n26 < (↑n7 : Int) ∧
 ∃ (b34 : Bool),
 w'30.cell? (Addr.mk b32 (o33 + n26.toNat) none) = some (Value.bool b34) ∧
 (b34 = false →
 ∃ (b36 : Nat),
 ∃ (o37 : Nat),
 rows_p = some (Addr.mk b36 o37 none) ∧
 0 ≤ n19 ∧
 n19 < (↑(mmI false (↑rows_n : Int) 300).toNat : Int) ∧
 ∃ (p38 : Option Addr),
 ∃ (n39 : Nat),
 ∃ (c40 : Nat),
 w'30.cell? (Addr.mk b36 (o37 + n19.toNat) none) = some (Value.slice p38 n39 c40) ∧
 ∃ (b41 : Nat),
 ∃ (o42 : Nat),
 p6 = some (Addr.mk b41 o42 none) ∧
 0 ≤ n26 ∧
 n26 < (↑n7 : Int) ∧
 ∃ (p43 : Option Addr),
 ∃ (n44 : Nat),
 ∃ (c45 : Nat),
 w'30.cell? (Addr.mk b41 (o42 + n26.toNat) none) = some (Value.slice p43 n44 c45) ∧
 Calls Try.prog 13 #[Value.slice p38 n39 c40, Value.slice p43 n44 c45] w'30 fun (e46 : Ending) (w47 : World) ↦
 ∃ (b48 : Bool),
 e46 = Ending.returned (Value.bool b48) ∧
 (b48 = true →
 ∃ (b50 : Nat),
 ∃ (o51 : Nat),
 some (Addr.mk b14 0 none) = some (Addr.mk b50 o51 none) ∧
 0 ≤ n26 ∧
 n26 < (↑n7 : Int) ∧
 (∃ (u52 : Value), w47.cell? (Addr.mk b50 (o51 + n26.toNat) none) = some u52) ∧
 w47.frozen? (Addr.mk b50 (o51 + n26.toNat) none) = false ∧
 ∀ (w'53 : World),
 Put w47 b50 (o51 + n26.toNat) [Value.bool true] w'53 → I23 true (IntKind.i64.wrap (n26 + 1)) w'53 ∧ M24 true (IntKind.i64.wrap (n26 + 1)) w'53 < M24 b25 n26 w'27) ∧
 (b48 = false → I23 b25 (IntKind.i64.wrap (n26 + 1)) w47 ∧ M24 b25 (IntKind.i64.wrap (n26 + 1)) w47 < M24 b25 n26 w'27)) ∧
 (b34 = true → I23 b25 (IntKind.i64.wrap (n26 + 1)) w'30 ∧ M24 b25 (IntKind.i64.wrap (n26 + 1)) w'30 < M24 b25 n26 w'27)) ∧
 ((↑n7 : Int) ≤ n26 ∨ b25 = true →
 (b25 = false → R (Ending.returned (Value.bool false)) w'27) ∧
 (b25 = true →
 (0 < n19 →
 ∀ (w'61 : World),
 Drew w'27 w'61 →
 ∃ (b63 : Nat),
 ∃ (o64 : Nat),
 p6 = some (Addr.mk b63 o64 none) ∧
 0 ≤ IntKind.i64.wrap (n19 - 1) ∧
 IntKind.i64.wrap (n19 - 1) < (↑n7 : Int) ∧
 ∃ (p65 : Option Addr),
 ∃ (n66 : Nat),
 ∃ (c67 : Nat),
 w'61.cell? (Addr.mk b63 (o64 + (IntKind.i64.wrap (n19 - 1)).toNat) none) = some (Value.slice p65 n66 c67) ∧
 ∃ (b68 : Nat),
 ∃ (o69 : Nat),
 p6 = some (Addr.mk b68 o69 none) ∧
 0 ≤ n19 ∧
 n19 < (↑n7 : Int) ∧
 ∃ (p70 : Option Addr),
 ∃ (n71 : Nat),
 ∃ (c72 : Nat),
 w'61.cell? (Addr.mk b68 (o69 + n19.toNat) none) = some (Value.slice p70 n71 c72) ∧
 Calls Try.prog 10 #[Value.slice p65 n66 c67, Value.slice p70 n71 c72, Value.slice keys_p keys_n keys_c] w'61 fun (e73 : Ending) (w74 : World) ↦
 ∃ (n75 : Int),
 ∃ (n76 : Int),
 e73 = Ending.returned (Value.tuple #[Value.int IntKind.i64 n75, Value.int IntKind.i64 n76]) ∧
 (n76 ≠ 0 ∨ 0 < n75 → R (Ending.returned (Value.bool false)) w74) ∧
 (n76 = 0 ∧ n75 ≤ 0 → I17 (IntKind.i64.wrap (n19 + 1)) w74 ∧ M18 (IntKind.i64.wrap (n19 + 1)) w74 < M18 n19 w'20)) ∧
 (n19 ≤ 0 → I17 (IntKind.i64.wrap (n19 + 1)) w'27 ∧ M18 (IntKind.i64.wrap (n19 + 1)) w'27 < M18 n19 w'20)))) ∧
 ((↑(mmI false (↑rows_n : Int) 300).toNat : Int) ≤ n19 → R (Ending.returned (Value.bool b3)) w'20)))

set_option maxRecDepth 100000 in
theorem law15Same_eq (rows_p : Option Addr) (rows_n : Nat) (rows_c : Nat) (keys_p : Option Addr) (keys_n : Nat) (keys_c : Nat) (w : World) (R : Ending → World → Prop) : law15Same_T rows_p rows_n rows_c keys_p keys_n keys_c w R = vcFn Try.prog [] [(16, [0, 2, 4, 6, 8, 10, 12, 14, 16, 18, 20, 22, 24, 26, 28, 30]), (22, [0, 2, 4, 6, 8, 10, 12, 14, 16, 18, 20, 22, 24, 26, 28, 30])] Try.f4 [Value.slice rows_p rows_n rows_c, Value.slice keys_p keys_n keys_c] w R := by kernel_rfl

set_option maxRecDepth 100000 in
theorem law15Same_vc (rows_p : Option Addr) (rows_n : Nat) (rows_c : Nat) (keys_p : Option Addr) (keys_n : Nat) (keys_c : Nat) (w : World) (R : Ending → World → Prop) (h : law15Same_T rows_p rows_n rows_c keys_p keys_n keys_c w R) : Calls Try.prog 4 #[Value.slice rows_p rows_n rows_c, Value.slice keys_p keys_n keys_c] w R :=
  calls_of_vc (args := [Value.slice rows_p rows_n rows_c, Value.slice keys_p keys_n keys_c]) [] [(16, [0, 2, 4, 6, 8, 10, 12, 14, 16, 18, 20, 22, 24, 26, 28, 30]), (22, [0, 2, 4, 6, 8, 10, 12, 14, 16, 18, 20, 22, 24, 26, 28, 30])] Try.mixed Try.func4 (cast (law15Same_eq _ _ _ _ _ _ w R) h)

set_option maxRecDepth 100000 in
def law15First_T (rows_p : Option Addr) (rows_n : Nat) (rows_c : Nat) (n : Int) (keys_p : Option Addr) (keys_n : Nat) (keys_c : Nat) (w : World) (R : Ending → World → Prop) : Prop :=
  Calls Try.prog 9 #[] w fun (e1 : Ending) (w2 : World) ↦
 ∃ (b3 : Bool),
 e1 = Ending.returned (Value.bool b3) ∧
 0 ≤ mmI false (↑rows_n : Int) 200 ∧
 mmI false (↑rows_n : Int) 200 ≤ (↑rows_c : Int) ∧
 Calls Try.prog 12 #[Value.slice rows_p (mmI false (↑rows_n : Int) 200).toNat rows_c, Value.slice keys_p keys_n keys_c] w2 fun (e4 : Ending) (w5 : World) ↦
 ∃ (p6 : Option Addr),
 ∃ (n7 : Nat),
 ∃ (c8 : Nat),
 ∃ (n9 : Int),
 e4 = Ending.returned (Value.tuple #[Value.slice p6 n7 c8, Value.int IntKind.i64 n9]) ∧
 Calls Try.prog 15 #[Value.slice rows_p (mmI false (↑rows_n : Int) 200).toNat rows_c, Value.int IntKind.i64 n, Value.slice keys_p keys_n keys_c] w5
 fun (e10 : Ending) (w11 : World) ↦
 ∃ (p12 : Option Addr),
 ∃ (n13 : Nat),
 ∃ (c14 : Nat),
 ∃ (n15 : Int),
 e10 = Ending.returned (Value.tuple #[Value.slice p12 n13 c14, Value.int IntKind.i64 n15]) ∧
 (n9 ≠ 0 ∨ n < -1 → R (Ending.returned (Value.bool (b3 && decide (n15 = 2)))) w11) ∧
 (n9 = 0 ∧ -1 ≤ n →
 ∃ (J18 : Int → World → Prop),
 ((n < 0 ∨ (↑n7 : Int) < n → J18 (↑n7 : Int) w11) ∧ (0 ≤ n ∧ n ≤ (↑n7 : Int) → J18 n w11)) ∧
 ∀ (n21 : Int) (w'22 : World),
 J18 n21 w'22 →
 0 ≤ (↑keys_n : Int) ∧
 (↑keys_n : Int) ≤ (↑keys_n : Int) ∧
 16 * (↑keys_n : Int) ≤ 281474976710656 ∧
 (↑keys_n : Int) ≤ 9223372036854775807 ∧
 ∀ (b24 : Nat) (w'25 : World),
 New w'22 (Obj.cells (madeCells #[Value.int IntKind.i64 0, Value.bool false] (keys_n * 2)) 43) b24 w'25 →
 ∃ (I27 : Int → World → Prop),
 ∃ (M28 : Int → World → Nat),
 I27 0 w'25 ∧
 ∀ (n29 : Int) (w'30 : World),
 I27 n29 w'30 →
 (n29 < (↑keys_n : Int) →
 ∀ (w'33 : World),
 Drew w'30 w'33 →
 ∃ (b35 : Nat),
 ∃ (o36 : Nat),
 keys_p = some (Addr.mk b35 o36 none) ∧
 0 ≤ n29 ∧
 n29 < (↑keys_n : Int) ∧
 ∃ (n37 : Int),
 w'33.cell? (Addr.mk b35 (o36 + n29.toNat * 2) none) = some (Value.int IntKind.i64 n37) ∧
 ∃ (b38 : Nat),
 ∃ (o39 : Nat),
 keys_p = some (Addr.mk b38 o39 none) ∧
 0 ≤ n29 ∧
 n29 < (↑keys_n : Int) ∧
 ∃ (b40 : Bool),
 w'33.cell? (Addr.mk b38 (o39 + n29.toNat * 2 + 1) none) = some (Value.bool b40) ∧
 ∃ (b41 : Nat),
 ∃ (o42 : Nat),
 some (Addr.mk b24 0 none) = some (Addr.mk b41 o42 none) ∧
 0 ≤ n29 ∧
 n29 < (↑keys_n : Int) ∧
 (∃ (u43 : Value), w'33.cell? (Addr.mk b41 (o42 + n29.toNat * 2) none) = some u43) ∧
 w'33.frozen? (Addr.mk b41 (o42 + n29.toNat * 2) none) = false ∧
 (∃ (u44 : Value), w'33.cell? (Addr.mk b41 (o42 + n29.toNat * 2 + 1) none) = some u44) ∧
 w'33.frozen? (Addr.mk b41 (o42 + n29.toNat * 2 + 1) none) = false ∧
 ∀ (w'45 : World),
 Put w'33 b41 (o42 + n29.toNat * 2) [Value.int IntKind.i64 n37, Value.bool !b40] w'45 →
 I27 (IntKind.i64.wrap (n29 + 1)) w'45 ∧ M28 (IntKind.i64.wrap (n29 + 1)) w'45 < M28 n29 w'30) ∧
 ((↑keys_n : Int) ≤ n29 →
 Calls Try.prog 12 #[Value.slice rows_p (mmI false (↑rows_n : Int) 200).toNat rows_c, Value.slice (some (Addr.mk b24 0 none)) keys_n keys_n] w'30
 fun (e48 : Ending) (w49 : World) ↦
 ∃ (p50 : Option Addr),
 ∃ (n51 : Nat),
 ∃ (c52 : Nat),
 ∃ (n53 : Int),
 e48 = Ending.returned (Value.tuple #[Value.slice p50 n51 c52, Value.int IntKind.i64 n53]) ∧
 ∃ (I54 : Bool → Int → World → Prop),
 ∃ (M55 : Bool → Int → World → Nat),
 I54 true 1 w49 ∧
 ∀ (b56 : Bool) (n57 : Int) (w'58 : World),
 I54 b56 n57 w'58 →
 (n57 < (↑n7 : Int) →
 ∀ (w'61 : World),
 Drew w'58 w'61 →
 ∃ (b63 : Nat),
 ∃ (o64 : Nat),
 p6 = some (Addr.mk b63 o64 none) ∧
 0 ≤ IntKind.i64.wrap (n57 - 1) ∧
 IntKind.i64.wrap (n57 - 1) < (↑n7 : Int) ∧
 ∃ (p65 : Option Addr),
 ∃ (n66 : Nat),
 ∃ (c67 : Nat),
 w'61.cell? (Addr.mk b63 (o64 + (IntKind.i64.wrap (n57 - 1)).toNat) none) = some (Value.slice p65 n66 c67) ∧
 ∃ (b68 : Nat),
 ∃ (o69 : Nat),
 p6 = some (Addr.mk b68 o69 none) ∧
 0 ≤ n57 ∧
 n57 < (↑n7 : Int) ∧
 ∃ (p70 : Option Addr),
 ∃ (n71 : Nat),
 ∃ (c72 : Nat),
 w'61.cell? (Addr.mk b68 (o69 + n57.toNat) none) = some (Value.slice p70 n71 c72) ∧
 Calls Try.prog 10 #[Value.slice p65 n66 c67, Value.slice p70 n71 c72, Value.slice keys_p keys_n keys_c] w'61 fun (e73 : Ending) (w74 : World) ↦
 ∃ (n75 : Int),
 ∃ (n76 : Int),
 e73 = Ending.returned (Value.tuple #[Value.int IntKind.i64 n75, Value.int IntKind.i64 n76]) ∧
 I54 (b56 && decide (n75 < 0) && decide (n76 = 0)) (IntKind.i64.wrap (n57 + 1)) w74 ∧
 M55 (b56 && decide (n75 < 0) && decide (n76 = 0)) (IntKind.i64.wrap (n57 + 1)) w74 < M55 b56 n57 w'58) ∧
 ((↑n7 : Int) ≤ n57 →
 ∃ (I78 : Int → World → Prop),
 ∃ (M79 : Int → World → Nat),
 I78 0 w'58 ∧
 ∀ (n80 : Int) (w'81 : World),
 I78 n80 w'81 →
 (n80 < (↑n7 : Int) ∧ b56 = true →
 ∀ (w'84 : World),
 Drew w'81 w'84 →
 ∃ (b86 : Nat),
 ∃ (o87 : Nat),
 p6 = some (Addr.mk b86 o87 none) ∧
 0 ≤ n80 ∧
 n80 < (↑n7 : Int) ∧
 ∃ (p88 : Option Addr),
 ∃ (n89 : Nat),
 ∃ (c90 : Nat),
 w'84.cell? (Addr.mk b86 (o87 + n80.toNat) none) = some (Value.slice p88 n89 c90) ∧
 ∃ (b91 : Nat),
 ∃ (o92 : Nat),
 p50 = some (Addr.mk b91 o92 none) ∧
 0 ≤ IntKind.i64.wrap (IntKind.i64.wrap ((↑n51 : Int) - 1) - n80) ∧
 IntKind.i64.wrap (IntKind.i64.wrap ((↑n51 : Int) - 1) - n80) < (↑n51 : Int) ∧
 ∃ (p93 : Option Addr),
 ∃ (n94 : Nat),
 ∃ (c95 : Nat),
 w'84.cell? (Addr.mk b91 (o92 + (IntKind.i64.wrap (IntKind.i64.wrap ((↑n51 : Int) - 1) - n80)).toNat) none) = some (Value.slice p93 n94 c95) ∧
 Calls Try.prog 13 #[Value.slice p88 n89 c90, Value.slice p93 n94 c95] w'84 fun (e96 : Ending) (w97 : World) ↦
 ∃ (b98 : Bool),
 e96 = Ending.returned (Value.bool b98) ∧
 (b98 = false → R (Ending.returned (Value.bool false)) w97) ∧ (b98 = true → I78 (IntKind.i64.wrap (n80 + 1)) w97 ∧ M79 (IntKind.i64.wrap (n80 + 1)) w97 < M79 n80 w'81)) ∧
 ((↑n7 : Int) ≤ n80 ∨ b56 = false →
 ((b3 = true ∧ n15 = 0) ∧ n53 = 0 →
 0 ≤ n21 ∧
 n21 ≤ (↑c8 : Int) ∧
 Calls Try.prog 17 #[Value.slice p12 n13 c14, Value.slice p6 n21.toNat c8] w'81 fun (e103 : Ending) (w104 : World) ↦
 ∃ (b105 : Bool), e103 = Ending.returned (Value.bool b105) ∧ R (Ending.returned (Value.bool b105)) w104) ∧
 ((b3 = false ∨ n15 ≠ 0) ∨ n53 ≠ 0 → R (Ending.returned (Value.bool false)) w'81)))))

set_option maxRecDepth 100000 in
theorem law15First_eq (rows_p : Option Addr) (rows_n : Nat) (rows_c : Nat) (n : Int) (keys_p : Option Addr) (keys_n : Nat) (keys_c : Nat) (w : World) (R : Ending → World → Prop) : law15First_T rows_p rows_n rows_c n keys_p keys_n keys_c w R = vcFn Try.prog [9] [(13, [0, 2, 4, 6, 8, 10, 12, 14, 16, 18, 20, 22, 24, 26, 28, 30]), (19, [0, 2, 4, 6, 8, 10, 12, 14, 16, 18, 20, 22, 24, 26, 28, 30]), (24, [0, 2, 4, 6, 8, 10, 12, 14, 16, 18, 20, 22, 24, 26])] Try.f6 [Value.slice rows_p rows_n rows_c, Value.int IntKind.i64 n, Value.slice keys_p keys_n keys_c] w R := by kernel_rfl

set_option maxRecDepth 100000 in
theorem law15First_vc (rows_p : Option Addr) (rows_n : Nat) (rows_c : Nat) (n : Int) (keys_p : Option Addr) (keys_n : Nat) (keys_c : Nat) (w : World) (R : Ending → World → Prop) (h : law15First_T rows_p rows_n rows_c n keys_p keys_n keys_c w R) : Calls Try.prog 6 #[Value.slice rows_p rows_n rows_c, Value.int IntKind.i64 n, Value.slice keys_p keys_n keys_c] w R :=
  calls_of_vc (args := [Value.slice rows_p rows_n rows_c, Value.int IntKind.i64 n, Value.slice keys_p keys_n keys_c]) [9] [(13, [0, 2, 4, 6, 8, 10, 12, 14, 16, 18, 20, 22, 24, 26, 28, 30]), (19, [0, 2, 4, 6, 8, 10, 12, 14, 16, 18, 20, 22, 24, 26, 28, 30]), (24, [0, 2, 4, 6, 8, 10, 12, 14, 16, 18, 20, 22, 24, 26])] Try.mixed Try.func6 (cast (law15First_eq _ _ _ _ _ _ _ w R) h)

set_option maxRecDepth 100000 in
def shown15_T (w : World) (R : Ending → World → Prop) : Prop :=
  Calls Try.prog 20 #[Value.int IntKind.i64 2] w fun (e1 : Ending) (w2 : World) ↦
 ∃ (n3 : Int),
 ∃ (n4 : Int),
 ∃ (s5 : ByteArray),
 e1 = Ending.returned (Value.agg #[Value.int IntKind.i64 n3, Value.int IntKind.i64 n4, Value.string s5]) ∧
 Calls Try.prog 20 #[Value.int IntKind.i64 7] w2 fun (e6 : Ending) (w7 : World) ↦
 ∃ (n8 : Int),
 ∃ (n9 : Int),
 ∃ (s10 : ByteArray),
 e6 = Ending.returned (Value.agg #[Value.int IntKind.i64 n8, Value.int IntKind.i64 n9, Value.string s10]) ∧
 ∀ (b11 : Nat) (w'12 : World),
 New w7 (Obj.cells #[Value.int IntKind.i64 n3, Value.int IntKind.i64 n4, Value.string s5, Value.int IntKind.i64 n8, Value.int IntKind.i64 n9, Value.string s10] 48) b11
 w'12 →
 Calls Try.prog 20 #[Value.int IntKind.i64 1] w'12 fun (e14 : Ending) (w15 : World) ↦
 ∃ (n16 : Int),
 ∃ (n17 : Int),
 ∃ (s18 : ByteArray),
 e14 = Ending.returned (Value.agg #[Value.int IntKind.i64 n16, Value.int IntKind.i64 n17, Value.string s18]) ∧
 Calls Try.prog 20 #[Value.int IntKind.i64 8] w15 fun (e19 : Ending) (w20 : World) ↦
 ∃ (n21 : Int),
 ∃ (n22 : Int),
 ∃ (s23 : ByteArray),
 e19 = Ending.returned (Value.agg #[Value.int IntKind.i64 n21, Value.int IntKind.i64 n22, Value.string s23]) ∧
 ∀ (b24 : Nat) (w'25 : World),
 New w20 (Obj.cells #[Value.int IntKind.i64 n16, Value.int IntKind.i64 n17, Value.string s18, Value.int IntKind.i64 n21, Value.int IntKind.i64 n22, Value.string s23] 48)
 b24 w'25 →
 Calls Try.prog 20 #[Value.int IntKind.i64 2] w'25 fun (e27 : Ending) (w28 : World) ↦
 ∃ (n29 : Int),
 ∃ (n30 : Int),
 ∃ (s31 : ByteArray),
 e27 = Ending.returned (Value.agg #[Value.int IntKind.i64 n29, Value.int IntKind.i64 n30, Value.string s31]) ∧
 Calls Try.prog 20 #[Value.int IntKind.i64 6] w28 fun (e32 : Ending) (w33 : World) ↦
 ∃ (n34 : Int),
 ∃ (n35 : Int),
 ∃ (s36 : ByteArray),
 e32 = Ending.returned (Value.agg #[Value.int IntKind.i64 n34, Value.int IntKind.i64 n35, Value.string s36]) ∧
 ∀ (b37 : Nat) (w'38 : World),
 New w33 (Obj.cells #[Value.int IntKind.i64 n29, Value.int IntKind.i64 n30, Value.string s31, Value.int IntKind.i64 n34, Value.int IntKind.i64 n35, Value.string s36] 48)
 b37 w'38 →
 ∀ (b40 : Nat) (w'41 : World),
 New w'38 (Obj.cells #[Value.slice (some (Addr.mk b11 0 none)) 2 2, Value.slice (some (Addr.mk b24 0 none)) 2 2, Value.slice (some (Addr.mk b37 0 none)) 2 2] 23) b40
 w'41 →
 ∀ (b43 : Nat) (w'44 : World),
 New w'41 (Obj.cells #[Value.int IntKind.i64 0, Value.bool false] 43) b43 w'44 →
 Calls Try.prog 12 #[Value.slice (some (Addr.mk b40 0 none)) 3 3, Value.slice (some (Addr.mk b43 0 none)) 1 1] w'44 fun (e46 : Ending) (w47 : World) ↦
 ∃ (p48 : Option Addr),
 ∃ (n49 : Nat),
 ∃ (c50 : Nat),
 ∃ (n51 : Int),
 e46 = Ending.returned (Value.tuple #[Value.slice p48 n49 c50, Value.int IntKind.i64 n51]) ∧
 ∀ (w'52 : World),
 Drew w47 w'52 →
 (n51 = 0 ∧ (↑n49 : Int) = 3 →
 ∃ (b55 : Nat),
 ∃ (o56 : Nat),
 p48 = some (Addr.mk b55 o56 none) ∧
 (0 : Int) ≤ 0 ∧
 0 < (↑n49 : Int) ∧
 ∃ (p57 : Option Addr),
 ∃ (n58 : Nat),
 ∃ (c59 : Nat),
 w'52.cell? (Addr.mk b55 (o56 + 0) none) = some (Value.slice p57 n58 c59) ∧
 ∃ (b60 : Nat),
 ∃ (o61 : Nat),
 p57 = some (Addr.mk b60 o61 none) ∧
 (0 : Int) ≤ 1 ∧
 1 < (↑n58 : Int) ∧
 ∃ (n62 : Int),
 w'52.cell? (Addr.mk b60 (o61 + 3) none) = some (Value.int IntKind.i64 n62) ∧
 ∃ (n63 : Int),
 w'52.cell? (Addr.mk b60 (o61 + 3 + 1) none) = some (Value.int IntKind.i64 n63) ∧
 ∃ (s64 : ByteArray),
 w'52.cell? (Addr.mk b60 (o61 + 3 + 2) none) = some (Value.string s64) ∧
 Calls Try.prog 20 #[Value.int IntKind.i64 8] w'52 fun (e65 : Ending) (w66 : World) ↦
 ∃ (n67 : Int),
 ∃ (n68 : Int),
 ∃ (s69 : ByteArray),
 e65 = Ending.returned (Value.agg #[Value.int IntKind.i64 n67, Value.int IntKind.i64 n68, Value.string s69]) ∧
 Same w'52 w66 ∧
 (n62 = n67 ∧ n63 = n68 ∧ s64 = s69 →
 ∃ (b71 : Nat),
 ∃ (o72 : Nat),
 p48 = some (Addr.mk b71 o72 none) ∧
 (0 : Int) ≤ 1 ∧
 1 < (↑n49 : Int) ∧
 ∃ (p73 : Option Addr),
 ∃ (n74 : Nat),
 ∃ (c75 : Nat),
 w66.cell? (Addr.mk b71 (o72 + 1) none) = some (Value.slice p73 n74 c75) ∧
 ∃ (b76 : Nat),
 ∃ (o77 : Nat),
 p73 = some (Addr.mk b76 o77 none) ∧
 (0 : Int) ≤ 1 ∧
 1 < (↑n74 : Int) ∧
 ∃ (n78 : Int),
 w66.cell? (Addr.mk b76 (o77 + 3) none) = some (Value.int IntKind.i64 n78) ∧
 ∃ (n79 : Int),
 w66.cell? (Addr.mk b76 (o77 + 3 + 1) none) = some (Value.int IntKind.i64 n79) ∧
 ∃ (s80 : ByteArray),
 w66.cell? (Addr.mk b76 (o77 + 3 + 2) none) = some (Value.string s80) ∧
 Calls Try.prog 20 #[Value.int IntKind.i64 7] w66 fun (e81 : Ending) (w82 : World) ↦
 ∃ (n83 : Int),
 ∃ (n84 : Int),
 ∃ (s85 : ByteArray),
 e81 = Ending.returned (Value.agg #[Value.int IntKind.i64 n83, Value.int IntKind.i64 n84, Value.string s85]) ∧
 Same w66 w82 ∧
 (n78 = n83 ∧ n79 = n84 ∧ s80 = s85 →
 ∃ (b87 : Nat),
 ∃ (o88 : Nat),
 p48 = some (Addr.mk b87 o88 none) ∧
 (0 : Int) ≤ 2 ∧
 2 < (↑n49 : Int) ∧
 ∃ (p89 : Option Addr),
 ∃ (n90 : Nat),
 ∃ (c91 : Nat),
 w82.cell? (Addr.mk b87 (o88 + 2) none) = some (Value.slice p89 n90 c91) ∧
 ∃ (b92 : Nat),
 ∃ (o93 : Nat),
 p89 = some (Addr.mk b92 o93 none) ∧
 (0 : Int) ≤ 1 ∧
 1 < (↑n90 : Int) ∧
 ∃ (n94 : Int),
 w82.cell? (Addr.mk b92 (o93 + 3) none) = some (Value.int IntKind.i64 n94) ∧
 ∃ (n95 : Int),
 w82.cell? (Addr.mk b92 (o93 + 3 + 1) none) = some (Value.int IntKind.i64 n95) ∧
 ∃ (s96 : ByteArray),
 w82.cell? (Addr.mk b92 (o93 + 3 + 2) none) = some (Value.string s96) ∧
 Calls Try.prog 20 #[Value.int IntKind.i64 6] w82 fun (e97 : Ending) (w98 : World) ↦
 ∃ (n99 : Int),
 ∃ (n100 : Int),
 ∃ (s101 : ByteArray),
 e97 = Ending.returned (Value.agg #[Value.int IntKind.i64 n99, Value.int IntKind.i64 n100, Value.string s101]) ∧
 Same w82 w98 ∧ R (Ending.returned (Value.bool (decide (n94 = n99) && (decide (n95 = n100) && sEq s96 s101)))) w98) ∧
 (n78 ≠ n83 ∨ n79 ≠ n84 ∨ s80 ≠ s85 → Same w82 w82 ∧ R (Ending.returned (Value.bool false)) w82)) ∧
 (n62 ≠ n67 ∨ n63 ≠ n68 ∨ s64 ≠ s69 → Same w66 w66 ∧ Same w66 w66 ∧ R (Ending.returned (Value.bool false)) w66)) ∧
 (n51 ≠ 0 ∨ (↑n49 : Int) ≠ 3 → Same w'52 w'52 ∧ Same w'52 w'52 ∧ Same w'52 w'52 ∧ R (Ending.returned (Value.bool false)) w'52)

set_option maxRecDepth 100000 in
theorem shown15_eq (w : World) (R : Ending → World → Prop) : shown15_T w R = vcFn Try.prog [] [(3, [0, 2, 4, 6, 8, 10, 12, 14, 16, 18, 20, 22, 24, 26, 29, 30, 32, 34, 36, 38, 40, 42, 44, 46, 49, 50, 52, 54, 56, 58, 60, 62, 64, 66, 69, 70, 72, 74])] Try.f9 [] w R := by kernel_rfl

set_option maxRecDepth 100000 in
theorem shown15_vc (w : World) (R : Ending → World → Prop) (h : shown15_T w R) : Calls Try.prog 9 #[] w R :=
  calls_of_vc (args := []) [] [(3, [0, 2, 4, 6, 8, 10, 12, 14, 16, 18, 20, 22, 24, 26, 29, 30, 32, 34, 36, 38, 40, 42, 44, 46, 49, 50, 52, 54, 56, 58, 60, 62, 64, 66, 69, 70, 72, 74])] Try.mixed Try.func9 (cast (shown15_eq w R) h)

set_option maxRecDepth 100000 in
def shown151_T (x : Int) (w : World) (R : Ending → World → Prop) : Prop :=
  ∀ (b1 : Nat) (w'2 : World),
 New w (Obj.cells #[Value.int IntKind.i64 0, Value.int IntKind.i64 0, Value.string (ByteArray.mk #[])] 48) b1 w'2 →
 (∃ (u4 : Value), w'2.cell? (Addr.mk b1 0 none) = some u4) ∧
 w'2.frozen? (Addr.mk b1 0 none) = false ∧
 (∃ (u5 : Value), w'2.cell? (Addr.mk b1 1 none) = some u5) ∧
 w'2.frozen? (Addr.mk b1 1 none) = false ∧
 (∃ (u6 : Value), w'2.cell? (Addr.mk b1 2 none) = some u6) ∧
 w'2.frozen? (Addr.mk b1 2 none) = false ∧
 ∀ (w'7 : World),
 Put w'2 b1 0 [Value.int IntKind.i64 1, Value.int IntKind.i64 x, Value.string (ByteArray.mk #[])] w'7 →
 ∃ (n9 : Int),
 w'7.cell? (Addr.mk b1 0 none) = some (Value.int IntKind.i64 n9) ∧
 ∃ (n10 : Int),
 w'7.cell? (Addr.mk b1 1 none) = some (Value.int IntKind.i64 n10) ∧
 ∃ (s11 : ByteArray),
 w'7.cell? (Addr.mk b1 2 none) = some (Value.string s11) ∧ R (Ending.returned (Value.agg #[Value.int IntKind.i64 n9, Value.int IntKind.i64 n10, Value.string s11])) w'7

set_option maxRecDepth 100000 in
theorem shown151_eq (x : Int) (w : World) (R : Ending → World → Prop) : shown151_T x w R = vcFn Try.prog [] [] Try.f20 [Value.int IntKind.i64 x] w R := by kernel_rfl

set_option maxRecDepth 100000 in
theorem shown151_vc (x : Int) (w : World) (R : Ending → World → Prop) (h : shown151_T x w R) : Calls Try.prog 20 #[Value.int IntKind.i64 x] w R :=
  calls_of_vc (args := [Value.int IntKind.i64 x]) [] [] Try.mixed Try.func20 (cast (shown151_eq _ w R) h)


end Go.Proofs.Ytgcjhhlokncbfaa
