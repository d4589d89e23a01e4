/- The verification conditions of the functions, evaluated: printed by program. -/
import Derived.Test.YtgcjhhlokncbfaaBase
import Derived.Test.YtgcjhhlokncbfaaVcF
namespace Go.Proofs.Ytgcjhhlokncbfaa
open Go Go.Vc

set_option maxRecDepth 100000 in
def sortstable_T (x_p : Option Addr) (x_n : Nat) (x_c : Nat) (cv1_0 : Nat) (w : World) (R : Ending → World → Prop) : Prop :=
  Calls Try.prog 41 #[Value.slice x_p x_n x_c, Value.int IntKind.i64 (↑x_n : Int), Value.func (Fn.func 28) #[] #[Value.pointer (some (Addr.mk cv1_0 0 none))]] w
 fun (e1 : Ending) (w2 : World) ↦ e1 = Ending.returned (Value.tuple #[]) ∧ R (Ending.returned (Value.tuple #[])) w2

set_option maxRecDepth 100000 in
theorem sortstable_eq (x_p : Option Addr) (x_n : Nat) (x_c : Nat) (cv1_0 : Nat) (w : World) (R : Ending → World → Prop) : sortstable_T x_p x_n x_c cv1_0 w R = vcFn Try.prog [] [] Try.f27 [Value.slice x_p x_n x_c, Value.func (Fn.func 28) #[] #[Value.pointer (some (Addr.mk cv1_0 0 none))]] w R := by kernel_rfl

set_option maxRecDepth 100000 in
theorem sortstable_vc (x_p : Option Addr) (x_n : Nat) (x_c : Nat) (cv1_0 : Nat) (w : World) (R : Ending → World → Prop) (h : sortstable_T x_p x_n x_c cv1_0 w R) : Calls Try.prog 27 #[Value.slice x_p x_n x_c, Value.func (Fn.func 28) #[] #[Value.pointer (some (Addr.mk cv1_0 0 none))]] w R :=
  calls_of_vc (args := [Value.slice x_p x_n x_c, Value.func (Fn.func 28) #[] #[Value.pointer (some (Addr.mk cv1_0 0 none))]]) [] [] Try.mixed Try.func27 (cast (sortstable_eq _ _ _ _ w R) h)

set_option maxRecDepth 100000 in
def osort1_T (a_p : Option Addr) (a_n : Nat) (a_c : Nat) (b_p : Option Addr) (b_n : Nat) (b_c : Nat) (fv0 : Nat) (w : World) (R : Ending → World → Prop) : Prop :=
  ∃ (p1 : Option Addr),
 ∃ (n2 : Nat),
 ∃ (c3 : Nat),
 w.cell? (Addr.mk fv0 0 none) = some (Value.slice p1 n2 c3) ∧
 Calls Try.prog 22 #[Value.slice a_p a_n a_c, Value.slice b_p b_n b_c, Value.slice p1 n2 c3] w fun (e4 : Ending) (w5 : World) ↦
 ∃ (n6 : Int), e4 = Ending.returned (Value.int IntKind.i64 n6) ∧ R (Ending.returned (Value.int IntKind.i64 n6)) w5

set_option maxRecDepth 100000 in
theorem osort1_eq (a_p : Option Addr) (a_n : Nat) (a_c : Nat) (b_p : Option Addr) (b_n : Nat) (b_c : Nat) (fv0 : Nat) (w : World) (R : Ending → World → Prop) : osort1_T a_p a_n a_c b_p b_n b_c fv0 w R = vcFn Try.prog [] [] Try.f28 [Value.slice a_p a_n a_c, Value.slice b_p b_n b_c, Value.pointer (some (Addr.mk fv0 0 none))] w R := by kernel_rfl

set_option maxRecDepth 100000 in
theorem osort1_vc (a_p : Option Addr) (a_n : Nat) (a_c : Nat) (b_p : Option Addr) (b_n : Nat) (b_c : Nat) (fv0 : Nat) (w : World) (R : Ending → World → Prop) (h : osort1_T a_p a_n a_c b_p b_n b_c fv0 w R) : Calls Try.prog 28 #[Value.slice a_p a_n a_c, Value.slice b_p b_n b_c, Value.pointer (some (Addr.mk fv0 0 none))] w R :=
  calls_of_vc (args := [Value.slice a_p a_n a_c, Value.slice b_p b_n b_c, Value.pointer (some (Addr.mk fv0 0 none))]) [] [] Try.mixed Try.func28 (cast (osort1_eq _ _ _ _ _ _ _ w R) h)

set_option maxRecDepth 100000 in
def stablecmp_T (data_p : Option Addr) (data_n : Nat) (data_c : Nat) (n : Int) (cv2_0 : Nat) (w : World) (R : Ending → World → Prop) : Prop :=
  ∃ (I1 : Int → Int → World → Prop),
 ∃ (M2 : Int → Int → World → Nat),
 I1 0 20 w ∧
 ∀ (n3 n4 : Int) (w'5 : World),
 I1 n3 n4 w'5 →
 (n4 ≤ n →
 Calls Try.prog 50
 #[Value.slice data_p data_n data_c, Value.int IntKind.i64 n3, Value.int IntKind.i64 n4, Value.func (Fn.func 28) #[] #[Value.pointer (some (Addr.mk cv2_0 0 none))]] w'5
 fun (e8 : Ending) (w9 : World) ↦ e8 = Ending.returned (Value.tuple #[]) ∧ I1 n4 (IntKind.i64.wrap (n4 + 20)) w9 ∧ M2 n4 (IntKind.i64.wrap (n4 + 20)) w9 < M2 n3 n4 w'5) ∧
 (n < n4 →
 Calls Try.prog 50
 #[Value.slice data_p data_n data_c, Value.int IntKind.i64 n3, Value.int IntKind.i64 n, Value.func (Fn.func 28) #[] #[Value.pointer (some (Addr.mk cv2_0 0 none))]] w'5
 fun (e11 : Ending) (w12 : World) ↦
 e11 = Ending.returned (Value.tuple #[]) ∧
 ∃ (I13 : Int → Int → Int → World → Prop),
 ∃ (M14 : Int → Int → Int → World → Nat),
 I13 n3 n4 20 w12 ∧
 ∀ (n15 n16 n17 : Int) (w'18 : World),
 I13 n15 n16 n17 w'18 →
 (n17 < n →
 ∃ (I21 : Int → Int → World → Prop),
 ∃ (M22 : Int → Int → World → Nat),
 I21 0 (IntKind.i64.wrap (2 * n17)) w'18 ∧
 ∀ (n23 n24 : Int) (w'25 : World),
 I21 n23 n24 w'25 →
 (n24 ≤ n →
 Calls Try.prog 51
 #[Value.slice data_p data_n data_c, Value.int IntKind.i64 n23, Value.int IntKind.i64 (IntKind.i64.wrap (n23 + n17)), Value.int IntKind.i64 n24,
 Value.func (Fn.func 28) #[] #[Value.pointer (some (Addr.mk cv2_0 0 none))]]
 w'25 fun (e28 : Ending) (w29 : World) ↦
 e28 = Ending.returned (Value.tuple #[]) ∧
 I21 n24 (IntKind.i64.wrap (n24 + IntKind.i64.wrap (2 * n17))) w29 ∧ M22 n24 (IntKind.i64.wrap (n24 + IntKind.i64.wrap (2 * n17))) w29 < M22 n23 n24 w'25) ∧
 (n < n24 →
 (IntKind.i64.wrap (n23 + n17) < n →
 Calls Try.prog 51
 #[Value.slice data_p data_n data_c, Value.int IntKind.i64 n23, Value.int IntKind.i64 (IntKind.i64.wrap (n23 + n17)), Value.int IntKind.i64 n,
 Value.func (Fn.func 28) #[] #[Value.pointer (some (Addr.mk cv2_0 0 none))]]
 w'25 fun (e32 : Ending) (w33 : World) ↦
 e32 = Ending.returned (Value.tuple #[]) ∧ I13 n23 n24 (IntKind.i64.wrap (n17 * 2)) w33 ∧ M14 n23 n24 (IntKind.i64.wrap (n17 * 2)) w33 < M14 n15 n16 n17 w'18) ∧
 (n ≤ IntKind.i64.wrap (n23 + n17) → I13 n23 n24 (IntKind.i64.wrap (n17 * 2)) w'25 ∧ M14 n23 n24 (IntKind.i64.wrap (n17 * 2)) w'25 < M14 n15 n16 n17 w'18))) ∧
 (n ≤ n17 → R (Ending.returned (Value.tuple #[])) w'18))

set_option maxRecDepth 100000 in
theorem stablecmp_eq (data_p : Option Addr) (data_n : Nat) (data_c : Nat) (n : Int) (cv2_0 : Nat) (w : World) (R : Ending → World → Prop) : stablecmp_T data_p data_n data_c n cv2_0 w R = vcFn Try.prog [] [] Try.f41 [Value.slice data_p data_n data_c, Value.int IntKind.i64 n, Value.func (Fn.func 28) #[] #[Value.pointer (some (Addr.mk cv2_0 0 none))]] w R := by kernel_rfl

set_option maxRecDepth 100000 in
theorem stablecmp_vc (data_p : Option Addr) (data_n : Nat) (data_c : Nat) (n : Int) (cv2_0 : Nat) (w : World) (R : Ending → World → Prop) (h : stablecmp_T data_p data_n data_c n cv2_0 w R) : Calls Try.prog 41 #[Value.slice data_p data_n data_c, Value.int IntKind.i64 n, Value.func (Fn.func 28) #[] #[Value.pointer (some (Addr.mk cv2_0 0 none))]] w R :=
  calls_of_vc (args := [Value.slice data_p data_n data_c, Value.int IntKind.i64 n, Value.func (Fn.func 28) #[] #[Value.pointer (some (Addr.mk cv2_0 0 none))]]) [] [] Try.mixed Try.func41 (cast (stablecmp_eq _ _ _ _ _ w R) h)

set_option maxRecDepth 100000 in
def insertcmp_T (data_p : Option Addr) (data_n : Nat) (data_c : Nat) (a : Int) (b : Int) (cv3_0 : Nat) (w : World) (R : Ending → World → Prop) : Prop :=
  ∃ (I1 : Int → World → Prop),
 ∃ (M2 : Int → World → Nat),
 I1 (IntKind.i64.wrap (a + 1)) w ∧
 ∀ (n3 : Int) (w'4 : World),
 I1 n3 w'4 →
 (n3 < b →
 ∃ (I7 : Int → World → Prop),
 ∃ (M8 : Int → World → Nat),
 I7 n3 w'4 ∧
 ∀ (n9 : Int) (w'10 : World),
 I7 n9 w'10 →
 ∀ (w'12 : World),
 Drew w'10 w'12 →
 (a < n9 →
 ∃ (b15 : Nat),
 ∃ (o16 : Nat),
 data_p = some (Addr.mk b15 o16 none) ∧
 0 ≤ n9 ∧
 n9 < (↑data_n : Int) ∧
 ∃ (p17 : Option Addr),
 ∃ (n18 : Nat),
 ∃ (c19 : Nat),
 w'12.cell? (Addr.mk b15 (o16 + n9.toNat) none) = some (Value.slice p17 n18 c19) ∧
 ∃ (b20 : Nat),
 ∃ (o21 : Nat),
 data_p = some (Addr.mk b20 o21 none) ∧
 0 ≤ IntKind.i64.wrap (n9 - 1) ∧
 IntKind.i64.wrap (n9 - 1) < (↑data_n : Int) ∧
 ∃ (p22 : Option Addr),
 ∃ (n23 : Nat),
 ∃ (c24 : Nat),
 w'12.cell? (Addr.mk b20 (o21 + (IntKind.i64.wrap (n9 - 1)).toNat) none) = some (Value.slice p22 n23 c24) ∧
 Calls Try.prog 28 #[Value.slice p17 n18 c19, Value.slice p22 n23 c24, Value.pointer (some (Addr.mk cv3_0 0 none))] w'12 fun (e25 : Ending) (w26 : World) ↦
 ∃ (n27 : Int),
 e25 = Ending.returned (Value.int IntKind.i64 n27) ∧
 (n27 < 0 →
 ∀ (w'29 : World),
 Drew w26 w'29 →
 ∃ (b31 : Nat),
 ∃ (o32 : Nat),
 data_p = some (Addr.mk b31 o32 none) ∧
 0 ≤ IntKind.i64.wrap (n9 - 1) ∧
 IntKind.i64.wrap (n9 - 1) < (↑data_n : Int) ∧
 ∃ (p33 : Option Addr),
 ∃ (n34 : Nat),
 ∃ (c35 : Nat),
 w'29.cell? (Addr.mk b31 (o32 + (IntKind.i64.wrap (n9 - 1)).toNat) none) = some (Value.slice p33 n34 c35) ∧
 ∃ (b36 : Nat),
 ∃ (o37 : Nat),
 data_p = some (Addr.mk b36 o37 none) ∧
 0 ≤ n9 ∧
 n9 < (↑data_n : Int) ∧
 ∃ (p38 : Option Addr),
 ∃ (n39 : Nat),
 ∃ (c40 : Nat),
 w'29.cell? (Addr.mk b36 (o37 + n9.toNat) none) = some (Value.slice p38 n39 c40) ∧
 ∃ (b41 : Nat),
 ∃ (o42 : Nat),
 data_p = some (Addr.mk b41 o42 none) ∧
 0 ≤ n9 ∧
 n9 < (↑data_n : Int) ∧
 (∃ (u43 : Value), w'29.cell? (Addr.mk b41 (o42 + n9.toNat) none) = some u43) ∧
 w'29.frozen? (Addr.mk b41 (o42 + n9.toNat) none) = false ∧
 ∀ (w'44 : World),
 Put w'29 b41 (o42 + n9.toNat) [Value.slice p33 n34 c35] w'44 →
 ∃ (b46 : Nat),
 ∃ (o47 : Nat),
 data_p = some (Addr.mk b46 o47 none) ∧
 0 ≤ IntKind.i64.wrap (n9 - 1) ∧
 IntKind.i64.wrap (n9 - 1) < (↑data_n : Int) ∧
 (∃ (u48 : Value), w'44.cell? (Addr.mk b46 (o47 + (IntKind.i64.wrap (n9 - 1)).toNat) none) = some u48) ∧
 w'44.frozen? (Addr.mk b46 (o47 + (IntKind.i64.wrap (n9 - 1)).toNat) none) = false ∧
 ∀ (w'49 : World),
 Put w'44 b46 (o47 + (IntKind.i64.wrap (n9 - 1)).toNat) [Value.slice p38 n39 c40] w'49 →
 I7 (IntKind.i64.wrap (n9 - 1)) w'49 ∧ M8 (IntKind.i64.wrap (n9 - 1)) w'49 < M8 n9 w'10) ∧
 (0 ≤ n27 → I1 (IntKind.i64.wrap (n3 + 1)) w26 ∧ M2 (IntKind.i64.wrap (n3 + 1)) w26 < M2 n3 w'4)) ∧
 (n9 ≤ a → I1 (IntKind.i64.wrap (n3 + 1)) w'12 ∧ M2 (IntKind.i64.wrap (n3 + 1)) w'12 < M2 n3 w'4)) ∧
 (b ≤ n3 → R (Ending.returned (Value.tuple #[])) w'4)

set_option maxRecDepth 100000 in
theorem insertcmp_eq (data_p : Option Addr) (data_n : Nat) (data_c : Nat) (a : Int) (b : Int) (cv3_0 : Nat) (w : World) (R : Ending → World → Prop) : insertcmp_T data_p data_n data_c a b cv3_0 w R = vcFn Try.prog [] [(4, [0, 2, 4, 6, 8, 10, 12, 14, 16, 18, 20, 22, 24, 26, 28, 30, 32]), (6, [0, 2, 4, 6, 8, 10, 12, 14, 16, 18, 20, 22, 24, 26, 28, 30, 32, 34])] Try.f50 [Value.slice data_p data_n data_c, Value.int IntKind.i64 a, Value.int IntKind.i64 b, Value.func (Fn.func 28) #[] #[Value.pointer (some (Addr.mk cv3_0 0 none))]] w R := by kernel_rfl

set_option maxRecDepth 100000 in
theorem insertcmp_vc (data_p : Option Addr) (data_n : Nat) (data_c : Nat) (a : Int) (b : Int) (cv3_0 : Nat) (w : World) (R : Ending → World → Prop) (h : insertcmp_T data_p data_n data_c a b cv3_0 w R) : Calls Try.prog 50 #[Value.slice data_p data_n data_c, Value.int IntKind.i64 a, Value.int IntKind.i64 b, Value.func (Fn.func 28) #[] #[Value.pointer (some (Addr.mk cv3_0 0 none))]] w R :=
  calls_of_vc (args := [Value.slice data_p data_n data_c, Value.int IntKind.i64 a, Value.int IntKind.i64 b, Value.func (Fn.func 28) #[] #[Value.pointer (some (Addr.mk cv3_0 0 none))]]) [] [(4, [0, 2, 4, 6, 8, 10, 12, 14, 16, 18, 20, 22, 24, 26, 28, 30, 32]), (6, [0, 2, 4, 6, 8, 10, 12, 14, 16, 18, 20, 22, 24, 26, 28, 30, 32, 34])] Try.mixed Try.func50 (cast (insertcmp_eq _ _ _ _ _ _ w R) h)

set_option maxRecDepth 100000 in
def symmerge_T (data_p : Option Addr) (data_n : Nat) (data_c : Nat) (a : Int) (m : Int) (b : Int) (cv4_0 : Nat) (w : World) (R : Ending → World → Prop) : Prop :=
  (IntKind.i64.wrap (m - a) = 1 →
 ∃ (I2 : Int → Int → World → Prop),
 ∃ (M3 : Int → Int → World → Nat),
 I2 m b w ∧
 ∀ (n4 n5 : Int) (w'6 : World),
 I2 n4 n5 w'6 →
 (n4 < n5 →
 ∀ (w'9 : World),
 Drew w'6 w'9 →
 ∃ (b11 : Nat),
 ∃ (o12 : Nat),
 data_p = some (Addr.mk b11 o12 none) ∧
 0 ≤ IntKind.i64.wrap (shrI IntKind.u64 (IntKind.u64.wrap (IntKind.i64.wrap (n4 + n5))) 1) ∧
 IntKind.i64.wrap (shrI IntKind.u64 (IntKind.u64.wrap (IntKind.i64.wrap (n4 + n5))) 1) < (↑data_n : Int) ∧
 ∃ (p13 : Option Addr),
 ∃ (n14 : Nat),
 ∃ (c15 : Nat),
 w'9.cell? (Addr.mk b11 (o12 + (IntKind.i64.wrap (shrI IntKind.u64 (IntKind.u64.wrap (IntKind.i64.wrap (n4 + n5))) 1)).toNat) none) = some (Value.slice p13 n14 c15) ∧
 ∃ (b16 : Nat),
 ∃ (o17 : Nat),
 data_p = some (Addr.mk b16 o17 none) ∧
 0 ≤ a ∧
 a < (↑data_n : Int) ∧
 ∃ (p18 : Option Addr),
 ∃ (n19 : Nat),
 ∃ (c20 : Nat),
 w'9.cell? (Addr.mk b16 (o17 + a.toNat) none) = some (Value.slice p18 n19 c20) ∧
 Calls Try.prog 28 #[Value.slice p13 n14 c15, Value.slice p18 n19 c20, Value.pointer (some (Addr.mk cv4_0 0 none))] w'9 fun (e21 : Ending) (w22 : World) ↦
 ∃ (n23 : Int),
 e21 = Ending.returned (Value.int IntKind.i64 n23) ∧
 (n23 < 0 →
 I2 (IntKind.i64.wrap (IntKind.i64.wrap (shrI IntKind.u64 (IntKind.u64.wrap (IntKind.i64.wrap (n4 + n5))) 1) + 1)) n5 w22 ∧
 M3 (IntKind.i64.wrap (IntKind.i64.wrap (shrI IntKind.u64 (IntKind.u64.wrap (IntKind.i64.wrap (n4 + n5))) 1) + 1)) n5 w22 < M3 n4 n5 w'6) ∧
 (0 ≤ n23 →
 I2 n4 (IntKind.i64.wrap (shrI IntKind.u64 (IntKind.u64.wrap (IntKind.i64.wrap (n4 + n5))) 1)) w22 ∧
 M3 n4 (IntKind.i64.wrap (shrI IntKind.u64 (IntKind.u64.wrap (IntKind.i64.wrap (n4 + n5))) 1)) w22 < M3 n4 n5 w'6)) ∧
 (n5 ≤ n4 →
 ∃ (I27 : Int → World → Prop),
 ∃ (M28 : Int → World → Nat),
 I27 a w'6 ∧
 ∀ (n29 : Int) (w'30 : World),
 I27 n29 w'30 →
 (n29 < IntKind.i64.wrap (n4 - 1) →
 ∀ (w'33 : World),
 Drew w'30 w'33 →
 ∃ (b35 : Nat),
 ∃ (o36 : Nat),
 data_p = some (Addr.mk b35 o36 none) ∧
 0 ≤ IntKind.i64.wrap (n29 + 1) ∧
 IntKind.i64.wrap (n29 + 1) < (↑data_n : Int) ∧
 ∃ (p37 : Option Addr),
 ∃ (n38 : Nat),
 ∃ (c39 : Nat),
 w'33.cell? (Addr.mk b35 (o36 + (IntKind.i64.wrap (n29 + 1)).toNat) none) = some (Value.slice p37 n38 c39) ∧
 ∃ (b40 : Nat),
 ∃ (o41 : Nat),
 data_p = some (Addr.mk b40 o41 none) ∧
 0 ≤ n29 ∧
 n29 < (↑data_n : Int) ∧
 ∃ (p42 : Option Addr),
 ∃ (n43 : Nat),
 ∃ (c44 : Nat),
 w'33.cell? (Addr.mk b40 (o41 + n29.toNat) none) = some (Value.slice p42 n43 c44) ∧
 ∃ (b45 : Nat),
 ∃ (o46 : Nat),
 data_p = some (Addr.mk b45 o46 none) ∧
 0 ≤ n29 ∧
 n29 < (↑data_n : Int) ∧
 (∃ (u47 : Value), w'33.cell? (Addr.mk b45 (o46 + n29.toNat) none) = some u47) ∧
 w'33.frozen? (Addr.mk b45 (o46 + n29.toNat) none) = false ∧
 ∀ (w'48 : World),
 Put w'33 b45 (o46 + n29.toNat) [Value.slice p37 n38 c39] w'48 →
 ∃ (b50 : Nat),
 ∃ (o51 : Nat),
 data_p = some (Addr.mk b50 o51 none) ∧
 0 ≤ IntKind.i64.wrap (n29 + 1) ∧
 IntKind.i64.wrap (n29 + 1) < (↑data_n : Int) ∧
 (∃ (u52 : Value), w'48.cell? (Addr.mk b50 (o51 + (IntKind.i64.wrap (n29 + 1)).toNat) none) = some u52) ∧
 w'48.frozen? (Addr.mk b50 (o51 + (IntKind.i64.wrap (n29 + 1)).toNat) none) = false ∧
 ∀ (w'53 : World),
 Put w'48 b50 (o51 + (IntKind.i64.wrap (n29 + 1)).toNat) [Value.slice p42 n43 c44] w'53 →
 I27 (IntKind.i64.wrap (n29 + 1)) w'53 ∧ M28 (IntKind.i64.wrap (n29 + 1)) w'53 < M28 n29 w'30) ∧
 (IntKind.i64.wrap (n4 - 1) ≤ n29 → R (Ending.returned (Value.tuple #[])) w'30))) ∧
 (IntKind.i64.wrap (m - a) ≠ 1 →
 (IntKind.i64.wrap (b - m) = 1 →
 ∃ (I58 : Int → Int → World → Prop),
 ∃ (M59 : Int → Int → World → Nat),
 I58 a m w ∧
 ∀ (n60 n61 : Int) (w'62 : World),
 I58 n60 n61 w'62 →
 (n60 < n61 →
 ∀ (w'65 : World),
 Drew w'62 w'65 →
 ∃ (b67 : Nat),
 ∃ (o68 : Nat),
 data_p = some (Addr.mk b67 o68 none) ∧
 0 ≤ m ∧
 m < (↑data_n : Int) ∧
 ∃ (p69 : Option Addr),
 ∃ (n70 : Nat),
 ∃ (c71 : Nat),
 w'65.cell? (Addr.mk b67 (o68 + m.toNat) none) = some (Value.slice p69 n70 c71) ∧
 ∃ (b72 : Nat),
 ∃ (o73 : Nat),
 data_p = some (Addr.mk b72 o73 none) ∧
 0 ≤ IntKind.i64.wrap (shrI IntKind.u64 (IntKind.u64.wrap (IntKind.i64.wrap (n60 + n61))) 1) ∧
 IntKind.i64.wrap (shrI IntKind.u64 (IntKind.u64.wrap (IntKind.i64.wrap (n60 + n61))) 1) < (↑data_n : Int) ∧
 ∃ (p74 : Option Addr),
 ∃ (n75 : Nat),
 ∃ (c76 : Nat),
 w'65.cell? (Addr.mk b72 (o73 + (IntKind.i64.wrap (shrI IntKind.u64 (IntKind.u64.wrap (IntKind.i64.wrap (n60 + n61))) 1)).toNat) none) = some (Value.slice p74 n75 c76) ∧
 Calls Try.prog 28 #[Value.slice p69 n70 c71, Value.slice p74 n75 c76, Value.pointer (some (Addr.mk cv4_0 0 none))] w'65 fun (e77 : Ending) (w78 : World) ↦
 ∃ (n79 : Int),
 e77 = Ending.returned (Value.int IntKind.i64 n79) ∧
 (0 ≤ n79 →
 I58 (IntKind.i64.wrap (IntKind.i64.wrap (shrI IntKind.u64 (IntKind.u64.wrap (IntKind.i64.wrap (n60 + n61))) 1) + 1)) n61 w78 ∧
 M59 (IntKind.i64.wrap (IntKind.i64.wrap (shrI IntKind.u64 (IntKind.u64.wrap (IntKind.i64.wrap (n60 + n61))) 1) + 1)) n61 w78 < M59 n60 n61 w'62) ∧
 (n79 < 0 →
 I58 n60 (IntKind.i64.wrap (shrI IntKind.u64 (IntKind.u64.wrap (IntKind.i64.wrap (n60 + n61))) 1)) w78 ∧
 M59 n60 (IntKind.i64.wrap (shrI IntKind.u64 (IntKind.u64.wrap (IntKind.i64.wrap (n60 + n61))) 1)) w78 < M59 n60 n61 w'62)) ∧
 (n61 ≤ n60 →
 ∃ (I83 : Int → World → Prop),
 ∃ (M84 : Int → World → Nat),
 I83 m w'62 ∧
 ∀ (n85 : Int) (w'86 : World),
 I83 n85 w'86 →
 (n60 < n85 →
 ∀ (w'89 : World),
 Drew w'86 w'89 →
 ∃ (b91 : Nat),
 ∃ (o92 : Nat),
 data_p = some (Addr.mk b91 o92 none) ∧
 0 ≤ IntKind.i64.wrap (n85 - 1) ∧
 IntKind.i64.wrap (n85 - 1) < (↑data_n : Int) ∧
 ∃ (p93 : Option Addr),
 ∃ (n94 : Nat),
 ∃ (c95 : Nat),
 w'89.cell? (Addr.mk b91 (o92 + (IntKind.i64.wrap (n85 - 1)).toNat) none) = some (Value.slice p93 n94 c95) ∧
 ∃ (b96 : Nat),
 ∃ (o97 : Nat),
 data_p = some (Addr.mk b96 o97 none) ∧
 0 ≤ n85 ∧
 n85 < (↑data_n : Int) ∧
 ∃ (p98 : Option Addr),
 ∃ (n99 : Nat),
 ∃ (c100 : Nat),
 w'89.cell? (Addr.mk b96 (o97 + n85.toNat) none) = some (Value.slice p98 n99 c100) ∧
 ∃ (b101 : Nat),
 ∃ (o102 : Nat),
 data_p = some (Addr.mk b101 o102 none) ∧
 0 ≤ n85 ∧
 n85 < (↑data_n : Int) ∧
 (∃ (u103 : Value), w'89.cell? (Addr.mk b101 (o102 + n85.toNat) none) = some u103) ∧
 w'89.frozen? (Addr.mk b101 (o102 + n85.toNat) none) = false ∧
 ∀ (w'104 : World),
 Put w'89 b101 (o102 + n85.toNat) [Value.slice p93 n94 c95] w'104 →
 ∃ (b106 : Nat),
 ∃ (o107 : Nat),
 data_p = some (Addr.mk b106 o107 none) ∧
 0 ≤ IntKind.i64.wrap (n85 - 1) ∧
 IntKind.i64.wrap (n85 - 1) < (↑data_n : Int) ∧
 (∃ (u108 : Value), w'104.cell? (Addr.mk b106 (o107 + (IntKind.i64.wrap (n85 - 1)).toNat) none) = some u108) ∧
 w'104.frozen? (Addr.mk b106 (o107 + (IntKind.i64.wrap (n85 - 1)).toNat) none) = false ∧
 ∀ (w'109 : World),
 Put w'104 b106 (o107 + (IntKind.i64.wrap (n85 - 1)).toNat) [Value.slice p98 n99 c100] w'109 →
 I83 (IntKind.i64.wrap (n85 - 1)) w'109 ∧ M84 (IntKind.i64.wrap (n85 - 1)) w'109 < M84 n85 w'86) ∧
 (n85 ≤ n60 → R (Ending.returned (Value.tuple #[])) w'86))) ∧
 (IntKind.i64.wrap (b - m) ≠ 1 →
 ∃ (J113 : Int → Int → World → Prop),
 ((IntKind.i64.wrap (shrI IntKind.u64 (IntKind.u64.wrap (IntKind.i64.wrap (a + b))) 1) < m →
 J113 (IntKind.i64.wrap (IntKind.i64.wrap (IntKind.i64.wrap (shrI IntKind.u64 (IntKind.u64.wrap (IntKind.i64.wrap (a + b))) 1) + m) - b))
 (IntKind.i64.wrap (shrI IntKind.u64 (IntKind.u64.wrap (IntKind.i64.wrap (a + b))) 1)) w) ∧
 (m ≤ IntKind.i64.wrap (shrI IntKind.u64 (IntKind.u64.wrap (IntKind.i64.wrap (a + b))) 1) → J113 a m w)) ∧
 ∀ (n116 n117 : Int) (w'118 : World),
 J113 n116 n117 w'118 →
 ∃ (I120 : Int → Int → World → Prop),
 ∃ (M121 : Int → Int → World → Nat),
 I120 n116 n117 w'118 ∧
 ∀ (n122 n123 : Int) (w'124 : World),
 I120 n122 n123 w'124 →
 (n122 < n123 →
 ∀ (w'127 : World),
 Drew w'124 w'127 →
 ∃ (b129 : Nat),
 ∃ (o130 : Nat),
 data_p = some (Addr.mk b129 o130 none) ∧
 0 ≤
 IntKind.i64.wrap
 (IntKind.i64.wrap (IntKind.i64.wrap (IntKind.i64.wrap (shrI IntKind.u64 (IntKind.u64.wrap (IntKind.i64.wrap (a + b))) 1) + m) - 1) -
 IntKind.i64.wrap (shrI IntKind.u64 (IntKind.u64.wrap (IntKind.i64.wrap (n122 + n123))) 1)) ∧
 IntKind.i64.wrap
 (IntKind.i64.wrap (IntKind.i64.wrap (IntKind.i64.wrap (shrI IntKind.u64 (IntKind.u64.wrap (IntKind.i64.wrap (a + b))) 1) + m) - 1) -
 IntKind.i64.wrap (shrI IntKind.u64 (IntKind.u64.wrap (IntKind.i64.wrap (n122 + n123))) 1)) <
 (↑data_n : Int) ∧
 ∃ (p131 : Option Addr),
 ∃ (n132 : Nat),
 ∃ (c133 : Nat),
 w'127.cell?
 (Addr.mk b129
 (o130 +
 (IntKind.i64.wrap
 (IntKind.i64.wrap (IntKind.i64.wrap (IntKind.i64.wrap (shrI IntKind.u64 (IntKind.u64.wrap (IntKind.i64.wrap (a + b))) 1) + m) - 1) -
 IntKind.i64.wrap (shrI IntKind.u64 (IntKind.u64.wrap (IntKind.i64.wrap (n122 + n123))) 1))).toNat)
 none) =
 some (Value.slice p131 n132 c133) ∧
 ∃ (b134 : Nat),
 ∃ (o135 : Nat),
 data_p = some (Addr.mk b134 o135 none) ∧
 0 ≤ IntKind.i64.wrap (shrI IntKind.u64 (IntKind.u64.wrap (IntKind.i64.wrap (n122 + n123))) 1) ∧
 IntKind.i64.wrap (shrI IntKind.u64 (IntKind.u64.wrap (IntKind.i64.wrap (n122 + n123))) 1) < (↑data_n : Int) ∧
 ∃ (p136 : Option Addr),
 ∃ (n137 : Nat),
 ∃ (c138 : Nat),
 w'127.cell? (Addr.mk b134 (o135 + (IntKind.i64.wrap (shrI IntKind.u64 (IntKind.u64.wrap (IntKind.i64.wrap (n122 + n123))) 1)).toNat) none) =
 some (Value.slice p136 n137 c138) ∧
 Calls Try.prog 28 #[Value.slice p131 n132 c133, Value.slice p136 n137 c138, Value.pointer (some (Addr.mk cv4_0 0 none))] w'127 fun (e139 : Ending) (w140 : World) ↦
 ∃ (n141 : Int),
 e139 = Ending.returned (Value.int IntKind.i64 n141) ∧
 (0 ≤ n141 →
 I120 (IntKind.i64.wrap (IntKind.i64.wrap (shrI IntKind.u64 (IntKind.u64.wrap (IntKind.i64.wrap (n122 + n123))) 1) + 1)) n123 w140 ∧
 M121 (IntKind.i64.wrap (IntKind.i64.wrap (shrI IntKind.u64 (IntKind.u64.wrap (IntKind.i64.wrap (n122 + n123))) 1) + 1)) n123 w140 < M121 n122 n123 w'124) ∧
 (n141 < 0 →
 I120 n122 (IntKind.i64.wrap (shrI IntKind.u64 (IntKind.u64.wrap (IntKind.i64.wrap (n122 + n123))) 1)) w140 ∧
 M121 n122 (IntKind.i64.wrap (shrI IntKind.u64 (IntKind.u64.wrap (IntKind.i64.wrap (n122 + n123))) 1)) w140 < M121 n122 n123 w'124)) ∧
 (n123 ≤ n122 →
 ∃ (J145 : World → Prop),
 ((n122 < m ∧ m < IntKind.i64.wrap (IntKind.i64.wrap (IntKind.i64.wrap (shrI IntKind.u64 (IntKind.u64.wrap (IntKind.i64.wrap (a + b))) 1) + m) - n122) →
 Calls Try.prog 55
 #[Value.slice data_p data_n data_c, Value.int IntKind.i64 n122, Value.int IntKind.i64 m,
 Value.int IntKind.i64 (IntKind.i64.wrap (IntKind.i64.wrap (IntKind.i64.wrap (shrI IntKind.u64 (IntKind.u64.wrap (IntKind.i64.wrap (a + b))) 1) + m) - n122)),
 Value.func (Fn.func 28) #[] #[Value.pointer (some (Addr.mk cv4_0 0 none))]]
 w'124 fun (e147 : Ending) (w148 : World) ↦ e147 = Ending.returned (Value.tuple #[]) ∧ J145 w148) ∧
 (m ≤ n122 ∨ IntKind.i64.wrap (IntKind.i64.wrap (IntKind.i64.wrap (shrI IntKind.u64 (IntKind.u64.wrap (IntKind.i64.wrap (a + b))) 1) + m) - n122) ≤ m → J145 w'124)) ∧
 ∀ (w'150 : World),
 J145 w'150 →
 ∃ (J152 : World → Prop),
 ((a < n122 ∧ n122 < IntKind.i64.wrap (shrI IntKind.u64 (IntKind.u64.wrap (IntKind.i64.wrap (a + b))) 1) →
 Calls Try.prog 51
 #[Value.slice data_p data_n data_c, Value.int IntKind.i64 a, Value.int IntKind.i64 n122,
 Value.int IntKind.i64 (IntKind.i64.wrap (shrI IntKind.u64 (IntKind.u64.wrap (IntKind.i64.wrap (a + b))) 1)),
 Value.func (Fn.func 28) #[] #[Value.pointer (some (Addr.mk cv4_0 0 none))]]
 w'150 fun (e154 : Ending) (w155 : World) ↦ e154 = Ending.returned (Value.tuple #[]) ∧ J152 w155) ∧
 (n122 ≤ a ∨ IntKind.i64.wrap (shrI IntKind.u64 (IntKind.u64.wrap (IntKind.i64.wrap (a + b))) 1) ≤ n122 → J152 w'150)) ∧
 ∀ (w'157 : World),
 J152 w'157 →
 (IntKind.i64.wrap (shrI IntKind.u64 (IntKind.u64.wrap (IntKind.i64.wrap (a + b))) 1) <
 IntKind.i64.wrap (IntKind.i64.wrap (IntKind.i64.wrap (shrI IntKind.u64 (IntKind.u64.wrap (IntKind.i64.wrap (a + b))) 1) + m) - n122) ∧
 IntKind.i64.wrap (IntKind.i64.wrap (IntKind.i64.wrap (shrI IntKind.u64 (IntKind.u64.wrap (IntKind.i64.wrap (a + b))) 1) + m) - n122) < b →
 Calls Try.prog 51
 #[Value.slice data_p data_n data_c, Value.int IntKind.i64 (IntKind.i64.wrap (shrI IntKind.u64 (IntKind.u64.wrap (IntKind.i64.wrap (a + b))) 1)),
 Value.int IntKind.i64 (IntKind.i64.wrap (IntKind.i64.wrap (IntKind.i64.wrap (shrI IntKind.u64 (IntKind.u64.wrap (IntKind.i64.wrap (a + b))) 1) + m) - n122)),
 Value.int IntKind.i64 b, Value.func (Fn.func 28) #[] #[Value.pointer (some (Addr.mk cv4_0 0 none))]]
 w'157 fun (e160 : Ending) (w161 : World) ↦ e160 = Ending.returned (Value.tuple #[]) ∧ R (Ending.returned (Value.tuple #[])) w161) ∧
 (IntKind.i64.wrap (IntKind.i64.wrap (IntKind.i64.wrap (shrI IntKind.u64 (IntKind.u64.wrap (IntKind.i64.wrap (a + b))) 1) + m) - n122) ≤
 IntKind.i64.wrap (shrI IntKind.u64 (IntKind.u64.wrap (IntKind.i64.wrap (a + b))) 1) ∨
 b ≤ IntKind.i64.wrap (IntKind.i64.wrap (IntKind.i64.wrap (shrI IntKind.u64 (IntKind.u64.wrap (IntKind.i64.wrap (a + b))) 1) + m) - n122) →
 R (Ending.returned (Value.tuple #[])) w'157))))

set_option maxRecDepth 100000 in
theorem symmerge_eq (data_p : Option Addr) (data_n : Nat) (data_c : Nat) (a : Int) (m : Int) (b : Int) (cv4_0 : Nat) (w : World) (R : Ending → World → Prop) : symmerge_T data_p data_n data_c a m b cv4_0 w R = vcFn Try.prog [32, 41, 43] [(5, [0, 2, 4, 6, 8, 10, 12, 14, 16, 18, 20]), (11, [0, 2, 4, 6, 8, 10, 12, 14, 16, 18, 20, 22, 24, 26, 28, 30, 32, 34]), (17, [0, 2, 4, 6, 8, 10, 12, 14, 16, 18, 20, 22]), (23, [0, 2, 4, 6, 8, 10, 12, 14, 16, 18, 20, 22, 24, 26, 28, 30, 32, 34]), (35, [0, 2, 4, 6, 8, 10, 12, 14, 16, 18, 20, 22, 24, 26])] Try.f51 [Value.slice data_p data_n data_c, Value.int IntKind.i64 a, Value.int IntKind.i64 m, Value.int IntKind.i64 b, Value.func (Fn.func 28) #[] #[Value.pointer (some (Addr.mk cv4_0 0 none))]] w R := by kernel_rfl

set_option maxRecDepth 100000 in
theorem symmerge_vc (data_p : Option Addr) (data_n : Nat) (data_c : Nat) (a : Int) (m : Int) (b : Int) (cv4_0 : Nat) (w : World) (R : Ending → World → Prop) (h : symmerge_T data_p data_n data_c a m b cv4_0 w R) : Calls Try.prog 51 #[Value.slice data_p data_n data_c, Value.int IntKind.i64 a, Value.int IntKind.i64 m, Value.int IntKind.i64 b, Value.func (Fn.func 28) #[] #[Value.pointer (some (Addr.mk cv4_0 0 none))]] w R :=
  calls_of_vc (args := [Value.slice data_p data_n data_c, Value.int IntKind.i64 a, Value.int IntKind.i64 m, Value.int IntKind.i64 b, Value.func (Fn.func 28) #[] #[Value.pointer (some (Addr.mk cv4_0 0 none))]]) [32, 41, 43] [(5, [0, 2, 4, 6, 8, 10, 12, 14, 16, 18, 20]), (11, [0, 2, 4, 6, 8, 10, 12, 14, 16, 18, 20, 22, 24, 26, 28, 30, 32, 34]), (17, [0, 2, 4, 6, 8, 10, 12, 14, 16, 18, 20, 22]), (23, [0, 2, 4, 6, 8, 10, 12, 14, 16, 18, 20, 22, 24, 26, 28, 30, 32, 34]), (35, [0, 2, 4, 6, 8, 10, 12, 14, 16, 18, 20, 22, 24, 26])] Try.mixed Try.func51 (cast (symmerge_eq _ _ _ _ _ _ _ w R) h)

set_option maxRecDepth 100000 in
def rotate_T (data_p : Option Addr) (data_n : Nat) (data_c : Nat) (a : Int) (m : Int) (b : Int) (cv4_0 : Nat) (w : World) (R : Ending → World → Prop) : Prop :=
  ∃ (I1 : Int → Int → World → Prop),
 ∃ (M2 : Int → Int → World → Nat),
 I1 (IntKind.i64.wrap (m - a)) (IntKind.i64.wrap (b - m)) w ∧
 ∀ (n3 n4 : Int) (w'5 : World),
 I1 n3 n4 w'5 →
 (n3 ≠ n4 →
 (n4 < n3 →
 Calls Try.prog 57
 #[Value.slice data_p data_n data_c, Value.int IntKind.i64 (IntKind.i64.wrap (m - n3)), Value.int IntKind.i64 m, Value.int IntKind.i64 n4,
 Value.func (Fn.func 28) #[] #[Value.pointer (some (Addr.mk cv4_0 0 none))]]
 w'5 fun (e9 : Ending) (w10 : World) ↦
 e9 = Ending.returned (Value.tuple #[]) ∧ I1 (IntKind.i64.wrap (n3 - n4)) n4 w10 ∧ M2 (IntKind.i64.wrap (n3 - n4)) n4 w10 < M2 n3 n4 w'5) ∧
 (n3 ≤ n4 →
 Calls Try.prog 57
 #[Value.slice data_p data_n data_c, Value.int IntKind.i64 (IntKind.i64.wrap (m - n3)), Value.int IntKind.i64 (IntKind.i64.wrap (IntKind.i64.wrap (m + n4) - n3)),
 Value.int IntKind.i64 n3, Value.func (Fn.func 28) #[] #[Value.pointer (some (Addr.mk cv4_0 0 none))]]
 w'5 fun (e12 : Ending) (w13 : World) ↦
 e12 = Ending.returned (Value.tuple #[]) ∧ I1 n3 (IntKind.i64.wrap (n4 - n3)) w13 ∧ M2 n3 (IntKind.i64.wrap (n4 - n3)) w13 < M2 n3 n4 w'5)) ∧
 (n3 = n4 →
 Calls Try.prog 57
 #[Value.slice data_p data_n data_c, Value.int IntKind.i64 (IntKind.i64.wrap (m - n3)), Value.int IntKind.i64 m, Value.int IntKind.i64 n3,
 Value.func (Fn.func 28) #[] #[Value.pointer (some (Addr.mk cv4_0 0 none))]]
 w'5 fun (e15 : Ending) (w16 : World) ↦ e15 = Ending.returned (Value.tuple #[]) ∧ R (Ending.returned (Value.tuple #[])) w16)

set_option maxRecDepth 100000 in
theorem rotate_eq (data_p : Option Addr) (data_n : Nat) (data_c : Nat) (a : Int) (m : Int) (b : Int) (cv4_0 : Nat) (w : World) (R : Ending → World → Prop) : rotate_T data_p data_n data_c a m b cv4_0 w R = vcFn Try.prog [] [] Try.f55 [Value.slice data_p data_n data_c, Value.int IntKind.i64 a, Value.int IntKind.i64 m, Value.int IntKind.i64 b, Value.func (Fn.func 28) #[] #[Value.pointer (some (Addr.mk cv4_0 0 none))]] w R := by kernel_rfl

set_option maxRecDepth 100000 in
theorem rotate_vc (data_p : Option Addr) (data_n : Nat) (data_c : Nat) (a : Int) (m : Int) (b : Int) (cv4_0 : Nat) (w : World) (R : Ending → World → Prop) (h : rotate_T data_p data_n data_c a m b cv4_0 w R) : Calls Try.prog 55 #[Value.slice data_p data_n data_c, Value.int IntKind.i64 a, Value.int IntKind.i64 m, Value.int IntKind.i64 b, Value.func (Fn.func 28) #[] #[Value.pointer (some (Addr.mk cv4_0 0 none))]] w R :=
  calls_of_vc (args := [Value.slice data_p data_n data_c, Value.int IntKind.i64 a, Value.int IntKind.i64 m, Value.int IntKind.i64 b, Value.func (Fn.func 28) #[] #[Value.pointer (some (Addr.mk cv4_0 0 none))]]) [] [] Try.mixed Try.func55 (cast (rotate_eq _ _ _ _ _ _ _ w R) h)

set_option maxRecDepth 100000 in
def swaprange_T (data_p : Option Addr) (data_n : Nat) (data_c : Nat) (a : Int) (b : Int) (n : Int) (cv4_0 : Nat) (w : World) (R : Ending → World → Prop) : Prop :=
  ∃ (I1 : Int → World → Prop),
 ∃ (M2 : Int → World → Nat),
 I1 0 w ∧
 ∀ (n3 : Int) (w'4 : World),
 I1 n3 w'4 →
 (n3 < n →
 ∀ (w'7 : World),
 Drew w'4 w'7 →
 ∃ (b9 : Nat),
 ∃ (o10 : Nat),
 data_p = some (Addr.mk b9 o10 none) ∧
 0 ≤ IntKind.i64.wrap (b + n3) ∧
 IntKind.i64.wrap (b + n3) < (↑data_n : Int) ∧
 ∃ (p11 : Option Addr),
 ∃ (n12 : Nat),
 ∃ (c13 : Nat),
 w'7.cell? (Addr.mk b9 (o10 + (IntKind.i64.wrap (b + n3)).toNat) none) = some (Value.slice p11 n12 c13) ∧
 ∃ (b14 : Nat),
 ∃ (o15 : Nat),
 data_p = some (Addr.mk b14 o15 none) ∧
 0 ≤ IntKind.i64.wrap (a + n3) ∧
 IntKind.i64.wrap (a + n3) < (↑data_n : Int) ∧
 ∃ (p16 : Option Addr),
 ∃ (n17 : Nat),
 ∃ (c18 : Nat),
 w'7.cell? (Addr.mk b14 (o15 + (IntKind.i64.wrap (a + n3)).toNat) none) = some (Value.slice p16 n17 c18) ∧
 ∃ (b19 : Nat),
 ∃ (o20 : Nat),
 data_p = some (Addr.mk b19 o20 none) ∧
 0 ≤ IntKind.i64.wrap (a + n3) ∧
 IntKind.i64.wrap (a + n3) < (↑data_n : Int) ∧
 (∃ (u21 : Value), w'7.cell? (Addr.mk b19 (o20 + (IntKind.i64.wrap (a + n3)).toNat) none) = some u21) ∧
 w'7.frozen? (Addr.mk b19 (o20 + (IntKind.i64.wrap (a + n3)).toNat) none) = false ∧
 ∀ (w'22 : World),
 Put w'7 b19 (o20 + (IntKind.i64.wrap (a + n3)).toNat) [Value.slice p11 n12 c13] w'22 →
 ∃ (b24 : Nat),
 ∃ (o25 : Nat),
 data_p = some (Addr.mk b24 o25 none) ∧
 0 ≤ IntKind.i64.wrap (b + n3) ∧
 IntKind.i64.wrap (b + n3) < (↑data_n : Int) ∧
 (∃ (u26 : Value), w'22.cell? (Addr.mk b24 (o25 + (IntKind.i64.wrap (b + n3)).toNat) none) = some u26) ∧
 w'22.frozen? (Addr.mk b24 (o25 + (IntKind.i64.wrap (b + n3)).toNat) none) = false ∧
 ∀ (w'27 : World),
 Put w'22 b24 (o25 + (IntKind.i64.wrap (b + n3)).toNat) [Value.slice p16 n17 c18] w'27 →
 I1 (IntKind.i64.wrap (n3 + 1)) w'27 ∧ M2 (IntKind.i64.wrap (n3 + 1)) w'27 < M2 n3 w'4) ∧
 (n ≤ n3 → R (Ending.returned (Value.tuple #[])) w'4)

set_option maxRecDepth 100000 in
theorem swaprange_eq (data_p : Option Addr) (data_n : Nat) (data_c : Nat) (a : Int) (b : Int) (n : Int) (cv4_0 : Nat) (w : World) (R : Ending → World → Prop) : swaprange_T data_p data_n data_c a b n cv4_0 w R = vcFn Try.prog [] [(3, [0, 2, 4, 6, 8, 10, 12, 14, 16, 18, 20, 22, 24, 26, 28, 30, 32, 34, 36, 38, 40, 42, 44, 46])] Try.f57 [Value.slice data_p data_n data_c, Value.int IntKind.i64 a, Value.int IntKind.i64 b, Value.int IntKind.i64 n, Value.func (Fn.func 28) #[] #[Value.pointer (some (Addr.mk cv4_0 0 none))]] w R := by kernel_rfl

set_option maxRecDepth 100000 in
theorem swaprange_vc (data_p : Option Addr) (data_n : Nat) (data_c : Nat) (a : Int) (b : Int) (n : Int) (cv4_0 : Nat) (w : World) (R : Ending → World → Prop) (h : swaprange_T data_p data_n data_c a b n cv4_0 w R) : Calls Try.prog 57 #[Value.slice data_p data_n data_c, Value.int IntKind.i64 a, Value.int IntKind.i64 b, Value.int IntKind.i64 n, Value.func (Fn.func 28) #[] #[Value.pointer (some (Addr.mk cv4_0 0 none))]] w R :=
  calls_of_vc (args := [Value.slice data_p data_n data_c, Value.int IntKind.i64 a, Value.int IntKind.i64 b, Value.int IntKind.i64 n, Value.func (Fn.func 28) #[] #[Value.pointer (some (Addr.mk cv4_0 0 none))]]) [] [(3, [0, 2, 4, 6, 8, 10, 12, 14, 16, 18, 20, 22, 24, 26, 28, 30, 32, 34, 36, 38, 40, 42, 44, 46])] Try.mixed Try.func57 (cast (swaprange_eq _ _ _ _ _ _ _ w R) h)

set_option maxRecDepth 100000 in
def omerge_T (a_p : Option Addr) (a_n : Nat) (a_c : Nat) (b_p : Option Addr) (b_n : Nat) (b_c : Nat) (keys_p : Option Addr) (keys_n : Nat) (keys_c : Nat) (w : World) (R : Ending → World → Prop) : Prop :=
  ∀ (b1 : Nat) (w'2 : World),
 New w (Obj.cells #[Value.slice keys_p keys_n keys_c] 24) b1 w'2 →
 ∃ (p4 : Option Addr),
 ∃ (n5 : Nat),
 ∃ (c6 : Nat),
 w'2.cell? (Addr.mk b1 0 none) = some (Value.slice p4 n5 c6) ∧
 Calls Try.prog 25 #[Value.slice a_p a_n a_c, Value.slice p4 n5 c6] w'2 fun (e7 : Ending) (w8 : World) ↦
 ∃ (b9 : Bool),
 e7 = Ending.returned (Value.bool b9) ∧
 (b9 = false → R (Ending.returned (Value.tuple #[Value.slice none 0 0, Value.int IntKind.i64 2])) w8) ∧
 (b9 = true →
 ∃ (p12 : Option Addr),
 ∃ (n13 : Nat),
 ∃ (c14 : Nat),
 w8.cell? (Addr.mk b1 0 none) = some (Value.slice p12 n13 c14) ∧
 Calls Try.prog 25 #[Value.slice b_p b_n b_c, Value.slice p12 n13 c14] w8 fun (e15 : Ending) (w16 : World) ↦
 ∃ (b17 : Bool),
 e15 = Ending.returned (Value.bool b17) ∧
 (b17 = false → R (Ending.returned (Value.tuple #[Value.slice none 0 0, Value.int IntKind.i64 2])) w16) ∧
 (b17 = true →
 Calls Try.prog 30 #[Value.slice a_p a_n a_c, Value.func (Fn.func 29) #[] #[Value.pointer (some (Addr.mk b1 0 none))]] w16 fun (e20 : Ending) (w21 : World) ↦
 ∃ (b22 : Bool),
 e20 = Ending.returned (Value.bool b22) ∧
 (b22 = false → R (Ending.returned (Value.tuple #[Value.slice none 0 0, Value.int IntKind.i64 2])) w21) ∧
 (b22 = true →
 Calls Try.prog 30 #[Value.slice b_p b_n b_c, Value.func (Fn.func 29) #[] #[Value.pointer (some (Addr.mk b1 0 none))]] w21 fun (e25 : Ending) (w26 : World) ↦
 ∃ (b27 : Bool),
 e25 = Ending.returned (Value.bool b27) ∧
 (b27 = false → R (Ending.returned (Value.tuple #[Value.slice none 0 0, Value.int IntKind.i64 2])) w26) ∧
 (b27 = true →
 ∀ (b30 : Nat) (w'31 : World),
 New w26 (Obj.cells #[Value.slice none 0 0] 31) b30 w'31 →
 ∃ (p33 : Option Addr),
 ∃ (n34 : Nat),
 ∃ (c35 : Nat),
 w'31.cell? (Addr.mk b1 0 none) = some (Value.slice p33 n34 c35) ∧
 Calls Try.prog 31 #[Value.slice a_p a_n a_c, Value.slice b_p b_n b_c, Value.slice p33 n34 c35] w'31 fun (e36 : Ending) (w37 : World) ↦
 ∃ (v38 : Value),
 e36 = Ending.returned v38 ∧
 ∃ (g39 : FuncId),
 ∃ (lb40 : Array Value),
 v38 = Value.func (Fn.func g39) #[] lb40 ∧
 enterable Try.prog g39 = true ∧
 ∀ (r41 : Nat → Loop) (d42 l43 : Nat) (w144 : World),
 Began w37 r41 d42 l43 w144 →
 (∀ (p46 : Option Addr) (n47 c48 : Nat) (W49 : World) (R50 : Bool → World → Prop),
 Rec r41 l43 0 W49 →
 (Rec r41 l43 0 W49 ∧
 ∀ (Wb52 : World),
 Wb52 = turn r41 l43 1 W49 →
 ∃ (p54 : Option Addr),
 ∃ (n55 : Nat),
 ∃ (c56 : Nat),
 Wb52.cell? (Addr.mk b30 0 none) = some (Value.slice p54 n55 c56) ∧
 ∀ (b57 : Nat) (w'58 : World),
 New Wb52 (Obj.cells #[Value.slice p46 n47 c48] 23) b57 w'58 →
 ∃ (p60 : Option Addr),
 ∃ (n61 : Nat),
 ∃ (c62 : Nat),
 ∃ (w'63 : World),
 Sem.run Try.prog (Builtin.append_ #[31, 31] 31 #[Value.slice p54 n55 c56, Value.slice (some (Addr.mk b57 0 none)) 1 1]) w'58 = Result.ok (Value.slice p60 n61 c62) w'63 ∧
 (∃ (u64 : Value), w'63.cell? (Addr.mk b30 0 none) = some u64) ∧
 w'63.frozen? (Addr.mk b30 0 none) = false ∧ ∀ (w'65 : World), Put w'63 b30 0 [Value.slice p60 n61 c62] w'65 → Rec r41 l43 1 w'65 ∧ R50 true (turn r41 l43 0 w'65)) →
 Yield Try.prog l43 #[Value.slice p46 n47 c48] W49 fun (b68 : Bool) (w69 : World) ↦ R50 b68 w69) →
 Calls Try.prog g39 (Value.func (Fn.yield l43) #[] #[] :: lb40.1).toArray w144 fun (e71 : Ending) (w72 : World) ↦
 (∃ (v73 : Value), e71 = Ending.returned v73) ∧
 ((Rec r41 l43 0 w72 ∧
 ∃ (p74 : Option Addr),
 ∃ (n75 : Nat),
 ∃ (c76 : Nat),
 (turn r41 l43 2 w72).cell? (Addr.mk b30 0 none) = some (Value.slice p74 n75 c76) ∧
 (turn r41 l43 2 w72).heap[d42]? = some (Obj.deferred (some [])) ∧
 R (Ending.returned (Value.tuple #[Value.slice p74 n75 c76, Value.int IntKind.i64 0])) ((turn r41 l43 2 w72).putObj d42 (Obj.deferred none))) ∨
 False)))))

set_option maxRecDepth 100000 in
theorem omerge_eq (a_p : Option Addr) (a_n : Nat) (a_c : Nat) (b_p : Option Addr) (b_n : Nat) (b_c : Nat) (keys_p : Option Addr) (keys_n : Nat) (keys_c : Nat) (w : World) (R : Ending → World → Prop) : omerge_T a_p a_n a_c b_p b_n b_c keys_p keys_n keys_c w R = vcFn Try.prog [] [] Try.f18 [Value.slice a_p a_n a_c, Value.slice b_p b_n b_c, Value.slice keys_p keys_n keys_c] w R := by kernel_rfl

set_option maxRecDepth 100000 in
theorem omerge_vc (a_p : Option Addr) (a_n : Nat) (a_c : Nat) (b_p : Option Addr) (b_n : Nat) (b_c : Nat) (keys_p : Option Addr) (keys_n : Nat) (keys_c : Nat) (w : World) (R : Ending → World → Prop) (h : omerge_T a_p a_n a_c b_p b_n b_c keys_p keys_n keys_c w R) : Calls Try.prog 18 #[Value.slice a_p a_n a_c, Value.slice b_p b_n b_c, Value.slice keys_p keys_n keys_c] w R :=
  calls_of_vc (args := [Value.slice a_p a_n a_c, Value.slice b_p b_n b_c, Value.slice keys_p keys_n keys_c]) [] [] Try.mixed Try.func18 (cast (omerge_eq _ _ _ _ _ _ _ _ _ w R) h)

set_option maxRecDepth 100000 in
def omerge1_T (a_p : Option Addr) (a_n : Nat) (a_c : Nat) (b_p : Option Addr) (b_n : Nat) (b_c : Nat) (fv0 : Nat) (w : World) (R : Ending → World → Prop) : Prop :=
  ∃ (p1 : Option Addr),
 ∃ (n2 : Nat),
 ∃ (c3 : Nat),
 w.cell? (Addr.mk fv0 0 none) = some (Value.slice p1 n2 c3) ∧
 Calls Try.prog 22 #[Value.slice a_p a_n a_c, Value.slice b_p b_n b_c, Value.slice p1 n2 c3] w fun (e4 : Ending) (w5 : World) ↦
 ∃ (n6 : Int), e4 = Ending.returned (Value.int IntKind.i64 n6) ∧ R (Ending.returned (Value.int IntKind.i64 n6)) w5

set_option maxRecDepth 100000 in
theorem omerge1_eq (a_p : Option Addr) (a_n : Nat) (a_c : Nat) (b_p : Option Addr) (b_n : Nat) (b_c : Nat) (fv0 : Nat) (w : World) (R : Ending → World → Prop) : omerge1_T a_p a_n a_c b_p b_n b_c fv0 w R = vcFn Try.prog [] [] Try.f29 [Value.slice a_p a_n a_c, Value.slice b_p b_n b_c, Value.pointer (some (Addr.mk fv0 0 none))] w R := by kernel_rfl

set_option maxRecDepth 100000 in
theorem omerge1_vc (a_p : Option Addr) (a_n : Nat) (a_c : Nat) (b_p : Option Addr) (b_n : Nat) (b_c : Nat) (fv0 : Nat) (w : World) (R : Ending → World → Prop) (h : omerge1_T a_p a_n a_c b_p b_n b_c fv0 w R) : Calls Try.prog 29 #[Value.slice a_p a_n a_c, Value.slice b_p b_n b_c, Value.pointer (some (Addr.mk fv0 0 none))] w R :=
  calls_of_vc (args := [Value.slice a_p a_n a_c, Value.slice b_p b_n b_c, Value.pointer (some (Addr.mk fv0 0 none))]) [] [] Try.mixed Try.func29 (cast (omerge1_eq _ _ _ _ _ _ _ w R) h)

set_option maxRecDepth 100000 in
def issorted_T (x_p : Option Addr) (x_n : Nat) (x_c : Nat) (cv1_0 : Nat) (w : World) (R : Ending → World → Prop) : Prop :=
  ∃ (I1 : Int → World → Prop),
 ∃ (M2 : Int → World → Nat),
 I1 (IntKind.i64.wrap ((↑x_n : Int) - 1)) w ∧
 ∀ (n3 : Int) (w'4 : World),
 I1 n3 w'4 →
 (0 < n3 →
 ∀ (w'7 : World),
 Drew w'4 w'7 →
 ∃ (b9 : Nat),
 ∃ (o10 : Nat),
 x_p = some (Addr.mk b9 o10 none) ∧
 0 ≤ n3 ∧
 n3 < (↑x_n : Int) ∧
 ∃ (p11 : Option Addr),
 ∃ (n12 : Nat),
 ∃ (c13 : Nat),
 w'7.cell? (Addr.mk b9 (o10 + n3.toNat) none) = some (Value.slice p11 n12 c13) ∧
 ∃ (b14 : Nat),
 ∃ (o15 : Nat),
 x_p = some (Addr.mk b14 o15 none) ∧
 0 ≤ IntKind.i64.wrap (n3 - 1) ∧
 IntKind.i64.wrap (n3 - 1) < (↑x_n : Int) ∧
 ∃ (p16 : Option Addr),
 ∃ (n17 : Nat),
 ∃ (c18 : Nat),
 w'7.cell? (Addr.mk b14 (o15 + (IntKind.i64.wrap (n3 - 1)).toNat) none) = some (Value.slice p16 n17 c18) ∧
 Calls Try.prog 29 #[Value.slice p11 n12 c13, Value.slice p16 n17 c18, Value.pointer (some (Addr.mk cv1_0 0 none))] w'7 fun (e19 : Ending) (w20 : World) ↦
 ∃ (n21 : Int),
 e19 = Ending.returned (Value.int IntKind.i64 n21) ∧
 (n21 < 0 → R (Ending.returned (Value.bool false)) w20) ∧ (0 ≤ n21 → I1 (IntKind.i64.wrap (n3 - 1)) w20 ∧ M2 (IntKind.i64.wrap (n3 - 1)) w20 < M2 n3 w'4)) ∧
 (n3 ≤ 0 → R (Ending.returned (Value.bool true)) w'4)

set_option maxRecDepth 100000 in
theorem issorted_eq (x_p : Option Addr) (x_n : Nat) (x_c : Nat) (cv1_0 : Nat) (w : World) (R : Ending → World → Prop) : issorted_T x_p x_n x_c cv1_0 w R = vcFn Try.prog [] [(4, [0, 2, 4, 6, 8, 10, 12, 14, 16, 18, 20, 22])] Try.f30 [Value.slice x_p x_n x_c, Value.func (Fn.func 29) #[] #[Value.pointer (some (Addr.mk cv1_0 0 none))]] w R := by kernel_rfl

set_option maxRecDepth 100000 in
theorem issorted_vc (x_p : Option Addr) (x_n : Nat) (x_c : Nat) (cv1_0 : Nat) (w : World) (R : Ending → World → Prop) (h : issorted_T x_p x_n x_c cv1_0 w R) : Calls Try.prog 30 #[Value.slice x_p x_n x_c, Value.func (Fn.func 29) #[] #[Value.pointer (some (Addr.mk cv1_0 0 none))]] w R :=
  calls_of_vc (args := [Value.slice x_p x_n x_c, Value.func (Fn.func 29) #[] #[Value.pointer (some (Addr.mk cv1_0 0 none))]]) [] [(4, [0, 2, 4, 6, 8, 10, 12, 14, 16, 18, 20, 22])] Try.mixed Try.func30 (cast (issorted_eq _ _ _ _ w R) h)

set_option maxRecDepth 100000 in
def otogether_T (a_p : Option Addr) (a_n : Nat) (a_c : Nat) (b_p : Option Addr) (b_n : Nat) (b_c : Nat) (keys_p : Option Addr) (keys_n : Nat) (keys_c : Nat) (w : World) (R : Ending → World → Prop) : Prop :=
  ∀ (b1 : Nat) (w'2 : World),
 New w (Obj.cells #[Value.slice a_p a_n a_c] 31) b1 w'2 →
 ∀ (b4 : Nat) (w'5 : World),
 New w'2 (Obj.cells #[Value.slice b_p b_n b_c] 31) b4 w'5 →
 ∀ (b7 : Nat) (w'8 : World),
 New w'5 (Obj.cells #[Value.slice keys_p keys_n keys_c] 24) b7 w'8 →
 R
 (Ending.returned
 (Value.func (Fn.func 42) #[] #[Value.pointer (some (Addr.mk b1 0 none)), Value.pointer (some (Addr.mk b4 0 none)), Value.pointer (some (Addr.mk b7 0 none))]))
 w'8

set_option maxRecDepth 100000 in
theorem otogether_eq (a_p : Option Addr) (a_n : Nat) (a_c : Nat) (b_p : Option Addr) (b_n : Nat) (b_c : Nat) (keys_p : Option Addr) (keys_n : Nat) (keys_c : Nat) (w : World) (R : Ending → World → Prop) : otogether_T a_p a_n a_c b_p b_n b_c keys_p keys_n keys_c w R = vcFn Try.prog [] [] Try.f31 [Value.slice a_p a_n a_c, Value.slice b_p b_n b_c, Value.slice keys_p keys_n keys_c] w R := by kernel_rfl

set_option maxRecDepth 100000 in
theorem otogether_vc (a_p : Option Addr) (a_n : Nat) (a_c : Nat) (b_p : Option Addr) (b_n : Nat) (b_c : Nat) (keys_p : Option Addr) (keys_n : Nat) (keys_c : Nat) (w : World) (R : Ending → World → Prop) (h : otogether_T a_p a_n a_c b_p b_n b_c keys_p keys_n keys_c w R) : Calls Try.prog 31 #[Value.slice a_p a_n a_c, Value.slice b_p b_n b_c, Value.slice keys_p keys_n keys_c] w R :=
  calls_of_vc (args := [Value.slice a_p a_n a_c, Value.slice b_p b_n b_c, Value.slice keys_p keys_n keys_c]) [] [] Try.mixed Try.func31 (cast (otogether_eq _ _ _ _ _ _ _ _ _ w R) h)

set_option maxRecDepth 100000 in
def otogether1_T (l0 : Nat) (fv0 : Nat) (fv1 : Nat) (fv2 : Nat) (w : World) (R : Ending → World → Prop) : Prop :=
  ∃ (I1 : World → Prop),
 ∃ (M2 : World → Nat),
 I1 w ∧
 ∀ (w'3 : World),
 I1 w'3 →
 ∃ (p5 : Option Addr),
 ∃ (n6 : Nat),
 ∃ (c7 : Nat),
 w'3.cell? (Addr.mk fv0 0 none) = some (Value.slice p5 n6 c7) ∧
 ∃ (p8 : Option Addr),
 ∃ (n9 : Nat),
 ∃ (c10 : Nat),
 w'3.cell? (Addr.mk fv1 0 none) = some (Value.slice p8 n9 c10) ∧
 (0 < IntKind.i64.wrap ((↑n6 : Int) + (↑n9 : Int)) →
 ∃ (J12 : Option Addr → World → Prop),
 (∀ (w'13 : World),
 Drew w'3 w'13 →
 ∃ (p15 : Option Addr),
 ∃ (n16 : Nat),
 ∃ (c17 : Nat),
 w'13.cell? (Addr.mk fv0 0 none) = some (Value.slice p15 n16 c17) ∧
 ((↑n16 : Int) = 0 → J12 (some (Addr.mk fv1 0 none)) w'13) ∧
 ((↑n16 : Int) ≠ 0 →
 ∃ (p20 : Option Addr),
 ∃ (n21 : Nat),
 ∃ (c22 : Nat),
 w'13.cell? (Addr.mk fv1 0 none) = some (Value.slice p20 n21 c22) ∧
 (0 < (↑n21 : Int) →
 ∃ (p24 : Option Addr),
 ∃ (n25 : Nat),
 ∃ (c26 : Nat),
 w'13.cell? (Addr.mk fv1 0 none) = some (Value.slice p24 n25 c26) ∧
 ∃ (b27 : Nat),
 ∃ (o28 : Nat),
 p24 = some (Addr.mk b27 o28 none) ∧
 (0 : Int) ≤ 0 ∧
 0 < (↑n25 : Int) ∧
 ∃ (p29 : Option Addr),
 ∃ (n30 : Nat),
 ∃ (c31 : Nat),
 w'13.cell? (Addr.mk b27 (o28 + 0) none) = some (Value.slice p29 n30 c31) ∧
 ∃ (p32 : Option Addr),
 ∃ (n33 : Nat),
 ∃ (c34 : Nat),
 w'13.cell? (Addr.mk fv0 0 none) = some (Value.slice p32 n33 c34) ∧
 ∃ (b35 : Nat),
 ∃ (o36 : Nat),
 p32 = some (Addr.mk b35 o36 none) ∧
 (0 : Int) ≤ 0 ∧
 0 < (↑n33 : Int) ∧
 ∃ (p37 : Option Addr),
 ∃ (n38 : Nat),
 ∃ (c39 : Nat),
 w'13.cell? (Addr.mk b35 (o36 + 0) none) = some (Value.slice p37 n38 c39) ∧
 ∃ (p40 : Option Addr),
 ∃ (n41 : Nat),
 ∃ (c42 : Nat),
 w'13.cell? (Addr.mk fv2 0 none) = some (Value.slice p40 n41 c42) ∧
 Calls Try.prog 22 #[Value.slice p29 n30 c31, Value.slice p37 n38 c39, Value.slice p40 n41 c42] w'13 fun (e43 : Ending) (w44 : World) ↦
 ∃ (n45 : Int), e43 = Ending.returned (Value.int IntKind.i64 n45) ∧ (n45 < 0 → J12 (some (Addr.mk fv1 0 none)) w44) ∧ (0 ≤ n45 → J12 (some (Addr.mk fv0 0 none)) w44)) ∧
 ((↑n21 : Int) ≤ 0 → J12 (some (Addr.mk fv0 0 none)) w'13))) ∧
 ∀ (p49 : Option Addr) (w'50 : World),
 J12 p49 w'50 →
 ∃ (b52 : Nat),
 ∃ (o53 : Nat),
 p49 = some (Addr.mk b52 o53 none) ∧
 ∃ (p54 : Option Addr),
 ∃ (n55 : Nat),
 ∃ (c56 : Nat),
 w'50.cell? (Addr.mk b52 o53 none) = some (Value.slice p54 n55 c56) ∧
 ∃ (b57 : Nat),
 ∃ (o58 : Nat),
 p54 = some (Addr.mk b57 o58 none) ∧
 (0 : Int) ≤ 0 ∧
 0 < (↑n55 : Int) ∧
 ∃ (p59 : Option Addr),
 ∃ (n60 : Nat),
 ∃ (c61 : Nat),
 w'50.cell? (Addr.mk b57 (o58 + 0) none) = some (Value.slice p59 n60 c61) ∧
 Calls Try.prog 40 #[Value.slice p59 n60 c61] w'50 fun (e62 : Ending) (w63 : World) ↦
 ∃ (p64 : Option Addr),
 ∃ (n65 : Nat),
 ∃ (c66 : Nat),
 e62 = Ending.returned (Value.slice p64 n65 c66) ∧
 Yield Try.prog l0 #[Value.slice p64 n65 c66] w63 fun (b67 : Bool) (w68 : World) ↦
 (b67 = false → R (Ending.returned (Value.tuple #[])) w68) ∧
 (b67 = true →
 ∃ (b71 : Nat),
 ∃ (o72 : Nat),
 p49 = some (Addr.mk b71 o72 none) ∧
 ∃ (p73 : Option Addr),
 ∃ (n74 : Nat),
 ∃ (c75 : Nat),
 w68.cell? (Addr.mk b71 o72 none) = some (Value.slice p73 n74 c75) ∧
 (0 : Int) ≤ 1 ∧
 1 ≤ (↑n74 : Int) ∧
 ∃ (b76 : Nat),
 ∃ (o77 : Nat),
 p49 = some (Addr.mk b76 o77 none) ∧
 (∃ (u78 : Value), w68.cell? (Addr.mk b76 o77 none) = some u78) ∧
 w68.frozen? (Addr.mk b76 o77 none) = false ∧
 ∀ (w'79 : World), Put w68 b76 o77 [Value.slice (slBase p73 1 c75 1) (n74 - 1) (c75 - 1)] w'79 → I1 w'79 ∧ M2 w'79 < M2 w'3)) ∧
 (IntKind.i64.wrap ((↑n6 : Int) + (↑n9 : Int)) ≤ 0 → R (Ending.returned (Value.tuple #[])) w'3)

set_option maxRecDepth 100000 in
theorem otogether1_eq (l0 : Nat) (fv0 : Nat) (fv1 : Nat) (fv2 : Nat) (w : World) (R : Ending → World → Prop) : otogether1_T l0 fv0 fv1 fv2 w R = vcFn Try.prog [4] [(2, [0, 2, 4, 6, 8, 10, 12, 14, 16, 18, 20, 22, 24, 26, 28, 30, 32, 34, 36])] Try.f42 [Value.func (Fn.yield l0) #[] #[], Value.pointer (some (Addr.mk fv0 0 none)), Value.pointer (some (Addr.mk fv1 0 none)), Value.pointer (some (Addr.mk fv2 0 none))] w R := by kernel_rfl

set_option maxRecDepth 100000 in
theorem otogether1_vc (l0 : Nat) (fv0 : Nat) (fv1 : Nat) (fv2 : Nat) (w : World) (R : Ending → World → Prop) (h : otogether1_T l0 fv0 fv1 fv2 w R) : Calls Try.prog 42 #[Value.func (Fn.yield l0) #[] #[], Value.pointer (some (Addr.mk fv0 0 none)), Value.pointer (some (Addr.mk fv1 0 none)), Value.pointer (some (Addr.mk fv2 0 none))] w R :=
  calls_of_vc (args := [Value.func (Fn.yield l0) #[] #[], Value.pointer (some (Addr.mk fv0 0 none)), Value.pointer (some (Addr.mk fv1 0 none)), Value.pointer (some (Addr.mk fv2 0 none))]) [4] [(2, [0, 2, 4, 6, 8, 10, 12, 14, 16, 18, 20, 22, 24, 26, 28, 30, 32, 34, 36])] Try.mixed Try.func42 (cast (otogether1_eq _ _ _ _ w R) h)

set_option maxRecDepth 100000 in
def r15merge_T (a_p : Option Addr) (a_n : Nat) (a_c : Nat) (b_p : Option Addr) (b_n : Nat) (b_c : Nat) (keys_p : Option Addr) (keys_n : Nat) (keys_c : Nat) (w : World) (R : Ending → World → Prop) : Prop :=
  (0 : Int) ≤ 0 ∧
 0 ≤ IntKind.i64.wrap ((↑a_n : Int) + (↑b_n : Int)) ∧
 24 * IntKind.i64.wrap ((↑a_n : Int) + (↑b_n : Int)) ≤ 281474976710656 ∧
 IntKind.i64.wrap ((↑a_n : Int) + (↑b_n : Int)) ≤ 9223372036854775807 ∧
 ∀ (b1 : Nat) (w'2 : World),
 New w (Obj.cells (madeCells #[Value.slice none 0 0] (IntKind.i64.wrap ((↑a_n : Int) + (↑b_n : Int))).toNat) 23) b1 w'2 →
 ∃ (p4 : Option Addr),
 ∃ (n5 : Nat),
 ∃ (c6 : Nat),
 ∃ (w'7 : World),
 Sem.run Try.prog
 (Builtin.append_ #[31, 31] 31 #[Value.slice (some (Addr.mk b1 0 none)) 0 (IntKind.i64.wrap ((↑a_n : Int) + (↑b_n : Int))).toNat, Value.slice a_p a_n a_c]) w'2 =
 Result.ok (Value.slice p4 n5 c6) w'7 ∧
 ∃ (p8 : Option Addr),
 ∃ (n9 : Nat),
 ∃ (c10 : Nat),
 ∃ (w'11 : World),
 Sem.run Try.prog (Builtin.append_ #[31, 31] 31 #[Value.slice p4 n5 c6, Value.slice b_p b_n b_c]) w'7 = Result.ok (Value.slice p8 n9 c10) w'11 ∧
 Calls Try.prog 14 #[Value.slice p8 n9 c10, Value.slice keys_p keys_n keys_c] w'11 fun (e12 : Ending) (w13 : World) ↦
 ∃ (p14 : Option Addr),
 ∃ (n15 : Nat),
 ∃ (c16 : Nat),
 ∃ (n17 : Int),
 e12 = Ending.returned (Value.tuple #[Value.slice p14 n15 c16, Value.int IntKind.i64 n17]) ∧
 (n17 ≠ 0 → R (Ending.returned (Value.tuple #[Value.slice none 0 0, Value.int IntKind.i64 n17])) w13) ∧
 (n17 = 0 →
 ∃ (I20 : Int → World → Prop),
 ∃ (M21 : Int → World → Nat),
 I20 1 w13 ∧
 ∀ (n22 : Int) (w'23 : World),
 I20 n22 w'23 →
 (n22 < (↑a_n : Int) →
 ∀ (w'26 : World),
 Drew w'23 w'26 →
 ∃ (b28 : Nat),
 ∃ (o29 : Nat),
 a_p = some (Addr.mk b28 o29 none) ∧
 0 ≤ IntKind.i64.wrap (n22 - 1) ∧
 IntKind.i64.wrap (n22 - 1) < (↑a_n : Int) ∧
 ∃ (p30 : Option Addr),
 ∃ (n31 : Nat),
 ∃ (c32 : Nat),
 w'26.cell? (Addr.mk b28 (o29 + (IntKind.i64.wrap (n22 - 1)).toNat) none) = some (Value.slice p30 n31 c32) ∧
 ∃ (b33 : Nat),
 ∃ (o34 : Nat),
 a_p = some (Addr.mk b33 o34 none) ∧
 0 ≤ n22 ∧
 n22 < (↑a_n : Int) ∧
 ∃ (p35 : Option Addr),
 ∃ (n36 : Nat),
 ∃ (c37 : Nat),
 w'26.cell? (Addr.mk b33 (o34 + n22.toNat) none) = some (Value.slice p35 n36 c37) ∧
 Calls Try.prog 24 #[Value.slice p30 n31 c32, Value.slice p35 n36 c37, Value.slice keys_p keys_n keys_c] w'26 fun (e38 : Ending) (w39 : World) ↦
 ∃ (n40 : Int),
 e38 = Ending.returned (Value.int IntKind.i64 n40) ∧
 (0 < n40 → R (Ending.returned (Value.tuple #[Value.slice none 0 0, Value.int IntKind.i64 2])) w39) ∧
 (n40 ≤ 0 → I20 (IntKind.i64.wrap (n22 + 1)) w39 ∧ M21 (IntKind.i64.wrap (n22 + 1)) w39 < M21 n22 w'23)) ∧
 ((↑a_n : Int) ≤ n22 →
 ∃ (I44 : Int → World → Prop),
 ∃ (M45 : Int → World → Nat),
 I44 1 w'23 ∧
 ∀ (n46 : Int) (w'47 : World),
 I44 n46 w'47 →
 (n46 < (↑b_n : Int) →
 ∀ (w'50 : World),
 Drew w'47 w'50 →
 ∃ (b52 : Nat),
 ∃ (o53 : Nat),
 b_p = some (Addr.mk b52 o53 none) ∧
 0 ≤ IntKind.i64.wrap (n46 - 1) ∧
 IntKind.i64.wrap (n46 - 1) < (↑b_n : Int) ∧
 ∃ (p54 : Option Addr),
 ∃ (n55 : Nat),
 ∃ (c56 : Nat),
 w'50.cell? (Addr.mk b52 (o53 + (IntKind.i64.wrap (n46 - 1)).toNat) none) = some (Value.slice p54 n55 c56) ∧
 ∃ (b57 : Nat),
 ∃ (o58 : Nat),
 b_p = some (Addr.mk b57 o58 none) ∧
 0 ≤ n46 ∧
 n46 < (↑b_n : Int) ∧
 ∃ (p59 : Option Addr),
 ∃ (n60 : Nat),
 ∃ (c61 : Nat),
 w'50.cell? (Addr.mk b57 (o58 + n46.toNat) none) = some (Value.slice p59 n60 c61) ∧
 Calls Try.prog 24 #[Value.slice p54 n55 c56, Value.slice p59 n60 c61, Value.slice keys_p keys_n keys_c] w'50 fun (e62 : Ending) (w63 : World) ↦
 ∃ (n64 : Int),
 e62 = Ending.returned (Value.int IntKind.i64 n64) ∧
 (0 < n64 → R (Ending.returned (Value.tuple #[Value.slice none 0 0, Value.int IntKind.i64 2])) w63) ∧
 (n64 ≤ 0 → I44 (IntKind.i64.wrap (n46 + 1)) w63 ∧ M45 (IntKind.i64.wrap (n46 + 1)) w63 < M45 n46 w'47)) ∧
 ((↑b_n : Int) ≤ n46 → R (Ending.returned (Value.tuple #[Value.slice p14 n15 c16, Value.int IntKind.i64 0])) w'47)))

set_option maxRecDepth 100000 in
theorem r15merge_eq (a_p : Option Addr) (a_n : Nat) (a_c : Nat) (b_p : Option Addr) (b_n : Nat) (b_c : Nat) (keys_p : Option Addr) (keys_n : Nat) (keys_c : Nat) (w : World) (R : Ending → World → Prop) : r15merge_T a_p a_n a_c b_p b_n b_c keys_p keys_n keys_c w R = vcFn Try.prog [] [(8, [0, 2, 4, 6, 8, 10, 12, 14, 16, 18, 20, 22]), (13, [0, 2, 4, 6, 8, 10, 12, 14, 16, 18, 20, 22])] Try.f19 [Value.slice a_p a_n a_c, Value.slice b_p b_n b_c, Value.slice keys_p keys_n keys_c] w R := by kernel_rfl

set_option maxRecDepth 100000 in
theorem r15merge_vc (a_p : Option Addr) (a_n : Nat) (a_c : Nat) (b_p : Option Addr) (b_n : Nat) (b_c : Nat) (keys_p : Option Addr) (keys_n : Nat) (keys_c : Nat) (w : World) (R : Ending → World → Prop) (h : r15merge_T a_p a_n a_c b_p b_n b_c keys_p keys_n keys_c w R) : Calls Try.prog 19 #[Value.slice a_p a_n a_c, Value.slice b_p b_n b_c, Value.slice keys_p keys_n keys_c] w R :=
  calls_of_vc (args := [Value.slice a_p a_n a_c, Value.slice b_p b_n b_c, Value.slice keys_p keys_n keys_c]) [] [(8, [0, 2, 4, 6, 8, 10, 12, 14, 16, 18, 20, 22]), (13, [0, 2, 4, 6, 8, 10, 12, 14, 16, 18, 20, 22])] Try.mixed Try.func19 (cast (r15merge_eq _ _ _ _ _ _ _ _ _ w R) h)


end Go.Proofs.Ytgcjhhlokncbfaa
