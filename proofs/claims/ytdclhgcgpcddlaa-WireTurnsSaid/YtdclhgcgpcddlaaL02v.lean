/- The verification conditions of the functions, evaluated: printed by program. -/
import Derived.Test.YtdclhgcgpcddlaaBase
namespace Go.Proofs.Ytdclhgcgpcddlaa
open Go Go.Vc

set_option maxRecDepth 100000 in
def lawTurns_T (b_p : Option Addr) (b_n : Nat) (b_c : Nat) (at_ : Int) (c : Int) (w : World) (R : Ending → World → Prop) : Prop :=
  Calls Try.prog 32 #[] w fun (e1 : Ending) (w2 : World) ↦
  ∃ (b3 : Bool),
    e1 = Ending.returned (Value.bool b3) ∧
      (0 : Int) ≤ 0 ∧
        0 ≤ mmI false (↑b_n : Int) 10000 ∧
          mmI false (↑b_n : Int) 10000 ≤ (↑b_c : Int) ∧
            (↑b_c : Int) ≤ (↑b_c : Int) ∧
              ((decide (at_ < 0) || decide (at_ ≥ (↑((mmI false (↑b_n : Int) 10000).toNat - Int.toNat 0) : Int))) = true →
                  R (Ending.returned (Value.bool b3)) w2) ∧
                ((decide (at_ < 0) || decide (at_ ≥ (↑((mmI false (↑b_n : Int) 10000).toNat - Int.toNat 0) : Int))) = false →
                  ∃ (b6 : Nat),
                    ∃ (o7 : Nat),
                      b_p = some (Addr.mk b6 o7 none) ∧
                        0 ≤ at_ ∧
                          at_ < (↑((mmI false (↑b_n : Int) 10000).toNat - 0) : Int) ∧
                            ∃ (n8 : Int),
                              w2.cell? (Addr.mk b6 (o7 + at_.toNat) none) = some (Value.int IntKind.u8 n8) ∧
                                ((n8 == c) = true → R (Ending.returned (Value.bool b3)) w2) ∧
                                  ((n8 == c) = false →
                                    (0 : Int) ≤ 0 ∧
                                      0 ≤ (↑((mmI false (↑b_n : Int) 10000).toNat - 0) : Int) ∧
                                        1 * (↑((mmI false (↑b_n : Int) 10000).toNat - 0) : Int) ≤ 281474976710656 ∧
                                          (↑((mmI false (↑b_n : Int) 10000).toNat - 0) : Int) ≤ 9223372036854775807 ∧
                                            ∃ (p11 : Option Addr),
                                              ∃ (n12 : Nat),
                                                ∃ (c13 : Nat),
                                                  ∃ (w'14 : World),
                                                    Go.Sem.run Try.prog
                                                          (Go.Builtin.append_ #[30, 30] 30
                                                            #[Value.slice (some (Addr.mk w2.heap.size 0 none)) 0
                                                                (↑((mmI false (↑b_n : Int) 10000).toNat - 0) : Int).toNat,
                                                              Value.slice b_p ((mmI false (↑b_n : Int) 10000).toNat - 0)
                                                                ((↑b_c : Int).toNat - 0)])
                                                          (w2.alloc
                                                            (Obj.cells
                                                              (Go.madeCells #[Value.int IntKind.u8 0]
                                                                ((↑((mmI false (↑b_n : Int) 10000).toNat - 0) : Int).toNat * 1))
                                                              5)) =
                                                        Go.Result.ok (Value.slice p11 n12 c13) w'14 ∧
                                                      ∃ (b15 : Nat),
                                                        ∃ (o16 : Nat),
                                                          p11 = some (Addr.mk b15 o16 none) ∧
                                                            0 ≤ at_ ∧
                                                              at_ < (↑n12 : Int) ∧
                                                                (∃ (u17 : Go.Value), w'14.cell? (Addr.mk b15 (o16 + at_.toNat) none) = some u17) ∧
                                                                  w'14.frozen? (Addr.mk b15 (o16 + at_.toNat) none) = false ∧
                                                                    (b3 = true →
                                                                        Calls Try.prog 33
                                                                          #[Value.slice
                                                                              (some
                                                                                (Addr.mk
                                                                                  (w'14.setCell (Addr.mk b15 (o16 + at_.toNat) none)
                                                                                        (Value.int IntKind.u8 c)).heap.size
                                                                                  0 none))
                                                                              1 1]
                                                                          ((w'14.setCell (Addr.mk b15 (o16 + at_.toNat) none)
                                                                                (Value.int IntKind.u8 c)).alloc
                                                                            (Obj.cells #[Value.slice p11 n12 c13] 30))
                                                                          fun (e19 : Ending) (w20 : World) ↦
                                                                          ∃ (n21 : Int),
                                                                            e19 = Ending.returned (Value.int IntKind.u32 n21) ∧
                                                                              Calls Try.prog 33
                                                                                #[Value.slice (some (Addr.mk w20.heap.size 0 none)) 1 1]
                                                                                (w20.alloc
                                                                                  (Obj.cells
                                                                                    #[Value.slice b_p
                                                                                        ((mmI false (↑b_n : Int) 10000).toNat - 0)
                                                                                        ((↑b_c : Int).toNat - 0)]
                                                                                    30))
                                                                                fun (e22 : Ending) (w23 : World) ↦
                                                                                ∃ (n24 : Int),
                                                                                  e22 = Ending.returned (Value.int IntKind.u32 n24) ∧
                                                                                    R (Ending.returned (Value.bool (n21 != n24))) w23) ∧
                                                                      (b3 = false →
                                                                        R (Ending.returned (Value.bool false))
                                                                          (w'14.setCell (Addr.mk b15 (o16 + at_.toNat) none)
                                                                            (Value.int IntKind.u8 c)))))

set_option maxRecDepth 100000 in
theorem lawTurns_eq (b_p : Option Addr) (b_n : Nat) (b_c : Nat) (at_ : Int) (c : Int) (w : World) (R : Ending → World → Prop) : lawTurns_T b_p b_n b_c at_ c w R = vcFn Try.prog [] Try.f10 [Value.slice b_p b_n b_c, Value.int IntKind.i64 at_, Value.int IntKind.u8 c] w R := by kernel_rfl

set_option maxRecDepth 100000 in
theorem lawTurns_vc (b_p : Option Addr) (b_n : Nat) (b_c : Nat) (at_ : Int) (c : Int) (w : World) (R : Ending → World → Prop) (h : lawTurns_T b_p b_n b_c at_ c w R) : Calls Try.prog 10 #[Value.slice b_p b_n b_c, Value.int IntKind.i64 at_, Value.int IntKind.u8 c] w R :=
  calls_of_vc (args := [Value.slice b_p b_n b_c, Value.int IntKind.i64 at_, Value.int IntKind.u8 c]) [] Try.mixed Try.func10 (cast (lawTurns_eq _ _ _ _ _ w R) h)

set_option maxRecDepth 100000 in
def shown2_T (w : World) (R : Ending → World → Prop) : Prop :=
  Calls Try.prog 35 #[Value.slice none 0 0, Value.int IntKind.u64 300] w fun (e1 : Ending) (w2 : World) ↦
  ∃ (p3 : Option Addr),
    ∃ (n4 : Nat),
      ∃ (c5 : Nat),
        e1 = Ending.returned (Value.slice p3 n4 c5) ∧
          ∃ (l6 : List UInt8),
            BytesAt w2 p3 n4 l6 ∧
              (sEq (ByteArray.mk (Array.mk l6)) (ByteArray.mk #[172, 2]) = true →
                  ∃ (b8 : Nat),
                    ∃ (o9 : Nat),
                      ∃ (cs10 : Array Go.Value),
                        ∃ (t11 : Go.TypeId),
                          ∃ (fr12 : Nat × Nat),
                            some (Addr.mk w2.heap.size 0 none) = some (Addr.mk b8 o9 none) ∧
                              (w2.alloc
                                        (Obj.cells
                                          #[Value.int IntKind.u8 49, Value.int IntKind.u8 50, Value.int IntKind.u8 51,
                                            Value.int IntKind.u8 52, Value.int IntKind.u8 53, Value.int IntKind.u8 54,
                                            Value.int IntKind.u8 55, Value.int IntKind.u8 56, Value.int IntKind.u8 57]
                                          5)).heap[b8]? =
                                  some (Obj.cells cs10 t11 fr12) ∧
                                Calls Try.prog 33
                                  #[Value.slice
                                      (some
                                        (Addr.mk
                                          ((w2.alloc
                                                    (Obj.cells
                                                      #[Value.int IntKind.u8 49, Value.int IntKind.u8 50, Value.int IntKind.u8 51,
                                                        Value.int IntKind.u8 52, Value.int IntKind.u8 53, Value.int IntKind.u8 54,
                                                        Value.int IntKind.u8 55, Value.int IntKind.u8 56, Value.int IntKind.u8 57]
                                                      5)).freeze
                                                (Addr.mk b8 cs10.size none) 1).heap.size
                                          0 none))
                                      1 1]
                                  (((w2.alloc
                                            (Obj.cells
                                              #[Value.int IntKind.u8 49, Value.int IntKind.u8 50, Value.int IntKind.u8 51,
                                                Value.int IntKind.u8 52, Value.int IntKind.u8 53, Value.int IntKind.u8 54,
                                                Value.int IntKind.u8 55, Value.int IntKind.u8 56, Value.int IntKind.u8 57]
                                              5)).freeze
                                        (Addr.mk b8 cs10.size none) 1).alloc
                                    (Obj.cells #[Value.slice (some (Addr.mk w2.heap.size 0 none)) 9 9] 30))
                                  fun (e15 : Ending) (w16 : World) ↦
                                  ∃ (n17 : Int),
                                    e15 = Ending.returned (Value.int IntKind.u32 n17) ∧
                                      R (Ending.returned (Value.bool (n17 == 3808858755))) w16) ∧
                (sEq (ByteArray.mk (Array.mk l6)) (ByteArray.mk #[172, 2]) = false → R (Ending.returned (Value.bool false)) w2)

set_option maxRecDepth 100000 in
theorem shown2_eq (w : World) (R : Ending → World → Prop) : shown2_T w R = vcFn Try.prog [] Try.f32 [] w R := by kernel_rfl

set_option maxRecDepth 100000 in
theorem shown2_vc (w : World) (R : Ending → World → Prop) (h : shown2_T w R) : Calls Try.prog 32 #[] w R :=
  calls_of_vc (args := []) [] Try.mixed Try.func32 (cast (shown2_eq w R) h)

set_option maxRecDepth 100000 in
def wireSum_T (parts_p : Option Addr) (parts_n : Nat) (parts_c : Nat) (w : World) (R : Ending → World → Prop) : Prop :=
  ∃ (I1 : Int → Int → World → Prop),
  ∃ (M2 : Int → Int → World → Nat),
    I1 4294967295 0 w ∧
      ∀ (n3 n4 : Int) (w'5 : World),
        I1 n3 n4 w'5 →
          (decide (n4 < (↑parts_n : Int)) = true →
              ∃ (b8 : Nat),
                ∃ (o9 : Nat),
                  parts_p = some (Addr.mk b8 o9 none) ∧
                    0 ≤ n4 ∧
                      n4 < (↑parts_n : Int) ∧
                        ∃ (p10 : Option Addr),
                          ∃ (n11 : Nat),
                            ∃ (c12 : Nat),
                              w'5.cell? (Addr.mk b8 (o9 + n4.toNat) none) = some (Value.slice p10 n11 c12) ∧
                                ∃ (I13 : Int → Int → World → Prop),
                                  ∃ (M14 : Int → Int → World → Nat),
                                    I13 n3 0 w'5 ∧
                                      ∀ (n15 n16 : Int) (w'17 : World),
                                        I13 n15 n16 w'17 →
                                          (decide (n16 < (↑n11 : Int)) = true →
                                              ∃ (b20 : Nat),
                                                ∃ (o21 : Nat),
                                                  p10 = some (Addr.mk b20 o21 none) ∧
                                                    0 ≤ n16 ∧
                                                      n16 < (↑n11 : Int) ∧
                                                        ∃ (n22 : Int),
                                                          w'17.cell? (Addr.mk b20 (o21 + n16.toNat) none) = some (Value.int IntKind.u8 n22) ∧
                                                            ∃ (I23 : Int → Int → World → Prop),
                                                              ∃ (M24 : Int → Int → World → Nat),
                                                                I23 (bits BinOp.xor IntKind.u32 n15 (IntKind.u32.wrap n22)) 0 w'17 ∧
                                                                  ∀ (n25 n26 : Int) (w'27 : World),
                                                                    I23 n25 n26 w'27 →
                                                                      (decide (n26 < 8) = true →
                                                                          I23
                                                                              (bits BinOp.xor IntKind.u32 (shrI IntKind.u32 n25 1)
                                                                                (bits BinOp.and IntKind.u32 2197175160
                                                                                  (IntKind.u32.wrap
                                                                                    (0 - bits BinOp.and IntKind.u32 n25 1))))
                                                                              (IntKind.i64.wrap (n26 + 1)) w'27 ∧
                                                                            M24
                                                                                (bits BinOp.xor IntKind.u32 (shrI IntKind.u32 n25 1)
                                                                                  (bits BinOp.and IntKind.u32 2197175160
                                                                                    (IntKind.u32.wrap
                                                                                      (0 - bits BinOp.and IntKind.u32 n25 1))))
                                                                                (IntKind.i64.wrap (n26 + 1)) w'27 <
                                                                              M24 n25 n26 w'27) ∧
                                                                        (decide (n26 < 8) = false →
                                                                          I13 n25 (IntKind.i64.wrap (n16 + 1)) w'27 ∧
                                                                            M14 n25 (IntKind.i64.wrap (n16 + 1)) w'27 < M14 n15 n16 w'17)) ∧
                                            (decide (n16 < (↑n11 : Int)) = false →
                                              I1 n15 (IntKind.i64.wrap (n4 + 1)) w'17 ∧
                                                M2 n15 (IntKind.i64.wrap (n4 + 1)) w'17 < M2 n3 n4 w'5)) ∧
            (decide (n4 < (↑parts_n : Int)) = false →
              R (Ending.returned (Value.int IntKind.u32 (bits BinOp.xor IntKind.u32 4294967295 n3))) w'5)

set_option maxRecDepth 100000 in
theorem wireSum_eq (parts_p : Option Addr) (parts_n : Nat) (parts_c : Nat) (w : World) (R : Ending → World → Prop) : wireSum_T parts_p parts_n parts_c w R = vcFn Try.prog [] Try.f33 [Value.slice parts_p parts_n parts_c] w R := by kernel_rfl

set_option maxRecDepth 100000 in
theorem wireSum_vc (parts_p : Option Addr) (parts_n : Nat) (parts_c : Nat) (w : World) (R : Ending → World → Prop) (h : wireSum_T parts_p parts_n parts_c w R) : Calls Try.prog 33 #[Value.slice parts_p parts_n parts_c] w R :=
  calls_of_vc (args := [Value.slice parts_p parts_n parts_c]) [] Try.mixed Try.func33 (cast (wireSum_eq _ _ _ w R) h)

set_option maxRecDepth 100000 in
def refSum_T (b_p : Option Addr) (b_n : Nat) (b_c : Nat) (w : World) (R : Ending → World → Prop) : Prop :=
  ∃ (I1 : Int → Int → World → Prop),
  ∃ (M2 : Int → Int → World → Nat),
    I1 4294967295 0 w ∧
      ∀ (n3 n4 : Int) (w'5 : World),
        I1 n3 n4 w'5 →
          (decide (n4 < (↑b_n : Int)) = true →
              ∃ (b8 : Nat),
                ∃ (o9 : Nat),
                  b_p = some (Addr.mk b8 o9 none) ∧
                    0 ≤ n4 ∧
                      n4 < (↑b_n : Int) ∧
                        ∃ (n10 : Int),
                          w'5.cell? (Addr.mk b8 (o9 + n4.toNat) none) = some (Value.int IntKind.u8 n10) ∧
                            ∃ (I11 : Int → Int → World → Prop),
                              ∃ (M12 : Int → Int → World → Nat),
                                I11 (bits BinOp.xor IntKind.u32 n3 (IntKind.u32.wrap n10)) 0 w'5 ∧
                                  ∀ (n13 n14 : Int) (w'15 : World),
                                    I11 n13 n14 w'15 →
                                      (decide (n14 < 8) = true →
                                          ((remI n13 2 == 1) = true →
                                              I11 (bits BinOp.xor IntKind.u32 (quoI IntKind.u32 n13 2) 2197175160)
                                                  (IntKind.i64.wrap (n14 + 1)) w'15 ∧
                                                M12 (bits BinOp.xor IntKind.u32 (quoI IntKind.u32 n13 2) 2197175160)
                                                    (IntKind.i64.wrap (n14 + 1)) w'15 <
                                                  M12 n13 n14 w'15) ∧
                                            ((remI n13 2 == 1) = false →
                                              I11 (quoI IntKind.u32 n13 2) (IntKind.i64.wrap (n14 + 1)) w'15 ∧
                                                M12 (quoI IntKind.u32 n13 2) (IntKind.i64.wrap (n14 + 1)) w'15 < M12 n13 n14 w'15)) ∧
                                        (decide (n14 < 8) = false →
                                          I1 n13 (IntKind.i64.wrap (n4 + 1)) w'15 ∧ M2 n13 (IntKind.i64.wrap (n4 + 1)) w'15 < M2 n3 n4 w'5)) ∧
            (decide (n4 < (↑b_n : Int)) = false →
              R (Ending.returned (Value.int IntKind.u32 (bits BinOp.xor IntKind.u32 n3 4294967295))) w'5)

set_option maxRecDepth 100000 in
theorem refSum_eq (b_p : Option Addr) (b_n : Nat) (b_c : Nat) (w : World) (R : Ending → World → Prop) : refSum_T b_p b_n b_c w R = vcFn Try.prog [] Try.f34 [Value.slice b_p b_n b_c] w R := by kernel_rfl

set_option maxRecDepth 100000 in
theorem refSum_vc (b_p : Option Addr) (b_n : Nat) (b_c : Nat) (w : World) (R : Ending → World → Prop) (h : refSum_T b_p b_n b_c w R) : Calls Try.prog 34 #[Value.slice b_p b_n b_c] w R :=
  calls_of_vc (args := [Value.slice b_p b_n b_c]) [] Try.mixed Try.func34 (cast (refSum_eq _ _ _ w R) h)

set_option maxRecDepth 100000 in
def wireNumber_T (b_p : Option Addr) (b_n : Nat) (b_c : Nat) (n : Int) (w : World) (R : Ending → World → Prop) : Prop :=
  Calls Try.prog 60 #[Value.int IntKind.u64 n] w fun (e1 : Ending) (w2 : World) ↦
  ∃ (p3 : Option Addr),
    ∃ (n4 : Nat),
      ∃ (c5 : Nat),
        e1 = Ending.returned (Value.slice p3 n4 c5) ∧
          Calls Try.prog 59 #[Value.slice (some (Addr.mk w2.heap.size 0 none)) 2 2]
            (w2.alloc (Obj.cells #[Value.slice b_p b_n b_c, Value.slice p3 n4 c5] 30)) fun (e6 : Ending) (w7 : World) ↦
            ∃ (p8 : Option Addr),
              ∃ (n9 : Nat), ∃ (c10 : Nat), e6 = Ending.returned (Value.slice p8 n9 c10) ∧ R (Ending.returned (Value.slice p8 n9 c10)) w7

set_option maxRecDepth 100000 in
theorem wireNumber_eq (b_p : Option Addr) (b_n : Nat) (b_c : Nat) (n : Int) (w : World) (R : Ending → World → Prop) : wireNumber_T b_p b_n b_c n w R = vcFn Try.prog [] Try.f35 [Value.slice b_p b_n b_c, Value.int IntKind.u64 n] w R := by kernel_rfl

set_option maxRecDepth 100000 in
theorem wireNumber_vc (b_p : Option Addr) (b_n : Nat) (b_c : Nat) (n : Int) (w : World) (R : Ending → World → Prop) (h : wireNumber_T b_p b_n b_c n w R) : Calls Try.prog 35 #[Value.slice b_p b_n b_c, Value.int IntKind.u64 n] w R :=
  calls_of_vc (args := [Value.slice b_p b_n b_c, Value.int IntKind.u64 n]) [] Try.mixed Try.func35 (cast (wireNumber_eq _ _ _ _ w R) h)

set_option maxRecDepth 100000 in
def digits_T (n : Int) (w : World) (R : Ending → World → Prop) : Prop :=
  ∃ (I1 : Int → Option Addr → Nat → Nat → World → Prop),
  ∃ (M2 : Int → Option Addr → Nat → Nat → World → Nat),
    I1 n none 0 0 w ∧
      ∀ (n3 : Int) (p4 : Option Addr) (n5 c6 : Nat) (w'7 : World),
        I1 n3 p4 n5 c6 w'7 →
          ((shrI IntKind.u64 n3 7 == 0) = true →
              ∃ (p10 : Option Addr),
                ∃ (n11 : Nat),
                  ∃ (c12 : Nat),
                    ∃ (w'13 : World),
                      Go.Sem.run Try.prog
                            (Go.Builtin.append_ #[30, 30] 30 #[Value.slice p4 n5 c6, Value.slice (some (Addr.mk w'7.heap.size 0 none)) 1 1])
                            (w'7.alloc
                              (Obj.cells #[Value.int IntKind.u8 (IntKind.u8.wrap (bits BinOp.and IntKind.u64 n3 127))] 5)) =
                          Go.Result.ok (Value.slice p10 n11 c12) w'13 ∧
                        R (Ending.returned (Value.slice p10 n11 c12)) w'13) ∧
            ((shrI IntKind.u64 n3 7 == 0) = false →
              ∃ (p15 : Option Addr),
                ∃ (n16 : Nat),
                  ∃ (c17 : Nat),
                    ∃ (w'18 : World),
                      Go.Sem.run Try.prog
                            (Go.Builtin.append_ #[30, 30] 30 #[Value.slice p4 n5 c6, Value.slice (some (Addr.mk w'7.heap.size 0 none)) 1 1])
                            (w'7.alloc
                              (Obj.cells
                                #[Value.int IntKind.u8
                                    (bits BinOp.or IntKind.u8 (IntKind.u8.wrap (bits BinOp.and IntKind.u64 n3 127)) 128)]
                                5)) =
                          Go.Result.ok (Value.slice p15 n16 c17) w'18 ∧
                        I1 (shrI IntKind.u64 n3 7) p15 n16 c17 w'18 ∧
                          M2 (shrI IntKind.u64 n3 7) p15 n16 c17 w'18 < M2 n3 p4 n5 c6 w'7)

set_option maxRecDepth 100000 in
theorem digits_eq (n : Int) (w : World) (R : Ending → World → Prop) : digits_T n w R = vcFn Try.prog [] Try.f60 [Value.int IntKind.u64 n] w R := by kernel_rfl

set_option maxRecDepth 100000 in
theorem digits_vc (n : Int) (w : World) (R : Ending → World → Prop) (h : digits_T n w R) : Calls Try.prog 60 #[Value.int IntKind.u64 n] w R :=
  calls_of_vc (args := [Value.int IntKind.u64 n]) [] Try.mixed Try.func60 (cast (digits_eq _ w R) h)

set_option maxRecDepth 100000 in
def concat_T (slices_p : Option Addr) (slices_n : Nat) (slices_c : Nat) (w : World) (R : Ending → World → Prop) : Prop :=
  ∃ (I1 : Int → Int → World → Prop),
  ∃ (M2 : Int → Int → World → Nat),
    I1 0 0 w ∧
      ∀ (n3 n4 : Int) (w'5 : World),
        I1 n3 n4 w'5 →
          (decide (n4 < (↑slices_n : Int)) = true →
              ∃ (b8 : Nat),
                ∃ (o9 : Nat),
                  slices_p = some (Addr.mk b8 o9 none) ∧
                    0 ≤ n4 ∧
                      n4 < (↑slices_n : Int) ∧
                        ∃ (p10 : Option Addr),
                          ∃ (n11 : Nat),
                            ∃ (c12 : Nat),
                              w'5.cell? (Addr.mk b8 (o9 + n4.toNat) none) = some (Value.slice p10 n11 c12) ∧
                                (decide (IntKind.i64.wrap (n3 + (↑n11 : Int)) < 0) = true → False) ∧
                                  (decide (IntKind.i64.wrap (n3 + (↑n11 : Int)) < 0) = false →
                                    I1 (IntKind.i64.wrap (n3 + (↑n11 : Int))) (IntKind.i64.wrap (n4 + 1)) w'5 ∧
                                      M2 (IntKind.i64.wrap (n3 + (↑n11 : Int))) (IntKind.i64.wrap (n4 + 1)) w'5 < M2 n3 n4 w'5)) ∧
            (decide (n4 < (↑slices_n : Int)) = false →
              Calls Try.prog 76 #[Value.slice none 0 0, Value.int IntKind.i64 n3] w'5 fun (e16 : Ending) (w17 : World) ↦
                ∃ (p18 : Option Addr),
                  ∃ (n19 : Nat),
                    ∃ (c20 : Nat),
                      e16 = Ending.returned (Value.slice p18 n19 c20) ∧
                        ∃ (I21 : Option Addr → Nat → Nat → Int → World → Prop),
                          ∃ (M22 : Option Addr → Nat → Nat → Int → World → Nat),
                            I21 p18 n19 c20 0 w17 ∧
                              ∀ (p23 : Option Addr) (n24 c25 : Nat) (n26 : Int) (w'27 : World),
                                I21 p23 n24 c25 n26 w'27 →
                                  (decide (n26 < (↑slices_n : Int)) = true →
                                      ∃ (b30 : Nat),
                                        ∃ (o31 : Nat),
                                          slices_p = some (Addr.mk b30 o31 none) ∧
                                            0 ≤ n26 ∧
                                              n26 < (↑slices_n : Int) ∧
                                                ∃ (p32 : Option Addr),
                                                  ∃ (n33 : Nat),
                                                    ∃ (c34 : Nat),
                                                      w'27.cell? (Addr.mk b30 (o31 + n26.toNat) none) = some (Value.slice p32 n33 c34) ∧
                                                        ∃ (p35 : Option Addr),
                                                          ∃ (n36 : Nat),
                                                            ∃ (c37 : Nat),
                                                              ∃ (w'38 : World),
                                                                Go.Sem.run Try.prog
                                                                      (Go.Builtin.append_ #[30, 30] 30
                                                                        #[Value.slice p23 n24 c25, Value.slice p32 n33 c34])
                                                                      w'27 =
                                                                    Go.Result.ok (Value.slice p35 n36 c37) w'38 ∧
                                                                  I21 p35 n36 c37 (IntKind.i64.wrap (n26 + 1)) w'38 ∧
                                                                    M22 p35 n36 c37 (IntKind.i64.wrap (n26 + 1)) w'38 < M22 p23 n24 c25 n26 w'27) ∧
                                    (decide (n26 < (↑slices_n : Int)) = false → R (Ending.returned (Value.slice p23 n24 c25)) w'27))

set_option maxRecDepth 100000 in
theorem concat_eq (slices_p : Option Addr) (slices_n : Nat) (slices_c : Nat) (w : World) (R : Ending → World → Prop) : concat_T slices_p slices_n slices_c w R = vcFn Try.prog [] Try.f59 [Value.slice slices_p slices_n slices_c] w R := by kernel_rfl

set_option maxRecDepth 100000 in
theorem concat_vc (slices_p : Option Addr) (slices_n : Nat) (slices_c : Nat) (w : World) (R : Ending → World → Prop) (h : concat_T slices_p slices_n slices_c w R) : Calls Try.prog 59 #[Value.slice slices_p slices_n slices_c] w R :=
  calls_of_vc (args := [Value.slice slices_p slices_n slices_c]) [] Try.mixed Try.func59 (cast (concat_eq _ _ _ w R) h)

set_option maxRecDepth 100000 in
def grow_T (s_p : Option Addr) (s_n : Nat) (s_c : Nat) (n : Int) (w : World) (R : Ending → World → Prop) : Prop :=
  (decide (n < 0) = true → False) ∧
  (decide (n < 0) = false →
    (decide (IntKind.i64.wrap (n - IntKind.i64.wrap ((↑s_c : Int) - (↑s_n : Int))) > 0) = true →
        (0 : Int) ≤ 0 ∧
          0 ≤ (↑s_c : Int) ∧
            (↑s_c : Int) ≤ (↑s_c : Int) ∧
              (↑s_c : Int) ≤ (↑s_c : Int) ∧
                ∃ (p4 : Option Addr),
                  ∃ (n5 : Nat),
                    ∃ (c6 : Nat),
                      ∃ (w'7 : World),
                        Go.Sem.run Try.prog
                              (Go.Builtin.append_ #[30, 3] 30
                                #[Value.slice s_p ((↑s_c : Int).toNat - 0) ((↑s_c : Int).toNat - 0),
                                  Value.int IntKind.i64 (IntKind.i64.wrap (n - IntKind.i64.wrap ((↑s_c : Int) - (↑s_n : Int))))])
                              w =
                            Go.Result.ok (Value.slice p4 n5 c6) w'7 ∧
                          (0 : Int) ≤ 0 ∧
                            0 ≤ (↑s_n : Int) ∧
                              (↑s_n : Int) ≤ (↑c6 : Int) ∧
                                (↑c6 : Int) ≤ (↑c6 : Int) ∧
                                  R (Ending.returned (Value.slice p4 ((↑s_n : Int).toNat - 0) ((↑c6 : Int).toNat - 0))) w'7) ∧
      (decide (IntKind.i64.wrap (n - IntKind.i64.wrap ((↑s_c : Int) - (↑s_n : Int))) > 0) = false →
        R (Ending.returned (Value.slice s_p s_n s_c)) w))

set_option maxRecDepth 100000 in
theorem grow_eq (s_p : Option Addr) (s_n : Nat) (s_c : Nat) (n : Int) (w : World) (R : Ending → World → Prop) : grow_T s_p s_n s_c n w R = vcFn Try.prog [] Try.f76 [Value.slice s_p s_n s_c, Value.int IntKind.i64 n] w R := by kernel_rfl

set_option maxRecDepth 100000 in
theorem grow_vc (s_p : Option Addr) (s_n : Nat) (s_c : Nat) (n : Int) (w : World) (R : Ending → World → Prop) (h : grow_T s_p s_n s_c n w R) : Calls Try.prog 76 #[Value.slice s_p s_n s_c, Value.int IntKind.i64 n] w R :=
  calls_of_vc (args := [Value.slice s_p s_n s_c, Value.int IntKind.i64 n]) [] Try.mixed Try.func76 (cast (grow_eq _ _ _ _ w R) h)


end Go.Proofs.Ytdclhgcgpcddlaa
