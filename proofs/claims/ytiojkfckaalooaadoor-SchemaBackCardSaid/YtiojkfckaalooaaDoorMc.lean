/- Texts of the proof, one behind the other. -/
import Derived.Test.YtiojkfckaalooaaDoorMb
import Derived.Lib.Bytealg
import Derived.Shelf.Strings.OnBuilder
import Derived.Shelf.Strings.Split
import Derived.Shelf.Strings.Cut
import Derived.Test.YtiojkfckaalooaaDoorProg
set_option linter.unusedVariables false
set_option linter.unusedSimpArgs false
/- The verification conditions of the functions, evaluated: printed by program. -/
namespace Go.Proofs.YtiojkfckaalooaaDoor
open Go Go.Vc
set_option maxRecDepth 20000

set_option maxRecDepth 100000 in
def vright_T (v0 : Int) (v1 : Int) (v2 : ByteArray) (w : World) (R : Ending → World → Prop) : Prop :=
  ∀ b1 w'2, New w (Obj.cells #[.int .i64 v0, .int .i64 v1, .string v2] 65) b1 w'2 → ∃ n4, w'2.cell? ⟨b1, 0, none⟩ = some (.int .i64 n4) ∧ ∀ b5 w'6, New w'2 (Obj.cells #[.int .i64 0, .int .i64 0, .string ⟨#[]⟩] 65) b5 w'6 → (∃ u8, w'6.cell? ⟨b5, 0, none⟩ = some u8) ∧ w'6.frozen? ⟨b5, 0, none⟩ = false ∧ (∃ u9, w'6.cell? ⟨b5, 1, none⟩ = some u9) ∧ w'6.frozen? ⟨b5, 1, none⟩ = false ∧ (∃ u10, w'6.cell? ⟨b5, 2, none⟩ = some u10) ∧ w'6.frozen? ⟨b5, 2, none⟩ = false ∧ ∀ w'11, Put w'6 b5 0 [.int .i64 n4, .int .i64 0, .string ⟨#[]⟩] w'11 → ∃ n13, w'11.cell? ⟨b1, 0, none⟩ = some (.int .i64 n13) ∧ (n13 = 0 → ∃ n15, w'11.cell? ⟨b1, 0, none⟩ = some (.int .i64 n15) ∧ (0 ≤ n15 → ∃ n17, w'11.cell? ⟨b1, 0, none⟩ = some (.int .i64 n17) ∧ (n17 < 4 → ∃ n19, w'11.cell? ⟨b1, 0, none⟩ = some (.int .i64 n19) ∧ ∃ n20, w'11.cell? ⟨b1, 1, none⟩ = some (.int .i64 n20) ∧ ∃ s21, w'11.cell? ⟨b1, 2, none⟩ = some (.string s21) ∧ ∃ n22, w'11.cell? ⟨b5, 0, none⟩ = some (.int .i64 n22) ∧ ∃ n23, w'11.cell? ⟨b5, 1, none⟩ = some (.int .i64 n23) ∧ ∃ s24, w'11.cell? ⟨b5, 2, none⟩ = some (.string s24) ∧ (n19 = n22 ∧ n20 = n23 ∧ s21 = s24 → ∃ s26, w'11.cell? ⟨b1, 2, none⟩ = some (.string s26) ∧ R (.returned (.bool (decide ((↑s26.size : Int) ≤ 1024)))) w'11) ∧ (n19 ≠ n22 ∨ n20 ≠ n23 ∨ s21 ≠ s24 → R (.returned (.bool false)) w'11)) ∧ (4 ≤ n17 → R (.returned (.bool false)) w'11)) ∧ (n15 < 0 → R (.returned (.bool false)) w'11)) ∧ (n13 ≠ 0 → (n13 = 1 → ∃ n32, w'11.cell? ⟨b1, 1, none⟩ = some (.int .i64 n32) ∧ (∃ u33, w'11.cell? ⟨b5, 1, none⟩ = some u33) ∧ w'11.frozen? ⟨b5, 1, none⟩ = false ∧ ∀ w'34, Put w'11 b5 1 [.int .i64 n32] w'34 → ∃ n36, w'34.cell? ⟨b1, 0, none⟩ = some (.int .i64 n36) ∧ (0 ≤ n36 → ∃ n38, w'34.cell? ⟨b1, 0, none⟩ = some (.int .i64 n38) ∧ (n38 < 4 → ∃ n40, w'34.cell? ⟨b1, 0, none⟩ = some (.int .i64 n40) ∧ ∃ n41, w'34.cell? ⟨b1, 1, none⟩ = some (.int .i64 n41) ∧ ∃ s42, w'34.cell? ⟨b1, 2, none⟩ = some (.string s42) ∧ ∃ n43, w'34.cell? ⟨b5, 0, none⟩ = some (.int .i64 n43) ∧ ∃ n44, w'34.cell? ⟨b5, 1, none⟩ = some (.int .i64 n44) ∧ ∃ s45, w'34.cell? ⟨b5, 2, none⟩ = some (.string s45) ∧ (n40 = n43 ∧ n41 = n44 ∧ s42 = s45 → ∃ s47, w'34.cell? ⟨b1, 2, none⟩ = some (.string s47) ∧ R (.returned (.bool (decide ((↑s47.size : Int) ≤ 1024)))) w'34) ∧ (n40 ≠ n43 ∨ n41 ≠ n44 ∨ s42 ≠ s45 → R (.returned (.bool false)) w'34)) ∧ (4 ≤ n38 → R (.returned (.bool false)) w'34)) ∧ (n36 < 0 → R (.returned (.bool false)) w'34)) ∧ (n13 ≠ 1 → (n13 = 2 → ∃ n53, w'11.cell? ⟨b1, 1, none⟩ = some (.int .i64 n53) ∧ (∃ u54, w'11.cell? ⟨b5, 1, none⟩ = some u54) ∧ w'11.frozen? ⟨b5, 1, none⟩ = false ∧ ∀ w'55, Put w'11 b5 1 [.int .i64 (bits BinOp.and IntKind.i64 n53 1)] w'55 → ∃ n57, w'55.cell? ⟨b1, 0, none⟩ = some (.int .i64 n57) ∧ (0 ≤ n57 → ∃ n59, w'55.cell? ⟨b1, 0, none⟩ = some (.int .i64 n59) ∧ (n59 < 4 → ∃ n61, w'55.cell? ⟨b1, 0, none⟩ = some (.int .i64 n61) ∧ ∃ n62, w'55.cell? ⟨b1, 1, none⟩ = some (.int .i64 n62) ∧ ∃ s63, w'55.cell? ⟨b1, 2, none⟩ = some (.string s63) ∧ ∃ n64, w'55.cell? ⟨b5, 0, none⟩ = some (.int .i64 n64) ∧ ∃ n65, w'55.cell? ⟨b5, 1, none⟩ = some (.int .i64 n65) ∧ ∃ s66, w'55.cell? ⟨b5, 2, none⟩ = some (.string s66) ∧ (n61 = n64 ∧ n62 = n65 ∧ s63 = s66 → ∃ s68, w'55.cell? ⟨b1, 2, none⟩ = some (.string s68) ∧ R (.returned (.bool (decide ((↑s68.size : Int) ≤ 1024)))) w'55) ∧ (n61 ≠ n64 ∨ n62 ≠ n65 ∨ s63 ≠ s66 → R (.returned (.bool false)) w'55)) ∧ (4 ≤ n59 → R (.returned (.bool false)) w'55)) ∧ (n57 < 0 → R (.returned (.bool false)) w'55)) ∧ (n13 ≠ 2 → (n13 = 3 → ∃ s74, w'11.cell? ⟨b1, 2, none⟩ = some (.string s74) ∧ (∃ u75, w'11.cell? ⟨b5, 2, none⟩ = some u75) ∧ w'11.frozen? ⟨b5, 2, none⟩ = false ∧ ∀ w'76, Put w'11 b5 2 [.string s74] w'76 → ∃ n78, w'76.cell? ⟨b1, 0, none⟩ = some (.int .i64 n78) ∧ (0 ≤ n78 → ∃ n80, w'76.cell? ⟨b1, 0, none⟩ = some (.int .i64 n80) ∧ (n80 < 4 → ∃ n82, w'76.cell? ⟨b1, 0, none⟩ = some (.int .i64 n82) ∧ ∃ n83, w'76.cell? ⟨b1, 1, none⟩ = some (.int .i64 n83) ∧ ∃ s84, w'76.cell? ⟨b1, 2, none⟩ = some (.string s84) ∧ ∃ n85, w'76.cell? ⟨b5, 0, none⟩ = some (.int .i64 n85) ∧ ∃ n86, w'76.cell? ⟨b5, 1, none⟩ = some (.int .i64 n86) ∧ ∃ s87, w'76.cell? ⟨b5, 2, none⟩ = some (.string s87) ∧ (n82 = n85 ∧ n83 = n86 ∧ s84 = s87 → ∃ s89, w'76.cell? ⟨b1, 2, none⟩ = some (.string s89) ∧ R (.returned (.bool (decide ((↑s89.size : Int) ≤ 1024)))) w'76) ∧ (n82 ≠ n85 ∨ n83 ≠ n86 ∨ s84 ≠ s87 → R (.returned (.bool false)) w'76)) ∧ (4 ≤ n80 → R (.returned (.bool false)) w'76)) ∧ (n78 < 0 → R (.returned (.bool false)) w'76)) ∧ (n13 ≠ 3 → ∃ n94, w'11.cell? ⟨b1, 0, none⟩ = some (.int .i64 n94) ∧ (0 ≤ n94 → ∃ n96, w'11.cell? ⟨b1, 0, none⟩ = some (.int .i64 n96) ∧ (n96 < 4 → ∃ n98, w'11.cell? ⟨b1, 0, none⟩ = some (.int .i64 n98) ∧ ∃ n99, w'11.cell? ⟨b1, 1, none⟩ = some (.int .i64 n99) ∧ ∃ s100, w'11.cell? ⟨b1, 2, none⟩ = some (.string s100) ∧ ∃ n101, w'11.cell? ⟨b5, 0, none⟩ = some (.int .i64 n101) ∧ ∃ n102, w'11.cell? ⟨b5, 1, none⟩ = some (.int .i64 n102) ∧ ∃ s103, w'11.cell? ⟨b5, 2, none⟩ = some (.string s103) ∧ (n98 = n101 ∧ n99 = n102 ∧ s100 = s103 → ∃ s105, w'11.cell? ⟨b1, 2, none⟩ = some (.string s105) ∧ R (.returned (.bool (decide ((↑s105.size : Int) ≤ 1024)))) w'11) ∧ (n98 ≠ n101 ∨ n99 ≠ n102 ∨ s100 ≠ s103 → R (.returned (.bool false)) w'11)) ∧ (4 ≤ n96 → R (.returned (.bool false)) w'11)) ∧ (n94 < 0 → R (.returned (.bool false)) w'11)))))

set_option maxRecDepth 100000 in
theorem vright_eq (v0 : Int) (v1 : Int) (v2 : ByteArray) (w : World) (R : Ending → World → Prop) : vright_T v0 v1 v2 w R = vcFn Tryd.prog [] [] Tryd.f62 [.agg #[.int .i64 v0, .int .i64 v1, .string v2]] w R := by kernel_rfl

set_option maxRecDepth 100000 in
theorem vright_vc (v0 : Int) (v1 : Int) (v2 : ByteArray) (w : World) (R : Ending → World → Prop) (hvc : vright_T v0 v1 v2 w R) : Calls Tryd.prog 62 #[.agg #[.int .i64 v0, .int .i64 v1, .string v2]] w R :=
  calls_of_vc (args := [.agg #[.int .i64 v0, .int .i64 v1, .string v2]]) [] [] Tryd.mixed Tryd.func62 (cast (vright_eq _ _ _ w R) hvc)

set_option maxRecDepth 100000 in
def samerow_T (a_p : Option Addr) (a_n : Nat) (a_c : Nat) (b_p : Option Addr) (b_n : Nat) (b_c : Nat) (w : World) (R : Ending → World → Prop) : Prop :=
  ((↑a_n : Int) ≠ (↑b_n : Int) → R (.returned (.bool false)) w) ∧ ((↑a_n : Int) = (↑b_n : Int) → ∃ (I3 : Int → World → Prop), ∃ (M4 : Int → World → Nat), I3 0 w ∧ ∀ (n5 : Int) (w'6 : World), I3 n5 w'6 → (n5 < (↑a_n : Int) → ∀ w'9, Drew w'6 w'9 → ∃ b11, ∃ o12, a_p = some ⟨b11, o12, none⟩ ∧ 0 ≤ n5 ∧ n5 < (↑a_n : Int) ∧ ∃ n13, w'9.cell? ⟨b11, (o12 + n5.toNat * 3), none⟩ = some (.int .i64 n13) ∧ ∃ n14, w'9.cell? ⟨b11, (o12 + n5.toNat * 3 + 1), none⟩ = some (.int .i64 n14) ∧ ∃ s15, w'9.cell? ⟨b11, (o12 + n5.toNat * 3 + 2), none⟩ = some (.string s15) ∧ ∃ b16, ∃ o17, b_p = some ⟨b16, o17, none⟩ ∧ 0 ≤ n5 ∧ n5 < (↑b_n : Int) ∧ ∃ n18, w'9.cell? ⟨b16, (o17 + n5.toNat * 3), none⟩ = some (.int .i64 n18) ∧ ∃ n19, w'9.cell? ⟨b16, (o17 + n5.toNat * 3 + 1), none⟩ = some (.int .i64 n19) ∧ ∃ s20, w'9.cell? ⟨b16, (o17 + n5.toNat * 3 + 2), none⟩ = some (.string s20) ∧ (n13 ≠ n18 ∨ n14 ≠ n19 ∨ s15 ≠ s20 → R (.returned (.bool false)) w'9) ∧ (n13 = n18 ∧ n14 = n19 ∧ s15 = s20 → I3 (IntKind.i64.wrap (n5 + 1)) w'9 ∧ M4 (IntKind.i64.wrap (n5 + 1)) w'9 < M4 n5 w'6)) ∧ ((↑a_n : Int) ≤ n5 → R (.returned (.bool true)) w'6))

set_option maxRecDepth 100000 in
theorem samerow_eq (a_p : Option Addr) (a_n : Nat) (a_c : Nat) (b_p : Option Addr) (b_n : Nat) (b_c : Nat) (w : World) (R : Ending → World → Prop) : samerow_T a_p a_n a_c b_p b_n b_c w R = vcFn Tryd.prog [] [(6, [2, 4, 6, 8, 10, 12, 14, 16, 18, 0])] Tryd.f53 [.slice a_p a_n a_c, .slice b_p b_n b_c] w R := by kernel_rfl

set_option maxRecDepth 100000 in
theorem samerow_vc (a_p : Option Addr) (a_n : Nat) (a_c : Nat) (b_p : Option Addr) (b_n : Nat) (b_c : Nat) (w : World) (R : Ending → World → Prop) (hvc : samerow_T a_p a_n a_c b_p b_n b_c w R) : Calls Tryd.prog 53 #[.slice a_p a_n a_c, .slice b_p b_n b_c] w R :=
  calls_of_vc (args := [.slice a_p a_n a_c, .slice b_p b_n b_c]) [] [(6, [2, 4, 6, 8, 10, 12, 14, 16, 18, 0])] Tryd.mixed Tryd.func53 (cast (samerow_eq _ _ _ _ _ _ w R) hvc)

set_option maxRecDepth 100000 in
def samerows_T (a_p : Option Addr) (a_n : Nat) (a_c : Nat) (b_p : Option Addr) (b_n : Nat) (b_c : Nat) (w : World) (R : Ending → World → Prop) : Prop :=
  ((↑a_n : Int) ≠ (↑b_n : Int) → R (.returned (.bool false)) w) ∧ ((↑a_n : Int) = (↑b_n : Int) → ∃ (I3 : Int → World → Prop), ∃ (M4 : Int → World → Nat), I3 0 w ∧ ∀ (n5 : Int) (w'6 : World), I3 n5 w'6 → (n5 < (↑a_n : Int) → ∀ w'9, Drew w'6 w'9 → ∃ b11, ∃ o12, a_p = some ⟨b11, o12, none⟩ ∧ 0 ≤ n5 ∧ n5 < (↑a_n : Int) ∧ ∃ p13 n14 c15, w'9.cell? ⟨b11, (o12 + n5.toNat), none⟩ = some (.slice p13 n14 c15) ∧ ∃ b16, ∃ o17, b_p = some ⟨b16, o17, none⟩ ∧ 0 ≤ n5 ∧ n5 < (↑b_n : Int) ∧ ∃ p18 n19 c20, w'9.cell? ⟨b16, (o17 + n5.toNat), none⟩ = some (.slice p18 n19 c20) ∧ Calls Tryd.prog 53 #[.slice p13 n14 c15, .slice p18 n19 c20] w'9 fun e21 w22 ↦
 ∃ b23, e21 = .returned (.bool b23) ∧ (b23 = false → R (.returned (.bool false)) w22) ∧ (b23 = true → I3 (IntKind.i64.wrap (n5 + 1)) w22 ∧ M4 (IntKind.i64.wrap (n5 + 1)) w22 < M4 n5 w'6)) ∧ ((↑a_n : Int) ≤ n5 → R (.returned (.bool true)) w'6))

set_option maxRecDepth 100000 in
theorem samerows_eq (a_p : Option Addr) (a_n : Nat) (a_c : Nat) (b_p : Option Addr) (b_n : Nat) (b_c : Nat) (w : World) (R : Ending → World → Prop) : samerows_T a_p a_n a_c b_p b_n b_c w R = vcFn Tryd.prog [] [(6, [2, 4, 6, 8, 10, 12, 14, 16, 18, 20, 0])] Tryd.f28 [.slice a_p a_n a_c, .slice b_p b_n b_c] w R := by kernel_rfl

set_option maxRecDepth 100000 in
theorem samerows_vc (a_p : Option Addr) (a_n : Nat) (a_c : Nat) (b_p : Option Addr) (b_n : Nat) (b_c : Nat) (w : World) (R : Ending → World → Prop) (hvc : samerows_T a_p a_n a_c b_p b_n b_c w R) : Calls Tryd.prog 28 #[.slice a_p a_n a_c, .slice b_p b_n b_c] w R :=
  calls_of_vc (args := [.slice a_p a_n a_c, .slice b_p b_n b_c]) [] [(6, [2, 4, 6, 8, 10, 12, 14, 16, 18, 20, 0])] Tryd.mixed Tryd.func28 (cast (samerows_eq _ _ _ _ _ _ w R) hvc)


end Go.Proofs.YtiojkfckaalooaaDoor

/- The contracts of value.Right and of the document's answer for it. -/
namespace Go.Proofs.YtiojkfckaalooaaDoor
open Go Go.Vc Go.RowKit
set_option maxRecDepth 20000

theorem nil_size : (ByteArray.mk #[]).size = 0 := rfl
theorem vright_ok (v : Val) (w : World) : Calls Tryd.prog 62 #[v.agg] w fun e w' => e = .returned (.bool v.right) ∧ Ext w w' := by
  apply vright_vc
  unfold vright_T
  intro b1 w2 h1
  have H1 := (Hold.start (Ext.rfl (w := w))).new h1
  obtain ⟨p0, p1, p2⟩ := (H1.blk 0 rfl).c3
  refine ⟨_, p0, fun b5 w6 h5 => ?_⟩
  have H5 := H1.new h5
  obtain ⟨q0, q1, q2⟩ := (H5.blk 0 rfl).c3
  refine ⟨⟨_, q0⟩, (H5.blk 0 rfl).frozen _, ⟨_, q1⟩, (H5.blk 0 rfl).frozen _, ⟨_, q2⟩, (H5.blk 0 rfl).frozen _, fun w11 h11 => ?_⟩
  have H11 := H5.put 0 rfl h11
  have B1 : Blk w11 b1 65 #[.int .i64 v.k, .int .i64 v.n, .string v.s] := H11.blk 1 rfl
  have B5 : Blk w11 b5 65 #[.int .i64 v.k, .int .i64 0, .string ⟨#[]⟩] := H11.blk 0 rfl
  obtain ⟨a0, a1, a2⟩ := B1.c3
  obtain ⟨d0, d1, d2⟩ := B5.c3
  have hx := H11.ext
  have key : ∀ (b : Bool) w', Ext w w' → (b = true ↔ v.Ok) → Ending.returned (Value.bool b) = Ending.returned (Value.bool v.right) ∧ Ext w w' := by
    intro b w' hx hb
    refine ⟨?_, hx⟩
    have : b = v.right := by unfold Val.right; rw [Bool.eq_iff_iff, hb]; simp
    rw [this]
  refine ⟨_, a0, fun hk => ?_, fun hk0 => ⟨fun hk => ?_, fun hk1 => ⟨fun hk => ?_, fun hk2 => ⟨fun hk => ?_, fun hk3 => ?_⟩⟩⟩⟩
  · refine ⟨_, a0, fun _ => ⟨_, a0, fun _ => ⟨_, a0, _, a1, _, a2, _, d0, _, d1, _, d2, fun he => ⟨_, a2, key _ _ hx ?_⟩, fun he => key _ _ hx ?_⟩, fun _ => by omega⟩, fun _ => by omega⟩
    · unfold Val.Ok; rw [he.2.2]; simp [hk, he.2.1, nil_size]
    · unfold Val.Ok; constructor
      · intro h; cases h
      · intro h; rcases h with h | h | h | h
        · rcases he with e | e | e
          · exact absurd rfl e
          · exact absurd h.2.1 e
          · exact absurd h.2.2 e
        · omega
        · omega
        · omega
  · refine ⟨_, a1, ⟨_, d1⟩, B5.frozen _, fun w34 h34 => ?_⟩
    have H34 := H11.put 0 rfl h34
    have B1' : Blk w34 b1 65 #[.int .i64 v.k, .int .i64 v.n, .string v.s] := H34.blk 1 rfl
    have B5' : Blk w34 b5 65 #[.int .i64 v.k, .int .i64 v.n, .string ⟨#[]⟩] := H34.blk 0 rfl
    obtain ⟨a0, a1, a2⟩ := B1'.c3
    obtain ⟨d0, d1, d2⟩ := B5'.c3
    refine ⟨_, a0, fun _ => ⟨_, a0, fun _ => ⟨_, a0, _, a1, _, a2, _, d0, _, d1, _, d2, fun he => ⟨_, a2, key _ _ H34.ext ?_⟩, fun he => key _ _ H34.ext ?_⟩, fun _ => by omega⟩, fun _ => by omega⟩
    · unfold Val.Ok; rw [he.2.2]; simp [hk, nil_size]
    · unfold Val.Ok; constructor
      · intro h; cases h
      · intro h; rcases h with h | h | h | h
        · omega
        · rcases he with e | e | e
          · exact absurd rfl e
          · exact absurd rfl e
          · exact absurd h.2 e
        · omega
        · omega
  · refine ⟨_, a1, ⟨_, d1⟩, B5.frozen _, fun w34 h34 => ?_⟩
    have H34 := H11.put 0 rfl h34
    have B1' : Blk w34 b1 65 #[.int .i64 v.k, .int .i64 v.n, .string v.s] := H34.blk 1 rfl
    have B5' : Blk w34 b5 65 #[.int .i64 v.k, .int .i64 (bits .and .i64 v.n 1), .string ⟨#[]⟩] := H34.blk 0 rfl
    rw [and1_i64] at B5'
    obtain ⟨a0, a1, a2⟩ := B1'.c3
    obtain ⟨d0, d1, d2⟩ := B5'.c3
    refine ⟨_, a0, fun _ => ⟨_, a0, fun _ => ⟨_, a0, _, a1, _, a2, _, d0, _, d1, _, d2, fun he => ⟨_, a2, key _ _ H34.ext ?_⟩, fun he => key _ _ H34.ext ?_⟩, fun _ => by omega⟩, fun _ => by omega⟩
    · unfold Val.Ok
      have : v.n = 0 ∨ v.n = 1 := by omega
      rw [he.2.2]; simp [hk, this, nil_size]
    · unfold Val.Ok; constructor
      · intro h; cases h
      · intro h; rcases h with h | h | h | h
        · omega
        · omega
        · rcases he with e | e | e
          · exact absurd rfl e
          · omega
          · exact absurd h.2.2 e
        · omega
  · refine ⟨_, a2, ⟨_, d2⟩, B5.frozen _, fun w34 h34 => ?_⟩
    have H34 := H11.put 0 rfl h34
    have B1' : Blk w34 b1 65 #[.int .i64 v.k, .int .i64 v.n, .string v.s] := H34.blk 1 rfl
    have B5' : Blk w34 b5 65 #[.int .i64 v.k, .int .i64 0, .string v.s] := H34.blk 0 rfl
    obtain ⟨a0, a1, a2⟩ := B1'.c3
    obtain ⟨d0, d1, d2⟩ := B5'.c3
    refine ⟨_, a0, fun _ => ⟨_, a0, fun _ => ⟨_, a0, _, a1, _, a2, _, d0, _, d1, _, d2, fun he => ⟨_, a2, key _ _ H34.ext ?_⟩, fun he => key _ _ H34.ext ?_⟩, fun _ => by omega⟩, fun _ => by omega⟩
    · unfold Val.Ok; simp only [decide_eq_true_eq]
      constructor
      · intro h; exact .inr (.inr (.inr ⟨hk, he.2.1, by omega⟩))
      · intro h; rcases h with h | h | h | h <;> omega
    · unfold Val.Ok; constructor
      · intro h; cases h
      · intro h; rcases h with h | h | h | h
        · omega
        · omega
        · omega
        · rcases he with e | e | e
          · exact absurd rfl e
          · exact absurd h.2.1 e
          · exact absurd rfl e
  · have no : ¬ v.Ok := by unfold Val.Ok; omega
    refine ⟨_, a0, fun _ => ⟨_, a0, fun _ => ⟨_, a0, _, a1, _, a2, _, d0, _, d1, _, d2, fun he => by omega, fun he => key _ _ hx (by simp [no])⟩, fun _ => key _ _ hx (by simp [no])⟩, fun _ => key _ _ hx (by simp [no])⟩

end Go.Proofs.YtiojkfckaalooaaDoor

/- The verification conditions of the functions, evaluated: printed by program. -/
namespace Go.Proofs.YtiojkfckaalooaaDoor
open Go Go.Vc
set_option maxRecDepth 20000

set_option maxRecDepth 100000 in
def vlay_T (b_p : Option Addr) (b_n : Nat) (b_c : Nat) (v0 : Int) (v1 : Int) (v2 : ByteArray) (w : World) (R : Ending → World → Prop) : Prop :=
  ∀ b1 w'2, New w (Obj.cells #[.int .i64 v0, .int .i64 v1, .string v2] 65) b1 w'2 → ∃ n4, w'2.cell? ⟨b1, 0, none⟩ = some (.int .i64 n4) ∧ ∃ n5, w'2.cell? ⟨b1, 1, none⟩ = some (.int .i64 n5) ∧ ∃ s6, w'2.cell? ⟨b1, 2, none⟩ = some (.string s6) ∧ Calls Tryd.prog 62 #[.agg #[.int .i64 n4, .int .i64 n5, .string s6]] w'2 fun e7 w8 ↦
 ∃ b9, e7 = .returned (.bool b9) ∧ (b9 = false → R (.returned (.tuple #[.slice none 0 0, .int .i64 2])) w8) ∧ (b9 = true → ∃ n12, w8.cell? ⟨b1, 0, none⟩ = some (.int .i64 n12) ∧ ∀ b13 w'14, New w8 (Obj.cells #[.int .u8 (IntKind.u8.wrap n12)] 5) b13 w'14 → ∀ b16 w'17, New w'14 (Obj.cells #[.slice b_p b_n b_c, .slice (some ⟨b13, 0, none⟩) 1 1] 28) b16 w'17 → Calls Tryd.prog 49 #[.slice (some ⟨b16, 0, none⟩) 2 2] w'17 fun e19 w20 ↦
 ∃ p21 n22 c23, e19 = .returned (.slice p21 n22 c23) ∧ ∃ n24, w20.cell? ⟨b1, 0, none⟩ = some (.int .i64 n24) ∧ (n24 = 1 → ∃ n26, w20.cell? ⟨b1, 1, none⟩ = some (.int .i64 n26) ∧ Calls Tryd.prog 72 #[.slice p21 n22 c23, .int .i64 n26] w20 fun e27 w28 ↦
 ∃ p29 n30 c31, e27 = .returned (.slice p29 n30 c31) ∧ R (.returned (.tuple #[.slice p29 n30 c31, .int .i64 0])) w28) ∧ (n24 ≠ 1 → (n24 = 2 → ∃ n34, w20.cell? ⟨b1, 1, none⟩ = some (.int .i64 n34) ∧ ∀ b35 w'36, New w20 (Obj.cells #[.int .u8 (IntKind.u8.wrap n34)] 5) b35 w'36 → ∃ p38 n39 c40, ∃ (w'41 : World), Sem.run Tryd.prog (Builtin.append_ #[28, 28] 28 #[.slice p21 n22 c23, .slice (some ⟨b35, 0, none⟩) 1 1]) w'36 = Result.ok (.slice p38 n39 c40) w'41 ∧ R (.returned (.tuple #[.slice p38 n39 c40, .int .i64 0])) w'41) ∧ (n24 ≠ 2 → (n24 = 3 → ∃ s44, w20.cell? ⟨b1, 2, none⟩ = some (.string s44) ∧ Calls Tryd.prog 35 #[.slice p21 n22 c23, .string s44] w20 fun e45 w46 ↦
 ∃ p47 n48 c49, ∃ n50, e45 = .returned (.tuple #[.slice p47 n48 c49, .int .i64 n50]) ∧ R (.returned (.tuple #[.slice p47 n48 c49, .int .i64 n50])) w46) ∧ (n24 ≠ 3 → R (.returned (.tuple #[.slice p21 n22 c23, .int .i64 0])) w20))))

set_option maxRecDepth 100000 in
theorem vlay_eq (b_p : Option Addr) (b_n : Nat) (b_c : Nat) (v0 : Int) (v1 : Int) (v2 : ByteArray) (w : World) (R : Ending → World → Prop) : vlay_T b_p b_n b_c v0 v1 v2 w R = vcFn Tryd.prog [] [] Tryd.f48 [.slice b_p b_n b_c, .agg #[.int .i64 v0, .int .i64 v1, .string v2]] w R := by kernel_rfl

set_option maxRecDepth 100000 in
theorem vlay_vc (b_p : Option Addr) (b_n : Nat) (b_c : Nat) (v0 : Int) (v1 : Int) (v2 : ByteArray) (w : World) (R : Ending → World → Prop) (hvc : vlay_T b_p b_n b_c v0 v1 v2 w R) : Calls Tryd.prog 48 #[.slice b_p b_n b_c, .agg #[.int .i64 v0, .int .i64 v1, .string v2]] w R :=
  calls_of_vc (args := [.slice b_p b_n b_c, .agg #[.int .i64 v0, .int .i64 v1, .string v2]]) [] [] Tryd.mixed Tryd.func48 (cast (vlay_eq _ _ _ _ _ _ w R) hvc)

set_option maxRecDepth 100000 in
def vtake_T (b_p : Option Addr) (b_n : Nat) (b_c : Nat) (at_ : Int) (w : World) (R : Ending → World → Prop) : Prop :=
  ∀ b1 w'2, New w (Obj.cells #[.int .i64 0, .int .i64 0, .string ⟨#[]⟩] 65) b1 w'2 → (at_ < 0 ∨ (↑b_n : Int) ≤ at_ → (∃ u5, w'2.cell? ⟨b1, 0, none⟩ = some u5) ∧ w'2.frozen? ⟨b1, 0, none⟩ = false ∧ (∃ u6, w'2.cell? ⟨b1, 1, none⟩ = some u6) ∧ w'2.frozen? ⟨b1, 1, none⟩ = false ∧ (∃ u7, w'2.cell? ⟨b1, 2, none⟩ = some u7) ∧ w'2.frozen? ⟨b1, 2, none⟩ = false ∧ ∀ w'8, Put w'2 b1 0 [.int .i64 0, .int .i64 0, .string ⟨#[]⟩] w'8 → ∃ n10, w'8.cell? ⟨b1, 0, none⟩ = some (.int .i64 n10) ∧ ∃ n11, w'8.cell? ⟨b1, 1, none⟩ = some (.int .i64 n11) ∧ ∃ s12, w'8.cell? ⟨b1, 2, none⟩ = some (.string s12) ∧ R
 (.returned (.tuple #[.agg #[.int .i64 n10, .int .i64 n11, .string s12], .int .i64 0, .int .i64 20]))
 w'8) ∧ (0 ≤ at_ ∧ at_ < (↑b_n : Int) → ∃ b14, ∃ o15, b_p = some ⟨b14, o15, none⟩ ∧ 0 ≤ at_ ∧ at_ < (↑b_n : Int) ∧ ∃ n16, w'2.cell? ⟨b14, (o15 + at_.toNat), none⟩ = some (.int .u8 n16) ∧ ∀ b17 w'18, New w'2 (Obj.cells #[.int .i64 0, .int .i64 0, .string ⟨#[]⟩] 65) b17 w'18 → (∃ u20, w'18.cell? ⟨b17, 0, none⟩ = some u20) ∧ w'18.frozen? ⟨b17, 0, none⟩ = false ∧ (∃ u21, w'18.cell? ⟨b17, 1, none⟩ = some u21) ∧ w'18.frozen? ⟨b17, 1, none⟩ = false ∧ (∃ u22, w'18.cell? ⟨b17, 2, none⟩ = some u22) ∧ w'18.frozen? ⟨b17, 2, none⟩ = false ∧ ∀ w'23, Put w'18 b17 0 [.int .i64 (IntKind.i64.wrap n16), .int .i64 0, .string ⟨#[]⟩] w'23 → ∃ n25, w'23.cell? ⟨b17, 0, none⟩ = some (.int .i64 n25) ∧ (n25 = 0 → ((0 : Int) ≠ 0 → (∃ u28, w'23.cell? ⟨b1, 0, none⟩ = some u28) ∧ w'23.frozen? ⟨b1, 0, none⟩ = false ∧ (∃ u29, w'23.cell? ⟨b1, 1, none⟩ = some u29) ∧ w'23.frozen? ⟨b1, 1, none⟩ = false ∧ (∃ u30, w'23.cell? ⟨b1, 2, none⟩ = some u30) ∧ w'23.frozen? ⟨b1, 2, none⟩ = false ∧ ∀ w'31, Put w'23 b1 0 [.int .i64 0, .int .i64 0, .string ⟨#[]⟩] w'31 → ∃ n33, w'31.cell? ⟨b1, 0, none⟩ = some (.int .i64 n33) ∧ ∃ n34, w'31.cell? ⟨b1, 1, none⟩ = some (.int .i64 n34) ∧ ∃ s35, w'31.cell? ⟨b1, 2, none⟩ = some (.string s35) ∧ R
 (.returned (.tuple #[.agg #[.int .i64 n33, .int .i64 n34, .string s35], .int .i64 0, .int .i64 20]))
 w'31) ∧ ((0 : Int) = 0 → ∃ n37, w'23.cell? ⟨b17, 0, none⟩ = some (.int .i64 n37) ∧ ∃ n38, w'23.cell? ⟨b17, 1, none⟩ = some (.int .i64 n38) ∧ ∃ s39, w'23.cell? ⟨b17, 2, none⟩ = some (.string s39) ∧ Calls Tryd.prog 62 #[.agg #[.int .i64 n37, .int .i64 n38, .string s39]] w'23 fun e40 w41 ↦
 ∃ b42, e40 = .returned (.bool b42) ∧ (b42 = false → (∃ u44, w41.cell? ⟨b1, 0, none⟩ = some u44) ∧ w41.frozen? ⟨b1, 0, none⟩ = false ∧ (∃ u45, w41.cell? ⟨b1, 1, none⟩ = some u45) ∧ w41.frozen? ⟨b1, 1, none⟩ = false ∧ (∃ u46, w41.cell? ⟨b1, 2, none⟩ = some u46) ∧ w41.frozen? ⟨b1, 2, none⟩ = false ∧ ∀ w'47, Put w41 b1 0 [.int .i64 0, .int .i64 0, .string ⟨#[]⟩] w'47 → ∃ n49, w'47.cell? ⟨b1, 0, none⟩ = some (.int .i64 n49) ∧ ∃ n50, w'47.cell? ⟨b1, 1, none⟩ = some (.int .i64 n50) ∧ ∃ s51, w'47.cell? ⟨b1, 2, none⟩ = some (.string s51) ∧ R
 (.returned (.tuple #[.agg #[.int .i64 n49, .int .i64 n50, .string s51], .int .i64 0, .int .i64 20]))
 w'47) ∧ (b42 = true → ∃ n53, w41.cell? ⟨b17, 0, none⟩ = some (.int .i64 n53) ∧ ∃ n54, w41.cell? ⟨b17, 1, none⟩ = some (.int .i64 n54) ∧ ∃ s55, w41.cell? ⟨b17, 2, none⟩ = some (.string s55) ∧ (∃ u56, w41.cell? ⟨b1, 0, none⟩ = some u56) ∧ w41.frozen? ⟨b1, 0, none⟩ = false ∧ (∃ u57, w41.cell? ⟨b1, 1, none⟩ = some u57) ∧ w41.frozen? ⟨b1, 1, none⟩ = false ∧ (∃ u58, w41.cell? ⟨b1, 2, none⟩ = some u58) ∧ w41.frozen? ⟨b1, 2, none⟩ = false ∧ ∀ w'59, Put w41 b1 0 [.int .i64 n53, .int .i64 n54, .string s55] w'59 → ∃ n61, w'59.cell? ⟨b1, 0, none⟩ = some (.int .i64 n61) ∧ ∃ n62, w'59.cell? ⟨b1, 1, none⟩ = some (.int .i64 n62) ∧ ∃ s63, w'59.cell? ⟨b1, 2, none⟩ = some (.string s63) ∧ R
 (.returned
 (Value.tuple
 #[.agg #[.int .i64 n61, .int .i64 n62, .string s63], .int .i64 (IntKind.i64.wrap (at_ + 1)), .int .i64 0]))
 w'59))) ∧ (n25 ≠ 0 → (n25 = 1 → Calls Tryd.prog 75 #[.slice b_p b_n b_c, .int .i64 (IntKind.i64.wrap (at_ + 1))] w'23 fun e66 w67 ↦
 ∃ n68, ∃ n69, ∃ n70, e66 = .returned (.tuple #[.int .i64 n68, .int .i64 n69, .int .i64 n70]) ∧ (∃ u71, w67.cell? ⟨b17, 1, none⟩ = some u71) ∧ w67.frozen? ⟨b17, 1, none⟩ = false ∧ ∀ w'72, Put w67 b17 1 [.int .i64 n68] w'72 → (n70 ≠ 0 → (∃ u75, w'72.cell? ⟨b1, 0, none⟩ = some u75) ∧ w'72.frozen? ⟨b1, 0, none⟩ = false ∧ (∃ u76, w'72.cell? ⟨b1, 1, none⟩ = some u76) ∧ w'72.frozen? ⟨b1, 1, none⟩ = false ∧ (∃ u77, w'72.cell? ⟨b1, 2, none⟩ = some u77) ∧ w'72.frozen? ⟨b1, 2, none⟩ = false ∧ ∀ w'78, Put w'72 b1 0 [.int .i64 0, .int .i64 0, .string ⟨#[]⟩] w'78 → ∃ n80, w'78.cell? ⟨b1, 0, none⟩ = some (.int .i64 n80) ∧ ∃ n81, w'78.cell? ⟨b1, 1, none⟩ = some (.int .i64 n81) ∧ ∃ s82, w'78.cell? ⟨b1, 2, none⟩ = some (.string s82) ∧ R
 (.returned (.tuple #[.agg #[.int .i64 n80, .int .i64 n81, .string s82], .int .i64 0, .int .i64 20]))
 w'78) ∧ (n70 = 0 → ∃ n84, w'72.cell? ⟨b17, 0, none⟩ = some (.int .i64 n84) ∧ ∃ n85, w'72.cell? ⟨b17, 1, none⟩ = some (.int .i64 n85) ∧ ∃ s86, w'72.cell? ⟨b17, 2, none⟩ = some (.string s86) ∧ Calls Tryd.prog 62 #[.agg #[.int .i64 n84, .int .i64 n85, .string s86]] w'72 fun e87 w88 ↦
 ∃ b89, e87 = .returned (.bool b89) ∧ (b89 = false → (∃ u91, w88.cell? ⟨b1, 0, none⟩ = some u91) ∧ w88.frozen? ⟨b1, 0, none⟩ = false ∧ (∃ u92, w88.cell? ⟨b1, 1, none⟩ = some u92) ∧ w88.frozen? ⟨b1, 1, none⟩ = false ∧ (∃ u93, w88.cell? ⟨b1, 2, none⟩ = some u93) ∧ w88.frozen? ⟨b1, 2, none⟩ = false ∧ ∀ w'94, Put w88 b1 0 [.int .i64 0, .int .i64 0, .string ⟨#[]⟩] w'94 → ∃ n96, w'94.cell? ⟨b1, 0, none⟩ = some (.int .i64 n96) ∧ ∃ n97, w'94.cell? ⟨b1, 1, none⟩ = some (.int .i64 n97) ∧ ∃ s98, w'94.cell? ⟨b1, 2, none⟩ = some (.string s98) ∧ R
 (.returned (.tuple #[.agg #[.int .i64 n96, .int .i64 n97, .string s98], .int .i64 0, .int .i64 20]))
 w'94) ∧ (b89 = true → ∃ n100, w88.cell? ⟨b17, 0, none⟩ = some (.int .i64 n100) ∧ ∃ n101, w88.cell? ⟨b17, 1, none⟩ = some (.int .i64 n101) ∧ ∃ s102, w88.cell? ⟨b17, 2, none⟩ = some (.string s102) ∧ (∃ u103, w88.cell? ⟨b1, 0, none⟩ = some u103) ∧ w88.frozen? ⟨b1, 0, none⟩ = false ∧ (∃ u104, w88.cell? ⟨b1, 1, none⟩ = some u104) ∧ w88.frozen? ⟨b1, 1, none⟩ = false ∧ (∃ u105, w88.cell? ⟨b1, 2, none⟩ = some u105) ∧ w88.frozen? ⟨b1, 2, none⟩ = false ∧ ∀ w'106, Put w88 b1 0 [.int .i64 n100, .int .i64 n101, .string s102] w'106 → ∃ n108, w'106.cell? ⟨b1, 0, none⟩ = some (.int .i64 n108) ∧ ∃ n109, w'106.cell? ⟨b1, 1, none⟩ = some (.int .i64 n109) ∧ ∃ s110, w'106.cell? ⟨b1, 2, none⟩ = some (.string s110) ∧ R
 (.returned
 (.tuple #[.agg #[.int .i64 n108, .int .i64 n109, .string s110], .int .i64 n69, .int .i64 0]))
 w'106))) ∧ (n25 ≠ 1 → (n25 = 2 → Calls Tryd.prog 39 #[.slice b_p b_n b_c, .int .i64 (IntKind.i64.wrap (at_ + 1))] w'23 fun e113 w114 ↦
 ∃ n115, ∃ n116, ∃ n117, e113 = .returned (.tuple #[.int .u64 n115, .int .i64 n116, .int .i64 n117]) ∧ (∃ u118, w114.cell? ⟨b17, 1, none⟩ = some u118) ∧ w114.frozen? ⟨b17, 1, none⟩ = false ∧ ∀ w'119, Put w114 b17 1 [.int .i64 (IntKind.i64.wrap n115)] w'119 → (n117 ≠ 0 → (∃ u122, w'119.cell? ⟨b1, 0, none⟩ = some u122) ∧ w'119.frozen? ⟨b1, 0, none⟩ = false ∧ (∃ u123, w'119.cell? ⟨b1, 1, none⟩ = some u123) ∧ w'119.frozen? ⟨b1, 1, none⟩ = false ∧ (∃ u124, w'119.cell? ⟨b1, 2, none⟩ = some u124) ∧ w'119.frozen? ⟨b1, 2, none⟩ = false ∧ ∀ w'125, Put w'119 b1 0 [.int .i64 0, .int .i64 0, .string ⟨#[]⟩] w'125 → ∃ n127, w'125.cell? ⟨b1, 0, none⟩ = some (.int .i64 n127) ∧ ∃ n128, w'125.cell? ⟨b1, 1, none⟩ = some (.int .i64 n128) ∧ ∃ s129, w'125.cell? ⟨b1, 2, none⟩ = some (.string s129) ∧ R
 (.returned
 (.tuple #[.agg #[.int .i64 n127, .int .i64 n128, .string s129], .int .i64 0, .int .i64 20]))
 w'125) ∧ (n117 = 0 → ∃ n131, w'119.cell? ⟨b17, 0, none⟩ = some (.int .i64 n131) ∧ ∃ n132, w'119.cell? ⟨b17, 1, none⟩ = some (.int .i64 n132) ∧ ∃ s133, w'119.cell? ⟨b17, 2, none⟩ = some (.string s133) ∧ Calls Tryd.prog 62 #[.agg #[.int .i64 n131, .int .i64 n132, .string s133]] w'119 fun e134 w135 ↦
 ∃ b136, e134 = .returned (.bool b136) ∧ (b136 = false → (∃ u138, w135.cell? ⟨b1, 0, none⟩ = some u138) ∧ w135.frozen? ⟨b1, 0, none⟩ = false ∧ (∃ u139, w135.cell? ⟨b1, 1, none⟩ = some u139) ∧ w135.frozen? ⟨b1, 1, none⟩ = false ∧ (∃ u140, w135.cell? ⟨b1, 2, none⟩ = some u140) ∧ w135.frozen? ⟨b1, 2, none⟩ = false ∧ ∀ w'141, Put w135 b1 0 [.int .i64 0, .int .i64 0, .string ⟨#[]⟩] w'141 → ∃ n143, w'141.cell? ⟨b1, 0, none⟩ = some (.int .i64 n143) ∧ ∃ n144, w'141.cell? ⟨b1, 1, none⟩ = some (.int .i64 n144) ∧ ∃ s145, w'141.cell? ⟨b1, 2, none⟩ = some (.string s145) ∧ R
 (.returned
 (.tuple #[.agg #[.int .i64 n143, .int .i64 n144, .string s145], .int .i64 0, .int .i64 20]))
 w'141) ∧ (b136 = true → ∃ n147, w135.cell? ⟨b17, 0, none⟩ = some (.int .i64 n147) ∧ ∃ n148, w135.cell? ⟨b17, 1, none⟩ = some (.int .i64 n148) ∧ ∃ s149, w135.cell? ⟨b17, 2, none⟩ = some (.string s149) ∧ (∃ u150, w135.cell? ⟨b1, 0, none⟩ = some u150) ∧ w135.frozen? ⟨b1, 0, none⟩ = false ∧ (∃ u151, w135.cell? ⟨b1, 1, none⟩ = some u151) ∧ w135.frozen? ⟨b1, 1, none⟩ = false ∧ (∃ u152, w135.cell? ⟨b1, 2, none⟩ = some u152) ∧ w135.frozen? ⟨b1, 2, none⟩ = false ∧ ∀ w'153, Put w135 b1 0 [.int .i64 n147, .int .i64 n148, .string s149] w'153 → ∃ n155, w'153.cell? ⟨b1, 0, none⟩ = some (.int .i64 n155) ∧ ∃ n156, w'153.cell? ⟨b1, 1, none⟩ = some (.int .i64 n156) ∧ ∃ s157, w'153.cell? ⟨b1, 2, none⟩ = some (.string s157) ∧ R
 (.returned
 (.tuple #[.agg #[.int .i64 n155, .int .i64 n156, .string s157], .int .i64 n116, .int .i64 0]))
 w'153))) ∧ (n25 ≠ 2 → (n25 = 3 → Calls Tryd.prog 40 #[.slice b_p b_n b_c, .int .i64 (IntKind.i64.wrap (at_ + 1)), .int .i64 1024] w'23 fun e160 w161 ↦
 ∃ s162, ∃ n163, ∃ n164, e160 = .returned (.tuple #[.string s162, .int .i64 n163, .int .i64 n164]) ∧ (∃ u165, w161.cell? ⟨b17, 2, none⟩ = some u165) ∧ w161.frozen? ⟨b17, 2, none⟩ = false ∧ ∀ w'166, Put w161 b17 2 [.string s162] w'166 → (n164 ≠ 0 → (∃ u169, w'166.cell? ⟨b1, 0, none⟩ = some u169) ∧ w'166.frozen? ⟨b1, 0, none⟩ = false ∧ (∃ u170, w'166.cell? ⟨b1, 1, none⟩ = some u170) ∧ w'166.frozen? ⟨b1, 1, none⟩ = false ∧ (∃ u171, w'166.cell? ⟨b1, 2, none⟩ = some u171) ∧ w'166.frozen? ⟨b1, 2, none⟩ = false ∧ ∀ w'172, Put w'166 b1 0 [.int .i64 0, .int .i64 0, .string ⟨#[]⟩] w'172 → ∃ n174, w'172.cell? ⟨b1, 0, none⟩ = some (.int .i64 n174) ∧ ∃ n175, w'172.cell? ⟨b1, 1, none⟩ = some (.int .i64 n175) ∧ ∃ s176, w'172.cell? ⟨b1, 2, none⟩ = some (.string s176) ∧ R
 (.returned
 (.tuple #[.agg #[.int .i64 n174, .int .i64 n175, .string s176], .int .i64 0, .int .i64 20]))
 w'172) ∧ (n164 = 0 → ∃ n178, w'166.cell? ⟨b17, 0, none⟩ = some (.int .i64 n178) ∧ ∃ n179, w'166.cell? ⟨b17, 1, none⟩ = some (.int .i64 n179) ∧ ∃ s180, w'166.cell? ⟨b17, 2, none⟩ = some (.string s180) ∧ Calls Tryd.prog 62 #[.agg #[.int .i64 n178, .int .i64 n179, .string s180]] w'166 fun e181 w182 ↦
 ∃ b183, e181 = .returned (.bool b183) ∧ (b183 = false → (∃ u185, w182.cell? ⟨b1, 0, none⟩ = some u185) ∧ w182.frozen? ⟨b1, 0, none⟩ = false ∧ (∃ u186, w182.cell? ⟨b1, 1, none⟩ = some u186) ∧ w182.frozen? ⟨b1, 1, none⟩ = false ∧ (∃ u187, w182.cell? ⟨b1, 2, none⟩ = some u187) ∧ w182.frozen? ⟨b1, 2, none⟩ = false ∧ ∀ w'188, Put w182 b1 0 [.int .i64 0, .int .i64 0, .string ⟨#[]⟩] w'188 → ∃ n190, w'188.cell? ⟨b1, 0, none⟩ = some (.int .i64 n190) ∧ ∃ n191, w'188.cell? ⟨b1, 1, none⟩ = some (.int .i64 n191) ∧ ∃ s192, w'188.cell? ⟨b1, 2, none⟩ = some (.string s192) ∧ R
 (.returned
 (.tuple #[.agg #[.int .i64 n190, .int .i64 n191, .string s192], .int .i64 0, .int .i64 20]))
 w'188) ∧ (b183 = true → ∃ n194, w182.cell? ⟨b17, 0, none⟩ = some (.int .i64 n194) ∧ ∃ n195, w182.cell? ⟨b17, 1, none⟩ = some (.int .i64 n195) ∧ ∃ s196, w182.cell? ⟨b17, 2, none⟩ = some (.string s196) ∧ (∃ u197, w182.cell? ⟨b1, 0, none⟩ = some u197) ∧ w182.frozen? ⟨b1, 0, none⟩ = false ∧ (∃ u198, w182.cell? ⟨b1, 1, none⟩ = some u198) ∧ w182.frozen? ⟨b1, 1, none⟩ = false ∧ (∃ u199, w182.cell? ⟨b1, 2, none⟩ = some u199) ∧ w182.frozen? ⟨b1, 2, none⟩ = false ∧ ∀ w'200, Put w182 b1 0 [.int .i64 n194, .int .i64 n195, .string s196] w'200 → ∃ n202, w'200.cell? ⟨b1, 0, none⟩ = some (.int .i64 n202) ∧ ∃ n203, w'200.cell? ⟨b1, 1, none⟩ = some (.int .i64 n203) ∧ ∃ s204, w'200.cell? ⟨b1, 2, none⟩ = some (.string s204) ∧ R
 (.returned
 (.tuple #[.agg #[.int .i64 n202, .int .i64 n203, .string s204], .int .i64 n163, .int .i64 0]))
 w'200))) ∧ (n25 ≠ 3 → ((0 : Int) ≠ 0 → (∃ u207, w'23.cell? ⟨b1, 0, none⟩ = some u207) ∧ w'23.frozen? ⟨b1, 0, none⟩ = false ∧ (∃ u208, w'23.cell? ⟨b1, 1, none⟩ = some u208) ∧ w'23.frozen? ⟨b1, 1, none⟩ = false ∧ (∃ u209, w'23.cell? ⟨b1, 2, none⟩ = some u209) ∧ w'23.frozen? ⟨b1, 2, none⟩ = false ∧ ∀ w'210, Put w'23 b1 0 [.int .i64 0, .int .i64 0, .string ⟨#[]⟩] w'210 → ∃ n212, w'210.cell? ⟨b1, 0, none⟩ = some (.int .i64 n212) ∧ ∃ n213, w'210.cell? ⟨b1, 1, none⟩ = some (.int .i64 n213) ∧ ∃ s214, w'210.cell? ⟨b1, 2, none⟩ = some (.string s214) ∧ R
 (.returned
 (.tuple #[.agg #[.int .i64 n212, .int .i64 n213, .string s214], .int .i64 0, .int .i64 20]))
 w'210) ∧ ((0 : Int) = 0 → ∃ n216, w'23.cell? ⟨b17, 0, none⟩ = some (.int .i64 n216) ∧ ∃ n217, w'23.cell? ⟨b17, 1, none⟩ = some (.int .i64 n217) ∧ ∃ s218, w'23.cell? ⟨b17, 2, none⟩ = some (.string s218) ∧ Calls Tryd.prog 62 #[.agg #[.int .i64 n216, .int .i64 n217, .string s218]] w'23 fun e219 w220 ↦
 ∃ b221, e219 = .returned (.bool b221) ∧ (b221 = false → (∃ u223, w220.cell? ⟨b1, 0, none⟩ = some u223) ∧ w220.frozen? ⟨b1, 0, none⟩ = false ∧ (∃ u224, w220.cell? ⟨b1, 1, none⟩ = some u224) ∧ w220.frozen? ⟨b1, 1, none⟩ = false ∧ (∃ u225, w220.cell? ⟨b1, 2, none⟩ = some u225) ∧ w220.frozen? ⟨b1, 2, none⟩ = false ∧ ∀ w'226, Put w220 b1 0 [.int .i64 0, .int .i64 0, .string ⟨#[]⟩] w'226 → ∃ n228, w'226.cell? ⟨b1, 0, none⟩ = some (.int .i64 n228) ∧ ∃ n229, w'226.cell? ⟨b1, 1, none⟩ = some (.int .i64 n229) ∧ ∃ s230, w'226.cell? ⟨b1, 2, none⟩ = some (.string s230) ∧ R
 (.returned
 (.tuple #[.agg #[.int .i64 n228, .int .i64 n229, .string s230], .int .i64 0, .int .i64 20]))
 w'226) ∧ (b221 = true → ∃ n232, w220.cell? ⟨b17, 0, none⟩ = some (.int .i64 n232) ∧ ∃ n233, w220.cell? ⟨b17, 1, none⟩ = some (.int .i64 n233) ∧ ∃ s234, w220.cell? ⟨b17, 2, none⟩ = some (.string s234) ∧ (∃ u235, w220.cell? ⟨b1, 0, none⟩ = some u235) ∧ w220.frozen? ⟨b1, 0, none⟩ = false ∧ (∃ u236, w220.cell? ⟨b1, 1, none⟩ = some u236) ∧ w220.frozen? ⟨b1, 1, none⟩ = false ∧ (∃ u237, w220.cell? ⟨b1, 2, none⟩ = some u237) ∧ w220.frozen? ⟨b1, 2, none⟩ = false ∧ ∀ w'238, Put w220 b1 0 [.int .i64 n232, .int .i64 n233, .string s234] w'238 → ∃ n240, w'238.cell? ⟨b1, 0, none⟩ = some (.int .i64 n240) ∧ ∃ n241, w'238.cell? ⟨b1, 1, none⟩ = some (.int .i64 n241) ∧ ∃ s242, w'238.cell? ⟨b1, 2, none⟩ = some (.string s242) ∧ R
 (.returned
 (Value.tuple
 #[.agg #[.int .i64 n240, .int .i64 n241, .string s242], .int .i64 (IntKind.i64.wrap (at_ + 1)), .int .i64 0]))
 w'238)))))))

set_option maxRecDepth 100000 in
theorem vtake_eq (b_p : Option Addr) (b_n : Nat) (b_c : Nat) (at_ : Int) (w : World) (R : Ending → World → Prop) : vtake_T b_p b_n b_c at_ w R = vcFn Tryd.prog [] [] Tryd.f51 [.slice b_p b_n b_c, .int .i64 at_] w R := by kernel_rfl

set_option maxRecDepth 100000 in
theorem vtake_vc (b_p : Option Addr) (b_n : Nat) (b_c : Nat) (at_ : Int) (w : World) (R : Ending → World → Prop) (hvc : vtake_T b_p b_n b_c at_ w R) : Calls Tryd.prog 51 #[.slice b_p b_n b_c, .int .i64 at_] w R :=
  calls_of_vc (args := [.slice b_p b_n b_c, .int .i64 at_]) [] [] Tryd.mixed Tryd.func51 (cast (vtake_eq _ _ _ _ w R) hvc)

set_option maxRecDepth 100000 in
def sflag_T (b : Bool) (w : World) (R : Ending → World → Prop) : Prop :=
  (b = true → R (.returned (.int .u8 1)) w) ∧ (b = false → R (.returned (.int .u8 0)) w)

set_option maxRecDepth 100000 in
theorem sflag_eq (b : Bool) (w : World) (R : Ending → World → Prop) : sflag_T b w R = vcFn Tryd.prog [] [] Tryd.f36 [.bool b] w R := by kernel_rfl

set_option maxRecDepth 100000 in
theorem sflag_vc (b : Bool) (w : World) (R : Ending → World → Prop) (hvc : sflag_T b w R) : Calls Tryd.prog 36 #[.bool b] w R :=
  calls_of_vc (args := [.bool b]) [] [] Tryd.mixed Tryd.func36 (cast (sflag_eq _ w R) hvc)

set_option maxRecDepth 100000 in
def slay_T (b_p : Option Addr) (b_n : Nat) (b_c : Nat) (cols_p : Option Addr) (cols_n : Nat) (cols_c : Nat) (w : World) (R : Ending → World → Prop) : Prop :=
  Calls Tryd.prog 11 #[.slice cols_p cols_n cols_c] w fun e1 w2 ↦
 ∃ b3, e1 = .returned (.bool b3) ∧ (b3 = false → R (.returned (.tuple #[.slice none 0 0, .int .i64 50])) w2) ∧ (b3 = true → Calls Tryd.prog 34 #[.slice b_p b_n b_c, .int .u64 (IntKind.u64.wrap (↑cols_n : Int))] w2 fun e6 w7 ↦
 ∃ p8 n9 c10, e6 = .returned (.slice p8 n9 c10) ∧ ∃ (I11 : Option Addr → Nat → Nat → Int → World → Prop), ∃ (M12 : Option Addr → Nat → Nat → Int → World → Nat), I11 p8 n9 c10 0 w7 ∧ ∀ (p13 : Option Addr) (n14 c15 : Nat) (n16 : Int) (w'17 : World), I11 p13 n14 c15 n16 w'17 → (n16 < (↑cols_n : Int) → ∃ b20, ∃ o21, cols_p = some ⟨b20, o21, none⟩ ∧ 0 ≤ n16 ∧ n16 < (↑cols_n : Int) ∧ ∃ s22, w'17.cell? ⟨b20, (o21 + n16.toNat * 3), none⟩ = some (.string s22) ∧ ∃ n23, w'17.cell? ⟨b20, (o21 + n16.toNat * 3 + 1), none⟩ = some (.int .i64 n23) ∧ ∃ b24, w'17.cell? ⟨b20, (o21 + n16.toNat * 3 + 2), none⟩ = some (.bool b24) ∧ ∀ b25 w'26, New w'17 (Obj.cells #[.string ⟨#[]⟩, .int .i64 0, .bool false] 53) b25 w'26 → (∃ u28, w'26.cell? ⟨b25, 0, none⟩ = some u28) ∧ w'26.frozen? ⟨b25, 0, none⟩ = false ∧ (∃ u29, w'26.cell? ⟨b25, 1, none⟩ = some u29) ∧ w'26.frozen? ⟨b25, 1, none⟩ = false ∧ (∃ u30, w'26.cell? ⟨b25, 2, none⟩ = some u30) ∧ w'26.frozen? ⟨b25, 2, none⟩ = false ∧ ∀ w'31, Put w'26 b25 0 [.string s22, .int .i64 n23, .bool b24] w'31 → ∃ s33, w'31.cell? ⟨b25, 0, none⟩ = some (.string s33) ∧ Calls Tryd.prog 35 #[.slice p13 n14 c15, .string s33] w'31 fun e34 w35 ↦
 ∃ p36 n37 c38, ∃ n39, e34 = .returned (.tuple #[.slice p36 n37 c38, .int .i64 n39]) ∧ ∀ w'40, Drew w35 w'40 → ∃ n42, w'40.cell? ⟨b25, 1, none⟩ = some (.int .i64 n42) ∧ ∃ b43, w'40.cell? ⟨b25, 2, none⟩ = some (.bool b43) ∧ Calls Tryd.prog 36 #[.bool b43] w'40 fun e44 w45 ↦
 ∃ n46, e44 = .returned (.int .u8 n46) ∧ SameTo none w'40 w'40 w45 ∧ ∀ b47 w'48, New w45 (Obj.cells #[.int .u8 (IntKind.u8.wrap n42), .int .u8 n46] 5) b47 w'48 → ∃ p50 n51 c52, ∃ (w'53 : World), Sem.run Tryd.prog (Builtin.append_ #[28, 28] 28 #[.slice p36 n37 c38, .slice (some ⟨b47, 0, none⟩) 2 2]) w'48 = Result.ok (.slice p50 n51 c52) w'53 ∧ I11 p50 n51 c52 (IntKind.i64.wrap (n16 + 1)) w'53 ∧ M12 p50 n51 c52 (IntKind.i64.wrap (n16 + 1)) w'53 < M12 p13 n14 c15 n16 w'17) ∧ ((↑cols_n : Int) ≤ n16 → R (.returned (.tuple #[.slice p13 n14 c15, .int .i64 0])) w'17))

set_option maxRecDepth 100000 in
theorem slay_eq (b_p : Option Addr) (b_n : Nat) (b_c : Nat) (cols_p : Option Addr) (cols_n : Nat) (cols_c : Nat) (w : World) (R : Ending → World → Prop) : slay_T b_p b_n b_c cols_p cols_n cols_c w R = vcFn Tryd.prog [] [(8, [2, 4, 6, 8, 10, 12, 15, 16, 18, 20, 0])] Tryd.f13 [.slice b_p b_n b_c, .slice cols_p cols_n cols_c] w R := by kernel_rfl

set_option maxRecDepth 100000 in
theorem slay_vc (b_p : Option Addr) (b_n : Nat) (b_c : Nat) (cols_p : Option Addr) (cols_n : Nat) (cols_c : Nat) (w : World) (R : Ending → World → Prop) (hvc : slay_T b_p b_n b_c cols_p cols_n cols_c w R) : Calls Tryd.prog 13 #[.slice b_p b_n b_c, .slice cols_p cols_n cols_c] w R :=
  calls_of_vc (args := [.slice b_p b_n b_c, .slice cols_p cols_n cols_c]) [] [(8, [2, 4, 6, 8, 10, 12, 15, 16, 18, 20, 0])] Tryd.mixed Tryd.func13 (cast (slay_eq _ _ _ _ _ _ w R) hvc)

set_option maxRecDepth 100000 in
def stake_T (b_p : Option Addr) (b_n : Nat) (b_c : Nat) (at_ : Int) (w : World) (R : Ending → World → Prop) : Prop :=
  Calls Tryd.prog 39 #[.slice b_p b_n b_c, .int .i64 at_] w fun e1 w2 ↦
 ∃ n3, ∃ n4, ∃ n5, e1 = .returned (.tuple #[.int .u64 n3, .int .i64 n4, .int .i64 n5]) ∧ (n5 ≠ 0 ∨ 16 < n3 → R (.returned (.tuple #[.slice none 0 0, .int .i64 0, .int .i64 52])) w2) ∧ (n5 = 0 ∧ n3 ≤ 16 → ∃ (I8 : Option Addr → Nat → Nat → Int → Int → World → Prop), ∃ (M9 : Option Addr → Nat → Nat → Int → Int → World → Nat), I8 none 0 0 n4 0 w2 ∧ ∀ (p10 : Option Addr) (n11 c12 : Nat) (n13 n14 : Int) (w'15 : World), I8 p10 n11 c12 n13 n14 w'15 → (n14 < n3 → Calls Tryd.prog 40 #[.slice b_p b_n b_c, .int .i64 n13, .int .i64 24] w'15 fun e18 w19 ↦
 ∃ s20, ∃ n21, ∃ n22, e18 = .returned (.tuple #[.string s20, .int .i64 n21, .int .i64 n22]) ∧ (n22 ≠ 0 ∨ IntKind.i64.wrap ((↑b_n : Int) - n21) < 2 → R (.returned (.tuple #[.slice none 0 0, .int .i64 0, .int .i64 52])) w19) ∧ (n22 = 0 ∧ 2 ≤ IntKind.i64.wrap ((↑b_n : Int) - n21) → ∃ b25, ∃ o26, b_p = some ⟨b25, o26, none⟩ ∧ 0 ≤ IntKind.i64.wrap (n21 + 1) ∧ IntKind.i64.wrap (n21 + 1) < (↑b_n : Int) ∧ ∃ n27, w19.cell? ⟨b25, (o26 + (IntKind.i64.wrap (n21 + 1)).toNat), none⟩ = some (.int .u8 n27) ∧ (1 < n27 → R (.returned (.tuple #[.slice none 0 0, .int .i64 0, .int .i64 52])) w19) ∧ (n27 ≤ 1 → ∀ w'30, Drew w19 w'30 → ∃ b32, ∃ o33, b_p = some ⟨b32, o33, none⟩ ∧ 0 ≤ n21 ∧ n21 < (↑b_n : Int) ∧ ∃ n34, w'30.cell? ⟨b32, (o33 + n21.toNat), none⟩ = some (.int .u8 n34) ∧ ∃ b35, ∃ o36, b_p = some ⟨b35, o36, none⟩ ∧ 0 ≤ IntKind.i64.wrap (n21 + 1) ∧ IntKind.i64.wrap (n21 + 1) < (↑b_n : Int) ∧ ∃ n37, w'30.cell? ⟨b35, (o36 + (IntKind.i64.wrap (n21 + 1)).toNat), none⟩ = some (.int .u8 n37) ∧ ∀ b38 w'39, New w'30 (Obj.cells #[.string s20, .int .i64 (IntKind.i64.wrap n34), .bool (decide (n37 = Int.ofNat 1))] 53) b38 w'39 → ∃ p41 n42 c43, ∃ (w'44 : World), Sem.run Tryd.prog (Builtin.append_ #[22, 22] 22 #[.slice p10 n11 c12, .slice (some ⟨b38, 0, none⟩) 1 1]) w'39 = Result.ok (.slice p41 n42 c43) w'44 ∧ I8 p41 n42 c43 (IntKind.i64.wrap (n21 + 2)) (IntKind.u64.wrap (n14 + 1)) w'44 ∧ M9 p41 n42 c43 (IntKind.i64.wrap (n21 + 2)) (IntKind.u64.wrap (n14 + 1)) w'44 < M9 p10 n11 c12 n13 n14 w'15))) ∧ (n3 ≤ n14 → Calls Tryd.prog 11 #[.slice p10 n11 c12] w'15 fun e46 w47 ↦
 ∃ b48, e46 = .returned (.bool b48) ∧ (b48 = false → R (.returned (.tuple #[.slice none 0 0, .int .i64 0, .int .i64 52])) w47) ∧ (b48 = true → R (.returned (.tuple #[.slice p10 n11 c12, .int .i64 n13, .int .i64 0])) w47)))

set_option maxRecDepth 100000 in
theorem stake_eq (b_p : Option Addr) (b_n : Nat) (b_c : Nat) (at_ : Int) (w : World) (R : Ending → World → Prop) : stake_T b_p b_n b_c at_ w R = vcFn Tryd.prog [] [(10, [2, 4, 6, 8, 10, 12, 14, 16, 18, 20, 22, 24, 26, 28, 30, 32, 34, 0])] Tryd.f15 [.slice b_p b_n b_c, .int .i64 at_] w R := by kernel_rfl

set_option maxRecDepth 100000 in
theorem stake_vc (b_p : Option Addr) (b_n : Nat) (b_c : Nat) (at_ : Int) (w : World) (R : Ending → World → Prop) (hvc : stake_T b_p b_n b_c at_ w R) : Calls Tryd.prog 15 #[.slice b_p b_n b_c, .int .i64 at_] w R :=
  calls_of_vc (args := [.slice b_p b_n b_c, .int .i64 at_]) [] [(10, [2, 4, 6, 8, 10, 12, 14, 16, 18, 20, 22, 24, 26, 28, 30, 32, 34, 0])] Tryd.mixed Tryd.func15 (cast (stake_eq _ _ _ _ w R) hvc)

set_option maxRecDepth 100000 in
def slayrows_T (b_p : Option Addr) (b_n : Nat) (b_c : Nat) (cols_p : Option Addr) (cols_n : Nat) (cols_c : Nat) (rows_p : Option Addr) (rows_n : Nat) (rows_c : Nat) (w : World) (R : Ending → World → Prop) : Prop :=
  Calls Tryd.prog 11 #[.slice cols_p cols_n cols_c] w fun e1 w2 ↦
 ∃ b3, e1 = .returned (.bool b3) ∧ (b3 = false → R (.returned (.tuple #[.slice none 0 0, .int .i64 50])) w2) ∧ (b3 = true → (1024 < (↑rows_n : Int) → R (.returned (.tuple #[.slice none 0 0, .int .i64 51])) w2) ∧ ((↑rows_n : Int) ≤ 1024 → Calls Tryd.prog 34 #[.slice b_p b_n b_c, .int .u64 (IntKind.u64.wrap (↑rows_n : Int))] w2 fun e8 w9 ↦
 ∃ p10 n11 c12, e8 = .returned (.slice p10 n11 c12) ∧ ∀ b13 w'14, New w9 (Obj.cells #[.slice p10 n11 c12] 28) b13 w'14 → ∃ (I16 : Option Addr → Nat → Nat → Int → World → Prop), ∃ (M17 : Option Addr → Nat → Nat → Int → World → Nat), I16 (some ⟨b13, 0, none⟩) 1 1 0 w'14 ∧ ∀ (p18 : Option Addr) (n19 c20 : Nat) (n21 : Int) (w'22 : World), I16 p18 n19 c20 n21 w'22 → (n21 < (↑rows_n : Int) → ∃ b25, ∃ o26, rows_p = some ⟨b25, o26, none⟩ ∧ 0 ≤ n21 ∧ n21 < (↑rows_n : Int) ∧ ∃ p27 n28 c29, w'22.cell? ⟨b25, (o26 + n21.toNat), none⟩ = some (.slice p27 n28 c29) ∧ Calls Tryd.prog 33 #[.slice cols_p cols_n cols_c, .slice p27 n28 c29] w'22 fun e30 w31 ↦
 ∃ b32, e30 = .returned (.bool b32) ∧ (b32 = false → R (.returned (.tuple #[.slice none 0 0, .int .i64 51])) w31) ∧ (b32 = true → ∃ (I35 : Option Addr → Nat → Nat → Int → World → Prop), ∃ (M36 : Option Addr → Nat → Nat → Int → World → Nat), I35 p18 n19 c20 0 w31 ∧ ∀ (p37 : Option Addr) (n38 c39 : Nat) (n40 : Int) (w'41 : World), I35 p37 n38 c39 n40 w'41 → (n40 < (↑n28 : Int) → ∃ b44, ∃ o45, p27 = some ⟨b44, o45, none⟩ ∧ 0 ≤ n40 ∧ n40 < (↑n28 : Int) ∧ ∃ n46, w'41.cell? ⟨b44, (o45 + n40.toNat * 3), none⟩ = some (.int .i64 n46) ∧ ∃ n47, w'41.cell? ⟨b44, (o45 + n40.toNat * 3 + 1), none⟩ = some (.int .i64 n47) ∧ ∃ s48, w'41.cell? ⟨b44, (o45 + n40.toNat * 3 + 2), none⟩ = some (.string s48) ∧ ∀ b49 w'50, New w'41 (Obj.cells #[.int .i64 0, .int .i64 0, .string ⟨#[]⟩] 65) b49 w'50 → (∃ u52, w'50.cell? ⟨b49, 0, none⟩ = some u52) ∧ w'50.frozen? ⟨b49, 0, none⟩ = false ∧ (∃ u53, w'50.cell? ⟨b49, 1, none⟩ = some u53) ∧ w'50.frozen? ⟨b49, 1, none⟩ = false ∧ (∃ u54, w'50.cell? ⟨b49, 2, none⟩ = some u54) ∧ w'50.frozen? ⟨b49, 2, none⟩ = false ∧ ∀ w'55, Put w'50 b49 0 [.int .i64 n46, .int .i64 n47, .string s48] w'55 → ∃ n57, w'55.cell? ⟨b49, 0, none⟩ = some (.int .i64 n57) ∧ ∃ n58, w'55.cell? ⟨b49, 1, none⟩ = some (.int .i64 n58) ∧ ∃ s59, w'55.cell? ⟨b49, 2, none⟩ = some (.string s59) ∧ Calls Tryd.prog 48 #[.slice none 0 0, .agg #[.int .i64 n57, .int .i64 n58, .string s59]] w'55 fun e60 w61 ↦
 ∃ p62 n63 c64, ∃ n65, e60 = .returned (.tuple #[.slice p62 n63 c64, .int .i64 n65]) ∧ ∀ b66 w'67, New w61 (Obj.cells #[.slice p62 n63 c64] 28) b66 w'67 → ∃ p69 n70 c71, ∃ (w'72 : World), Sem.run Tryd.prog (Builtin.append_ #[70, 70] 70 #[.slice p37 n38 c39, .slice (some ⟨b66, 0, none⟩) 1 1]) w'67 = Result.ok (.slice p69 n70 c71) w'72 ∧ I35 p69 n70 c71 (IntKind.i64.wrap (n40 + 1)) w'72 ∧ M36 p69 n70 c71 (IntKind.i64.wrap (n40 + 1)) w'72 < M36 p37 n38 c39 n40 w'41) ∧ ((↑n28 : Int) ≤ n40 → I16 p37 n38 c39 (IntKind.i64.wrap (n21 + 1)) w'41 ∧ M17 p37 n38 c39 (IntKind.i64.wrap (n21 + 1)) w'41 < M17 p18 n19 c20 n21 w'22))) ∧ ((↑rows_n : Int) ≤ n21 → Calls Tryd.prog 49 #[.slice p18 n19 c20] w'22 fun e75 w76 ↦
 ∃ p77 n78 c79, e75 = .returned (.slice p77 n78 c79) ∧ R (.returned (.tuple #[.slice p77 n78 c79, .int .i64 0])) w76)))

set_option maxRecDepth 100000 in
theorem slayrows_eq (b_p : Option Addr) (b_n : Nat) (b_c : Nat) (cols_p : Option Addr) (cols_n : Nat) (cols_c : Nat) (rows_p : Option Addr) (rows_n : Nat) (rows_c : Nat) (w : World) (R : Ending → World → Prop) : slayrows_T b_p b_n b_c cols_p cols_n cols_c rows_p rows_n rows_c w R = vcFn Tryd.prog [] [] Tryd.f24 [.slice b_p b_n b_c, .slice cols_p cols_n cols_c, .slice rows_p rows_n rows_c] w R := by kernel_rfl

set_option maxRecDepth 100000 in
theorem slayrows_vc (b_p : Option Addr) (b_n : Nat) (b_c : Nat) (cols_p : Option Addr) (cols_n : Nat) (cols_c : Nat) (rows_p : Option Addr) (rows_n : Nat) (rows_c : Nat) (w : World) (R : Ending → World → Prop) (hvc : slayrows_T b_p b_n b_c cols_p cols_n cols_c rows_p rows_n rows_c w R) : Calls Tryd.prog 24 #[.slice b_p b_n b_c, .slice cols_p cols_n cols_c, .slice rows_p rows_n rows_c] w R :=
  calls_of_vc (args := [.slice b_p b_n b_c, .slice cols_p cols_n cols_c, .slice rows_p rows_n rows_c]) [] [] Tryd.mixed Tryd.func24 (cast (slayrows_eq _ _ _ _ _ _ _ _ _ w R) hvc)

set_option maxRecDepth 100000 in
def stakerows_T (b_p : Option Addr) (b_n : Nat) (b_c : Nat) (at_ : Int) (cols_p : Option Addr) (cols_n : Nat) (cols_c : Nat) (w : World) (R : Ending → World → Prop) : Prop :=
  Calls Tryd.prog 11 #[.slice cols_p cols_n cols_c] w fun e1 w2 ↦
 ∃ b3, e1 = .returned (.bool b3) ∧ (b3 = false → R (.returned (.tuple #[.slice none 0 0, .int .i64 0, .int .i64 50])) w2) ∧ (b3 = true → Calls Tryd.prog 39 #[.slice b_p b_n b_c, .int .i64 at_] w2 fun e6 w7 ↦
 ∃ n8, ∃ n9, ∃ n10, e6 = .returned (.tuple #[.int .u64 n8, .int .i64 n9, .int .i64 n10]) ∧ (n10 ≠ 0 ∨ 1024 < n8 → R (.returned (.tuple #[.slice none 0 0, .int .i64 0, .int .i64 52])) w7) ∧ (n10 = 0 ∧ n8 ≤ 1024 → ∃ (I13 : Int → Int → Option Addr → Nat → Nat → Int → World → Prop), ∃ (M14 : Int → Int → Option Addr → Nat → Nat → Int → World → Nat), I13 n9 n10 none 0 0 0 w7 ∧ ∀ (n15 n16 : Int) (p17 : Option Addr) (n18 c19 : Nat) (n20 : Int) (w'21 : World), I13 n15 n16 p17 n18 c19 n20 w'21 → (n20 < n8 → 0 ≤ (↑cols_n : Int) ∧ (↑cols_n : Int) ≤ (↑cols_n : Int) ∧ 32 * (↑cols_n : Int) ≤ 281474976710656 ∧ (↑cols_n : Int) ≤ 9223372036854775807 ∧ ∀ b24 w'25, New w'21 (Obj.cells (madeCells #[.int .i64 0, .int .i64 0, .string ⟨#[]⟩] (cols_n * 3)) 65) b24 w'25 → ∃ (I27 : Int → Int → Int → World → Prop), ∃ (M28 : Int → Int → Int → World → Nat), I27 n15 n16 0 w'25 ∧ ∀ (n29 n30 n31 : Int) (w'32 : World), I27 n29 n30 n31 w'32 → (n31 < (↑cols_n : Int) → Calls Tryd.prog 51 #[.slice b_p b_n b_c, .int .i64 n29] w'32 fun e35 w36 ↦
 ∃ n37, ∃ n38, ∃ s39, ∃ n40, ∃ n41, e35 =
 .returned
 (.tuple #[.agg #[.int .i64 n37, .int .i64 n38, .string s39], .int .i64 n40, .int .i64 n41]) ∧ ∃ b42, ∃ o43, some (Addr.mk b24 0 none) = some ⟨b42, o43, none⟩ ∧ 0 ≤ n31 ∧ n31 < (↑cols_n : Int) ∧ (∃ u44, w36.cell? ⟨b42, (o43 + n31.toNat * 3), none⟩ = some u44) ∧ w36.frozen? ⟨b42, (o43 + n31.toNat * 3), none⟩ = false ∧ (∃ u45, w36.cell? ⟨b42, (o43 + n31.toNat * 3 + 1), none⟩ = some u45) ∧ w36.frozen? ⟨b42, (o43 + n31.toNat * 3 + 1), none⟩ = false ∧ (∃ u46, w36.cell? ⟨b42, (o43 + n31.toNat * 3 + 2), none⟩ = some u46) ∧ w36.frozen? ⟨b42, (o43 + n31.toNat * 3 + 2), none⟩ = false ∧ ∀ w'47, Put w36 b42 (o43 + n31.toNat * 3) [.int .i64 n37, .int .i64 n38, .string s39] w'47 → (n41 ≠ 0 → R (.returned (.tuple #[.slice none 0 0, .int .i64 0, .int .i64 52])) w'47) ∧ (n41 = 0 → I27 n40 n41 (IntKind.i64.wrap (n31 + 1)) w'47 ∧ M28 n40 n41 (IntKind.i64.wrap (n31 + 1)) w'47 < M28 n29 n30 n31 w'32)) ∧ ((↑cols_n : Int) ≤ n31 → Calls Tryd.prog 33 #[.slice cols_p cols_n cols_c, .slice (some ⟨b24, 0, none⟩) cols_n cols_n] w'32 fun e52 w53 ↦
 ∃ b54, e52 = .returned (.bool b54) ∧ (b54 = false → R (.returned (.tuple #[.slice none 0 0, .int .i64 0, .int .i64 52])) w53) ∧ (b54 = true → ∀ b57 w'58, New w53 (Obj.cells #[.slice (some ⟨b24, 0, none⟩) cols_n cols_n] 24) b57 w'58 → ∃ p60 n61 c62, ∃ (w'63 : World), Sem.run Tryd.prog (Builtin.append_ #[39, 39] 39 #[.slice p17 n18 c19, .slice (some ⟨b57, 0, none⟩) 1 1]) w'58 = Result.ok (.slice p60 n61 c62) w'63 ∧ I13 n29 n30 p60 n61 c62 (IntKind.u64.wrap (n20 + 1)) w'63 ∧ M14 n29 n30 p60 n61 c62 (IntKind.u64.wrap (n20 + 1)) w'63 < M14 n15 n16 p17 n18 c19 n20 w'21))) ∧ (n8 ≤ n20 → R (.returned (.tuple #[.slice p17 n18 c19, .int .i64 n15, .int .i64 0])) w'21)))

set_option maxRecDepth 100000 in
theorem stakerows_eq (b_p : Option Addr) (b_n : Nat) (b_c : Nat) (at_ : Int) (cols_p : Option Addr) (cols_n : Nat) (cols_c : Nat) (w : World) (R : Ending → World → Prop) : stakerows_T b_p b_n b_c at_ cols_p cols_n cols_c w R = vcFn Tryd.prog [] [] Tryd.f26 [.slice b_p b_n b_c, .int .i64 at_, .slice cols_p cols_n cols_c] w R := by kernel_rfl

set_option maxRecDepth 100000 in
theorem stakerows_vc (b_p : Option Addr) (b_n : Nat) (b_c : Nat) (at_ : Int) (cols_p : Option Addr) (cols_n : Nat) (cols_c : Nat) (w : World) (R : Ending → World → Prop) (hvc : stakerows_T b_p b_n b_c at_ cols_p cols_n cols_c w R) : Calls Tryd.prog 26 #[.slice b_p b_n b_c, .int .i64 at_, .slice cols_p cols_n cols_c] w R :=
  calls_of_vc (args := [.slice b_p b_n b_c, .int .i64 at_, .slice cols_p cols_n cols_c]) [] [] Tryd.mixed Tryd.func26 (cast (stakerows_eq _ _ _ _ _ _ _ w R) hvc)

set_option maxRecDepth 100000 in
def sshow_T (cols_p : Option Addr) (cols_n : Nat) (cols_c : Nat) (w : World) (R : Ending → World → Prop) : Prop :=
  Calls Tryd.prog 11 #[.slice cols_p cols_n cols_c] w fun e1 w2 ↦
 ∃ b3, e1 = .returned (.bool b3) ∧ (b3 = false → R (.returned (.tuple #[.string ⟨#[]⟩, .int .i64 50])) w2) ∧ (b3 = true → ∃ (I6 : Option Addr → Nat → Nat → Int → World → Prop), ∃ (M7 : Option Addr → Nat → Nat → Int → World → Nat), I6 none 0 0 0 w2 ∧ ∀ (p8 : Option Addr) (n9 c10 : Nat) (n11 : Int) (w'12 : World), I6 p8 n9 c10 n11 w'12 → (n11 < (↑cols_n : Int) → ∃ b15, ∃ o16, cols_p = some ⟨b15, o16, none⟩ ∧ 0 ≤ n11 ∧ n11 < (↑cols_n : Int) ∧ ∃ s17, w'12.cell? ⟨b15, (o16 + n11.toNat * 3), none⟩ = some (.string s17) ∧ ∃ n18, w'12.cell? ⟨b15, (o16 + n11.toNat * 3 + 1), none⟩ = some (.int .i64 n18) ∧ ∃ b19, w'12.cell? ⟨b15, (o16 + n11.toNat * 3 + 2), none⟩ = some (.bool b19) ∧ ∀ b20 w'21, New w'12 (Obj.cells #[.string ⟨#[]⟩, .int .i64 0, .bool false] 53) b20 w'21 → (∃ u23, w'21.cell? ⟨b20, 0, none⟩ = some u23) ∧ w'21.frozen? ⟨b20, 0, none⟩ = false ∧ (∃ u24, w'21.cell? ⟨b20, 1, none⟩ = some u24) ∧ w'21.frozen? ⟨b20, 1, none⟩ = false ∧ (∃ u25, w'21.cell? ⟨b20, 2, none⟩ = some u25) ∧ w'21.frozen? ⟨b20, 2, none⟩ = false ∧ ∀ w'26, Put w'21 b20 0 [.string s17, .int .i64 n18, .bool b19] w'26 → ∀ w'28, Drew w'26 w'28 → ∃ s30, w'28.cell? ⟨b20, 0, none⟩ = some (.string s30) ∧ s30.size + 1 ≤ 9223372036854775807 ∧ ∃ n31, w'28.cell? ⟨b20, 1, none⟩ = some (.int .i64 n31) ∧ 0 ≤ n31 ∧ n31 < 4 ∧ ∃ s32, w'28.cell? ⟨0, (0 + n31.toNat), none⟩ = some (.string s32) ∧ (ByteArray.instAppend.1 s30 (ByteArray.mk #[32])).size + s32.size ≤ 9223372036854775807 ∧ ∃ b33, w'28.cell? ⟨b20, 2, none⟩ = some (.bool b33) ∧ (b33 = true → (ByteArray.instAppend.1 (ByteArray.instAppend.1 s30 (ByteArray.mk #[32])) s32).size + 5 ≤ 9223372036854775807 ∧ ∀ b35 w'36, New w'28
 (Obj.cells
 #[.string (ByteArray.instAppend.1 (ByteArray.instAppend.1 (ByteArray.instAppend.1 s30 (ByteArray.mk #[32])) s32) (ByteArray.mk #[32, 110, 117, 108, 108]))] 9)
 b35 w'36 → ∃ p38 n39 c40, ∃ (w'41 : World), Sem.run Tryd.prog (Builtin.append_ #[76, 76] 76 #[.slice p8 n9 c10, .slice (some ⟨b35, 0, none⟩) 1 1]) w'36 = Result.ok (.slice p38 n39 c40) w'41 ∧ I6 p38 n39 c40 (IntKind.i64.wrap (n11 + 1)) w'41 ∧ M7 p38 n39 c40 (IntKind.i64.wrap (n11 + 1)) w'41 < M7 p8 n9 c10 n11 w'12) ∧ (b33 = false → ∀ b43 w'44, New w'28 (Obj.cells #[.string (ByteArray.instAppend.1 (ByteArray.instAppend.1 s30 (ByteArray.mk #[32])) s32)] 9) b43 w'44 → ∃ p46 n47 c48, ∃ (w'49 : World), Sem.run Tryd.prog (Builtin.append_ #[76, 76] 76 #[.slice p8 n9 c10, .slice (some ⟨b43, 0, none⟩) 1 1]) w'44 = Result.ok (.slice p46 n47 c48) w'49 ∧ I6 p46 n47 c48 (IntKind.i64.wrap (n11 + 1)) w'49 ∧ M7 p46 n47 c48 (IntKind.i64.wrap (n11 + 1)) w'49 < M7 p8 n9 c10 n11 w'12)) ∧ ((↑cols_n : Int) ≤ n11 → Calls Tryd.prog 54 #[.slice p8 n9 c10, .string (ByteArray.mk #[44, 32])] w'12 fun e51 w52 ↦
 ∃ s53, e51 = .returned (.string s53) ∧ R (.returned (.tuple #[.string s53, .int .i64 0])) w52))

set_option maxRecDepth 100000 in
theorem sshow_eq (cols_p : Option Addr) (cols_n : Nat) (cols_c : Nat) (w : World) (R : Ending → World → Prop) : sshow_T cols_p cols_n cols_c w R = vcFn Tryd.prog [] [(7, [2, 4, 6, 8, 10, 12, 14, 16, 18, 0])] Tryd.f29 [.slice cols_p cols_n cols_c] w R := by kernel_rfl

set_option maxRecDepth 100000 in
theorem sshow_vc (cols_p : Option Addr) (cols_n : Nat) (cols_c : Nat) (w : World) (R : Ending → World → Prop) (hvc : sshow_T cols_p cols_n cols_c w R) : Calls Tryd.prog 29 #[.slice cols_p cols_n cols_c] w R :=
  calls_of_vc (args := [.slice cols_p cols_n cols_c]) [] [(7, [2, 4, 6, 8, 10, 12, 14, 16, 18, 0])] Tryd.mixed Tryd.func29 (cast (sshow_eq _ _ _ w R) hvc)

set_option maxRecDepth 100000 in
def skind_T (s : ByteArray) (w : World) (R : Ending → World → Prop) : Prop :=
  ∃ s1, w.cell? ⟨0, 0, none⟩ = some (.string s1) ∧ ∃ s2, w.cell? ⟨0, 1, none⟩ = some (.string s2) ∧ ∃ s3, w.cell? ⟨0, 2, none⟩ = some (.string s3) ∧ ∃ s4, w.cell? ⟨0, 3, none⟩ = some (.string s4) ∧ ∃ (I5 : Int → World → Prop), ∃ (M6 : Int → World → Nat), I5 0 w ∧ ∀ (n7 : Int) (w'8 : World), I5 n7 w'8 → (n7 < 4 → 0 ≤ n7 ∧ n7 < 4 ∧ ∃ s11, (#[.string s1, .string s2, .string s3, .string s4] : Array Value)[n7.toNat]? = some (.string s11) ∧ (s11 = s → R (.returned (.int .i64 n7)) w'8) ∧ (s11 ≠ s → I5 (IntKind.i64.wrap (n7 + 1)) w'8 ∧ M6 (IntKind.i64.wrap (n7 + 1)) w'8 < M6 n7 w'8)) ∧ (4 ≤ n7 → R (.returned (.int .i64 (-1))) w'8)

set_option maxRecDepth 100000 in
theorem skind_eq (s : ByteArray) (w : World) (R : Ending → World → Prop) : skind_T s w R = vcFn Tryd.prog [] [] Tryd.f59 [.string s] w R := by kernel_rfl

set_option maxRecDepth 100000 in
theorem skind_vc (s : ByteArray) (w : World) (R : Ending → World → Prop) (hvc : skind_T s w R) : Calls Tryd.prog 59 #[.string s] w R :=
  calls_of_vc (args := [.string s]) [] [] Tryd.mixed Tryd.func59 (cast (skind_eq _ w R) hvc)

set_option maxRecDepth 100000 in
def sparse_T (s : ByteArray) (w : World) (R : Ending → World → Prop) : Prop :=
  Calls Tryd.prog 56 #[.string s, .string (ByteArray.mk #[44, 32])] w fun e1 w2 ↦
 ∃ p3 n4 c5, e1 = .returned (.slice p3 n4 c5) ∧ ∃ (I6 : Option Addr → Nat → Nat → Int → World → Prop), ∃ (M7 : Option Addr → Nat → Nat → Int → World → Nat), I6 none 0 0 0 w2 ∧ ∀ (p8 : Option Addr) (n9 c10 : Nat) (n11 : Int) (w'12 : World), I6 p8 n9 c10 n11 w'12 → (n11 < (↑n4 : Int) → ∃ b15, ∃ o16, p3 = some ⟨b15, o16, none⟩ ∧ 0 ≤ n11 ∧ n11 < (↑n4 : Int) ∧ ∃ s17, w'12.cell? ⟨b15, (o16 + n11.toNat), none⟩ = some (.string s17) ∧ Calls Tryd.prog 57 #[.string s17, .string (ByteArray.mk #[32, 110, 117, 108, 108])] w'12 fun e18 w19 ↦
 ∃ s20, ∃ b21, e18 = .returned (.tuple #[.string s20, .bool b21]) ∧ Calls Tryd.prog 58 #[.string s20, .string (ByteArray.mk #[32])] w19 fun e22 w23 ↦
 ∃ s24, ∃ s25, ∃ b26, e22 = .returned (.tuple #[.string s24, .string s25, .bool b26]) ∧ Calls Tryd.prog 59 #[.string s25] w23 fun e27 w28 ↦
 ∃ n29, e27 = .returned (.int .i64 n29) ∧ ∀ b30 w'31, New w28 (Obj.cells #[.string s24, .int .i64 n29, .bool b21] 53) b30 w'31 → ∃ p33 n34 c35, ∃ (w'36 : World), Sem.run Tryd.prog (Builtin.append_ #[22, 22] 22 #[.slice p8 n9 c10, .slice (some ⟨b30, 0, none⟩) 1 1]) w'31 = Result.ok (.slice p33 n34 c35) w'36 ∧ (16 < (↑n34 : Int) → Calls Tryd.prog 11 #[.slice p33 n34 c35] w'36 fun e38 w39 ↦
 ∃ b40, e38 = .returned (.bool b40) ∧ (b40 = false → R (.returned (.tuple #[.slice none 0 0, .int .i64 50])) w39) ∧ (b40 = true → R (.returned (.tuple #[.slice p33 n34 c35, .int .i64 0])) w39)) ∧ ((↑n34 : Int) ≤ 16 → I6 p33 n34 c35 (IntKind.i64.wrap (n11 + 1)) w'36 ∧ M7 p33 n34 c35 (IntKind.i64.wrap (n11 + 1)) w'36 < M7 p8 n9 c10 n11 w'12)) ∧ ((↑n4 : Int) ≤ n11 → Calls Tryd.prog 11 #[.slice p8 n9 c10] w'12 fun e45 w46 ↦
 ∃ b47, e45 = .returned (.bool b47) ∧ (b47 = false → R (.returned (.tuple #[.slice none 0 0, .int .i64 50])) w46) ∧ (b47 = true → R (.returned (.tuple #[.slice p8 n9 c10, .int .i64 0])) w46))

set_option maxRecDepth 100000 in
theorem sparse_eq (s : ByteArray) (w : World) (R : Ending → World → Prop) : sparse_T s w R = vcFn Tryd.prog [] [] Tryd.f31 [.string s] w R := by kernel_rfl

set_option maxRecDepth 100000 in
theorem sparse_vc (s : ByteArray) (w : World) (R : Ending → World → Prop) (hvc : sparse_T s w R) : Calls Tryd.prog 31 #[.string s] w R :=
  calls_of_vc (args := [.string s]) [] [] Tryd.mixed Tryd.func31 (cast (sparse_eq _ w R) hvc)

set_option maxRecDepth 100000 in
def r5same_T (a_p : Option Addr) (a_n : Nat) (a_c : Nat) (b_p : Option Addr) (b_n : Nat) (b_c : Nat) (w : World) (R : Ending → World → Prop) : Prop :=
  ((↑a_n : Int) ≠ (↑b_n : Int) → R (.returned (.bool false)) w) ∧ ((↑a_n : Int) = (↑b_n : Int) → ∃ (I3 : Int → World → Prop), ∃ (M4 : Int → World → Nat), I3 0 w ∧ ∀ (n5 : Int) (w'6 : World), I3 n5 w'6 → (n5 < (↑a_n : Int) → ∀ w'9, Drew w'6 w'9 → ∃ b11, ∃ o12, a_p = some ⟨b11, o12, none⟩ ∧ 0 ≤ n5 ∧ n5 < (↑a_n : Int) ∧ ∃ s13, w'9.cell? ⟨b11, (o12 + n5.toNat * 3), none⟩ = some (.string s13) ∧ ∃ n14, w'9.cell? ⟨b11, (o12 + n5.toNat * 3 + 1), none⟩ = some (.int .i64 n14) ∧ ∃ b15, w'9.cell? ⟨b11, (o12 + n5.toNat * 3 + 2), none⟩ = some (.bool b15) ∧ ∃ b16, ∃ o17, b_p = some ⟨b16, o17, none⟩ ∧ 0 ≤ n5 ∧ n5 < (↑b_n : Int) ∧ ∃ s18, w'9.cell? ⟨b16, (o17 + n5.toNat * 3), none⟩ = some (.string s18) ∧ ∃ n19, w'9.cell? ⟨b16, (o17 + n5.toNat * 3 + 1), none⟩ = some (.int .i64 n19) ∧ ∃ b20, w'9.cell? ⟨b16, (o17 + n5.toNat * 3 + 2), none⟩ = some (.bool b20) ∧ (s13 ≠ s18 ∨ n14 ≠ n19 ∨ b15 ≠ b20 → R (.returned (.bool false)) w'9) ∧ (s13 = s18 ∧ n14 = n19 ∧ b15 = b20 → I3 (IntKind.i64.wrap (n5 + 1)) w'9 ∧ M4 (IntKind.i64.wrap (n5 + 1)) w'9 < M4 n5 w'6)) ∧ ((↑a_n : Int) ≤ n5 → R (.returned (.bool true)) w'6))

set_option maxRecDepth 100000 in
theorem r5same_eq (a_p : Option Addr) (a_n : Nat) (a_c : Nat) (b_p : Option Addr) (b_n : Nat) (b_c : Nat) (w : World) (R : Ending → World → Prop) : r5same_T a_p a_n a_c b_p b_n b_c w R = vcFn Tryd.prog [] [(6, [2, 4, 6, 8, 10, 12, 14, 16, 18, 0])] Tryd.f17 [.slice a_p a_n a_c, .slice b_p b_n b_c] w R := by kernel_rfl

set_option maxRecDepth 100000 in
theorem r5same_vc (a_p : Option Addr) (a_n : Nat) (a_c : Nat) (b_p : Option Addr) (b_n : Nat) (b_c : Nat) (w : World) (R : Ending → World → Prop) (hvc : r5same_T a_p a_n a_c b_p b_n b_c w R) : Calls Tryd.prog 17 #[.slice a_p a_n a_c, .slice b_p b_n b_c] w R :=
  calls_of_vc (args := [.slice a_p a_n a_c, .slice b_p b_n b_c]) [] [(6, [2, 4, 6, 8, 10, 12, 14, 16, 18, 0])] Tryd.mixed Tryd.func17 (cast (r5same_eq _ _ _ _ _ _ w R) hvc)

set_option maxRecDepth 100000 in
def cutsfx_T (s : ByteArray) (suffix : ByteArray) (w : World) (R : Ending → World → Prop) : Prop :=
  Calls Tryd.prog 81 #[.string s, .string suffix] w fun e1 w2 ↦
 ∃ s3, ∃ b4, e1 = .returned (.tuple #[.string s3, .bool b4]) ∧ R (.returned (.tuple #[.string s3, .bool b4])) w2

set_option maxRecDepth 100000 in
theorem cutsfx_eq (s : ByteArray) (suffix : ByteArray) (w : World) (R : Ending → World → Prop) : cutsfx_T s suffix w R = vcFn Tryd.prog [] [] Tryd.f57 [.string s, .string suffix] w R := by kernel_rfl

set_option maxRecDepth 100000 in
theorem cutsfx_vc (s : ByteArray) (suffix : ByteArray) (w : World) (R : Ending → World → Prop) (hvc : cutsfx_T s suffix w R) : Calls Tryd.prog 57 #[.string s, .string suffix] w R :=
  calls_of_vc (args := [.string s, .string suffix]) [] [] Tryd.mixed Tryd.func57 (cast (cutsfx_eq _ _ w R) hvc)

set_option maxRecDepth 100000 in
def cutsfx1_T (s : ByteArray) (suffix : ByteArray) (w : World) (R : Ending → World → Prop) : Prop :=
  Calls Tryd.prog 95 #[.string s, .string suffix] w fun e1 w2 ↦
 ∃ b3, e1 = .returned (.bool b3) ∧ (b3 = false → R (.returned (.tuple #[.string s, .bool false])) w2) ∧ (b3 = true → 0 ≤ IntKind.i64.wrap ((↑s.size : Int) - (↑suffix.size : Int)) ∧ IntKind.i64.wrap ((↑s.size : Int) - (↑suffix.size : Int)) ≤ (↑s.size : Int) ∧ R (.returned (.tuple #[.string (s.extract 0 (IntKind.i64.wrap ((↑s.size : Int) - (↑suffix.size : Int))).toNat), .bool true])) w2)

set_option maxRecDepth 100000 in
theorem cutsfx1_eq (s : ByteArray) (suffix : ByteArray) (w : World) (R : Ending → World → Prop) : cutsfx1_T s suffix w R = vcFn Tryd.prog [] [] Tryd.f81 [.string s, .string suffix] w R := by kernel_rfl

set_option maxRecDepth 100000 in
theorem cutsfx1_vc (s : ByteArray) (suffix : ByteArray) (w : World) (R : Ending → World → Prop) (hvc : cutsfx1_T s suffix w R) : Calls Tryd.prog 81 #[.string s, .string suffix] w R :=
  calls_of_vc (args := [.string s, .string suffix]) [] [] Tryd.mixed Tryd.func81 (cast (cutsfx1_eq _ _ w R) hvc)

set_option maxRecDepth 100000 in
def hassfx_T (s : ByteArray) (suffix : ByteArray) (w : World) (R : Ending → World → Prop) : Prop :=
  ((↑suffix.size : Int) ≤ (↑s.size : Int) → 0 ≤ IntKind.i64.wrap ((↑s.size : Int) - (↑suffix.size : Int)) ∧ IntKind.i64.wrap ((↑s.size : Int) - (↑suffix.size : Int)) ≤ (↑s.size : Int) ∧ R (.returned (.bool (sEq (s.extract (IntKind.i64.wrap ((↑s.size : Int) - (↑suffix.size : Int))).toNat s.size) suffix))) w) ∧ ((↑s.size : Int) < (↑suffix.size : Int) → R (.returned (.bool false)) w)

set_option maxRecDepth 100000 in
theorem hassfx_eq (s : ByteArray) (suffix : ByteArray) (w : World) (R : Ending → World → Prop) : hassfx_T s suffix w R = vcFn Tryd.prog [] [] Tryd.f95 [.string s, .string suffix] w R := by kernel_rfl

set_option maxRecDepth 100000 in
theorem hassfx_vc (s : ByteArray) (suffix : ByteArray) (w : World) (R : Ending → World → Prop) (hvc : hassfx_T s suffix w R) : Calls Tryd.prog 95 #[.string s, .string suffix] w R :=
  calls_of_vc (args := [.string s, .string suffix]) [] [] Tryd.mixed Tryd.func95 (cast (hassfx_eq _ _ w R) hvc)

set_option maxRecDepth 100000 in
def shown05_T (w : World) (R : Ending → World → Prop) : Prop :=
  ∀ b1 w'2, New w
 (Obj.cells #[.string (ByteArray.mk #[97]), .int .i64 1, .bool false, .string (ByteArray.mk #[98]), .int .i64 3, .bool true]
 53)
 b1 w'2 → Calls Tryd.prog 29 #[.slice (some ⟨b1, 0, none⟩) 2 2] w'2 fun e4 w5 ↦
 ∃ s6, ∃ n7, e4 = .returned (.tuple #[.string s6, .int .i64 n7]) ∧ (0 : Int) ≤ 1 ∧ (1 : Int) ≤ 2 ∧ Calls Tryd.prog 13 #[.slice none 0 0, .slice (some ⟨b1, 0, none⟩) 1 2] w5 fun e8 w9 ↦
 ∃ p10 n11 c12, ∃ n13, e8 = .returned (.tuple #[.slice p10 n11 c12, .int .i64 n13]) ∧ ((n7 = 0 ∧ s6 = ByteArray.mk #[97, 32, 105, 110, 116, 44, 32, 98, 32, 116, 101, 120, 116, 32, 110, 117, 108, 108]) ∧ n13 = 0 → ∃ (l15 : List UInt8), BytesAt w9 p10 n11 l15 ∧ R (.returned (.bool (sEq (ByteArray.mk (Array.mk l15)) (ByteArray.mk #[1, 1, 97, 1, 0])))) w9) ∧ ((n7 ≠ 0 ∨ s6 ≠ ByteArray.mk #[97, 32, 105, 110, 116, 44, 32, 98, 32, 116, 101, 120, 116, 32, 110, 117, 108, 108]) ∨ n13 ≠ 0 → R (.returned (.bool false)) w9)

set_option maxRecDepth 100000 in
theorem shown05_eq (w : World) (R : Ending → World → Prop) : shown05_T w R = vcFn Tryd.prog [] [] Tryd.f10 [] w R := by kernel_rfl

set_option maxRecDepth 100000 in
theorem shown05_vc (w : World) (R : Ending → World → Prop) (hvc : shown05_T w R) : Calls Tryd.prog 10 #[] w R :=
  calls_of_vc (args := []) [] [] Tryd.mixed Tryd.func10 (cast (shown05_eq w R) hvc)

set_option maxRecDepth 100000 in
def lawBack_T (cols_p : Option Addr) (cols_n : Nat) (cols_c : Nat) (rows_p : Option Addr) (rows_n : Nat) (rows_c : Nat) (behind_p : Option Addr) (behind_n : Nat) (behind_c : Nat) (w : World) (R : Ending → World → Prop) : Prop :=
  Calls Tryd.prog 10 #[] w fun e1 w2 ↦
 ∃ b3, e1 = .returned (.bool b3) ∧ Calls Tryd.prog 13 #[.slice none 0 0, .slice cols_p cols_n cols_c] w2 fun e4 w5 ↦
 ∃ p6 n7 c8, ∃ n9, e4 = .returned (.tuple #[.slice p6 n7 c8, .int .i64 n9]) ∧ Calls Tryd.prog 29 #[.slice cols_p cols_n cols_c] w5 fun e10 w11 ↦
 ∃ s12, ∃ n13, e10 = .returned (.tuple #[.string s12, .int .i64 n13]) ∧ (n9 ≠ 0 ∨ n13 ≠ 0 → (b3 = true ∧ n9 = n13 → Calls Tryd.prog 11 #[.slice cols_p cols_n cols_c] w11 fun e16 w17 ↦
 ∃ b18, e16 = .returned (.bool b18) ∧ R (.returned (.bool !b18)) w17) ∧ (b3 = false ∨ n9 ≠ n13 → R (.returned (.bool false)) w11)) ∧ (n9 = 0 ∧ n13 = 0 → ∃ p21 n22 c23, ∃ (w'24 : World), Sem.run Tryd.prog (Builtin.append_ #[28, 28] 28 #[.slice p6 n7 c8, .slice behind_p behind_n behind_c]) w11 = Result.ok (.slice p21 n22 c23) w'24 ∧ Calls Tryd.prog 15 #[.slice p21 n22 c23, .int .i64 0] w'24 fun e25 w26 ↦
 ∃ p27 n28 c29, ∃ n30, ∃ n31, e25 = .returned (.tuple #[.slice p27 n28 c29, .int .i64 n30, .int .i64 n31]) ∧ Calls Tryd.prog 31 #[.string s12] w26 fun e32 w33 ↦
 ∃ p34 n35 c36, ∃ n37, e32 = .returned (.tuple #[.slice p34 n35 c36, .int .i64 n37]) ∧ ((n31 ≠ 0 ∨ n37 ≠ 0) ∨ n30 ≠ (↑n7 : Int) → R (.returned (.bool false)) w33) ∧ ((n31 = 0 ∧ n37 = 0) ∧ n30 = (↑n7 : Int) → Calls Tryd.prog 17 #[.slice p27 n28 c29, .slice cols_p cols_n cols_c] w33 fun e40 w41 ↦
 ∃ b42, e40 = .returned (.bool b42) ∧ (b42 = false → R (.returned (.bool false)) w41) ∧ (b42 = true → Calls Tryd.prog 17 #[.slice p34 n35 c36, .slice cols_p cols_n cols_c] w41 fun e45 w46 ↦
 ∃ b47, e45 = .returned (.bool b47) ∧ (b47 = false → R (.returned (.bool false)) w46) ∧ (b47 = true → Calls Tryd.prog 24 #[.slice none 0 0, .slice cols_p cols_n cols_c, .slice rows_p rows_n rows_c] w46 fun e50 w51 ↦
 ∃ p52 n53 c54, ∃ n55, e50 = .returned (.tuple #[.slice p52 n53 c54, .int .i64 n55]) ∧ (n55 ≠ 0 → R (.returned (.bool (b3 && decide (n55 = 51)))) w51) ∧ (n55 = 0 → ∃ p58 n59 c60, ∃ (w'61 : World), Sem.run Tryd.prog (Builtin.append_ #[28, 28] 28 #[.slice p52 n53 c54, .slice behind_p behind_n behind_c]) w51 = Result.ok (.slice p58 n59 c60) w'61 ∧ Calls Tryd.prog 26 #[.slice p58 n59 c60, .int .i64 0, .slice cols_p cols_n cols_c] w'61 fun e62 w63 ↦
 ∃ p64 n65 c66, ∃ n67, ∃ n68, e62 = .returned (.tuple #[.slice p64 n65 c66, .int .i64 n67, .int .i64 n68]) ∧ ((b3 = true ∧ n68 = 0) ∧ n67 = (↑n53 : Int) → Calls Tryd.prog 28 #[.slice p64 n65 c66, .slice rows_p rows_n rows_c] w63 fun e70 w71 ↦
 ∃ b72, e70 = .returned (.bool b72) ∧ R (.returned (.bool b72)) w71) ∧ ((b3 = false ∨ n68 ≠ 0) ∨ n67 ≠ (↑n53 : Int) → R (.returned (.bool false)) w63))))))

set_option maxRecDepth 100000 in
theorem lawBack_eq (cols_p : Option Addr) (cols_n : Nat) (cols_c : Nat) (rows_p : Option Addr) (rows_n : Nat) (rows_c : Nat) (behind_p : Option Addr) (behind_n : Nat) (behind_c : Nat) (w : World) (R : Ending → World → Prop) : lawBack_T cols_p cols_n cols_c rows_p rows_n rows_c behind_p behind_n behind_c w R = vcFn Tryd.prog [] [] Tryd.f9 [.slice cols_p cols_n cols_c, .slice rows_p rows_n rows_c, .slice behind_p behind_n behind_c] w R := by kernel_rfl

set_option maxRecDepth 100000 in
theorem lawBack_vc (cols_p : Option Addr) (cols_n : Nat) (cols_c : Nat) (rows_p : Option Addr) (rows_n : Nat) (rows_c : Nat) (behind_p : Option Addr) (behind_n : Nat) (behind_c : Nat) (w : World) (R : Ending → World → Prop) (hvc : lawBack_T cols_p cols_n cols_c rows_p rows_n rows_c behind_p behind_n behind_c w R) : Calls Tryd.prog 9 #[.slice cols_p cols_n cols_c, .slice rows_p rows_n rows_c, .slice behind_p behind_n behind_c] w R :=
  calls_of_vc (args := [.slice cols_p cols_n cols_c, .slice rows_p rows_n rows_c, .slice behind_p behind_n behind_c]) [] [] Tryd.mixed Tryd.func9 (cast (lawBack_eq _ _ _ _ _ _ _ _ _ w R) hvc)


end Go.Proofs.YtiojkfckaalooaaDoor

/- The frame, its blocks in any order; blocks for deferred calls that are not known one by one. -/
namespace Go.Vc
open Go Go.RowKit

section
variable {w0 W W' : World} {fs fs' gs : List (Nat × Obj)} {B d : Nat} {ds : List Nat} {ms : List Row}

theorem Hold.mem (h : Hold w0 W fs ms) {x : Nat × Obj} (hx : x ∈ fs) : W.heap[x.1]? = some x.2 := by
  obtain ⟨i, hi⟩ := List.mem_iff_getElem?.1 hx
  exact h.holds i x hi
theorem Hold.ltM (h : Hold w0 W fs ms) {x : Nat × Obj} (hx : x ∈ fs) : x.1 < W.heap.size := (Array.getElem?_eq_some_iff.1 (h.mem hx)).1
theorem Hold.nodup (h : Hold w0 W fs ms) : (fs.map (·.1)).Nodup := by
  rw [List.Nodup, List.pairwise_iff_getElem]
  intro i j hi hj hij
  simp only [List.getElem_map]
  simp only [List.length_map] at hi hj
  exact h.keys i j _ _ (List.getElem?_eq_getElem hi) (List.getElem?_eq_getElem hj) (by omega)
theorem Hold.make (e : Ext w0 W) (h : ∀ x ∈ fs, w0.heap.size ≤ x.1 ∧ W.heap[x.1]? = some x.2) (hn : (fs.map (·.1)).Nodup) : Hold w0 W fs [] := by
  refine ⟨e, fun x hx => (h x hx).1, fun i x hx => (h x (List.mem_of_getElem? hx)).2, fun i j x y hx hy hij => ?_, by simp, by simp, by simp⟩
  rw [List.Nodup, List.pairwise_iff_getElem] at hn
  obtain ⟨hi, rfl⟩ := List.getElem?_eq_some_iff.1 hx
  obtain ⟨hj, rfl⟩ := List.getElem?_eq_some_iff.1 hy
  rcases Nat.lt_or_ge i j with hlt | hge
  · have := hn i j (by simpa) (by simpa) hlt
    rwa [List.getElem_map, List.getElem_map] at this
  · have := hn j i (by simpa) (by simpa) (by omega)
    rw [List.getElem_map, List.getElem_map] at this
    exact this.symm
theorem Hold.perm (h : Hold w0 W fs []) (hp : fs.Perm fs') : Hold w0 W fs' [] :=
  Hold.make h.ext (fun x hx => ⟨h.ge x (hp.mem_iff.2 hx), h.mem (hp.mem_iff.2 hx)⟩) ((hp.map _).nodup_iff.1 h.nodup)
theorem Hold.sub (h : Hold w0 W fs []) (hp : fs'.Sublist fs) : Hold w0 W fs' [] :=
  Hold.make h.ext (fun x hx => ⟨h.ge x (hp.subset hx), h.mem (hp.subset hx)⟩) (h.nodup.sublist (hp.map _))
theorem Hold.swap {a b c : List (Nat × Obj)} (h : Hold w0 W ((a ++ b) ++ c) []) : Hold w0 W (b ++ (a ++ c)) [] := by
  rw [← List.append_assoc]
  exact h.perm (List.perm_append_comm.append_right c)
theorem Hold.left {a b : List (Nat × Obj)} (h : Hold w0 W (a ++ b) []) : Hold w0 W a [] := h.sub (List.sublist_append_left _ _)
theorem Hold.right {a b : List (Nat × Obj)} (h : Hold w0 W (a ++ b) []) : Hold w0 W b [] := h.sub (List.sublist_append_right _ _)
theorem Hold.but {b : Nat} (h : Hold w0 W fs []) (e : But b W W') (hb : w0.heap.size ≤ b) (hf : ∀ x ∈ fs, x.1 ≠ b) : Hold w0 W' fs [] :=
  Hold.make (h.ext.below.but e hb h.size) (fun x hx => ⟨h.ge x hx, (e.block _ (h.ltM hx) (hf x hx)).trans (h.mem hx)⟩) h.nodup

/-- Open blocks as held ones. -/
def dfs (ds : List Nat) : List (Nat × Obj) := ds.map fun d => (d, .deferred (some []))
theorem Hold.opened (h : Hold w0 W (dfs ds ++ fs) []) (hB : ∀ d ∈ ds, B ≤ d) : Go.Vc.Open B ds W := by
  constructor
  · have := h.left.nodup
    have e : (dfs ds).map (·.1) = ds := by unfold dfs; rw [List.map_map]; exact List.map_id _
    rwa [e] at this
  · intro d hd
    exact ⟨hB d hd, h.mem (x := (d, .deferred (some []))) (List.mem_append_left _ (List.mem_map.2 ⟨d, hd, rfl⟩))⟩
end

theorem Blk.c6 {w : World} {b : Nat} {t : TypeId} {x y z u v q : Value} (h : Blk w b t #[x, y, z, u, v, q]) : w.cell? ⟨b, 0, none⟩ = some x ∧ w.cell? ⟨b, 1, none⟩ = some y ∧ w.cell? ⟨b, 2, none⟩ = some z ∧
    w.cell? ⟨b, 3, none⟩ = some u ∧ w.cell? ⟨b, 4, none⟩ = some v ∧ w.cell? ⟨b, 5, none⟩ = some q := by
  refine ⟨?_, ?_, ?_, ?_, ?_, ?_⟩ <;> (rw [h.cell]; rfl)
/-- A block of six cells can be written. -/
theorem Blk.w6 {w : World} {b : Nat} {t : TypeId} {x y z u v q : Value} (h : Blk w b t #[x, y, z, u, v, q]) {X : Prop} (hX : X) : (∃ u, w.cell? ⟨b, 0, none⟩ = some u) ∧ w.frozen? ⟨b, 0, none⟩ = false ∧ (∃ u, w.cell? ⟨b, 1, none⟩ = some u) ∧ w.frozen? ⟨b, 1, none⟩ = false ∧
    (∃ u, w.cell? ⟨b, 2, none⟩ = some u) ∧ w.frozen? ⟨b, 2, none⟩ = false ∧ (∃ u, w.cell? ⟨b, 3, none⟩ = some u) ∧ w.frozen? ⟨b, 3, none⟩ = false ∧ (∃ u, w.cell? ⟨b, 4, none⟩ = some u) ∧ w.frozen? ⟨b, 4, none⟩ = false ∧
    (∃ u, w.cell? ⟨b, 5, none⟩ = some u) ∧ w.frozen? ⟨b, 5, none⟩ = false ∧ X := by
  obtain ⟨a0, a1, a2, a3, a4, a5⟩ := h.c6
  exact ⟨⟨_, a0⟩, h.frozen _, ⟨_, a1⟩, h.frozen _, ⟨_, a2⟩, h.frozen _, ⟨_, a3⟩, h.frozen _, ⟨_, a4⟩, h.frozen _, ⟨_, a5⟩, h.frozen _, hX⟩
end Go.Vc
namespace Go.Vc
open Go Go.RowKit
end Go.Vc

/- Cells out of the frame, one by one: what the printed steps of a walk use. -/
namespace Go.Vc
open Go Go.RowKit

section
variable {w0 W W' : World} {fs : List (Nat × Obj)} {ms : List Row} {b k : Nat} {t : TypeId} {cs : Array Value} {v : Value}
theorem Hold.get (h : Hold w0 W fs ms) (i : Nat) (hi : fs[i]? = some (b, .cells cs t (0, 0))) (hk : cs[k]? = some v) : W.cell? ⟨b, k, none⟩ = some v := by
  rw [(h.blk i hi).cell]; exact hk
theorem Hold.frz (h : Hold w0 W fs ms) (i : Nat) (hi : fs[i]? = some (b, .cells cs t (0, 0))) : W.frozen? ⟨b, k, none⟩ = false := (h.blk i hi).frozen k
end
end Go.Vc

/- The contracts of package value's bytes, and of the document's answer for them. -/
namespace Go.Proofs.YtiojkfckaalooaaDoor
open Go Go.Vc Go.RowKit
set_option maxRecDepth 20000
attribute [local irreducible] Calls Put Drew New

def takeVV (l : List UInt8) (pos : Int) : Value :=
  match takeVal l pos with
  | some (v, k) => .tuple #[v.agg, .int .i64 (k : Int), .int .i64 0]
  | none => .tuple #[nullV.agg, .int .i64 0, .int .i64 20]
def layV (l : List UInt8) (v : Val) : List UInt8 × Int := if v.right then (l ++ valB v, 0) else ([], 2)
theorem In.byte {w : World} {p : Option Addr} {n c : Nat} {l : List UInt8} (h : In w p n c l) {i : Nat} (hi : i < n) : ∃ b o, p = some ⟨b, o, none⟩ ∧ w.cell? ⟨b, o + i, none⟩ = some (.int .u8 ((by_ l i : Nat) : Int)) := by
  have hl := h.len
  obtain ⟨b, o, hp, hc⟩ := h.lies.getB (i := i) (by omega)
  refine ⟨b, o, hp, ?_⟩
  rw [hc]
  unfold by_
  rw [List.getD_eq_getElem?_getD, List.getElem?_eq_getElem (by omega)]; rfl
theorem by_lt (l : List UInt8) (i : Nat) : by_ l i < 256 := UInt8.toNat_lt _
theorem ok_right {v : Val} (h : v.Ok) : v.right = true := decide_eq_true h
set_option maxHeartbeats 4000000 in
theorem vtake_ok (w : World) {p : Option Addr} {n c : Nat} {l : List UInt8} (h : In w p n c l) {pos : Int} :
    Calls Tryd.prog 51 #[.slice p n c, .int .i64 pos] w fun e w' => e = .returned (takeVV l pos) ∧ Ext w w' := by
  have hl := h.len
  have hn : n ≤ 9223372036854775807 := h.le
  apply vtake_vc
  unfold vtake_T
  have H := Hold.start (Ext.rfl (w := w))
  repeat (first
    | (intro _ _ hS; replace H := H.new hS; clear hS)
    | (intro _ hS; (first | replace H := H.put 0 rfl hS | replace H := H.put 1 rfl hS | replace H := H.put 2 rfl hS | replace H := H.put 3 rfl hS | replace H := H.put 4 rfl hS | replace H := H.put 5 rfl hS | replace H := H.put 6 rfl hS | replace H := H.put 7 rfl hS); clear hS; try simp only [setA, List.setIfInBounds_toArray, List.set_cons_zero, List.set_cons_succ, Nat.zero_add, Nat.reduceAdd] at H)
    | (intro _ hS; replace H := H.step (Drew.ext hS); clear hS)
    | (first | refine ⟨⟨_, H.get 0 rfl rfl⟩, ?_⟩ | refine ⟨⟨_, H.get 1 rfl rfl⟩, ?_⟩ | refine ⟨⟨_, H.get 2 rfl rfl⟩, ?_⟩ | refine ⟨⟨_, H.get 3 rfl rfl⟩, ?_⟩ | refine ⟨⟨_, H.get 4 rfl rfl⟩, ?_⟩ | refine ⟨⟨_, H.get 5 rfl rfl⟩, ?_⟩ | refine ⟨⟨_, H.get 6 rfl rfl⟩, ?_⟩ | refine ⟨⟨_, H.get 7 rfl rfl⟩, ?_⟩)
    | (first | refine ⟨H.frz 0 rfl, ?_⟩ | refine ⟨H.frz 1 rfl, ?_⟩ | refine ⟨H.frz 2 rfl, ?_⟩ | refine ⟨H.frz 3 rfl, ?_⟩ | refine ⟨H.frz 4 rfl, ?_⟩ | refine ⟨H.frz 5 rfl, ?_⟩ | refine ⟨H.frz 6 rfl, ?_⟩ | refine ⟨H.frz 7 rfl, ?_⟩)
    | (first | refine ⟨_, H.get 0 rfl rfl, ?_⟩ | refine ⟨_, H.get 1 rfl rfl, ?_⟩ | refine ⟨_, H.get 2 rfl rfl, ?_⟩ | refine ⟨_, H.get 3 rfl rfl, ?_⟩ | refine ⟨_, H.get 4 rfl rfl, ?_⟩ | refine ⟨_, H.get 5 rfl rfl, ?_⟩ | refine ⟨_, H.get 6 rfl rfl, ?_⟩ | refine ⟨_, H.get 7 rfl rfl, ?_⟩)
    | (first | refine ⟨_, _, _, H.get 0 rfl rfl, ?_⟩ | refine ⟨_, _, _, H.get 1 rfl rfl, ?_⟩ | refine ⟨_, _, _, H.get 2 rfl rfl, ?_⟩ | refine ⟨_, _, _, H.get 3 rfl rfl, ?_⟩ | refine ⟨_, _, _, H.get 4 rfl rfl, ?_⟩ | refine ⟨_, _, _, H.get 5 rfl rfl, ?_⟩ | refine ⟨_, _, _, H.get 6 rfl rfl, ?_⟩ | refine ⟨_, _, _, H.get 7 rfl rfl, ?_⟩))
  refine ⟨fun hout => ?_, fun hin => ?_⟩
  · have e : takeVV l pos = .tuple #[nullV.agg, .int .i64 0, .int .i64 20] := by unfold takeVV takeVal; rw [if_neg (by omega)]
    repeat (first
      | (intro _ _ hS; replace H := H.new hS; clear hS)
      | (intro _ hS; (first | replace H := H.put 0 rfl hS | replace H := H.put 1 rfl hS | replace H := H.put 2 rfl hS | replace H := H.put 3 rfl hS | replace H := H.put 4 rfl hS | replace H := H.put 5 rfl hS | replace H := H.put 6 rfl hS | replace H := H.put 7 rfl hS); clear hS; try simp only [setA, List.setIfInBounds_toArray, List.set_cons_zero, List.set_cons_succ, Nat.zero_add, Nat.reduceAdd] at H)
      | (intro _ hS; replace H := H.step (Drew.ext hS); clear hS)
      | (first | refine ⟨⟨_, H.get 0 rfl rfl⟩, ?_⟩ | refine ⟨⟨_, H.get 1 rfl rfl⟩, ?_⟩ | refine ⟨⟨_, H.get 2 rfl rfl⟩, ?_⟩ | refine ⟨⟨_, H.get 3 rfl rfl⟩, ?_⟩ | refine ⟨⟨_, H.get 4 rfl rfl⟩, ?_⟩ | refine ⟨⟨_, H.get 5 rfl rfl⟩, ?_⟩ | refine ⟨⟨_, H.get 6 rfl rfl⟩, ?_⟩ | refine ⟨⟨_, H.get 7 rfl rfl⟩, ?_⟩)
      | (first | refine ⟨H.frz 0 rfl, ?_⟩ | refine ⟨H.frz 1 rfl, ?_⟩ | refine ⟨H.frz 2 rfl, ?_⟩ | refine ⟨H.frz 3 rfl, ?_⟩ | refine ⟨H.frz 4 rfl, ?_⟩ | refine ⟨H.frz 5 rfl, ?_⟩ | refine ⟨H.frz 6 rfl, ?_⟩ | refine ⟨H.frz 7 rfl, ?_⟩)
      | (first | refine ⟨_, H.get 0 rfl rfl, ?_⟩ | refine ⟨_, H.get 1 rfl rfl, ?_⟩ | refine ⟨_, H.get 2 rfl rfl, ?_⟩ | refine ⟨_, H.get 3 rfl rfl, ?_⟩ | refine ⟨_, H.get 4 rfl rfl, ?_⟩ | refine ⟨_, H.get 5 rfl rfl, ?_⟩ | refine ⟨_, H.get 6 rfl rfl, ?_⟩ | refine ⟨_, H.get 7 rfl rfl, ?_⟩)
      | (first | refine ⟨_, _, _, H.get 0 rfl rfl, ?_⟩ | refine ⟨_, _, _, H.get 1 rfl rfl, ?_⟩ | refine ⟨_, _, _, H.get 2 rfl rfl, ?_⟩ | refine ⟨_, _, _, H.get 3 rfl rfl, ?_⟩ | refine ⟨_, _, _, H.get 4 rfl rfl, ?_⟩ | refine ⟨_, _, _, H.get 5 rfl rfl, ?_⟩ | refine ⟨_, _, _, H.get 6 rfl rfl, ?_⟩ | refine ⟨_, _, _, H.get 7 rfl rfl, ?_⟩))
    exact ⟨by rw [e]; rfl, H.ext⟩
  obtain ⟨q, rfl⟩ := Int.eq_ofNat_of_zero_le hin.1
  have hq : q < n := by omega
  obtain ⟨b, o, hb, hc⟩ := h.byte hq
  have hlt := by_lt l q
  simp only [Int.toNat_natCast]
  refine ⟨b, o, hb, by omega, by omega, _, cell_ext hc H.ext, ?_⟩
  have e8 : IntKind.i64.wrap ((by_ l q : Nat) : Int) = ((by_ l q : Nat) : Int) := i64_fit (by omega) (by omega)
  have ep : IntKind.i64.wrap ((q : Int) + 1) = ((q + 1 : Nat) : Int) := i64_fit (by omega) (by omega)
  rw [e8, ep]
  have e1 : (q : Int) + 1 = ((q + 1 : Nat) : Int) := by omega
  have hv : takeVal l (q : Int) = (if by_ l q = 0 then some (nullV, q + 1)
      else if by_ l q = 1 then (takeN l ((q + 1 : Nat) : Int)).map fun r => (⟨1, unzig r.1, ⟨#[]⟩⟩, r.2)
      else if by_ l q = 2 then (takeN l ((q + 1 : Nat) : Int)).bind fun r => if r.1 ≤ 1 then some (⟨2, (r.1 : Int), ⟨#[]⟩⟩, r.2) else none
      else if by_ l q = 3 then (takeN l ((q + 1 : Nat) : Int)).bind fun r => if r.1 ≤ 1024 ∧ r.1 ≤ l.length - r.2 then some (⟨3, 0, textOf l r.2 r.1⟩, r.2 + r.1) else none
      else none) := by
    unfold takeVal
    rw [if_pos (by omega), Int.toNat_natCast, e1]
  generalize hk : by_ l q = k at *
  repeat (first
    | (intro _ _ hS; replace H := H.new hS; clear hS)
    | (intro _ hS; (first | replace H := H.put 0 rfl hS | replace H := H.put 1 rfl hS | replace H := H.put 2 rfl hS | replace H := H.put 3 rfl hS | replace H := H.put 4 rfl hS | replace H := H.put 5 rfl hS | replace H := H.put 6 rfl hS | replace H := H.put 7 rfl hS); clear hS; try simp only [setA, List.setIfInBounds_toArray, List.set_cons_zero, List.set_cons_succ, Nat.zero_add, Nat.reduceAdd] at H)
    | (intro _ hS; replace H := H.step (Drew.ext hS); clear hS)
    | (first | refine ⟨⟨_, H.get 0 rfl rfl⟩, ?_⟩ | refine ⟨⟨_, H.get 1 rfl rfl⟩, ?_⟩ | refine ⟨⟨_, H.get 2 rfl rfl⟩, ?_⟩ | refine ⟨⟨_, H.get 3 rfl rfl⟩, ?_⟩ | refine ⟨⟨_, H.get 4 rfl rfl⟩, ?_⟩ | refine ⟨⟨_, H.get 5 rfl rfl⟩, ?_⟩ | refine ⟨⟨_, H.get 6 rfl rfl⟩, ?_⟩ | refine ⟨⟨_, H.get 7 rfl rfl⟩, ?_⟩)
    | (first | refine ⟨H.frz 0 rfl, ?_⟩ | refine ⟨H.frz 1 rfl, ?_⟩ | refine ⟨H.frz 2 rfl, ?_⟩ | refine ⟨H.frz 3 rfl, ?_⟩ | refine ⟨H.frz 4 rfl, ?_⟩ | refine ⟨H.frz 5 rfl, ?_⟩ | refine ⟨H.frz 6 rfl, ?_⟩ | refine ⟨H.frz 7 rfl, ?_⟩)
    | (first | refine ⟨_, H.get 0 rfl rfl, ?_⟩ | refine ⟨_, H.get 1 rfl rfl, ?_⟩ | refine ⟨_, H.get 2 rfl rfl, ?_⟩ | refine ⟨_, H.get 3 rfl rfl, ?_⟩ | refine ⟨_, H.get 4 rfl rfl, ?_⟩ | refine ⟨_, H.get 5 rfl rfl, ?_⟩ | refine ⟨_, H.get 6 rfl rfl, ?_⟩ | refine ⟨_, H.get 7 rfl rfl, ?_⟩)
    | (first | refine ⟨_, _, _, H.get 0 rfl rfl, ?_⟩ | refine ⟨_, _, _, H.get 1 rfl rfl, ?_⟩ | refine ⟨_, _, _, H.get 2 rfl rfl, ?_⟩ | refine ⟨_, _, _, H.get 3 rfl rfl, ?_⟩ | refine ⟨_, _, _, H.get 4 rfl rfl, ?_⟩ | refine ⟨_, _, _, H.get 5 rfl rfl, ?_⟩ | refine ⟨_, _, _, H.get 6 rfl rfl, ?_⟩ | refine ⟨_, _, _, H.get 7 rfl rfl, ?_⟩))
  refine ⟨fun h0 => ⟨fun hx => absurd rfl hx, fun _ => ?_⟩, fun h0 => ⟨fun h1 => ?_, fun h1 => ⟨fun h2 => ?_, fun h2 => ⟨fun h3 => ?_, fun h3 => ⟨fun hx => absurd rfl hx, fun _ => ?_⟩⟩⟩⟩⟩
  · have h0 : k = 0 := by omega
    subst h0
    rw [if_pos rfl] at hv
    have e : takeVV l (q : Int) = .tuple #[nullV.agg, .int .i64 ((q + 1 : Nat) : Int), .int .i64 0] := by unfold takeVV; rw [hv]
    repeat (first
      | (intro _ _ hS; replace H := H.new hS; clear hS)
      | (intro _ hS; (first | replace H := H.put 0 rfl hS | replace H := H.put 1 rfl hS | replace H := H.put 2 rfl hS | replace H := H.put 3 rfl hS | replace H := H.put 4 rfl hS | replace H := H.put 5 rfl hS | replace H := H.put 6 rfl hS | replace H := H.put 7 rfl hS); clear hS; try simp only [setA, List.setIfInBounds_toArray, List.set_cons_zero, List.set_cons_succ, Nat.zero_add, Nat.reduceAdd] at H)
      | (intro _ hS; replace H := H.step (Drew.ext hS); clear hS)
      | (first | refine ⟨⟨_, H.get 0 rfl rfl⟩, ?_⟩ | refine ⟨⟨_, H.get 1 rfl rfl⟩, ?_⟩ | refine ⟨⟨_, H.get 2 rfl rfl⟩, ?_⟩ | refine ⟨⟨_, H.get 3 rfl rfl⟩, ?_⟩ | refine ⟨⟨_, H.get 4 rfl rfl⟩, ?_⟩ | refine ⟨⟨_, H.get 5 rfl rfl⟩, ?_⟩ | refine ⟨⟨_, H.get 6 rfl rfl⟩, ?_⟩ | refine ⟨⟨_, H.get 7 rfl rfl⟩, ?_⟩)
      | (first | refine ⟨H.frz 0 rfl, ?_⟩ | refine ⟨H.frz 1 rfl, ?_⟩ | refine ⟨H.frz 2 rfl, ?_⟩ | refine ⟨H.frz 3 rfl, ?_⟩ | refine ⟨H.frz 4 rfl, ?_⟩ | refine ⟨H.frz 5 rfl, ?_⟩ | refine ⟨H.frz 6 rfl, ?_⟩ | refine ⟨H.frz 7 rfl, ?_⟩)
      | (first | refine ⟨_, H.get 0 rfl rfl, ?_⟩ | refine ⟨_, H.get 1 rfl rfl, ?_⟩ | refine ⟨_, H.get 2 rfl rfl, ?_⟩ | refine ⟨_, H.get 3 rfl rfl, ?_⟩ | refine ⟨_, H.get 4 rfl rfl, ?_⟩ | refine ⟨_, H.get 5 rfl rfl, ?_⟩ | refine ⟨_, H.get 6 rfl rfl, ?_⟩ | refine ⟨_, H.get 7 rfl rfl, ?_⟩)
      | (first | refine ⟨_, _, _, H.get 0 rfl rfl, ?_⟩ | refine ⟨_, _, _, H.get 1 rfl rfl, ?_⟩ | refine ⟨_, _, _, H.get 2 rfl rfl, ?_⟩ | refine ⟨_, _, _, H.get 3 rfl rfl, ?_⟩ | refine ⟨_, _, _, H.get 4 rfl rfl, ?_⟩ | refine ⟨_, _, _, H.get 5 rfl rfl, ?_⟩ | refine ⟨_, _, _, H.get 6 rfl rfl, ?_⟩ | refine ⟨_, _, _, H.get 7 rfl rfl, ?_⟩))
    refine (vright_ok nullV _).mono ?_
    rintro e W ⟨rfl, eS⟩
    replace H := H.step eS
    refine ⟨_, rfl, fun hf => absurd hf (by rw [ok_right (.inl ⟨rfl, rfl, rfl⟩)]; decide), fun _ => ?_⟩
    repeat (first
      | (intro _ _ hS; replace H := H.new hS; clear hS)
      | (intro _ hS; (first | replace H := H.put 0 rfl hS | replace H := H.put 1 rfl hS | replace H := H.put 2 rfl hS | replace H := H.put 3 rfl hS | replace H := H.put 4 rfl hS | replace H := H.put 5 rfl hS | replace H := H.put 6 rfl hS | replace H := H.put 7 rfl hS); clear hS; try simp only [setA, List.setIfInBounds_toArray, List.set_cons_zero, List.set_cons_succ, Nat.zero_add, Nat.reduceAdd] at H)
      | (intro _ hS; replace H := H.step (Drew.ext hS); clear hS)
      | (first | refine ⟨⟨_, H.get 0 rfl rfl⟩, ?_⟩ | refine ⟨⟨_, H.get 1 rfl rfl⟩, ?_⟩ | refine ⟨⟨_, H.get 2 rfl rfl⟩, ?_⟩ | refine ⟨⟨_, H.get 3 rfl rfl⟩, ?_⟩ | refine ⟨⟨_, H.get 4 rfl rfl⟩, ?_⟩ | refine ⟨⟨_, H.get 5 rfl rfl⟩, ?_⟩ | refine ⟨⟨_, H.get 6 rfl rfl⟩, ?_⟩ | refine ⟨⟨_, H.get 7 rfl rfl⟩, ?_⟩)
      | (first | refine ⟨H.frz 0 rfl, ?_⟩ | refine ⟨H.frz 1 rfl, ?_⟩ | refine ⟨H.frz 2 rfl, ?_⟩ | refine ⟨H.frz 3 rfl, ?_⟩ | refine ⟨H.frz 4 rfl, ?_⟩ | refine ⟨H.frz 5 rfl, ?_⟩ | refine ⟨H.frz 6 rfl, ?_⟩ | refine ⟨H.frz 7 rfl, ?_⟩)
      | (first | refine ⟨_, H.get 0 rfl rfl, ?_⟩ | refine ⟨_, H.get 1 rfl rfl, ?_⟩ | refine ⟨_, H.get 2 rfl rfl, ?_⟩ | refine ⟨_, H.get 3 rfl rfl, ?_⟩ | refine ⟨_, H.get 4 rfl rfl, ?_⟩ | refine ⟨_, H.get 5 rfl rfl, ?_⟩ | refine ⟨_, H.get 6 rfl rfl, ?_⟩ | refine ⟨_, H.get 7 rfl rfl, ?_⟩)
      | (first | refine ⟨_, _, _, H.get 0 rfl rfl, ?_⟩ | refine ⟨_, _, _, H.get 1 rfl rfl, ?_⟩ | refine ⟨_, _, _, H.get 2 rfl rfl, ?_⟩ | refine ⟨_, _, _, H.get 3 rfl rfl, ?_⟩ | refine ⟨_, _, _, H.get 4 rfl rfl, ?_⟩ | refine ⟨_, _, _, H.get 5 rfl rfl, ?_⟩ | refine ⟨_, _, _, H.get 6 rfl rfl, ?_⟩ | refine ⟨_, _, _, H.get 7 rfl rfl, ?_⟩))
    exact ⟨by rw [e]; rfl, H.ext⟩
  · have h1 : k = 1 := by omega
    subst h1
    rw [if_neg (by decide), if_pos rfl] at hv
    refine (takeSigned_ok _ p n c l _ h.len h.cap.1 h.le (h.lies.ext H.ext)).mono ?_
    rintro e W ⟨rfl, eS⟩
    replace H := H.step eS
    clear eS
    unfold takeS
    cases ht : takeN l ((q + 1 : Nat) : Int) with
    | none =>
      rw [ht] at hv
      have e : takeVV l (q : Int) = .tuple #[nullV.agg, .int .i64 0, .int .i64 20] := by unfold takeVV; rw [hv]; rfl
      refine ⟨0, 0, 20, rfl, ?_⟩
      repeat (first
        | (intro _ _ hS; replace H := H.new hS; clear hS)
        | (intro _ hS; (first | replace H := H.put 0 rfl hS | replace H := H.put 1 rfl hS | replace H := H.put 2 rfl hS | replace H := H.put 3 rfl hS | replace H := H.put 4 rfl hS | replace H := H.put 5 rfl hS | replace H := H.put 6 rfl hS | replace H := H.put 7 rfl hS); clear hS; try simp only [setA, List.setIfInBounds_toArray, List.set_cons_zero, List.set_cons_succ, Nat.zero_add, Nat.reduceAdd] at H)
        | (intro _ hS; replace H := H.step (Drew.ext hS); clear hS)
        | (first | refine ⟨⟨_, H.get 0 rfl rfl⟩, ?_⟩ | refine ⟨⟨_, H.get 1 rfl rfl⟩, ?_⟩ | refine ⟨⟨_, H.get 2 rfl rfl⟩, ?_⟩ | refine ⟨⟨_, H.get 3 rfl rfl⟩, ?_⟩ | refine ⟨⟨_, H.get 4 rfl rfl⟩, ?_⟩ | refine ⟨⟨_, H.get 5 rfl rfl⟩, ?_⟩ | refine ⟨⟨_, H.get 6 rfl rfl⟩, ?_⟩ | refine ⟨⟨_, H.get 7 rfl rfl⟩, ?_⟩)
        | (first | refine ⟨H.frz 0 rfl, ?_⟩ | refine ⟨H.frz 1 rfl, ?_⟩ | refine ⟨H.frz 2 rfl, ?_⟩ | refine ⟨H.frz 3 rfl, ?_⟩ | refine ⟨H.frz 4 rfl, ?_⟩ | refine ⟨H.frz 5 rfl, ?_⟩ | refine ⟨H.frz 6 rfl, ?_⟩ | refine ⟨H.frz 7 rfl, ?_⟩)
        | (first | refine ⟨_, H.get 0 rfl rfl, ?_⟩ | refine ⟨_, H.get 1 rfl rfl, ?_⟩ | refine ⟨_, H.get 2 rfl rfl, ?_⟩ | refine ⟨_, H.get 3 rfl rfl, ?_⟩ | refine ⟨_, H.get 4 rfl rfl, ?_⟩ | refine ⟨_, H.get 5 rfl rfl, ?_⟩ | refine ⟨_, H.get 6 rfl rfl, ?_⟩ | refine ⟨_, H.get 7 rfl rfl, ?_⟩)
        | (first | refine ⟨_, _, _, H.get 0 rfl rfl, ?_⟩ | refine ⟨_, _, _, H.get 1 rfl rfl, ?_⟩ | refine ⟨_, _, _, H.get 2 rfl rfl, ?_⟩ | refine ⟨_, _, _, H.get 3 rfl rfl, ?_⟩ | refine ⟨_, _, _, H.get 4 rfl rfl, ?_⟩ | refine ⟨_, _, _, H.get 5 rfl rfl, ?_⟩ | refine ⟨_, _, _, H.get 6 rfl rfl, ?_⟩ | refine ⟨_, _, _, H.get 7 rfl rfl, ?_⟩))
      refine ⟨fun _ => ?_, fun hx => absurd hx (by decide)⟩
      repeat (first
        | (intro _ _ hS; replace H := H.new hS; clear hS)
        | (intro _ hS; (first | replace H := H.put 0 rfl hS | replace H := H.put 1 rfl hS | replace H := H.put 2 rfl hS | replace H := H.put 3 rfl hS | replace H := H.put 4 rfl hS | replace H := H.put 5 rfl hS | replace H := H.put 6 rfl hS | replace H := H.put 7 rfl hS); clear hS; try simp only [setA, List.setIfInBounds_toArray, List.set_cons_zero, List.set_cons_succ, Nat.zero_add, Nat.reduceAdd] at H)
        | (intro _ hS; replace H := H.step (Drew.ext hS); clear hS)
        | (first | refine ⟨⟨_, H.get 0 rfl rfl⟩, ?_⟩ | refine ⟨⟨_, H.get 1 rfl rfl⟩, ?_⟩ | refine ⟨⟨_, H.get 2 rfl rfl⟩, ?_⟩ | refine ⟨⟨_, H.get 3 rfl rfl⟩, ?_⟩ | refine ⟨⟨_, H.get 4 rfl rfl⟩, ?_⟩ | refine ⟨⟨_, H.get 5 rfl rfl⟩, ?_⟩ | refine ⟨⟨_, H.get 6 rfl rfl⟩, ?_⟩ | refine ⟨⟨_, H.get 7 rfl rfl⟩, ?_⟩)
        | (first | refine ⟨H.frz 0 rfl, ?_⟩ | refine ⟨H.frz 1 rfl, ?_⟩ | refine ⟨H.frz 2 rfl, ?_⟩ | refine ⟨H.frz 3 rfl, ?_⟩ | refine ⟨H.frz 4 rfl, ?_⟩ | refine ⟨H.frz 5 rfl, ?_⟩ | refine ⟨H.frz 6 rfl, ?_⟩ | refine ⟨H.frz 7 rfl, ?_⟩)
        | (first | refine ⟨_, H.get 0 rfl rfl, ?_⟩ | refine ⟨_, H.get 1 rfl rfl, ?_⟩ | refine ⟨_, H.get 2 rfl rfl, ?_⟩ | refine ⟨_, H.get 3 rfl rfl, ?_⟩ | refine ⟨_, H.get 4 rfl rfl, ?_⟩ | refine ⟨_, H.get 5 rfl rfl, ?_⟩ | refine ⟨_, H.get 6 rfl rfl, ?_⟩ | refine ⟨_, H.get 7 rfl rfl, ?_⟩)
        | (first | refine ⟨_, _, _, H.get 0 rfl rfl, ?_⟩ | refine ⟨_, _, _, H.get 1 rfl rfl, ?_⟩ | refine ⟨_, _, _, H.get 2 rfl rfl, ?_⟩ | refine ⟨_, _, _, H.get 3 rfl rfl, ?_⟩ | refine ⟨_, _, _, H.get 4 rfl rfl, ?_⟩ | refine ⟨_, _, _, H.get 5 rfl rfl, ?_⟩ | refine ⟨_, _, _, H.get 6 rfl rfl, ?_⟩ | refine ⟨_, _, _, H.get 7 rfl rfl, ?_⟩))
      exact ⟨by rw [e]; rfl, H.ext⟩
    | some r =>
      obtain ⟨x, j⟩ := r
      rw [ht] at hv
      have e : takeVV l (q : Int) = .tuple #[(⟨1, unzig x, ⟨#[]⟩⟩ : Val).agg, .int .i64 (j : Int), .int .i64 0] := by unfold takeVV; rw [hv]; rfl
      refine ⟨_, _, _, rfl, ?_⟩
      repeat (first
        | (intro _ _ hS; replace H := H.new hS; clear hS)
        | (intro _ hS; (first | replace H := H.put 0 rfl hS | replace H := H.put 1 rfl hS | replace H := H.put 2 rfl hS | replace H := H.put 3 rfl hS | replace H := H.put 4 rfl hS | replace H := H.put 5 rfl hS | replace H := H.put 6 rfl hS | replace H := H.put 7 rfl hS); clear hS; try simp only [setA, List.setIfInBounds_toArray, List.set_cons_zero, List.set_cons_succ, Nat.zero_add, Nat.reduceAdd] at H)
        | (intro _ hS; replace H := H.step (Drew.ext hS); clear hS)
        | (first | refine ⟨⟨_, H.get 0 rfl rfl⟩, ?_⟩ | refine ⟨⟨_, H.get 1 rfl rfl⟩, ?_⟩ | refine ⟨⟨_, H.get 2 rfl rfl⟩, ?_⟩ | refine ⟨⟨_, H.get 3 rfl rfl⟩, ?_⟩ | refine ⟨⟨_, H.get 4 rfl rfl⟩, ?_⟩ | refine ⟨⟨_, H.get 5 rfl rfl⟩, ?_⟩ | refine ⟨⟨_, H.get 6 rfl rfl⟩, ?_⟩ | refine ⟨⟨_, H.get 7 rfl rfl⟩, ?_⟩)
        | (first | refine ⟨H.frz 0 rfl, ?_⟩ | refine ⟨H.frz 1 rfl, ?_⟩ | refine ⟨H.frz 2 rfl, ?_⟩ | refine ⟨H.frz 3 rfl, ?_⟩ | refine ⟨H.frz 4 rfl, ?_⟩ | refine ⟨H.frz 5 rfl, ?_⟩ | refine ⟨H.frz 6 rfl, ?_⟩ | refine ⟨H.frz 7 rfl, ?_⟩)
        | (first | refine ⟨_, H.get 0 rfl rfl, ?_⟩ | refine ⟨_, H.get 1 rfl rfl, ?_⟩ | refine ⟨_, H.get 2 rfl rfl, ?_⟩ | refine ⟨_, H.get 3 rfl rfl, ?_⟩ | refine ⟨_, H.get 4 rfl rfl, ?_⟩ | refine ⟨_, H.get 5 rfl rfl, ?_⟩ | refine ⟨_, H.get 6 rfl rfl, ?_⟩ | refine ⟨_, H.get 7 rfl rfl, ?_⟩)
        | (first | refine ⟨_, _, _, H.get 0 rfl rfl, ?_⟩ | refine ⟨_, _, _, H.get 1 rfl rfl, ?_⟩ | refine ⟨_, _, _, H.get 2 rfl rfl, ?_⟩ | refine ⟨_, _, _, H.get 3 rfl rfl, ?_⟩ | refine ⟨_, _, _, H.get 4 rfl rfl, ?_⟩ | refine ⟨_, _, _, H.get 5 rfl rfl, ?_⟩ | refine ⟨_, _, _, H.get 6 rfl rfl, ?_⟩ | refine ⟨_, _, _, H.get 7 rfl rfl, ?_⟩))
      refine ⟨fun hx => absurd rfl hx, fun _ => ?_⟩
      repeat (first
        | (intro _ _ hS; replace H := H.new hS; clear hS)
        | (intro _ hS; (first | replace H := H.put 0 rfl hS | replace H := H.put 1 rfl hS | replace H := H.put 2 rfl hS | replace H := H.put 3 rfl hS | replace H := H.put 4 rfl hS | replace H := H.put 5 rfl hS | replace H := H.put 6 rfl hS | replace H := H.put 7 rfl hS); clear hS; try simp only [setA, List.setIfInBounds_toArray, List.set_cons_zero, List.set_cons_succ, Nat.zero_add, Nat.reduceAdd] at H)
        | (intro _ hS; replace H := H.step (Drew.ext hS); clear hS)
        | (first | refine ⟨⟨_, H.get 0 rfl rfl⟩, ?_⟩ | refine ⟨⟨_, H.get 1 rfl rfl⟩, ?_⟩ | refine ⟨⟨_, H.get 2 rfl rfl⟩, ?_⟩ | refine ⟨⟨_, H.get 3 rfl rfl⟩, ?_⟩ | refine ⟨⟨_, H.get 4 rfl rfl⟩, ?_⟩ | refine ⟨⟨_, H.get 5 rfl rfl⟩, ?_⟩ | refine ⟨⟨_, H.get 6 rfl rfl⟩, ?_⟩ | refine ⟨⟨_, H.get 7 rfl rfl⟩, ?_⟩)
        | (first | refine ⟨H.frz 0 rfl, ?_⟩ | refine ⟨H.frz 1 rfl, ?_⟩ | refine ⟨H.frz 2 rfl, ?_⟩ | refine ⟨H.frz 3 rfl, ?_⟩ | refine ⟨H.frz 4 rfl, ?_⟩ | refine ⟨H.frz 5 rfl, ?_⟩ | refine ⟨H.frz 6 rfl, ?_⟩ | refine ⟨H.frz 7 rfl, ?_⟩)
        | (first | refine ⟨_, H.get 0 rfl rfl, ?_⟩ | refine ⟨_, H.get 1 rfl rfl, ?_⟩ | refine ⟨_, H.get 2 rfl rfl, ?_⟩ | refine ⟨_, H.get 3 rfl rfl, ?_⟩ | refine ⟨_, H.get 4 rfl rfl, ?_⟩ | refine ⟨_, H.get 5 rfl rfl, ?_⟩ | refine ⟨_, H.get 6 rfl rfl, ?_⟩ | refine ⟨_, H.get 7 rfl rfl, ?_⟩)
        | (first | refine ⟨_, _, _, H.get 0 rfl rfl, ?_⟩ | refine ⟨_, _, _, H.get 1 rfl rfl, ?_⟩ | refine ⟨_, _, _, H.get 2 rfl rfl, ?_⟩ | refine ⟨_, _, _, H.get 3 rfl rfl, ?_⟩ | refine ⟨_, _, _, H.get 4 rfl rfl, ?_⟩ | refine ⟨_, _, _, H.get 5 rfl rfl, ?_⟩ | refine ⟨_, _, _, H.get 6 rfl rfl, ?_⟩ | refine ⟨_, _, _, H.get 7 rfl rfl, ?_⟩))
      refine (vright_ok ⟨1, unzig x, ⟨#[]⟩⟩ _).mono ?_
      rintro e W ⟨rfl, eS⟩
      replace H := H.step eS
      refine ⟨_, rfl, fun hf => absurd hf (by rw [ok_right (.inr (.inl ⟨rfl, rfl⟩))]; decide), fun _ => ?_⟩
      repeat (first
        | (intro _ _ hS; replace H := H.new hS; clear hS)
        | (intro _ hS; (first | replace H := H.put 0 rfl hS | replace H := H.put 1 rfl hS | replace H := H.put 2 rfl hS | replace H := H.put 3 rfl hS | replace H := H.put 4 rfl hS | replace H := H.put 5 rfl hS | replace H := H.put 6 rfl hS | replace H := H.put 7 rfl hS); clear hS; try simp only [setA, List.setIfInBounds_toArray, List.set_cons_zero, List.set_cons_succ, Nat.zero_add, Nat.reduceAdd] at H)
        | (intro _ hS; replace H := H.step (Drew.ext hS); clear hS)
        | (first | refine ⟨⟨_, H.get 0 rfl rfl⟩, ?_⟩ | refine ⟨⟨_, H.get 1 rfl rfl⟩, ?_⟩ | refine ⟨⟨_, H.get 2 rfl rfl⟩, ?_⟩ | refine ⟨⟨_, H.get 3 rfl rfl⟩, ?_⟩ | refine ⟨⟨_, H.get 4 rfl rfl⟩, ?_⟩ | refine ⟨⟨_, H.get 5 rfl rfl⟩, ?_⟩ | refine ⟨⟨_, H.get 6 rfl rfl⟩, ?_⟩ | refine ⟨⟨_, H.get 7 rfl rfl⟩, ?_⟩)
        | (first | refine ⟨H.frz 0 rfl, ?_⟩ | refine ⟨H.frz 1 rfl, ?_⟩ | refine ⟨H.frz 2 rfl, ?_⟩ | refine ⟨H.frz 3 rfl, ?_⟩ | refine ⟨H.frz 4 rfl, ?_⟩ | refine ⟨H.frz 5 rfl, ?_⟩ | refine ⟨H.frz 6 rfl, ?_⟩ | refine ⟨H.frz 7 rfl, ?_⟩)
        | (first | refine ⟨_, H.get 0 rfl rfl, ?_⟩ | refine ⟨_, H.get 1 rfl rfl, ?_⟩ | refine ⟨_, H.get 2 rfl rfl, ?_⟩ | refine ⟨_, H.get 3 rfl rfl, ?_⟩ | refine ⟨_, H.get 4 rfl rfl, ?_⟩ | refine ⟨_, H.get 5 rfl rfl, ?_⟩ | refine ⟨_, H.get 6 rfl rfl, ?_⟩ | refine ⟨_, H.get 7 rfl rfl, ?_⟩)
        | (first | refine ⟨_, _, _, H.get 0 rfl rfl, ?_⟩ | refine ⟨_, _, _, H.get 1 rfl rfl, ?_⟩ | refine ⟨_, _, _, H.get 2 rfl rfl, ?_⟩ | refine ⟨_, _, _, H.get 3 rfl rfl, ?_⟩ | refine ⟨_, _, _, H.get 4 rfl rfl, ?_⟩ | refine ⟨_, _, _, H.get 5 rfl rfl, ?_⟩ | refine ⟨_, _, _, H.get 6 rfl rfl, ?_⟩ | refine ⟨_, _, _, H.get 7 rfl rfl, ?_⟩))
      exact ⟨by rw [e]; rfl, H.ext⟩
  · have h2 : k = 2 := by omega
    subst h2
    rw [if_neg (by decide), if_neg (by decide), if_pos rfl] at hv
    refine (takeNumber_ok _ p n c l _ h.len h.cap.1 h.le (h.lies.ext H.ext)).mono ?_
    rintro e W ⟨rfl, eS⟩
    replace H := H.step eS
    clear eS
    unfold takeV
    cases ht : takeN l ((q + 1 : Nat) : Int) with
    | none =>
      rw [ht] at hv
      have e : takeVV l (q : Int) = .tuple #[nullV.agg, .int .i64 0, .int .i64 20] := by unfold takeVV; rw [hv]; rfl
      refine ⟨0, 0, 20, rfl, ?_⟩
      repeat (first
        | (intro _ _ hS; replace H := H.new hS; clear hS)
        | (intro _ hS; (first | replace H := H.put 0 rfl hS | replace H := H.put 1 rfl hS | replace H := H.put 2 rfl hS | replace H := H.put 3 rfl hS | replace H := H.put 4 rfl hS | replace H := H.put 5 rfl hS | replace H := H.put 6 rfl hS | replace H := H.put 7 rfl hS); clear hS; try simp only [setA, List.setIfInBounds_toArray, List.set_cons_zero, List.set_cons_succ, Nat.zero_add, Nat.reduceAdd] at H)
        | (intro _ hS; replace H := H.step (Drew.ext hS); clear hS)
        | (first | refine ⟨⟨_, H.get 0 rfl rfl⟩, ?_⟩ | refine ⟨⟨_, H.get 1 rfl rfl⟩, ?_⟩ | refine ⟨⟨_, H.get 2 rfl rfl⟩, ?_⟩ | refine ⟨⟨_, H.get 3 rfl rfl⟩, ?_⟩ | refine ⟨⟨_, H.get 4 rfl rfl⟩, ?_⟩ | refine ⟨⟨_, H.get 5 rfl rfl⟩, ?_⟩ | refine ⟨⟨_, H.get 6 rfl rfl⟩, ?_⟩ | refine ⟨⟨_, H.get 7 rfl rfl⟩, ?_⟩)
        | (first | refine ⟨H.frz 0 rfl, ?_⟩ | refine ⟨H.frz 1 rfl, ?_⟩ | refine ⟨H.frz 2 rfl, ?_⟩ | refine ⟨H.frz 3 rfl, ?_⟩ | refine ⟨H.frz 4 rfl, ?_⟩ | refine ⟨H.frz 5 rfl, ?_⟩ | refine ⟨H.frz 6 rfl, ?_⟩ | refine ⟨H.frz 7 rfl, ?_⟩)
        | (first | refine ⟨_, H.get 0 rfl rfl, ?_⟩ | refine ⟨_, H.get 1 rfl rfl, ?_⟩ | refine ⟨_, H.get 2 rfl rfl, ?_⟩ | refine ⟨_, H.get 3 rfl rfl, ?_⟩ | refine ⟨_, H.get 4 rfl rfl, ?_⟩ | refine ⟨_, H.get 5 rfl rfl, ?_⟩ | refine ⟨_, H.get 6 rfl rfl, ?_⟩ | refine ⟨_, H.get 7 rfl rfl, ?_⟩)
        | (first | refine ⟨_, _, _, H.get 0 rfl rfl, ?_⟩ | refine ⟨_, _, _, H.get 1 rfl rfl, ?_⟩ | refine ⟨_, _, _, H.get 2 rfl rfl, ?_⟩ | refine ⟨_, _, _, H.get 3 rfl rfl, ?_⟩ | refine ⟨_, _, _, H.get 4 rfl rfl, ?_⟩ | refine ⟨_, _, _, H.get 5 rfl rfl, ?_⟩ | refine ⟨_, _, _, H.get 6 rfl rfl, ?_⟩ | refine ⟨_, _, _, H.get 7 rfl rfl, ?_⟩))
      refine ⟨fun _ => ?_, fun hx => absurd hx (by decide)⟩
      repeat (first
        | (intro _ _ hS; replace H := H.new hS; clear hS)
        | (intro _ hS; (first | replace H := H.put 0 rfl hS | replace H := H.put 1 rfl hS | replace H := H.put 2 rfl hS | replace H := H.put 3 rfl hS | replace H := H.put 4 rfl hS | replace H := H.put 5 rfl hS | replace H := H.put 6 rfl hS | replace H := H.put 7 rfl hS); clear hS; try simp only [setA, List.setIfInBounds_toArray, List.set_cons_zero, List.set_cons_succ, Nat.zero_add, Nat.reduceAdd] at H)
        | (intro _ hS; replace H := H.step (Drew.ext hS); clear hS)
        | (first | refine ⟨⟨_, H.get 0 rfl rfl⟩, ?_⟩ | refine ⟨⟨_, H.get 1 rfl rfl⟩, ?_⟩ | refine ⟨⟨_, H.get 2 rfl rfl⟩, ?_⟩ | refine ⟨⟨_, H.get 3 rfl rfl⟩, ?_⟩ | refine ⟨⟨_, H.get 4 rfl rfl⟩, ?_⟩ | refine ⟨⟨_, H.get 5 rfl rfl⟩, ?_⟩ | refine ⟨⟨_, H.get 6 rfl rfl⟩, ?_⟩ | refine ⟨⟨_, H.get 7 rfl rfl⟩, ?_⟩)
        | (first | refine ⟨H.frz 0 rfl, ?_⟩ | refine ⟨H.frz 1 rfl, ?_⟩ | refine ⟨H.frz 2 rfl, ?_⟩ | refine ⟨H.frz 3 rfl, ?_⟩ | refine ⟨H.frz 4 rfl, ?_⟩ | refine ⟨H.frz 5 rfl, ?_⟩ | refine ⟨H.frz 6 rfl, ?_⟩ | refine ⟨H.frz 7 rfl, ?_⟩)
        | (first | refine ⟨_, H.get 0 rfl rfl, ?_⟩ | refine ⟨_, H.get 1 rfl rfl, ?_⟩ | refine ⟨_, H.get 2 rfl rfl, ?_⟩ | refine ⟨_, H.get 3 rfl rfl, ?_⟩ | refine ⟨_, H.get 4 rfl rfl, ?_⟩ | refine ⟨_, H.get 5 rfl rfl, ?_⟩ | refine ⟨_, H.get 6 rfl rfl, ?_⟩ | refine ⟨_, H.get 7 rfl rfl, ?_⟩)
        | (first | refine ⟨_, _, _, H.get 0 rfl rfl, ?_⟩ | refine ⟨_, _, _, H.get 1 rfl rfl, ?_⟩ | refine ⟨_, _, _, H.get 2 rfl rfl, ?_⟩ | refine ⟨_, _, _, H.get 3 rfl rfl, ?_⟩ | refine ⟨_, _, _, H.get 4 rfl rfl, ?_⟩ | refine ⟨_, _, _, H.get 5 rfl rfl, ?_⟩ | refine ⟨_, _, _, H.get 6 rfl rfl, ?_⟩ | refine ⟨_, _, _, H.get 7 rfl rfl, ?_⟩))
      exact ⟨by rw [e]; rfl, H.ext⟩
    | some r =>
      obtain ⟨x, j⟩ := r
      rw [ht] at hv
      obtain ⟨_, hx64, _⟩ := takeN_spec ht
      refine ⟨_, _, _, rfl, ?_⟩
      repeat (first
        | (intro _ _ hS; replace H := H.new hS; clear hS)
        | (intro _ hS; (first | replace H := H.put 0 rfl hS | replace H := H.put 1 rfl hS | replace H := H.put 2 rfl hS | replace H := H.put 3 rfl hS | replace H := H.put 4 rfl hS | replace H := H.put 5 rfl hS | replace H := H.put 6 rfl hS | replace H := H.put 7 rfl hS); clear hS; try simp only [setA, List.setIfInBounds_toArray, List.set_cons_zero, List.set_cons_succ, Nat.zero_add, Nat.reduceAdd] at H)
        | (intro _ hS; replace H := H.step (Drew.ext hS); clear hS)
        | (first | refine ⟨⟨_, H.get 0 rfl rfl⟩, ?_⟩ | refine ⟨⟨_, H.get 1 rfl rfl⟩, ?_⟩ | refine ⟨⟨_, H.get 2 rfl rfl⟩, ?_⟩ | refine ⟨⟨_, H.get 3 rfl rfl⟩, ?_⟩ | refine ⟨⟨_, H.get 4 rfl rfl⟩, ?_⟩ | refine ⟨⟨_, H.get 5 rfl rfl⟩, ?_⟩ | refine ⟨⟨_, H.get 6 rfl rfl⟩, ?_⟩ | refine ⟨⟨_, H.get 7 rfl rfl⟩, ?_⟩)
        | (first | refine ⟨H.frz 0 rfl, ?_⟩ | refine ⟨H.frz 1 rfl, ?_⟩ | refine ⟨H.frz 2 rfl, ?_⟩ | refine ⟨H.frz 3 rfl, ?_⟩ | refine ⟨H.frz 4 rfl, ?_⟩ | refine ⟨H.frz 5 rfl, ?_⟩ | refine ⟨H.frz 6 rfl, ?_⟩ | refine ⟨H.frz 7 rfl, ?_⟩)
        | (first | refine ⟨_, H.get 0 rfl rfl, ?_⟩ | refine ⟨_, H.get 1 rfl rfl, ?_⟩ | refine ⟨_, H.get 2 rfl rfl, ?_⟩ | refine ⟨_, H.get 3 rfl rfl, ?_⟩ | refine ⟨_, H.get 4 rfl rfl, ?_⟩ | refine ⟨_, H.get 5 rfl rfl, ?_⟩ | refine ⟨_, H.get 6 rfl rfl, ?_⟩ | refine ⟨_, H.get 7 rfl rfl, ?_⟩)
        | (first | refine ⟨_, _, _, H.get 0 rfl rfl, ?_⟩ | refine ⟨_, _, _, H.get 1 rfl rfl, ?_⟩ | refine ⟨_, _, _, H.get 2 rfl rfl, ?_⟩ | refine ⟨_, _, _, H.get 3 rfl rfl, ?_⟩ | refine ⟨_, _, _, H.get 4 rfl rfl, ?_⟩ | refine ⟨_, _, _, H.get 5 rfl rfl, ?_⟩ | refine ⟨_, _, _, H.get 6 rfl rfl, ?_⟩ | refine ⟨_, _, _, H.get 7 rfl rfl, ?_⟩))
      refine ⟨fun hx => absurd rfl hx, fun _ => ?_⟩
      repeat (first
        | (intro _ _ hS; replace H := H.new hS; clear hS)
        | (intro _ hS; (first | replace H := H.put 0 rfl hS | replace H := H.put 1 rfl hS | replace H := H.put 2 rfl hS | replace H := H.put 3 rfl hS | replace H := H.put 4 rfl hS | replace H := H.put 5 rfl hS | replace H := H.put 6 rfl hS | replace H := H.put 7 rfl hS); clear hS; try simp only [setA, List.setIfInBounds_toArray, List.set_cons_zero, List.set_cons_succ, Nat.zero_add, Nat.reduceAdd] at H)
        | (intro _ hS; replace H := H.step (Drew.ext hS); clear hS)
        | (first | refine ⟨⟨_, H.get 0 rfl rfl⟩, ?_⟩ | refine ⟨⟨_, H.get 1 rfl rfl⟩, ?_⟩ | refine ⟨⟨_, H.get 2 rfl rfl⟩, ?_⟩ | refine ⟨⟨_, H.get 3 rfl rfl⟩, ?_⟩ | refine ⟨⟨_, H.get 4 rfl rfl⟩, ?_⟩ | refine ⟨⟨_, H.get 5 rfl rfl⟩, ?_⟩ | refine ⟨⟨_, H.get 6 rfl rfl⟩, ?_⟩ | refine ⟨⟨_, H.get 7 rfl rfl⟩, ?_⟩)
        | (first | refine ⟨H.frz 0 rfl, ?_⟩ | refine ⟨H.frz 1 rfl, ?_⟩ | refine ⟨H.frz 2 rfl, ?_⟩ | refine ⟨H.frz 3 rfl, ?_⟩ | refine ⟨H.frz 4 rfl, ?_⟩ | refine ⟨H.frz 5 rfl, ?_⟩ | refine ⟨H.frz 6 rfl, ?_⟩ | refine ⟨H.frz 7 rfl, ?_⟩)
        | (first | refine ⟨_, H.get 0 rfl rfl, ?_⟩ | refine ⟨_, H.get 1 rfl rfl, ?_⟩ | refine ⟨_, H.get 2 rfl rfl, ?_⟩ | refine ⟨_, H.get 3 rfl rfl, ?_⟩ | refine ⟨_, H.get 4 rfl rfl, ?_⟩ | refine ⟨_, H.get 5 rfl rfl, ?_⟩ | refine ⟨_, H.get 6 rfl rfl, ?_⟩ | refine ⟨_, H.get 7 rfl rfl, ?_⟩)
        | (first | refine ⟨_, _, _, H.get 0 rfl rfl, ?_⟩ | refine ⟨_, _, _, H.get 1 rfl rfl, ?_⟩ | refine ⟨_, _, _, H.get 2 rfl rfl, ?_⟩ | refine ⟨_, _, _, H.get 3 rfl rfl, ?_⟩ | refine ⟨_, _, _, H.get 4 rfl rfl, ?_⟩ | refine ⟨_, _, _, H.get 5 rfl rfl, ?_⟩ | refine ⟨_, _, _, H.get 6 rfl rfl, ?_⟩ | refine ⟨_, _, _, H.get 7 rfl rfl, ?_⟩))
      refine (vright_ok ⟨2, IntKind.i64.wrap (x : Int), ⟨#[]⟩⟩ _).mono ?_
      rintro e W ⟨rfl, eS⟩
      replace H := H.step eS
      refine ⟨_, rfl, fun hf => ?_, fun ht => ?_⟩
      · have hx1 : ¬ x ≤ 1 := by
          intro hx
          rw [ok_right (.inr (.inr (.inl ⟨rfl, by show IntKind.i64.wrap (x : Int) = 0 ∨ IntKind.i64.wrap (x : Int) = 1; rw [i64_fit (by omega) (by omega)]; omega, rfl⟩)))] at hf
          cases hf
        have e : takeVV l (q : Int) = .tuple #[nullV.agg, .int .i64 0, .int .i64 20] := by unfold takeVV; rw [hv]; simp only [Option.bind_some]; rw [if_neg hx1]
        repeat (first
          | (intro _ _ hS; replace H := H.new hS; clear hS)
          | (intro _ hS; (first | replace H := H.put 0 rfl hS | replace H := H.put 1 rfl hS | replace H := H.put 2 rfl hS | replace H := H.put 3 rfl hS | replace H := H.put 4 rfl hS | replace H := H.put 5 rfl hS | replace H := H.put 6 rfl hS | replace H := H.put 7 rfl hS); clear hS; try simp only [setA, List.setIfInBounds_toArray, List.set_cons_zero, List.set_cons_succ, Nat.zero_add, Nat.reduceAdd] at H)
          | (intro _ hS; replace H := H.step (Drew.ext hS); clear hS)
          | (first | refine ⟨⟨_, H.get 0 rfl rfl⟩, ?_⟩ | refine ⟨⟨_, H.get 1 rfl rfl⟩, ?_⟩ | refine ⟨⟨_, H.get 2 rfl rfl⟩, ?_⟩ | refine ⟨⟨_, H.get 3 rfl rfl⟩, ?_⟩ | refine ⟨⟨_, H.get 4 rfl rfl⟩, ?_⟩ | refine ⟨⟨_, H.get 5 rfl rfl⟩, ?_⟩ | refine ⟨⟨_, H.get 6 rfl rfl⟩, ?_⟩ | refine ⟨⟨_, H.get 7 rfl rfl⟩, ?_⟩)
          | (first | refine ⟨H.frz 0 rfl, ?_⟩ | refine ⟨H.frz 1 rfl, ?_⟩ | refine ⟨H.frz 2 rfl, ?_⟩ | refine ⟨H.frz 3 rfl, ?_⟩ | refine ⟨H.frz 4 rfl, ?_⟩ | refine ⟨H.frz 5 rfl, ?_⟩ | refine ⟨H.frz 6 rfl, ?_⟩ | refine ⟨H.frz 7 rfl, ?_⟩)
          | (first | refine ⟨_, H.get 0 rfl rfl, ?_⟩ | refine ⟨_, H.get 1 rfl rfl, ?_⟩ | refine ⟨_, H.get 2 rfl rfl, ?_⟩ | refine ⟨_, H.get 3 rfl rfl, ?_⟩ | refine ⟨_, H.get 4 rfl rfl, ?_⟩ | refine ⟨_, H.get 5 rfl rfl, ?_⟩ | refine ⟨_, H.get 6 rfl rfl, ?_⟩ | refine ⟨_, H.get 7 rfl rfl, ?_⟩)
          | (first | refine ⟨_, _, _, H.get 0 rfl rfl, ?_⟩ | refine ⟨_, _, _, H.get 1 rfl rfl, ?_⟩ | refine ⟨_, _, _, H.get 2 rfl rfl, ?_⟩ | refine ⟨_, _, _, H.get 3 rfl rfl, ?_⟩ | refine ⟨_, _, _, H.get 4 rfl rfl, ?_⟩ | refine ⟨_, _, _, H.get 5 rfl rfl, ?_⟩ | refine ⟨_, _, _, H.get 6 rfl rfl, ?_⟩ | refine ⟨_, _, _, H.get 7 rfl rfl, ?_⟩))
        exact ⟨by rw [e]; rfl, H.ext⟩
      · have hok : Val.Ok ⟨2, IntKind.i64.wrap (x : Int), ⟨#[]⟩⟩ := of_decide_eq_true ht
        have hx1 : x ≤ 1 ∧ IntKind.i64.wrap (x : Int) = (x : Int) := by
          rw [IntKind.wrap_i64] at hok ⊢
          rcases hok with ⟨a, _⟩ | ⟨a, _⟩ | ⟨_, a, _⟩ | ⟨a, _⟩
          · cases a
          · cases a
          · dsimp only at a; omega
          · cases a
        have e : takeVV l (q : Int) = .tuple #[(⟨2, (x : Int), ⟨#[]⟩⟩ : Val).agg, .int .i64 (j : Int), .int .i64 0] := by unfold takeVV; rw [hv]; simp only [Option.bind_some]; rw [if_pos hx1.1]
        repeat (first
          | (intro _ _ hS; replace H := H.new hS; clear hS)
          | (intro _ hS; (first | replace H := H.put 0 rfl hS | replace H := H.put 1 rfl hS | replace H := H.put 2 rfl hS | replace H := H.put 3 rfl hS | replace H := H.put 4 rfl hS | replace H := H.put 5 rfl hS | replace H := H.put 6 rfl hS | replace H := H.put 7 rfl hS); clear hS; try simp only [setA, List.setIfInBounds_toArray, List.set_cons_zero, List.set_cons_succ, Nat.zero_add, Nat.reduceAdd] at H)
          | (intro _ hS; replace H := H.step (Drew.ext hS); clear hS)
          | (first | refine ⟨⟨_, H.get 0 rfl rfl⟩, ?_⟩ | refine ⟨⟨_, H.get 1 rfl rfl⟩, ?_⟩ | refine ⟨⟨_, H.get 2 rfl rfl⟩, ?_⟩ | refine ⟨⟨_, H.get 3 rfl rfl⟩, ?_⟩ | refine ⟨⟨_, H.get 4 rfl rfl⟩, ?_⟩ | refine ⟨⟨_, H.get 5 rfl rfl⟩, ?_⟩ | refine ⟨⟨_, H.get 6 rfl rfl⟩, ?_⟩ | refine ⟨⟨_, H.get 7 rfl rfl⟩, ?_⟩)
          | (first | refine ⟨H.frz 0 rfl, ?_⟩ | refine ⟨H.frz 1 rfl, ?_⟩ | refine ⟨H.frz 2 rfl, ?_⟩ | refine ⟨H.frz 3 rfl, ?_⟩ | refine ⟨H.frz 4 rfl, ?_⟩ | refine ⟨H.frz 5 rfl, ?_⟩ | refine ⟨H.frz 6 rfl, ?_⟩ | refine ⟨H.frz 7 rfl, ?_⟩)
          | (first | refine ⟨_, H.get 0 rfl rfl, ?_⟩ | refine ⟨_, H.get 1 rfl rfl, ?_⟩ | refine ⟨_, H.get 2 rfl rfl, ?_⟩ | refine ⟨_, H.get 3 rfl rfl, ?_⟩ | refine ⟨_, H.get 4 rfl rfl, ?_⟩ | refine ⟨_, H.get 5 rfl rfl, ?_⟩ | refine ⟨_, H.get 6 rfl rfl, ?_⟩ | refine ⟨_, H.get 7 rfl rfl, ?_⟩)
          | (first | refine ⟨_, _, _, H.get 0 rfl rfl, ?_⟩ | refine ⟨_, _, _, H.get 1 rfl rfl, ?_⟩ | refine ⟨_, _, _, H.get 2 rfl rfl, ?_⟩ | refine ⟨_, _, _, H.get 3 rfl rfl, ?_⟩ | refine ⟨_, _, _, H.get 4 rfl rfl, ?_⟩ | refine ⟨_, _, _, H.get 5 rfl rfl, ?_⟩ | refine ⟨_, _, _, H.get 6 rfl rfl, ?_⟩ | refine ⟨_, _, _, H.get 7 rfl rfl, ?_⟩))
        exact ⟨by rw [e, hx1.2]; rfl, H.ext⟩
  · have h3 : k = 3 := by omega
    subst h3
    rw [if_neg (by decide), if_neg (by decide), if_neg (by decide), if_pos rfl] at hv
    refine (takeText_ok _ (h.ext H.ext) (pos := ((q + 1 : Nat) : Int)) (most := 1024) (by decide)).mono ?_
    rintro e W ⟨rfl, eS⟩
    replace H := H.step eS
    clear eS
    have bad : takeT l ((q + 1 : Nat) : Int) 1024 = .tuple #[.string ⟨#[]⟩, .int .i64 0, .int .i64 20] → takeVal l (q : Int) = none → ∃ s n1 n2, Ending.returned (takeT l ((q + 1 : Nat) : Int) 1024) = .returned (.tuple #[.string s, .int .i64 n1, .int .i64 n2]) ∧ s = ⟨#[]⟩ ∧ n2 = 20 := fun e _ => ⟨_, _, _, by rw [e], rfl, rfl⟩
    clear bad
    unfold takeT
    cases ht : takeN l ((q + 1 : Nat) : Int) with
    | none =>
      rw [ht] at hv
      have e : takeVV l (q : Int) = .tuple #[nullV.agg, .int .i64 0, .int .i64 20] := by unfold takeVV; rw [hv]; rfl
      refine ⟨⟨#[]⟩, 0, 20, rfl, ?_⟩
      repeat (first
        | (intro _ _ hS; replace H := H.new hS; clear hS)
        | (intro _ hS; (first | replace H := H.put 0 rfl hS | replace H := H.put 1 rfl hS | replace H := H.put 2 rfl hS | replace H := H.put 3 rfl hS | replace H := H.put 4 rfl hS | replace H := H.put 5 rfl hS | replace H := H.put 6 rfl hS | replace H := H.put 7 rfl hS); clear hS; try simp only [setA, List.setIfInBounds_toArray, List.set_cons_zero, List.set_cons_succ, Nat.zero_add, Nat.reduceAdd] at H)
        | (intro _ hS; replace H := H.step (Drew.ext hS); clear hS)
        | (first | refine ⟨⟨_, H.get 0 rfl rfl⟩, ?_⟩ | refine ⟨⟨_, H.get 1 rfl rfl⟩, ?_⟩ | refine ⟨⟨_, H.get 2 rfl rfl⟩, ?_⟩ | refine ⟨⟨_, H.get 3 rfl rfl⟩, ?_⟩ | refine ⟨⟨_, H.get 4 rfl rfl⟩, ?_⟩ | refine ⟨⟨_, H.get 5 rfl rfl⟩, ?_⟩ | refine ⟨⟨_, H.get 6 rfl rfl⟩, ?_⟩ | refine ⟨⟨_, H.get 7 rfl rfl⟩, ?_⟩)
        | (first | refine ⟨H.frz 0 rfl, ?_⟩ | refine ⟨H.frz 1 rfl, ?_⟩ | refine ⟨H.frz 2 rfl, ?_⟩ | refine ⟨H.frz 3 rfl, ?_⟩ | refine ⟨H.frz 4 rfl, ?_⟩ | refine ⟨H.frz 5 rfl, ?_⟩ | refine ⟨H.frz 6 rfl, ?_⟩ | refine ⟨H.frz 7 rfl, ?_⟩)
        | (first | refine ⟨_, H.get 0 rfl rfl, ?_⟩ | refine ⟨_, H.get 1 rfl rfl, ?_⟩ | refine ⟨_, H.get 2 rfl rfl, ?_⟩ | refine ⟨_, H.get 3 rfl rfl, ?_⟩ | refine ⟨_, H.get 4 rfl rfl, ?_⟩ | refine ⟨_, H.get 5 rfl rfl, ?_⟩ | refine ⟨_, H.get 6 rfl rfl, ?_⟩ | refine ⟨_, H.get 7 rfl rfl, ?_⟩)
        | (first | refine ⟨_, _, _, H.get 0 rfl rfl, ?_⟩ | refine ⟨_, _, _, H.get 1 rfl rfl, ?_⟩ | refine ⟨_, _, _, H.get 2 rfl rfl, ?_⟩ | refine ⟨_, _, _, H.get 3 rfl rfl, ?_⟩ | refine ⟨_, _, _, H.get 4 rfl rfl, ?_⟩ | refine ⟨_, _, _, H.get 5 rfl rfl, ?_⟩ | refine ⟨_, _, _, H.get 6 rfl rfl, ?_⟩ | refine ⟨_, _, _, H.get 7 rfl rfl, ?_⟩))
      refine ⟨fun _ => ?_, fun hx => absurd hx (by decide)⟩
      repeat (first
        | (intro _ _ hS; replace H := H.new hS; clear hS)
        | (intro _ hS; (first | replace H := H.put 0 rfl hS | replace H := H.put 1 rfl hS | replace H := H.put 2 rfl hS | replace H := H.put 3 rfl hS | replace H := H.put 4 rfl hS | replace H := H.put 5 rfl hS | replace H := H.put 6 rfl hS | replace H := H.put 7 rfl hS); clear hS; try simp only [setA, List.setIfInBounds_toArray, List.set_cons_zero, List.set_cons_succ, Nat.zero_add, Nat.reduceAdd] at H)
        | (intro _ hS; replace H := H.step (Drew.ext hS); clear hS)
        | (first | refine ⟨⟨_, H.get 0 rfl rfl⟩, ?_⟩ | refine ⟨⟨_, H.get 1 rfl rfl⟩, ?_⟩ | refine ⟨⟨_, H.get 2 rfl rfl⟩, ?_⟩ | refine ⟨⟨_, H.get 3 rfl rfl⟩, ?_⟩ | refine ⟨⟨_, H.get 4 rfl rfl⟩, ?_⟩ | refine ⟨⟨_, H.get 5 rfl rfl⟩, ?_⟩ | refine ⟨⟨_, H.get 6 rfl rfl⟩, ?_⟩ | refine ⟨⟨_, H.get 7 rfl rfl⟩, ?_⟩)
        | (first | refine ⟨H.frz 0 rfl, ?_⟩ | refine ⟨H.frz 1 rfl, ?_⟩ | refine ⟨H.frz 2 rfl, ?_⟩ | refine ⟨H.frz 3 rfl, ?_⟩ | refine ⟨H.frz 4 rfl, ?_⟩ | refine ⟨H.frz 5 rfl, ?_⟩ | refine ⟨H.frz 6 rfl, ?_⟩ | refine ⟨H.frz 7 rfl, ?_⟩)
        | (first | refine ⟨_, H.get 0 rfl rfl, ?_⟩ | refine ⟨_, H.get 1 rfl rfl, ?_⟩ | refine ⟨_, H.get 2 rfl rfl, ?_⟩ | refine ⟨_, H.get 3 rfl rfl, ?_⟩ | refine ⟨_, H.get 4 rfl rfl, ?_⟩ | refine ⟨_, H.get 5 rfl rfl, ?_⟩ | refine ⟨_, H.get 6 rfl rfl, ?_⟩ | refine ⟨_, H.get 7 rfl rfl, ?_⟩)
        | (first | refine ⟨_, _, _, H.get 0 rfl rfl, ?_⟩ | refine ⟨_, _, _, H.get 1 rfl rfl, ?_⟩ | refine ⟨_, _, _, H.get 2 rfl rfl, ?_⟩ | refine ⟨_, _, _, H.get 3 rfl rfl, ?_⟩ | refine ⟨_, _, _, H.get 4 rfl rfl, ?_⟩ | refine ⟨_, _, _, H.get 5 rfl rfl, ?_⟩ | refine ⟨_, _, _, H.get 6 rfl rfl, ?_⟩ | refine ⟨_, _, _, H.get 7 rfl rfl, ?_⟩))
      exact ⟨by rw [e]; rfl, H.ext⟩
    | some r =>
      obtain ⟨x, j⟩ := r
      rw [ht] at hv
      simp only [Option.bind_some] at hv
      dsimp only
      by_cases hx : x ≤ 1024 ∧ x ≤ l.length - j
      · rw [if_pos hx] at hv
        rw [if_pos ⟨by omega, by omega, hx.2⟩]
        have hsz := text_size hx.2
        have e : takeVV l (q : Int) = .tuple #[(⟨3, 0, textOf l j x⟩ : Val).agg, .int .i64 ((j + x : Nat) : Int), .int .i64 0] := by unfold takeVV; rw [hv]
        refine ⟨textOf l j x, _, _, rfl, ?_⟩
        repeat (first
          | (intro _ _ hS; replace H := H.new hS; clear hS)
          | (intro _ hS; (first | replace H := H.put 0 rfl hS | replace H := H.put 1 rfl hS | replace H := H.put 2 rfl hS | replace H := H.put 3 rfl hS | replace H := H.put 4 rfl hS | replace H := H.put 5 rfl hS | replace H := H.put 6 rfl hS | replace H := H.put 7 rfl hS); clear hS; try simp only [setA, List.setIfInBounds_toArray, List.set_cons_zero, List.set_cons_succ, Nat.zero_add, Nat.reduceAdd] at H)
          | (intro _ hS; replace H := H.step (Drew.ext hS); clear hS)
          | (first | refine ⟨⟨_, H.get 0 rfl rfl⟩, ?_⟩ | refine ⟨⟨_, H.get 1 rfl rfl⟩, ?_⟩ | refine ⟨⟨_, H.get 2 rfl rfl⟩, ?_⟩ | refine ⟨⟨_, H.get 3 rfl rfl⟩, ?_⟩ | refine ⟨⟨_, H.get 4 rfl rfl⟩, ?_⟩ | refine ⟨⟨_, H.get 5 rfl rfl⟩, ?_⟩ | refine ⟨⟨_, H.get 6 rfl rfl⟩, ?_⟩ | refine ⟨⟨_, H.get 7 rfl rfl⟩, ?_⟩)
          | (first | refine ⟨H.frz 0 rfl, ?_⟩ | refine ⟨H.frz 1 rfl, ?_⟩ | refine ⟨H.frz 2 rfl, ?_⟩ | refine ⟨H.frz 3 rfl, ?_⟩ | refine ⟨H.frz 4 rfl, ?_⟩ | refine ⟨H.frz 5 rfl, ?_⟩ | refine ⟨H.frz 6 rfl, ?_⟩ | refine ⟨H.frz 7 rfl, ?_⟩)
          | (first | refine ⟨_, H.get 0 rfl rfl, ?_⟩ | refine ⟨_, H.get 1 rfl rfl, ?_⟩ | refine ⟨_, H.get 2 rfl rfl, ?_⟩ | refine ⟨_, H.get 3 rfl rfl, ?_⟩ | refine ⟨_, H.get 4 rfl rfl, ?_⟩ | refine ⟨_, H.get 5 rfl rfl, ?_⟩ | refine ⟨_, H.get 6 rfl rfl, ?_⟩ | refine ⟨_, H.get 7 rfl rfl, ?_⟩)
          | (first | refine ⟨_, _, _, H.get 0 rfl rfl, ?_⟩ | refine ⟨_, _, _, H.get 1 rfl rfl, ?_⟩ | refine ⟨_, _, _, H.get 2 rfl rfl, ?_⟩ | refine ⟨_, _, _, H.get 3 rfl rfl, ?_⟩ | refine ⟨_, _, _, H.get 4 rfl rfl, ?_⟩ | refine ⟨_, _, _, H.get 5 rfl rfl, ?_⟩ | refine ⟨_, _, _, H.get 6 rfl rfl, ?_⟩ | refine ⟨_, _, _, H.get 7 rfl rfl, ?_⟩))
        refine ⟨fun hx => absurd rfl hx, fun _ => ?_⟩
        repeat (first
          | (intro _ _ hS; replace H := H.new hS; clear hS)
          | (intro _ hS; (first | replace H := H.put 0 rfl hS | replace H := H.put 1 rfl hS | replace H := H.put 2 rfl hS | replace H := H.put 3 rfl hS | replace H := H.put 4 rfl hS | replace H := H.put 5 rfl hS | replace H := H.put 6 rfl hS | replace H := H.put 7 rfl hS); clear hS; try simp only [setA, List.setIfInBounds_toArray, List.set_cons_zero, List.set_cons_succ, Nat.zero_add, Nat.reduceAdd] at H)
          | (intro _ hS; replace H := H.step (Drew.ext hS); clear hS)
          | (first | refine ⟨⟨_, H.get 0 rfl rfl⟩, ?_⟩ | refine ⟨⟨_, H.get 1 rfl rfl⟩, ?_⟩ | refine ⟨⟨_, H.get 2 rfl rfl⟩, ?_⟩ | refine ⟨⟨_, H.get 3 rfl rfl⟩, ?_⟩ | refine ⟨⟨_, H.get 4 rfl rfl⟩, ?_⟩ | refine ⟨⟨_, H.get 5 rfl rfl⟩, ?_⟩ | refine ⟨⟨_, H.get 6 rfl rfl⟩, ?_⟩ | refine ⟨⟨_, H.get 7 rfl rfl⟩, ?_⟩)
          | (first | refine ⟨H.frz 0 rfl, ?_⟩ | refine ⟨H.frz 1 rfl, ?_⟩ | refine ⟨H.frz 2 rfl, ?_⟩ | refine ⟨H.frz 3 rfl, ?_⟩ | refine ⟨H.frz 4 rfl, ?_⟩ | refine ⟨H.frz 5 rfl, ?_⟩ | refine ⟨H.frz 6 rfl, ?_⟩ | refine ⟨H.frz 7 rfl, ?_⟩)
          | (first | refine ⟨_, H.get 0 rfl rfl, ?_⟩ | refine ⟨_, H.get 1 rfl rfl, ?_⟩ | refine ⟨_, H.get 2 rfl rfl, ?_⟩ | refine ⟨_, H.get 3 rfl rfl, ?_⟩ | refine ⟨_, H.get 4 rfl rfl, ?_⟩ | refine ⟨_, H.get 5 rfl rfl, ?_⟩ | refine ⟨_, H.get 6 rfl rfl, ?_⟩ | refine ⟨_, H.get 7 rfl rfl, ?_⟩)
          | (first | refine ⟨_, _, _, H.get 0 rfl rfl, ?_⟩ | refine ⟨_, _, _, H.get 1 rfl rfl, ?_⟩ | refine ⟨_, _, _, H.get 2 rfl rfl, ?_⟩ | refine ⟨_, _, _, H.get 3 rfl rfl, ?_⟩ | refine ⟨_, _, _, H.get 4 rfl rfl, ?_⟩ | refine ⟨_, _, _, H.get 5 rfl rfl, ?_⟩ | refine ⟨_, _, _, H.get 6 rfl rfl, ?_⟩ | refine ⟨_, _, _, H.get 7 rfl rfl, ?_⟩))
        refine (vright_ok ⟨3, 0, textOf l j x⟩ _).mono ?_
        rintro e W ⟨rfl, eS⟩
        replace H := H.step eS
        refine ⟨_, rfl, fun hf => absurd hf (by rw [ok_right (.inr (.inr (.inr ⟨rfl, rfl, by show (textOf l j x).size ≤ 1024; omega⟩)))]; decide), fun _ => ?_⟩
        repeat (first
          | (intro _ _ hS; replace H := H.new hS; clear hS)
          | (intro _ hS; (first | replace H := H.put 0 rfl hS | replace H := H.put 1 rfl hS | replace H := H.put 2 rfl hS | replace H := H.put 3 rfl hS | replace H := H.put 4 rfl hS | replace H := H.put 5 rfl hS | replace H := H.put 6 rfl hS | replace H := H.put 7 rfl hS); clear hS; try simp only [setA, List.setIfInBounds_toArray, List.set_cons_zero, List.set_cons_succ, Nat.zero_add, Nat.reduceAdd] at H)
          | (intro _ hS; replace H := H.step (Drew.ext hS); clear hS)
          | (first | refine ⟨⟨_, H.get 0 rfl rfl⟩, ?_⟩ | refine ⟨⟨_, H.get 1 rfl rfl⟩, ?_⟩ | refine ⟨⟨_, H.get 2 rfl rfl⟩, ?_⟩ | refine ⟨⟨_, H.get 3 rfl rfl⟩, ?_⟩ | refine ⟨⟨_, H.get 4 rfl rfl⟩, ?_⟩ | refine ⟨⟨_, H.get 5 rfl rfl⟩, ?_⟩ | refine ⟨⟨_, H.get 6 rfl rfl⟩, ?_⟩ | refine ⟨⟨_, H.get 7 rfl rfl⟩, ?_⟩)
          | (first | refine ⟨H.frz 0 rfl, ?_⟩ | refine ⟨H.frz 1 rfl, ?_⟩ | refine ⟨H.frz 2 rfl, ?_⟩ | refine ⟨H.frz 3 rfl, ?_⟩ | refine ⟨H.frz 4 rfl, ?_⟩ | refine ⟨H.frz 5 rfl, ?_⟩ | refine ⟨H.frz 6 rfl, ?_⟩ | refine ⟨H.frz 7 rfl, ?_⟩)
          | (first | refine ⟨_, H.get 0 rfl rfl, ?_⟩ | refine ⟨_, H.get 1 rfl rfl, ?_⟩ | refine ⟨_, H.get 2 rfl rfl, ?_⟩ | refine ⟨_, H.get 3 rfl rfl, ?_⟩ | refine ⟨_, H.get 4 rfl rfl, ?_⟩ | refine ⟨_, H.get 5 rfl rfl, ?_⟩ | refine ⟨_, H.get 6 rfl rfl, ?_⟩ | refine ⟨_, H.get 7 rfl rfl, ?_⟩)
          | (first | refine ⟨_, _, _, H.get 0 rfl rfl, ?_⟩ | refine ⟨_, _, _, H.get 1 rfl rfl, ?_⟩ | refine ⟨_, _, _, H.get 2 rfl rfl, ?_⟩ | refine ⟨_, _, _, H.get 3 rfl rfl, ?_⟩ | refine ⟨_, _, _, H.get 4 rfl rfl, ?_⟩ | refine ⟨_, _, _, H.get 5 rfl rfl, ?_⟩ | refine ⟨_, _, _, H.get 6 rfl rfl, ?_⟩ | refine ⟨_, _, _, H.get 7 rfl rfl, ?_⟩))
        exact ⟨by rw [e]; rfl, H.ext⟩
      · rw [if_neg hx] at hv
        rw [if_neg (by omega)]
        have e : takeVV l (q : Int) = .tuple #[nullV.agg, .int .i64 0, .int .i64 20] := by unfold takeVV; rw [hv]
        refine ⟨⟨#[]⟩, 0, 20, rfl, ?_⟩
        repeat (first
          | (intro _ _ hS; replace H := H.new hS; clear hS)
          | (intro _ hS; (first | replace H := H.put 0 rfl hS | replace H := H.put 1 rfl hS | replace H := H.put 2 rfl hS | replace H := H.put 3 rfl hS | replace H := H.put 4 rfl hS | replace H := H.put 5 rfl hS | replace H := H.put 6 rfl hS | replace H := H.put 7 rfl hS); clear hS; try simp only [setA, List.setIfInBounds_toArray, List.set_cons_zero, List.set_cons_succ, Nat.zero_add, Nat.reduceAdd] at H)
          | (intro _ hS; replace H := H.step (Drew.ext hS); clear hS)
          | (first | refine ⟨⟨_, H.get 0 rfl rfl⟩, ?_⟩ | refine ⟨⟨_, H.get 1 rfl rfl⟩, ?_⟩ | refine ⟨⟨_, H.get 2 rfl rfl⟩, ?_⟩ | refine ⟨⟨_, H.get 3 rfl rfl⟩, ?_⟩ | refine ⟨⟨_, H.get 4 rfl rfl⟩, ?_⟩ | refine ⟨⟨_, H.get 5 rfl rfl⟩, ?_⟩ | refine ⟨⟨_, H.get 6 rfl rfl⟩, ?_⟩ | refine ⟨⟨_, H.get 7 rfl rfl⟩, ?_⟩)
          | (first | refine ⟨H.frz 0 rfl, ?_⟩ | refine ⟨H.frz 1 rfl, ?_⟩ | refine ⟨H.frz 2 rfl, ?_⟩ | refine ⟨H.frz 3 rfl, ?_⟩ | refine ⟨H.frz 4 rfl, ?_⟩ | refine ⟨H.frz 5 rfl, ?_⟩ | refine ⟨H.frz 6 rfl, ?_⟩ | refine ⟨H.frz 7 rfl, ?_⟩)
          | (first | refine ⟨_, H.get 0 rfl rfl, ?_⟩ | refine ⟨_, H.get 1 rfl rfl, ?_⟩ | refine ⟨_, H.get 2 rfl rfl, ?_⟩ | refine ⟨_, H.get 3 rfl rfl, ?_⟩ | refine ⟨_, H.get 4 rfl rfl, ?_⟩ | refine ⟨_, H.get 5 rfl rfl, ?_⟩ | refine ⟨_, H.get 6 rfl rfl, ?_⟩ | refine ⟨_, H.get 7 rfl rfl, ?_⟩)
          | (first | refine ⟨_, _, _, H.get 0 rfl rfl, ?_⟩ | refine ⟨_, _, _, H.get 1 rfl rfl, ?_⟩ | refine ⟨_, _, _, H.get 2 rfl rfl, ?_⟩ | refine ⟨_, _, _, H.get 3 rfl rfl, ?_⟩ | refine ⟨_, _, _, H.get 4 rfl rfl, ?_⟩ | refine ⟨_, _, _, H.get 5 rfl rfl, ?_⟩ | refine ⟨_, _, _, H.get 6 rfl rfl, ?_⟩ | refine ⟨_, _, _, H.get 7 rfl rfl, ?_⟩))
        refine ⟨fun _ => ?_, fun hx => absurd hx (by decide)⟩
        repeat (first
          | (intro _ _ hS; replace H := H.new hS; clear hS)
          | (intro _ hS; (first | replace H := H.put 0 rfl hS | replace H := H.put 1 rfl hS | replace H := H.put 2 rfl hS | replace H := H.put 3 rfl hS | replace H := H.put 4 rfl hS | replace H := H.put 5 rfl hS | replace H := H.put 6 rfl hS | replace H := H.put 7 rfl hS); clear hS; try simp only [setA, List.setIfInBounds_toArray, List.set_cons_zero, List.set_cons_succ, Nat.zero_add, Nat.reduceAdd] at H)
          | (intro _ hS; replace H := H.step (Drew.ext hS); clear hS)
          | (first | refine ⟨⟨_, H.get 0 rfl rfl⟩, ?_⟩ | refine ⟨⟨_, H.get 1 rfl rfl⟩, ?_⟩ | refine ⟨⟨_, H.get 2 rfl rfl⟩, ?_⟩ | refine ⟨⟨_, H.get 3 rfl rfl⟩, ?_⟩ | refine ⟨⟨_, H.get 4 rfl rfl⟩, ?_⟩ | refine ⟨⟨_, H.get 5 rfl rfl⟩, ?_⟩ | refine ⟨⟨_, H.get 6 rfl rfl⟩, ?_⟩ | refine ⟨⟨_, H.get 7 rfl rfl⟩, ?_⟩)
          | (first | refine ⟨H.frz 0 rfl, ?_⟩ | refine ⟨H.frz 1 rfl, ?_⟩ | refine ⟨H.frz 2 rfl, ?_⟩ | refine ⟨H.frz 3 rfl, ?_⟩ | refine ⟨H.frz 4 rfl, ?_⟩ | refine ⟨H.frz 5 rfl, ?_⟩ | refine ⟨H.frz 6 rfl, ?_⟩ | refine ⟨H.frz 7 rfl, ?_⟩)
          | (first | refine ⟨_, H.get 0 rfl rfl, ?_⟩ | refine ⟨_, H.get 1 rfl rfl, ?_⟩ | refine ⟨_, H.get 2 rfl rfl, ?_⟩ | refine ⟨_, H.get 3 rfl rfl, ?_⟩ | refine ⟨_, H.get 4 rfl rfl, ?_⟩ | refine ⟨_, H.get 5 rfl rfl, ?_⟩ | refine ⟨_, H.get 6 rfl rfl, ?_⟩ | refine ⟨_, H.get 7 rfl rfl, ?_⟩)
          | (first | refine ⟨_, _, _, H.get 0 rfl rfl, ?_⟩ | refine ⟨_, _, _, H.get 1 rfl rfl, ?_⟩ | refine ⟨_, _, _, H.get 2 rfl rfl, ?_⟩ | refine ⟨_, _, _, H.get 3 rfl rfl, ?_⟩ | refine ⟨_, _, _, H.get 4 rfl rfl, ?_⟩ | refine ⟨_, _, _, H.get 5 rfl rfl, ?_⟩ | refine ⟨_, _, _, H.get 6 rfl rfl, ?_⟩ | refine ⟨_, _, _, H.get 7 rfl rfl, ?_⟩))
        exact ⟨by rw [e]; rfl, H.ext⟩
  · rw [if_neg (by omega), if_neg (by omega), if_neg (by omega), if_neg (by omega)] at hv
    have e : takeVV l (q : Int) = .tuple #[nullV.agg, .int .i64 0, .int .i64 20] := by unfold takeVV; rw [hv]
    repeat (first
      | (intro _ _ hS; replace H := H.new hS; clear hS)
      | (intro _ hS; (first | replace H := H.put 0 rfl hS | replace H := H.put 1 rfl hS | replace H := H.put 2 rfl hS | replace H := H.put 3 rfl hS | replace H := H.put 4 rfl hS | replace H := H.put 5 rfl hS | replace H := H.put 6 rfl hS | replace H := H.put 7 rfl hS); clear hS; try simp only [setA, List.setIfInBounds_toArray, List.set_cons_zero, List.set_cons_succ, Nat.zero_add, Nat.reduceAdd] at H)
      | (intro _ hS; replace H := H.step (Drew.ext hS); clear hS)
      | (first | refine ⟨⟨_, H.get 0 rfl rfl⟩, ?_⟩ | refine ⟨⟨_, H.get 1 rfl rfl⟩, ?_⟩ | refine ⟨⟨_, H.get 2 rfl rfl⟩, ?_⟩ | refine ⟨⟨_, H.get 3 rfl rfl⟩, ?_⟩ | refine ⟨⟨_, H.get 4 rfl rfl⟩, ?_⟩ | refine ⟨⟨_, H.get 5 rfl rfl⟩, ?_⟩ | refine ⟨⟨_, H.get 6 rfl rfl⟩, ?_⟩ | refine ⟨⟨_, H.get 7 rfl rfl⟩, ?_⟩)
      | (first | refine ⟨H.frz 0 rfl, ?_⟩ | refine ⟨H.frz 1 rfl, ?_⟩ | refine ⟨H.frz 2 rfl, ?_⟩ | refine ⟨H.frz 3 rfl, ?_⟩ | refine ⟨H.frz 4 rfl, ?_⟩ | refine ⟨H.frz 5 rfl, ?_⟩ | refine ⟨H.frz 6 rfl, ?_⟩ | refine ⟨H.frz 7 rfl, ?_⟩)
      | (first | refine ⟨_, H.get 0 rfl rfl, ?_⟩ | refine ⟨_, H.get 1 rfl rfl, ?_⟩ | refine ⟨_, H.get 2 rfl rfl, ?_⟩ | refine ⟨_, H.get 3 rfl rfl, ?_⟩ | refine ⟨_, H.get 4 rfl rfl, ?_⟩ | refine ⟨_, H.get 5 rfl rfl, ?_⟩ | refine ⟨_, H.get 6 rfl rfl, ?_⟩ | refine ⟨_, H.get 7 rfl rfl, ?_⟩)
      | (first | refine ⟨_, _, _, H.get 0 rfl rfl, ?_⟩ | refine ⟨_, _, _, H.get 1 rfl rfl, ?_⟩ | refine ⟨_, _, _, H.get 2 rfl rfl, ?_⟩ | refine ⟨_, _, _, H.get 3 rfl rfl, ?_⟩ | refine ⟨_, _, _, H.get 4 rfl rfl, ?_⟩ | refine ⟨_, _, _, H.get 5 rfl rfl, ?_⟩ | refine ⟨_, _, _, H.get 6 rfl rfl, ?_⟩ | refine ⟨_, _, _, H.get 7 rfl rfl, ?_⟩))
    refine (vright_ok ⟨(k : Int), 0, ⟨#[]⟩⟩ _).mono ?_
    rintro e W ⟨rfl, eS⟩
    replace H := H.step eS
    refine ⟨_, rfl, fun _ => ?_, fun ht => ?_⟩
    · repeat (first
        | (intro _ _ hS; replace H := H.new hS; clear hS)
        | (intro _ hS; (first | replace H := H.put 0 rfl hS | replace H := H.put 1 rfl hS | replace H := H.put 2 rfl hS | replace H := H.put 3 rfl hS | replace H := H.put 4 rfl hS | replace H := H.put 5 rfl hS | replace H := H.put 6 rfl hS | replace H := H.put 7 rfl hS); clear hS; try simp only [setA, List.setIfInBounds_toArray, List.set_cons_zero, List.set_cons_succ, Nat.zero_add, Nat.reduceAdd] at H)
        | (intro _ hS; replace H := H.step (Drew.ext hS); clear hS)
        | (first | refine ⟨⟨_, H.get 0 rfl rfl⟩, ?_⟩ | refine ⟨⟨_, H.get 1 rfl rfl⟩, ?_⟩ | refine ⟨⟨_, H.get 2 rfl rfl⟩, ?_⟩ | refine ⟨⟨_, H.get 3 rfl rfl⟩, ?_⟩ | refine ⟨⟨_, H.get 4 rfl rfl⟩, ?_⟩ | refine ⟨⟨_, H.get 5 rfl rfl⟩, ?_⟩ | refine ⟨⟨_, H.get 6 rfl rfl⟩, ?_⟩ | refine ⟨⟨_, H.get 7 rfl rfl⟩, ?_⟩)
        | (first | refine ⟨H.frz 0 rfl, ?_⟩ | refine ⟨H.frz 1 rfl, ?_⟩ | refine ⟨H.frz 2 rfl, ?_⟩ | refine ⟨H.frz 3 rfl, ?_⟩ | refine ⟨H.frz 4 rfl, ?_⟩ | refine ⟨H.frz 5 rfl, ?_⟩ | refine ⟨H.frz 6 rfl, ?_⟩ | refine ⟨H.frz 7 rfl, ?_⟩)
        | (first | refine ⟨_, H.get 0 rfl rfl, ?_⟩ | refine ⟨_, H.get 1 rfl rfl, ?_⟩ | refine ⟨_, H.get 2 rfl rfl, ?_⟩ | refine ⟨_, H.get 3 rfl rfl, ?_⟩ | refine ⟨_, H.get 4 rfl rfl, ?_⟩ | refine ⟨_, H.get 5 rfl rfl, ?_⟩ | refine ⟨_, H.get 6 rfl rfl, ?_⟩ | refine ⟨_, H.get 7 rfl rfl, ?_⟩)
        | (first | refine ⟨_, _, _, H.get 0 rfl rfl, ?_⟩ | refine ⟨_, _, _, H.get 1 rfl rfl, ?_⟩ | refine ⟨_, _, _, H.get 2 rfl rfl, ?_⟩ | refine ⟨_, _, _, H.get 3 rfl rfl, ?_⟩ | refine ⟨_, _, _, H.get 4 rfl rfl, ?_⟩ | refine ⟨_, _, _, H.get 5 rfl rfl, ?_⟩ | refine ⟨_, _, _, H.get 6 rfl rfl, ?_⟩ | refine ⟨_, _, _, H.get 7 rfl rfl, ?_⟩))
      exact ⟨by rw [e]; rfl, H.ext⟩
    · exfalso
      have hok : Val.Ok ⟨(k : Int), 0, ⟨#[]⟩⟩ := of_decide_eq_true ht
      unfold Val.Ok at hok
      dsimp only at hok
      omega
end Go.Proofs.YtiojkfckaalooaaDoor

/- The contracts of the document's answer for value's bytes; laying. Printed by mkvb2.py. -/
namespace Go.Proofs.YtiojkfckaalooaaDoor
open Go Go.Vc Go.RowKit
set_option maxRecDepth 20000
attribute [local irreducible] Calls Put Drew New

/-! ### Laying -/
theorem undB : Tryd.prog.underlying 28 = some (.slice 5) := by kernel_rfl
theorem tyB : tyOf Tryd.prog 5 = some { agg := false, ls := [.int .u8], zero := .int .u8 0, bytes := 1, big := false, n := 1 } := by kernel_rfl
theorem parts_blk {w : World} {b : Nat} {t : TypeId} {cs : Array Value} {bs : List (List UInt8)} (hb : Blk w b t cs)
    (h : ∀ (k : Nat) (l : List UInt8), bs[k]? = some l → ∃ (q : Option Addr) (d : Nat), cs[k]? = some (Value.slice q l.length d) ∧ At w q (vB l) ∧ l.length ≤ maxLen ∧ (q = none → l = [] ∧ d = 0)) :
    Parts w (some ⟨b, 0, none⟩) bs := by
  refine .inr ⟨_, _, rfl, fun k l hl => ?_⟩
  obtain ⟨q, d, hc, hq, hm, hn⟩ := h k l hl
  refine ⟨q, d, ?_, hq, hm, hn⟩
  rw [hb.cell, Nat.zero_add]; exact hc
theorem kind_byte {v : Val} (h : v.Ok) : IntKind.u8.wrap v.k = (((UInt8.ofNat v.k.toNat).toNat : Nat) : Int) := by
  rcases h with ⟨e, _⟩ | ⟨e, _⟩ | ⟨e, _⟩ | ⟨e, _⟩ <;> rw [e] <;> rfl
theorem bool_byte {x : Int} (h : x = 0 ∨ x = 1) : IntKind.u8.wrap x = (((UInt8.ofNat x.toNat).toNat : Nat) : Int) := by
  rcases h with e | e <;> rw [e] <;> rfl
theorem hold_in {w0 W : World} {fs : List (Nat × Obj)} {ms : List Row} (H : Hold w0 W fs ms) (i : Nat) {p : Option Addr} {n c : Nat} {l : List UInt8} (hi : ms[i]? = some ⟨5, 1, p, n, c, vB l⟩) (hl : l.length = n) : In W p n c l :=
  ⟨hl, (H.row i hi).cap, (H.row i hi).at, (H.row i hi).isNil⟩
theorem hold_out {w0 W : World} {fs : List (Nat × Obj)} {ms : List Row} (H : Hold w0 W fs ms) (i : Nat) {p : Option Addr} {n c : Nat} {l : List UInt8} (hi : ms[i]? = some ⟨5, 1, p, n, c, vB l⟩) (hl : l.length = n) : Out w0.heap.size W p n c l := ⟨hl, H.row i hi⟩

set_option maxHeartbeats 4000000 in
theorem vlay_ok (w : World) {p : Option Addr} {n c : Nat} {l : List UInt8} {v : Val} (h : In w p n c l) (hv : v.fit) (hroom : n + 2000100 ≤ 211106232532992) :
    Calls Tryd.prog 48 #[.slice p n c, v.agg] w fun e w' => ∃ p' n' c', e = .returned (.tuple #[.slice p' n' c', .int .i64 (layV l v).2]) ∧ Out w.heap.size w' p' n' c' (layV l v).1 ∧ Ext w w' := by
  have hl := h.len
  apply vlay_vc
  unfold vlay_T
  have H := Hold.start (Ext.rfl (w := w))
  repeat (first
    | (intro _ _ hS; replace H := H.new hS; clear hS)
    | (intro _ hS; (first | replace H := H.put 0 rfl hS | replace H := H.put 1 rfl hS | replace H := H.put 2 rfl hS | replace H := H.put 3 rfl hS | replace H := H.put 4 rfl hS | replace H := H.put 5 rfl hS | replace H := H.put 6 rfl hS | replace H := H.put 7 rfl hS); clear hS; try simp only [setA, List.setIfInBounds_toArray, List.set_cons_zero, List.set_cons_succ, Nat.zero_add, Nat.reduceAdd] at H)
    | (intro _ hS; replace H := H.step (Drew.ext hS); clear hS)
    | (first | refine ⟨⟨_, H.get 0 rfl rfl⟩, ?_⟩ | refine ⟨⟨_, H.get 1 rfl rfl⟩, ?_⟩ | refine ⟨⟨_, H.get 2 rfl rfl⟩, ?_⟩ | refine ⟨⟨_, H.get 3 rfl rfl⟩, ?_⟩ | refine ⟨⟨_, H.get 4 rfl rfl⟩, ?_⟩ | refine ⟨⟨_, H.get 5 rfl rfl⟩, ?_⟩ | refine ⟨⟨_, H.get 6 rfl rfl⟩, ?_⟩ | refine ⟨⟨_, H.get 7 rfl rfl⟩, ?_⟩)
    | (first | refine ⟨H.frz 0 rfl, ?_⟩ | refine ⟨H.frz 1 rfl, ?_⟩ | refine ⟨H.frz 2 rfl, ?_⟩ | refine ⟨H.frz 3 rfl, ?_⟩ | refine ⟨H.frz 4 rfl, ?_⟩ | refine ⟨H.frz 5 rfl, ?_⟩ | refine ⟨H.frz 6 rfl, ?_⟩ | refine ⟨H.frz 7 rfl, ?_⟩)
    | (first | refine ⟨_, H.get 0 rfl rfl, ?_⟩ | refine ⟨_, H.get 1 rfl rfl, ?_⟩ | refine ⟨_, H.get 2 rfl rfl, ?_⟩ | refine ⟨_, H.get 3 rfl rfl, ?_⟩ | refine ⟨_, H.get 4 rfl rfl, ?_⟩ | refine ⟨_, H.get 5 rfl rfl, ?_⟩ | refine ⟨_, H.get 6 rfl rfl, ?_⟩ | refine ⟨_, H.get 7 rfl rfl, ?_⟩)
    | (first | refine ⟨_, _, _, H.get 0 rfl rfl, ?_⟩ | refine ⟨_, _, _, H.get 1 rfl rfl, ?_⟩ | refine ⟨_, _, _, H.get 2 rfl rfl, ?_⟩ | refine ⟨_, _, _, H.get 3 rfl rfl, ?_⟩ | refine ⟨_, _, _, H.get 4 rfl rfl, ?_⟩ | refine ⟨_, _, _, H.get 5 rfl rfl, ?_⟩ | refine ⟨_, _, _, H.get 6 rfl rfl, ?_⟩ | refine ⟨_, _, _, H.get 7 rfl rfl, ?_⟩))
  refine (vright_ok v _).mono ?_
  rintro e W ⟨rfl, eS⟩
  replace H := H.step eS
  refine ⟨_, rfl, fun hf => ?_, fun ht => ?_⟩
  · have hL : layV l v = ([], 2) := by unfold layV; rw [hf]; rfl
    refine ⟨none, 0, 0, by rw [hL], ?_, H.ext⟩
    rw [hL]
    exact ⟨rfl, Mine.nil _ _ _ _⟩
  have hok : v.Ok := of_decide_eq_true ht
  have hL : layV l v = (l ++ valB v, 0) := by unfold layV; rw [if_pos ht]
  refine ⟨_, H.get 0 rfl rfl, ?_⟩
  rw [kind_byte hok]
  clear eS
  repeat (first
    | (intro _ _ hS; replace H := H.new hS; clear hS)
    | (intro _ hS; (first | replace H := H.put 0 rfl hS | replace H := H.put 1 rfl hS | replace H := H.put 2 rfl hS | replace H := H.put 3 rfl hS | replace H := H.put 4 rfl hS | replace H := H.put 5 rfl hS | replace H := H.put 6 rfl hS | replace H := H.put 7 rfl hS); clear hS; try simp only [setA, List.setIfInBounds_toArray, List.set_cons_zero, List.set_cons_succ, Nat.zero_add, Nat.reduceAdd] at H)
    | (intro _ hS; replace H := H.step (Drew.ext hS); clear hS)
    | (first | refine ⟨⟨_, H.get 0 rfl rfl⟩, ?_⟩ | refine ⟨⟨_, H.get 1 rfl rfl⟩, ?_⟩ | refine ⟨⟨_, H.get 2 rfl rfl⟩, ?_⟩ | refine ⟨⟨_, H.get 3 rfl rfl⟩, ?_⟩ | refine ⟨⟨_, H.get 4 rfl rfl⟩, ?_⟩ | refine ⟨⟨_, H.get 5 rfl rfl⟩, ?_⟩ | refine ⟨⟨_, H.get 6 rfl rfl⟩, ?_⟩ | refine ⟨⟨_, H.get 7 rfl rfl⟩, ?_⟩)
    | (first | refine ⟨H.frz 0 rfl, ?_⟩ | refine ⟨H.frz 1 rfl, ?_⟩ | refine ⟨H.frz 2 rfl, ?_⟩ | refine ⟨H.frz 3 rfl, ?_⟩ | refine ⟨H.frz 4 rfl, ?_⟩ | refine ⟨H.frz 5 rfl, ?_⟩ | refine ⟨H.frz 6 rfl, ?_⟩ | refine ⟨H.frz 7 rfl, ?_⟩)
    | (first | refine ⟨_, H.get 0 rfl rfl, ?_⟩ | refine ⟨_, H.get 1 rfl rfl, ?_⟩ | refine ⟨_, H.get 2 rfl rfl, ?_⟩ | refine ⟨_, H.get 3 rfl rfl, ?_⟩ | refine ⟨_, H.get 4 rfl rfl, ?_⟩ | refine ⟨_, H.get 5 rfl rfl, ?_⟩ | refine ⟨_, H.get 6 rfl rfl, ?_⟩ | refine ⟨_, H.get 7 rfl rfl, ?_⟩)
    | (first | refine ⟨_, _, _, H.get 0 rfl rfl, ?_⟩ | refine ⟨_, _, _, H.get 1 rfl rfl, ?_⟩ | refine ⟨_, _, _, H.get 2 rfl rfl, ?_⟩ | refine ⟨_, _, _, H.get 3 rfl rfl, ?_⟩ | refine ⟨_, _, _, H.get 4 rfl rfl, ?_⟩ | refine ⟨_, _, _, H.get 5 rfl rfl, ?_⟩ | refine ⟨_, _, _, H.get 6 rfl rfl, ?_⟩ | refine ⟨_, _, _, H.get 7 rfl rfl, ?_⟩))
  have hparts := parts_blk (bs := [l, [UInt8.ofNat v.k.toNat]]) (H.blk 0 rfl) (by
    intro k x hx
    match k, hx with
    | 0, hx => cases hx; exact ⟨p, c, by simp [hl], h.lies.ext H.ext, by have := h.le; omega, fun e => by obtain ⟨h1, h2⟩ := h.nil e; exact ⟨List.eq_nil_of_length_eq_zero (by omega), h2⟩⟩
    | 1, hx => cases hx; exact ⟨_, 1, rfl, (H.blk 1 rfl).at, by simp [maxLen], fun e => by cases e⟩
    | k + 2, hx => simp at hx)
  refine (concat_ok _ _ 2 2 [l, [UInt8.ofNat v.k.toNat]] rfl (by simp [maxLen]) hparts (by simp; omega)).mono ?_
  rintro e W2 ⟨p2, c2, rfl, hm2, eX⟩
  have H0 := H
  replace H := H.addRow eX hm2
  clear hm2 hparts eX
  have ef : [l, [UInt8.ofNat v.k.toNat]].flatten = l ++ [UInt8.ofNat v.k.toNat] := by simp
  have hl1 : (l ++ [UInt8.ofNat v.k.toNat]).length = n + 1 := by simp [hl]
  rw [ef, hl1] at H ⊢
  refine ⟨_, _, _, rfl, ?_⟩
  repeat (first
    | (intro _ _ hS; replace H := H.new hS; clear hS)
    | (intro _ hS; (first | replace H := H.put 0 rfl hS | replace H := H.put 1 rfl hS | replace H := H.put 2 rfl hS | replace H := H.put 3 rfl hS | replace H := H.put 4 rfl hS | replace H := H.put 5 rfl hS | replace H := H.put 6 rfl hS | replace H := H.put 7 rfl hS); clear hS; try simp only [setA, List.setIfInBounds_toArray, List.set_cons_zero, List.set_cons_succ, Nat.zero_add, Nat.reduceAdd] at H)
    | (intro _ hS; replace H := H.step (Drew.ext hS); clear hS)
    | (first | refine ⟨⟨_, H.get 0 rfl rfl⟩, ?_⟩ | refine ⟨⟨_, H.get 1 rfl rfl⟩, ?_⟩ | refine ⟨⟨_, H.get 2 rfl rfl⟩, ?_⟩ | refine ⟨⟨_, H.get 3 rfl rfl⟩, ?_⟩ | refine ⟨⟨_, H.get 4 rfl rfl⟩, ?_⟩ | refine ⟨⟨_, H.get 5 rfl rfl⟩, ?_⟩ | refine ⟨⟨_, H.get 6 rfl rfl⟩, ?_⟩ | refine ⟨⟨_, H.get 7 rfl rfl⟩, ?_⟩)
    | (first | refine ⟨H.frz 0 rfl, ?_⟩ | refine ⟨H.frz 1 rfl, ?_⟩ | refine ⟨H.frz 2 rfl, ?_⟩ | refine ⟨H.frz 3 rfl, ?_⟩ | refine ⟨H.frz 4 rfl, ?_⟩ | refine ⟨H.frz 5 rfl, ?_⟩ | refine ⟨H.frz 6 rfl, ?_⟩ | refine ⟨H.frz 7 rfl, ?_⟩)
    | (first | refine ⟨_, H.get 0 rfl rfl, ?_⟩ | refine ⟨_, H.get 1 rfl rfl, ?_⟩ | refine ⟨_, H.get 2 rfl rfl, ?_⟩ | refine ⟨_, H.get 3 rfl rfl, ?_⟩ | refine ⟨_, H.get 4 rfl rfl, ?_⟩ | refine ⟨_, H.get 5 rfl rfl, ?_⟩ | refine ⟨_, H.get 6 rfl rfl, ?_⟩ | refine ⟨_, H.get 7 rfl rfl, ?_⟩)
    | (first | refine ⟨_, _, _, H.get 0 rfl rfl, ?_⟩ | refine ⟨_, _, _, H.get 1 rfl rfl, ?_⟩ | refine ⟨_, _, _, H.get 2 rfl rfl, ?_⟩ | refine ⟨_, _, _, H.get 3 rfl rfl, ?_⟩ | refine ⟨_, _, _, H.get 4 rfl rfl, ?_⟩ | refine ⟨_, _, _, H.get 5 rfl rfl, ?_⟩ | refine ⟨_, _, _, H.get 6 rfl rfl, ?_⟩ | refine ⟨_, _, _, H.get 7 rfl rfl, ?_⟩))
  refine ⟨fun h1 => ?_, fun h1 => ⟨fun h2 => ?_, fun h2 => ⟨fun h3 => ?_, fun h3 => ?_⟩⟩⟩
  · have eb : valB v = UInt8.ofNat v.k.toNat :: uvar (zigN v.n) := by unfold valB; rw [if_pos h1]
    repeat (first
      | (intro _ _ hS; replace H := H.new hS; clear hS)
      | (intro _ hS; (first | replace H := H.put 0 rfl hS | replace H := H.put 1 rfl hS | replace H := H.put 2 rfl hS | replace H := H.put 3 rfl hS | replace H := H.put 4 rfl hS | replace H := H.put 5 rfl hS | replace H := H.put 6 rfl hS | replace H := H.put 7 rfl hS); clear hS; try simp only [setA, List.setIfInBounds_toArray, List.set_cons_zero, List.set_cons_succ, Nat.zero_add, Nat.reduceAdd] at H)
      | (intro _ hS; replace H := H.step (Drew.ext hS); clear hS)
      | (first | refine ⟨⟨_, H.get 0 rfl rfl⟩, ?_⟩ | refine ⟨⟨_, H.get 1 rfl rfl⟩, ?_⟩ | refine ⟨⟨_, H.get 2 rfl rfl⟩, ?_⟩ | refine ⟨⟨_, H.get 3 rfl rfl⟩, ?_⟩ | refine ⟨⟨_, H.get 4 rfl rfl⟩, ?_⟩ | refine ⟨⟨_, H.get 5 rfl rfl⟩, ?_⟩ | refine ⟨⟨_, H.get 6 rfl rfl⟩, ?_⟩ | refine ⟨⟨_, H.get 7 rfl rfl⟩, ?_⟩)
      | (first | refine ⟨H.frz 0 rfl, ?_⟩ | refine ⟨H.frz 1 rfl, ?_⟩ | refine ⟨H.frz 2 rfl, ?_⟩ | refine ⟨H.frz 3 rfl, ?_⟩ | refine ⟨H.frz 4 rfl, ?_⟩ | refine ⟨H.frz 5 rfl, ?_⟩ | refine ⟨H.frz 6 rfl, ?_⟩ | refine ⟨H.frz 7 rfl, ?_⟩)
      | (first | refine ⟨_, H.get 0 rfl rfl, ?_⟩ | refine ⟨_, H.get 1 rfl rfl, ?_⟩ | refine ⟨_, H.get 2 rfl rfl, ?_⟩ | refine ⟨_, H.get 3 rfl rfl, ?_⟩ | refine ⟨_, H.get 4 rfl rfl, ?_⟩ | refine ⟨_, H.get 5 rfl rfl, ?_⟩ | refine ⟨_, H.get 6 rfl rfl, ?_⟩ | refine ⟨_, H.get 7 rfl rfl, ?_⟩)
      | (first | refine ⟨_, _, _, H.get 0 rfl rfl, ?_⟩ | refine ⟨_, _, _, H.get 1 rfl rfl, ?_⟩ | refine ⟨_, _, _, H.get 2 rfl rfl, ?_⟩ | refine ⟨_, _, _, H.get 3 rfl rfl, ?_⟩ | refine ⟨_, _, _, H.get 4 rfl rfl, ?_⟩ | refine ⟨_, _, _, H.get 5 rfl rfl, ?_⟩ | refine ⟨_, _, _, H.get 6 rfl rfl, ?_⟩ | refine ⟨_, _, _, H.get 7 rfl rfl, ?_⟩))
    refine (signed_out _ (hold_in H 0 rfl hl1) (by omega) hv.2.1 hv.2.2).mono ?_
    rintro e W ⟨p3, n3, c3, rfl, ho, eS⟩
    have hsz := H.size
    replace H := H.step eS
    refine ⟨p3, n3, c3, rfl, p3, n3, c3, by rw [hL], ?_, H.ext⟩
    rw [hL, eb]
    rw [List.append_assoc] at ho
    exact ho.mono (by omega)
  · have eb : valB v = [UInt8.ofNat v.k.toNat, UInt8.ofNat v.n.toNat] := by unfold valB; rw [if_neg (by omega), if_pos h2]
    have hb01 : v.n = 0 ∨ v.n = 1 := by
      rcases hok with ⟨a, _⟩ | ⟨a, _⟩ | ⟨_, a, _⟩ | ⟨a, _⟩
      · omega
      · omega
      · exact a
      · omega
    (first | refine ⟨_, H.get 0 rfl rfl, ?_⟩ | refine ⟨_, H.get 1 rfl rfl, ?_⟩ | refine ⟨_, H.get 2 rfl rfl, ?_⟩ | refine ⟨_, H.get 3 rfl rfl, ?_⟩)
    rw [bool_byte hb01]
    repeat (first
      | (intro _ _ hS; replace H := H.new hS; clear hS)
      | (intro _ hS; (first | replace H := H.put 0 rfl hS | replace H := H.put 1 rfl hS | replace H := H.put 2 rfl hS | replace H := H.put 3 rfl hS | replace H := H.put 4 rfl hS | replace H := H.put 5 rfl hS | replace H := H.put 6 rfl hS | replace H := H.put 7 rfl hS); clear hS; try simp only [setA, List.setIfInBounds_toArray, List.set_cons_zero, List.set_cons_succ, Nat.zero_add, Nat.reduceAdd] at H)
      | (intro _ hS; replace H := H.step (Drew.ext hS); clear hS)
      | (first | refine ⟨⟨_, H.get 0 rfl rfl⟩, ?_⟩ | refine ⟨⟨_, H.get 1 rfl rfl⟩, ?_⟩ | refine ⟨⟨_, H.get 2 rfl rfl⟩, ?_⟩ | refine ⟨⟨_, H.get 3 rfl rfl⟩, ?_⟩ | refine ⟨⟨_, H.get 4 rfl rfl⟩, ?_⟩ | refine ⟨⟨_, H.get 5 rfl rfl⟩, ?_⟩ | refine ⟨⟨_, H.get 6 rfl rfl⟩, ?_⟩ | refine ⟨⟨_, H.get 7 rfl rfl⟩, ?_⟩)
      | (first | refine ⟨H.frz 0 rfl, ?_⟩ | refine ⟨H.frz 1 rfl, ?_⟩ | refine ⟨H.frz 2 rfl, ?_⟩ | refine ⟨H.frz 3 rfl, ?_⟩ | refine ⟨H.frz 4 rfl, ?_⟩ | refine ⟨H.frz 5 rfl, ?_⟩ | refine ⟨H.frz 6 rfl, ?_⟩ | refine ⟨H.frz 7 rfl, ?_⟩)
      | (first | refine ⟨_, H.get 0 rfl rfl, ?_⟩ | refine ⟨_, H.get 1 rfl rfl, ?_⟩ | refine ⟨_, H.get 2 rfl rfl, ?_⟩ | refine ⟨_, H.get 3 rfl rfl, ?_⟩ | refine ⟨_, H.get 4 rfl rfl, ?_⟩ | refine ⟨_, H.get 5 rfl rfl, ?_⟩ | refine ⟨_, H.get 6 rfl rfl, ?_⟩ | refine ⟨_, H.get 7 rfl rfl, ?_⟩)
      | (first | refine ⟨_, _, _, H.get 0 rfl rfl, ?_⟩ | refine ⟨_, _, _, H.get 1 rfl rfl, ?_⟩ | refine ⟨_, _, _, H.get 2 rfl rfl, ?_⟩ | refine ⟨_, _, _, H.get 3 rfl rfl, ?_⟩ | refine ⟨_, _, _, H.get 4 rfl rfl, ?_⟩ | refine ⟨_, _, _, H.get 5 rfl rfl, ?_⟩ | refine ⟨_, _, _, H.get 6 rfl rfl, ?_⟩ | refine ⟨_, _, _, H.get 7 rfl rfl, ?_⟩))
    obtain ⟨p3, c3, w3, hrun, H3⟩ := H.append (ty := 28) (P := Tryd.prog) (q := some ⟨_, 0, none⟩) (m := 1) (d' := 1) (news := vB [UInt8.ofNat v.n.toNat]) 0 rfl undB tyB rfl (by decide) (H.blk 0 rfl).at rfl (fun e => by cases e) vB_one (by dsimp only; omega) (by unfold maxLen; omega)
    refine ⟨_, _, _, _, hrun, _, _, _, by rw [hL], ?_, H3.ext⟩
    rw [hL, eb]
    refine hold_out H3 0 ?_ (by rw [List.length_append, hl]; simp only [List.length_cons, List.length_nil] <;> omega)
    simp [vB, Nat.zero_add]
  · have eb : valB v = UInt8.ofNat v.k.toNat :: (uvar v.s.size ++ tB v.s) := by unfold valB; rw [if_neg (by omega), if_neg (by omega), if_pos h3]
    have hs : v.s.size ≤ 1024 := by
      rcases hok with ⟨a, _⟩ | ⟨a, _⟩ | ⟨a, _⟩ | ⟨_, _, a⟩
      · omega
      · omega
      · omega
      · exact a
    repeat (first
      | (intro _ _ hS; replace H := H.new hS; clear hS)
      | (intro _ hS; (first | replace H := H.put 0 rfl hS | replace H := H.put 1 rfl hS | replace H := H.put 2 rfl hS | replace H := H.put 3 rfl hS | replace H := H.put 4 rfl hS | replace H := H.put 5 rfl hS | replace H := H.put 6 rfl hS | replace H := H.put 7 rfl hS); clear hS; try simp only [setA, List.setIfInBounds_toArray, List.set_cons_zero, List.set_cons_succ, Nat.zero_add, Nat.reduceAdd] at H)
      | (intro _ hS; replace H := H.step (Drew.ext hS); clear hS)
      | (first | refine ⟨⟨_, H.get 0 rfl rfl⟩, ?_⟩ | refine ⟨⟨_, H.get 1 rfl rfl⟩, ?_⟩ | refine ⟨⟨_, H.get 2 rfl rfl⟩, ?_⟩ | refine ⟨⟨_, H.get 3 rfl rfl⟩, ?_⟩ | refine ⟨⟨_, H.get 4 rfl rfl⟩, ?_⟩ | refine ⟨⟨_, H.get 5 rfl rfl⟩, ?_⟩ | refine ⟨⟨_, H.get 6 rfl rfl⟩, ?_⟩ | refine ⟨⟨_, H.get 7 rfl rfl⟩, ?_⟩)
      | (first | refine ⟨H.frz 0 rfl, ?_⟩ | refine ⟨H.frz 1 rfl, ?_⟩ | refine ⟨H.frz 2 rfl, ?_⟩ | refine ⟨H.frz 3 rfl, ?_⟩ | refine ⟨H.frz 4 rfl, ?_⟩ | refine ⟨H.frz 5 rfl, ?_⟩ | refine ⟨H.frz 6 rfl, ?_⟩ | refine ⟨H.frz 7 rfl, ?_⟩)
      | (first | refine ⟨_, H.get 0 rfl rfl, ?_⟩ | refine ⟨_, H.get 1 rfl rfl, ?_⟩ | refine ⟨_, H.get 2 rfl rfl, ?_⟩ | refine ⟨_, H.get 3 rfl rfl, ?_⟩ | refine ⟨_, H.get 4 rfl rfl, ?_⟩ | refine ⟨_, H.get 5 rfl rfl, ?_⟩ | refine ⟨_, H.get 6 rfl rfl, ?_⟩ | refine ⟨_, H.get 7 rfl rfl, ?_⟩)
      | (first | refine ⟨_, _, _, H.get 0 rfl rfl, ?_⟩ | refine ⟨_, _, _, H.get 1 rfl rfl, ?_⟩ | refine ⟨_, _, _, H.get 2 rfl rfl, ?_⟩ | refine ⟨_, _, _, H.get 3 rfl rfl, ?_⟩ | refine ⟨_, _, _, H.get 4 rfl rfl, ?_⟩ | refine ⟨_, _, _, H.get 5 rfl rfl, ?_⟩ | refine ⟨_, _, _, H.get 6 rfl rfl, ?_⟩ | refine ⟨_, _, _, H.get 7 rfl rfl, ?_⟩))
    refine (text_out _ (hold_in H 0 rfl hl1) (by omega)).mono ?_
    rintro e W ⟨p3, n3, c3, rfl, ho, eS⟩
    have et : textL (l ++ [UInt8.ofNat v.k.toNat]) (tB v.s) = (l ++ valB v, 0) := by
      unfold textL
      rw [tB_length, if_pos (by omega), eb]; simp
    rw [et] at ho
    have hsz := H.size
    replace H := H.step eS
    refine ⟨p3, n3, c3, _, rfl, p3, n3, c3, by rw [hL, et], ?_, H.ext⟩
    rw [hL]
    exact ho.mono (by omega)
  · have hk0 : v.k = 0 := by rcases hok with ⟨a, _⟩ | ⟨a, _⟩ | ⟨a, _⟩ | ⟨a, _⟩ <;> omega
    have eb : valB v = [UInt8.ofNat v.k.toNat] := by unfold valB; rw [if_neg (by omega), if_neg (by omega), if_neg (by omega)]
    refine ⟨_, _, _, by rw [hL], ?_, H.ext⟩
    rw [hL, eb]
    exact hold_out H 0 rfl hl1
end Go.Proofs.YtiojkfckaalooaaDoor

/- The verification conditions of the functions, evaluated: printed by program. -/
namespace Go.Proofs.YtiojkfckaalooaaDoor
open Go Go.Vc
set_option maxRecDepth 20000

set_option maxRecDepth 100000 in
def sisname_T (s : ByteArray) (w : World) (R : Ending → World → Prop) : Prop :=
  (s ≠ ByteArray.mk #[] ∧ (↑s.size : Int) ≤ 24 → (0 : Int) ≤ 0 ∧ 0 < (↑s.size : Int) ∧ Calls Tryd.prog 46
 #[.string (ByteArray.mk #[97, 98, 99, 100, 101, 102, 103, 104, 105, 106, 107, 108, 109, 110, 111, 112, 113, 114, 115, 116, 117, 118, 119, 120, 121, 122]), .int .u8 (bAt s 0)]
 w fun e2 w3 ↦
 ∃ n4, e2 = .returned (.int .i64 n4) ∧ (0 ≤ n4 → Calls Tryd.prog 47
 #[.string s, Value.string
 (ByteArray.mk
 #[97, 98, 99, 100, 101, 102, 103, 104, 105, 106, 107, 108, 109, 110, 111, 112, 113, 114, 115, 116, 117, 118, 119, 120, 121, 122, 48, 49, 50, 51, 52, 53, 54, 55, 56, 57, 95])]
 w3 fun e6 w7 ↦ ∃ s8, e6 = .returned (.string s8) ∧ R (.returned (.bool (sEq s8 ⟨#[]⟩))) w7) ∧ (n4 < 0 → R (.returned (.bool false)) w3)) ∧ (s = ByteArray.mk #[] ∨ 24 < (↑s.size : Int) → R (.returned (.bool false)) w)

set_option maxRecDepth 100000 in
theorem sisname_eq (s : ByteArray) (w : World) (R : Ending → World → Prop) : sisname_T s w R = vcFn Tryd.prog [] [] Tryd.f22 [.string s] w R := by kernel_rfl

set_option maxRecDepth 100000 in
theorem sisname_vc (s : ByteArray) (w : World) (R : Ending → World → Prop) (hvc : sisname_T s w R) : Calls Tryd.prog 22 #[.string s] w R :=
  calls_of_vc (args := [.string s]) [] [] Tryd.mixed Tryd.func22 (cast (sisname_eq _ w R) hvc)

set_option maxRecDepth 100000 in
def sidxb_T (s : ByteArray) (c : Int) (w : World) (R : Ending → World → Prop) : Prop :=
  Calls Tryd.prog 64 #[.string s, .int .u8 c] w fun e1 w2 ↦
 ∃ n3, e1 = .returned (.int .i64 n3) ∧ R (.returned (.int .i64 n3)) w2

set_option maxRecDepth 100000 in
theorem sidxb_eq (s : ByteArray) (c : Int) (w : World) (R : Ending → World → Prop) : sidxb_T s c w R = vcFn Tryd.prog [] [] Tryd.f46 [.string s, .int .u8 c] w R := by kernel_rfl

set_option maxRecDepth 100000 in
theorem sidxb_vc (s : ByteArray) (c : Int) (w : World) (R : Ending → World → Prop) (hvc : sidxb_T s c w R) : Calls Tryd.prog 46 #[.string s, .int .u8 c] w R :=
  calls_of_vc (args := [.string s, .int .u8 c]) [] [] Tryd.mixed Tryd.func46 (cast (sidxb_eq _ _ w R) hvc)

set_option maxRecDepth 100000 in
def slidxb_T (s : ByteArray) (c : Int) (w : World) (R : Ending → World → Prop) : Prop :=
  ∃ n1, ∃ (w'2 : World), Sem.run Tryd.prog (callFunc 84 #[.string s, .int .u8 c]) w = Result.ok (Next.value (.int .i64 n1)) w'2 ∧ R (.returned (.int .i64 n1)) w'2

set_option maxRecDepth 100000 in
theorem slidxb_eq (s : ByteArray) (c : Int) (w : World) (R : Ending → World → Prop) : slidxb_T s c w R = vcFn Tryd.prog [] [] Tryd.f64 [.string s, .int .u8 c] w R := by kernel_rfl

set_option maxRecDepth 100000 in
theorem slidxb_vc (s : ByteArray) (c : Int) (w : World) (R : Ending → World → Prop) (hvc : slidxb_T s c w R) : Calls Tryd.prog 64 #[.string s, .int .u8 c] w R :=
  calls_of_vc (args := [.string s, .int .u8 c]) [] [] Tryd.mixed Tryd.func64 (cast (slidxb_eq _ _ w R) hvc)

set_option maxRecDepth 100000 in
def strim_T (s : ByteArray) (cutset : ByteArray) (w : World) (R : Ending → World → Prop) : Prop :=
  (s = ByteArray.mk #[] ∨ cutset = ByteArray.mk #[] → R (.returned (.string s)) w) ∧ (s ≠ ByteArray.mk #[] ∧ cutset ≠ ByteArray.mk #[] → ((↑cutset.size : Int) = 1 → (0 : Int) ≤ 0 ∧ 0 < (↑cutset.size : Int) ∧ (bAt cutset 0 < 128 → ∀ w'5, Drew w w'5 → (0 : Int) ≤ 0 ∧ 0 < (↑cutset.size : Int) ∧ (0 : Int) ≤ 0 ∧ 0 < (↑cutset.size : Int) ∧ Calls Tryd.prog 66 #[.string s, .int .u8 (bAt cutset 0)] w'5 fun e7 w8 ↦
 ∃ s9, e7 = .returned (.string s9) ∧ Calls Tryd.prog 65 #[.string s9, .int .u8 (bAt cutset 0)] w8 fun e10 w11 ↦
 ∃ s12, e10 = .returned (.string s12) ∧ R (.returned (.string s12)) w11) ∧ (128 ≤ bAt cutset 0 → Calls Tryd.prog 67 #[.string cutset] w fun e14 w15 ↦
 ∃ (vs16 : Array Value), vs16.size = 256 ∧ ∃ b17, e14 = .returned (.tuple #[.agg vs16, .bool b17]) ∧ ∀ b18 w'19, New w15 (Obj.cells (zeroA Tryd.prog 93) 93) b18 w'19 → vs16.size = 256 ∧ CanPut w'19 b18 0 vs16 ∧ ∀ w'21, Put w'19 b18 0 vs16.1 w'21 → (b17 = true → Calls Tryd.prog 69 #[.string s, .pointer (some ⟨b18, 0, none⟩)] w'21 fun e24 w25 ↦
 ∃ s26, e24 = .returned (.string s26) ∧ Calls Tryd.prog 68 #[.string s26, .pointer (some ⟨b18, 0, none⟩)] w25 fun e27 w28 ↦
 ∃ s29, e27 = .returned (.string s29) ∧ R (.returned (.string s29)) w28) ∧ (b17 = false → Calls Tryd.prog 71 #[.string s, .string cutset] w'21 fun e31 w32 ↦
 ∃ s33, e31 = .returned (.string s33) ∧ Calls Tryd.prog 70 #[.string s33, .string cutset] w32 fun e34 w35 ↦
 ∃ s36, e34 = .returned (.string s36) ∧ R (.returned (.string s36)) w35))) ∧ ((↑cutset.size : Int) ≠ 1 → Calls Tryd.prog 67 #[.string cutset] w fun e38 w39 ↦
 ∃ (vs40 : Array Value), vs40.size = 256 ∧ ∃ b41, e38 = .returned (.tuple #[.agg vs40, .bool b41]) ∧ ∀ b42 w'43, New w39 (Obj.cells (zeroA Tryd.prog 93) 93) b42 w'43 → vs40.size = 256 ∧ CanPut w'43 b42 0 vs40 ∧ ∀ w'45, Put w'43 b42 0 vs40.1 w'45 → (b41 = true → Calls Tryd.prog 69 #[.string s, .pointer (some ⟨b42, 0, none⟩)] w'45 fun e48 w49 ↦
 ∃ s50, e48 = .returned (.string s50) ∧ Calls Tryd.prog 68 #[.string s50, .pointer (some ⟨b42, 0, none⟩)] w49 fun e51 w52 ↦
 ∃ s53, e51 = .returned (.string s53) ∧ R (.returned (.string s53)) w52) ∧ (b41 = false → Calls Tryd.prog 71 #[.string s, .string cutset] w'45 fun e55 w56 ↦
 ∃ s57, e55 = .returned (.string s57) ∧ Calls Tryd.prog 70 #[.string s57, .string cutset] w56 fun e58 w59 ↦
 ∃ s60, e58 = .returned (.string s60) ∧ R (.returned (.string s60)) w59)))

set_option maxRecDepth 100000 in
theorem strim_eq (s : ByteArray) (cutset : ByteArray) (w : World) (R : Ending → World → Prop) : strim_T s cutset w R = vcFn Tryd.prog [] [(4, [2, 4, 6, 10, 12, 8, 14, 16, 0])] Tryd.f47 [.string s, .string cutset] w R := by kernel_rfl

set_option maxRecDepth 100000 in
theorem strim_vc (s : ByteArray) (cutset : ByteArray) (w : World) (R : Ending → World → Prop) (hvc : strim_T s cutset w R) : Calls Tryd.prog 47 #[.string s, .string cutset] w R :=
  calls_of_vc (args := [.string s, .string cutset]) [] [(4, [2, 4, 6, 10, 12, 8, 14, 16, 0])] Tryd.mixed Tryd.func47 (cast (strim_eq _ _ w R) hvc)

set_option maxRecDepth 100000 in
def mkascii_T (chars : ByteArray) (w : World) (R : Ending → World → Prop) : Prop :=
  ∀ b1 w'2, New w (Obj.cells (zeroA Tryd.prog 93) 93) b1 w'2 → ∃ (I4 : Int → World → Prop), ∃ (M5 : Int → World → Nat), I4 0 w'2 ∧ ∀ (n6 : Int) (w'7 : World), I4 n6 w'7 → (n6 < (↑chars.size : Int) → 0 ≤ n6 ∧ n6 < (↑chars.size : Int) ∧ (128 ≤ bAt chars n6.toNat → ∃ (vs11 : Array Value), vs11.size = 256 ∧ CellsAt w'7 b1 0 vs11 ∧ vs11.size = 256 ∧ CanPut w'7 b1 0 vs11 ∧ ∀ w'12, Put w'7 b1 0 vs11.1 w'12 → ∃ (vs14 : Array Value), vs14.size = 256 ∧ CellsAt w'12 b1 0 vs14 ∧ R (.returned (.tuple #[.agg vs14, .bool false])) w'12) ∧ (bAt chars n6.toNat < 128 → 0 ≤ bAt chars n6.toNat ∧ bAt chars n6.toNat < 256 ∧ (∃ u16, w'7.cell? ⟨b1, (0 + (bAt chars n6.toNat).toNat), none⟩ = some u16) ∧ w'7.frozen? ⟨b1, (0 + (bAt chars n6.toNat).toNat), none⟩ = false ∧ ∀ w'17, Put w'7 b1 (0 + (bAt chars n6.toNat).toNat) [.bool true] w'17 → I4 (IntKind.i64.wrap (n6 + 1)) w'17 ∧ M5 (IntKind.i64.wrap (n6 + 1)) w'17 < M5 n6 w'7)) ∧ ((↑chars.size : Int) ≤ n6 → ∃ (vs20 : Array Value), vs20.size = 256 ∧ CellsAt w'7 b1 0 vs20 ∧ vs20.size = 256 ∧ CanPut w'7 b1 0 vs20 ∧ ∀ w'21, Put w'7 b1 0 vs20.1 w'21 → ∃ (vs23 : Array Value), vs23.size = 256 ∧ CellsAt w'21 b1 0 vs23 ∧ R (.returned (.tuple #[.agg vs23, .bool true])) w'21)

set_option maxRecDepth 100000 in
theorem mkascii_eq (chars : ByteArray) (w : World) (R : Ending → World → Prop) : mkascii_T chars w R = vcFn Tryd.prog [] [] Tryd.f67 [.string chars] w R := by kernel_rfl

set_option maxRecDepth 100000 in
theorem mkascii_vc (chars : ByteArray) (w : World) (R : Ending → World → Prop) (hvc : mkascii_T chars w R) : Calls Tryd.prog 67 #[.string chars] w R :=
  calls_of_vc (args := [.string chars]) [] [] Tryd.mixed Tryd.func67 (cast (mkascii_eq _ w R) hvc)

set_option maxRecDepth 100000 in
def trimla_T (s : ByteArray) («as» : Option Addr) (w : World) (R : Ending → World → Prop) : Prop :=
  ∃ (I1 : ByteArray → World → Prop), ∃ (M2 : ByteArray → World → Nat), I1 s w ∧ ∀ (s3 : ByteArray) (w'4 : World), I1 s3 w'4 → (0 < (↑s3.size : Int) → (0 : Int) ≤ 0 ∧ 0 < (↑s3.size : Int) ∧ Calls Tryd.prog 85 #[.pointer «as», .int .u8 (bAt s3 0)] w'4 fun e7 w8 ↦
 ∃ b9, e7 = .returned (.bool b9) ∧ (b9 = false → R (.returned (.string s3)) w8) ∧ (b9 = true → (0 : Int) ≤ 1 ∧ 1 ≤ (↑s3.size : Int) ∧ I1 (s3.extract 1 s3.size) w8 ∧ M2 (s3.extract 1 s3.size) w8 < M2 s3 w'4)) ∧ ((↑s3.size : Int) ≤ 0 → R (.returned (.string s3)) w'4)

set_option maxRecDepth 100000 in
theorem trimla_eq (s : ByteArray) («as» : Option Addr) (w : World) (R : Ending → World → Prop) : trimla_T s «as» w R = vcFn Tryd.prog [] [] Tryd.f68 [.string s, .pointer «as»] w R := by kernel_rfl

set_option maxRecDepth 100000 in
theorem trimla_vc (s : ByteArray) («as» : Option Addr) (w : World) (R : Ending → World → Prop) (hvc : trimla_T s «as» w R) : Calls Tryd.prog 68 #[.string s, .pointer «as»] w R :=
  calls_of_vc (args := [.string s, .pointer «as»]) [] [] Tryd.mixed Tryd.func68 (cast (trimla_eq _ _ w R) hvc)

set_option maxRecDepth 100000 in
def trimra_T (s : ByteArray) («as» : Option Addr) (w : World) (R : Ending → World → Prop) : Prop :=
  ∃ (I1 : ByteArray → World → Prop), ∃ (M2 : ByteArray → World → Nat), I1 s w ∧ ∀ (s3 : ByteArray) (w'4 : World), I1 s3 w'4 → (0 < (↑s3.size : Int) → 0 ≤ IntKind.i64.wrap ((↑s3.size : Int) - 1) ∧ IntKind.i64.wrap ((↑s3.size : Int) - 1) < (↑s3.size : Int) ∧ Calls Tryd.prog 85 #[.pointer «as», .int .u8 (bAt s3 (IntKind.i64.wrap ((↑s3.size : Int) - 1)).toNat)] w'4 fun e7 w8 ↦
 ∃ b9, e7 = .returned (.bool b9) ∧ (b9 = false → R (.returned (.string s3)) w8) ∧ (b9 = true → 0 ≤ IntKind.i64.wrap ((↑s3.size : Int) - 1) ∧ IntKind.i64.wrap ((↑s3.size : Int) - 1) ≤ (↑s3.size : Int) ∧ I1 (s3.extract 0 (IntKind.i64.wrap ((↑s3.size : Int) - 1)).toNat) w8 ∧ M2 (s3.extract 0 (IntKind.i64.wrap ((↑s3.size : Int) - 1)).toNat) w8 < M2 s3 w'4)) ∧ ((↑s3.size : Int) ≤ 0 → R (.returned (.string s3)) w'4)

set_option maxRecDepth 100000 in
theorem trimra_eq (s : ByteArray) («as» : Option Addr) (w : World) (R : Ending → World → Prop) : trimra_T s «as» w R = vcFn Tryd.prog [] [] Tryd.f69 [.string s, .pointer «as»] w R := by kernel_rfl

set_option maxRecDepth 100000 in
theorem trimra_vc (s : ByteArray) («as» : Option Addr) (w : World) (R : Ending → World → Prop) (hvc : trimra_T s «as» w R) : Calls Tryd.prog 69 #[.string s, .pointer «as»] w R :=
  calls_of_vc (args := [.string s, .pointer «as»]) [] [] Tryd.mixed Tryd.func69 (cast (trimra_eq _ _ w R) hvc)

set_option maxRecDepth 100000 in
def ascont_T («as» : Option Addr) (c : Int) (w : World) (R : Ending → World → Prop) : Prop :=
  ∃ b1, ∃ o2, «as» = some ⟨b1, o2, none⟩ ∧ 0 ≤ c ∧ c < 256 ∧ ∃ b3, w.cell? ⟨b1, (o2 + c.toNat), none⟩ = some (.bool b3) ∧ R (.returned (.bool b3)) w

set_option maxRecDepth 100000 in
theorem ascont_eq («as» : Option Addr) (c : Int) (w : World) (R : Ending → World → Prop) : ascont_T «as» c w R = vcFn Tryd.prog [] [] Tryd.f85 [.pointer «as», .int .u8 c] w R := by kernel_rfl

set_option maxRecDepth 100000 in
theorem ascont_vc («as» : Option Addr) (c : Int) (w : World) (R : Ending → World → Prop) (hvc : ascont_T «as» c w R) : Calls Tryd.prog 85 #[.pointer «as», .int .u8 c] w R :=
  calls_of_vc (args := [.pointer «as», .int .u8 c]) [] [] Tryd.mixed Tryd.func85 (cast (ascont_eq _ _ w R) hvc)

set_option maxRecDepth 100000 in
def sright_T (cols_p : Option Addr) (cols_n : Nat) (cols_c : Nat) (w : World) (R : Ending → World → Prop) : Prop :=
  ∀ b1 w'2, New w (Obj.map #[] 0) b1 w'2 → ∃ (I4 : Int → World → Prop), ∃ (M5 : Int → World → Nat), I4 0 w'2 ∧ ∀ (n6 : Int) (w'7 : World), I4 n6 w'7 → (n6 < (↑cols_n : Int) → ∃ b10, ∃ o11, cols_p = some ⟨b10, o11, none⟩ ∧ 0 ≤ n6 ∧ n6 < (↑cols_n : Int) ∧ ∃ s12, w'7.cell? ⟨b10, (o11 + n6.toNat * 3), none⟩ = some (.string s12) ∧ ∃ n13, w'7.cell? ⟨b10, (o11 + n6.toNat * 3 + 1), none⟩ = some (.int .i64 n13) ∧ ∃ b14, w'7.cell? ⟨b10, (o11 + n6.toNat * 3 + 2), none⟩ = some (.bool b14) ∧ ∀ b15 w'16, New w'7 (Obj.cells #[.string ⟨#[]⟩, .int .i64 0, .bool false] 53) b15 w'16 → (∃ u18, w'16.cell? ⟨b15, 0, none⟩ = some u18) ∧ w'16.frozen? ⟨b15, 0, none⟩ = false ∧ (∃ u19, w'16.cell? ⟨b15, 1, none⟩ = some u19) ∧ w'16.frozen? ⟨b15, 1, none⟩ = false ∧ (∃ u20, w'16.cell? ⟨b15, 2, none⟩ = some u20) ∧ w'16.frozen? ⟨b15, 2, none⟩ = false ∧ ∀ w'21, Put w'16 b15 0 [.string s12, .int .i64 n13, .bool b14] w'21 → ∃ s23, w'21.cell? ⟨b15, 0, none⟩ = some (.string s23) ∧ Calls Tryd.prog 22 #[.string s23] w'21 fun e24 w25 ↦
 ∃ b26, e24 = .returned (.bool b26) ∧ (b26 = false → R (.returned (.bool false)) w25) ∧ (b26 = true → ∃ s29, w25.cell? ⟨b15, 0, none⟩ = some (.string s29) ∧ ∃ b30, (∀ (w131 : World), Same w25 w131 → Sem.run Tryd.prog (Instr.lookup 54 (.map (some b1)) (.string s29) false) w131 = Result.ok (.bool b30) w131) ∧ (b30 = true → R (.returned (.bool false)) w25) ∧ (b30 = false → ∃ n35, w25.cell? ⟨b15, 1, none⟩ = some (.int .i64 n35) ∧ (n35 < 1 → R (.returned (.bool false)) w25) ∧ (1 ≤ n35 → ∃ n38, w25.cell? ⟨b15, 1, none⟩ = some (.int .i64 n38) ∧ (3 < n38 → R (.returned (.bool false)) w25) ∧ (n38 ≤ 3 → ∃ s41, w25.cell? ⟨b15, 0, none⟩ = some (.string s41) ∧ ∃ (w'42 : World), Sem.run Tryd.prog (Instr.mapUpdate 54 (.map (some b1)) (.string s41) (.bool true)) w25 = Result.ok () w'42 ∧ I4 (IntKind.i64.wrap (n6 + 1)) w'42 ∧ M5 (IntKind.i64.wrap (n6 + 1)) w'42 < M5 n6 w'7))))) ∧ ((↑cols_n : Int) ≤ n6 → R (.returned (.bool (decide (0 < (↑cols_n : Int)) && decide ((↑cols_n : Int) ≤ 16)))) w'7)

set_option maxRecDepth 100000 in
theorem sright_eq (cols_p : Option Addr) (cols_n : Nat) (cols_c : Nat) (w : World) (R : Ending → World → Prop) : sright_T cols_p cols_n cols_c w R = vcFn Tryd.prog [] [] Tryd.f11 [.slice cols_p cols_n cols_c] w R := by kernel_rfl

set_option maxRecDepth 100000 in
theorem sright_vc (cols_p : Option Addr) (cols_n : Nat) (cols_c : Nat) (w : World) (R : Ending → World → Prop) (hvc : sright_T cols_p cols_n cols_c w R) : Calls Tryd.prog 11 #[.slice cols_p cols_n cols_c] w R :=
  calls_of_vc (args := [.slice cols_p cols_n cols_c]) [] [] Tryd.mixed Tryd.func11 (cast (sright_eq _ _ _ w R) hvc)

set_option maxRecDepth 100000 in
def sfits0_T (cols_p : Option Addr) (cols_n : Nat) (cols_c : Nat) (row_p : Option Addr) (row_n : Nat) (row_c : Nat) (w : World) (R : Ending → World → Prop) : Prop :=
  ∀ b1 w'2, New w (Obj.cells #[.bool false] 4) b1 w'2 → ((↑row_n : Int) ≠ (↑cols_n : Int) → (∃ u5, w'2.cell? ⟨b1, 0, none⟩ = some u5) ∧ w'2.frozen? ⟨b1, 0, none⟩ = false ∧ ∀ w'6, Put w'2 b1 0 [.bool false] w'6 → ∃ b8, w'6.cell? ⟨b1, 0, none⟩ = some (.bool b8) ∧ R (.returned (.bool b8)) w'6) ∧ ((↑row_n : Int) = (↑cols_n : Int) → Calls Tryd.prog 61 #[.slice cols_p cols_n cols_c, .slice row_p row_n row_c] w'2 fun e10 w11 ↦
 ∃ v12, e10 = .returned v12 ∧ ∃ (g13 : FuncId), ∃ (lb14 : Array Value), v12 = .func (Fn.func g13) #[] lb14 ∧ enterable Tryd.prog g13 = true ∧ ∀ (r15 : Nat → Loop) (d16 l17 : Nat) (w118 : World), Began w11 r15 d16 l17 w118 → (∀ (s20 : ByteArray) (n21 : Int) (b22 : Bool) (n23 n24 : Int) (s25 : ByteArray) (W26 : World) (R27 : Bool → World → Prop), Rec r15 l17 0 W26 → (∀ b29 w'30, New W26 (Obj.cells #[.string ⟨#[]⟩, .int .i64 0, .bool false] 53) b29 w'30 → (∃ u32, w'30.cell? ⟨b29, 0, none⟩ = some u32) ∧ w'30.frozen? ⟨b29, 0, none⟩ = false ∧ (∃ u33, w'30.cell? ⟨b29, 1, none⟩ = some u33) ∧ w'30.frozen? ⟨b29, 1, none⟩ = false ∧ (∃ u34, w'30.cell? ⟨b29, 2, none⟩ = some u34) ∧ w'30.frozen? ⟨b29, 2, none⟩ = false ∧ ∀ w'35, Put w'30 b29 0 [.string s20, .int .i64 n21, .bool b22] w'35 → ∀ b37 w'38, New w'35 (Obj.cells #[.int .i64 0, .int .i64 0, .string ⟨#[]⟩] 65) b37 w'38 → (∃ u40, w'38.cell? ⟨b37, 0, none⟩ = some u40) ∧ w'38.frozen? ⟨b37, 0, none⟩ = false ∧ (∃ u41, w'38.cell? ⟨b37, 1, none⟩ = some u41) ∧ w'38.frozen? ⟨b37, 1, none⟩ = false ∧ (∃ u42, w'38.cell? ⟨b37, 2, none⟩ = some u42) ∧ w'38.frozen? ⟨b37, 2, none⟩ = false ∧ ∀ w'43, Put w'38 b37 0 [.int .i64 n23, .int .i64 n24, .string s25] w'43 → Rec r15 l17 0 w'43 ∧ ∀ (Wb45 : World), Wb45 = turn r15 l17 1 w'43 → ∃ n47, Wb45.cell? ⟨b37, 0, none⟩ = some (.int .i64 n47) ∧ ∃ n48, Wb45.cell? ⟨b37, 1, none⟩ = some (.int .i64 n48) ∧ ∃ s49, Wb45.cell? ⟨b37, 2, none⟩ = some (.string s49) ∧ Calls Tryd.prog 62 #[.agg #[.int .i64 n47, .int .i64 n48, .string s49]] Wb45 fun e50 w51 ↦
 ∃ b52, e50 = .returned (.bool b52) ∧ (b52 = false → (∃ u54, w51.cell? ⟨b1, 0, none⟩ = some u54) ∧ w51.frozen? ⟨b1, 0, none⟩ = false ∧ ∀ w'55, Put w51 b1 0 [.bool false] w'55 → Rec r15 l17 1 w'55 ∧ R27 false (turn r15 l17 3 w'55)) ∧ (b52 = true → ∃ n58, w51.cell? ⟨b37, 0, none⟩ = some (.int .i64 n58) ∧ ∃ n59, w51.cell? ⟨b29, 1, none⟩ = some (.int .i64 n59) ∧ (n58 ≠ n59 → ∃ b61, w51.cell? ⟨b29, 2, none⟩ = some (.bool b61) ∧ (b61 = true → ∃ n63, w51.cell? ⟨b37, 0, none⟩ = some (.int .i64 n63) ∧ (n63 ≠ 0 → (∃ u65, w51.cell? ⟨b1, 0, none⟩ = some u65) ∧ w51.frozen? ⟨b1, 0, none⟩ = false ∧ ∀ w'66, Put w51 b1 0 [.bool false] w'66 → Rec r15 l17 1 w'66 ∧ R27 false (turn r15 l17 3 w'66)) ∧ (n63 = 0 → Rec r15 l17 1 w51 ∧ R27 true (turn r15 l17 0 w51))) ∧ (b61 = false → (∃ u70, w51.cell? ⟨b1, 0, none⟩ = some u70) ∧ w51.frozen? ⟨b1, 0, none⟩ = false ∧ ∀ w'71, Put w51 b1 0 [.bool false] w'71 → Rec r15 l17 1 w'71 ∧ R27 false (turn r15 l17 3 w'71))) ∧ (n58 = n59 → Rec r15 l17 1 w51 ∧ R27 true (turn r15 l17 0 w51)))) → Yield Tryd.prog l17
 #[.agg #[.string s20, .int .i64 n21, .bool b22], .agg #[.int .i64 n23, .int .i64 n24, .string s25]] W26
 fun (b75 : Bool) (w76 : World) ↦ R27 b75 w76) → Calls Tryd.prog g13 (.func (Fn.yield l17) #[] #[] :: lb14.1).toArray w118 fun e78 w79 ↦
 (∃ v80, e78 = .returned v80) ∧ ((Rec r15 l17 0 w79 ∧ (∃ u81, (turn r15 l17 2 w79).cell? ⟨b1, 0, none⟩ = some u81) ∧ (turn r15 l17 2 w79).frozen? ⟨b1, 0, none⟩ = false ∧ ∀ w'82, Put (turn r15 l17 2 w79) b1 0 [.bool true] w'82 → w'82.heap[d16]? = some (Obj.deferred (some [])) ∧ ∃ b86, (w'82.putObj d16 (Obj.deferred none)).cell? ⟨b1, 0, none⟩ = some (.bool b86) ∧ R (.returned (.bool b86)) (w'82.putObj d16 (Obj.deferred none))) ∨
 (Rec r15 l17 3 w79 ∧ (turn r15 l17 4 w79).heap[d16]? = some (Obj.deferred (some [])) ∧ ∃ b89, ((turn r15 l17 4 w79).putObj d16 (Obj.deferred none)).cell? ⟨b1, 0, none⟩ = some (.bool b89) ∧ R (.returned (.bool b89)) ((turn r15 l17 4 w79).putObj d16 (Obj.deferred none))) ∨
 False))

set_option maxRecDepth 100000 in
theorem sfits0_eq (cols_p : Option Addr) (cols_n : Nat) (cols_c : Nat) (row_p : Option Addr) (row_n : Nat) (row_c : Nat) (w : World) (R : Ending → World → Prop) : sfits0_T cols_p cols_n cols_c row_p row_n row_c w R = vcFn Tryd.prog [] [] Tryd.f33 [.slice cols_p cols_n cols_c, .slice row_p row_n row_c] w R := by kernel_rfl

set_option maxRecDepth 100000 in
theorem sfits0_vc (cols_p : Option Addr) (cols_n : Nat) (cols_c : Nat) (row_p : Option Addr) (row_n : Nat) (row_c : Nat) (w : World) (R : Ending → World → Prop) (hvc : sfits0_T cols_p cols_n cols_c row_p row_n row_c w R) : Calls Tryd.prog 33 #[.slice cols_p cols_n cols_c, .slice row_p row_n row_c] w R :=
  calls_of_vc (args := [.slice cols_p cols_n cols_c, .slice row_p row_n row_c]) [] [] Tryd.mixed Tryd.func33 (cast (sfits0_eq _ _ _ _ _ _ w R) hvc)

set_option maxRecDepth 100000 in
def spairs_T (cols_p : Option Addr) (cols_n : Nat) (cols_c : Nat) (row_p : Option Addr) (row_n : Nat) (row_c : Nat) (w : World) (R : Ending → World → Prop) : Prop :=
  ∀ b1 w'2, New w (Obj.cells #[.slice cols_p cols_n cols_c] 22) b1 w'2 → ∀ b4 w'5, New w'2 (Obj.cells #[.slice row_p row_n row_c] 24) b4 w'5 → R (.returned (.func (Fn.func 83) #[] #[.pointer (some ⟨b1, 0, none⟩), .pointer (some ⟨b4, 0, none⟩)])) w'5

set_option maxRecDepth 100000 in
theorem spairs_eq (cols_p : Option Addr) (cols_n : Nat) (cols_c : Nat) (row_p : Option Addr) (row_n : Nat) (row_c : Nat) (w : World) (R : Ending → World → Prop) : spairs_T cols_p cols_n cols_c row_p row_n row_c w R = vcFn Tryd.prog [] [] Tryd.f61 [.slice cols_p cols_n cols_c, .slice row_p row_n row_c] w R := by kernel_rfl

set_option maxRecDepth 100000 in
theorem spairs_vc (cols_p : Option Addr) (cols_n : Nat) (cols_c : Nat) (row_p : Option Addr) (row_n : Nat) (row_c : Nat) (w : World) (R : Ending → World → Prop) (hvc : spairs_T cols_p cols_n cols_c row_p row_n row_c w R) : Calls Tryd.prog 61 #[.slice cols_p cols_n cols_c, .slice row_p row_n row_c] w R :=
  calls_of_vc (args := [.slice cols_p cols_n cols_c, .slice row_p row_n row_c]) [] [] Tryd.mixed Tryd.func61 (cast (spairs_eq _ _ _ _ _ _ w R) hvc)

set_option maxRecDepth 100000 in
def spairs1_T (l0 : Nat) (fv0 : Nat) (fv1 : Nat) (w : World) (R : Ending → World → Prop) : Prop :=
  ∃ p1 n2 c3, w.cell? ⟨fv0, 0, none⟩ = some (.slice p1 n2 c3) ∧ ∃ (I4 : Int → World → Prop), ∃ (M5 : Int → World → Nat), I4 0 w ∧ ∀ (n6 : Int) (w'7 : World), I4 n6 w'7 → (n6 < (↑n2 : Int) → ∃ b10, ∃ o11, p1 = some ⟨b10, o11, none⟩ ∧ 0 ≤ n6 ∧ n6 < (↑n2 : Int) ∧ ∃ s12, w'7.cell? ⟨b10, (o11 + n6.toNat * 3), none⟩ = some (.string s12) ∧ ∃ n13, w'7.cell? ⟨b10, (o11 + n6.toNat * 3 + 1), none⟩ = some (.int .i64 n13) ∧ ∃ b14, w'7.cell? ⟨b10, (o11 + n6.toNat * 3 + 2), none⟩ = some (.bool b14) ∧ ∀ b15 w'16, New w'7 (Obj.cells #[.string ⟨#[]⟩, .int .i64 0, .bool false] 53) b15 w'16 → (∃ u18, w'16.cell? ⟨b15, 0, none⟩ = some u18) ∧ w'16.frozen? ⟨b15, 0, none⟩ = false ∧ (∃ u19, w'16.cell? ⟨b15, 1, none⟩ = some u19) ∧ w'16.frozen? ⟨b15, 1, none⟩ = false ∧ (∃ u20, w'16.cell? ⟨b15, 2, none⟩ = some u20) ∧ w'16.frozen? ⟨b15, 2, none⟩ = false ∧ ∀ w'21, Put w'16 b15 0 [.string s12, .int .i64 n13, .bool b14] w'21 → ∀ w'23, Drew w'21 w'23 → ∃ s25, w'23.cell? ⟨b15, 0, none⟩ = some (.string s25) ∧ ∃ n26, w'23.cell? ⟨b15, 1, none⟩ = some (.int .i64 n26) ∧ ∃ b27, w'23.cell? ⟨b15, 2, none⟩ = some (.bool b27) ∧ ∃ p28 n29 c30, w'23.cell? ⟨fv1, 0, none⟩ = some (.slice p28 n29 c30) ∧ ∃ b31, ∃ o32, p28 = some ⟨b31, o32, none⟩ ∧ 0 ≤ n6 ∧ n6 < (↑n29 : Int) ∧ ∃ n33, w'23.cell? ⟨b31, (o32 + n6.toNat * 3), none⟩ = some (.int .i64 n33) ∧ ∃ n34, w'23.cell? ⟨b31, (o32 + n6.toNat * 3 + 1), none⟩ = some (.int .i64 n34) ∧ ∃ s35, w'23.cell? ⟨b31, (o32 + n6.toNat * 3 + 2), none⟩ = some (.string s35) ∧ Yield Tryd.prog l0
 #[.agg #[.string s25, .int .i64 n26, .bool b27], .agg #[.int .i64 n33, .int .i64 n34, .string s35]] w'23
 fun (b36 : Bool) (w37 : World) ↦
 (b36 = false → R (.returned (.tuple #[])) w37) ∧ (b36 = true → I4 (IntKind.i64.wrap (n6 + 1)) w37 ∧ M5 (IntKind.i64.wrap (n6 + 1)) w37 < M5 n6 w'7)) ∧ ((↑n2 : Int) ≤ n6 → R (.returned (.tuple #[])) w'7)

set_option maxRecDepth 100000 in
theorem spairs1_eq (l0 : Nat) (fv0 : Nat) (fv1 : Nat) (w : World) (R : Ending → World → Prop) : spairs1_T l0 fv0 fv1 w R = vcFn Tryd.prog [] [(3, [2, 4, 6, 8, 10, 12, 14, 16, 0])] Tryd.f83 [.func (Fn.yield l0) #[] #[], .pointer (some ⟨fv0, 0, none⟩), .pointer (some ⟨fv1, 0, none⟩)] w R := by kernel_rfl

set_option maxRecDepth 100000 in
theorem spairs1_vc (l0 : Nat) (fv0 : Nat) (fv1 : Nat) (w : World) (R : Ending → World → Prop) (hvc : spairs1_T l0 fv0 fv1 w R) : Calls Tryd.prog 83 #[.func (Fn.yield l0) #[] #[], .pointer (some ⟨fv0, 0, none⟩), .pointer (some ⟨fv1, 0, none⟩)] w R :=
  calls_of_vc (args := [.func (Fn.yield l0) #[] #[], .pointer (some ⟨fv0, 0, none⟩), .pointer (some ⟨fv1, 0, none⟩)]) [] [(3, [2, 4, 6, 8, 10, 12, 14, 16, 0])] Tryd.mixed Tryd.func83 (cast (spairs1_eq _ _ _ w R) hvc)

end Go.Proofs.YtiojkfckaalooaaDoor

/- Big arrays in memory, told as one. -/
namespace Go.Vc
open Go Go.RowKit

theorem setA_get : ∀ (vs : List Value) (cs : Array Value) (o i : Nat), (setA cs o vs)[i]? = if o ≤ i ∧ i < o + vs.length ∧ i < cs.size then vs[i - o]? else cs[i]?
  | [], cs, o, i => by unfold setA; simp; omega
  | v :: vs, cs, o, i => by
    unfold setA
    rw [setA_get vs, Array.getElem?_setIfInBounds, Array.size_setIfInBounds]
    simp only [List.length_cons]
    by_cases h : o = i
    · subst h
      rw [if_neg (by omega), if_pos rfl]
      split
      · rw [if_pos (by omega)]; simp
      · rw [if_neg (by omega), Array.getElem?_eq_none (by omega)]
    · rw [if_neg h]
      by_cases h2 : o ≤ i ∧ i < o + (vs.length + 1) ∧ i < cs.size
      · rw [if_pos (by omega), if_pos h2, show i - o = (i - (o + 1)) + 1 by omega, List.getElem?_cons_succ]
      · rw [if_neg (by omega), if_neg h2]
theorem setA_size : ∀ (vs : List Value) (cs : Array Value) (o : Nat), (setA cs o vs).size = cs.size
  | [], _, _ => rfl
  | v :: vs, cs, o => by unfold setA; rw [setA_size vs]; simp
/-- All cells are stored anew. -/
theorem setA_all {cs vs : Array Value} (h : vs.size = cs.size) : setA cs 0 vs.toList = vs := by
  apply Array.ext_getElem?
  intro i
  rw [setA_get]
  by_cases hi : i < cs.size
  · rw [if_pos (by simp; omega)]; simp
  · rw [if_neg (by omega), Array.getElem?_eq_none (by omega), Array.getElem?_eq_none (by omega)]
section
variable {w w' w0 W W' : World} {b : Nat} {t : TypeId} {cs vs : Array Value} {fs : List (Nat × Obj)} {ms : List Row}
theorem Blk.cellsAt (h : Blk w b t cs) : CellsAt w b 0 cs := fun k v hk => by rw [Nat.zero_add, h.cell]; exact hk
theorem Blk.canPut (h : Blk w b t cs) (hs : vs.size = cs.size) (h1 : ∀ (k : Nat) v, vs[k]? = some v → v.oneCell' = true) : CanPut w b 0 vs := fun k v hk => by
  have hk' := (Array.getElem?_eq_some_iff.1 hk).1
  exact ⟨h1 k v hk, ⟨cs[k]'(by omega), by rw [Nat.zero_add, h.cell]; exact Array.getElem?_eq_getElem _⟩, h.frozen _⟩
theorem Hold.putAll (h : Hold w0 W fs ms) (i : Nat) (hi : fs[i]? = some (b, .cells cs t (0, 0))) (hs : vs.size = cs.size) (e : Put W b 0 vs.toList W') : Hold w0 W' (fs.set i (b, .cells vs t (0, 0))) ms := by
  have := h.put i hi e
  rwa [setA_all hs] at this
end

end Go.Vc

/- The contracts of package schema: names. -/
namespace Go.Proofs.YtiojkfckaalooaaDoor
open Go Go.Vc Go.RowKit
set_option maxRecDepth 20000

theorem idxbyte_ok (s : ByteArray) (c : Int) (w : World) : Calls Tryd.prog 46 #[.string s, .int .u8 c] w fun e w' => e = .returned (.int .i64 (Lib.indexByte (tB s) c.toNat.toUInt8)) ∧ w' = w := by
  apply sidxb_vc
  unfold sidxb_T
  apply slidxb_vc
  unfold slidxb_T
  refine ⟨_, _, ?_, _, rfl, rfl, rfl⟩
  rw [run_callFunc_extern Tryd.func84 (by kernel_rfl) (by kernel_rfl) (by kernel_rfl) (e := Extern.BytealgIndexByte.indexByte) (by kernel_rfl), Lib.run_indexByteString]
  rfl

theorem zero_set : zeroA Tryd.prog 93 = Array.replicate 256 (.bool false) := by kernel_rfl
/-- The cells of a set of bytes. -/
def SetC (cs : Array Value) (f : UInt8 → Bool) : Prop := cs.size = 256 ∧ ∀ x : UInt8, cs[x.toNat]? = some (.bool (f x))
theorem SetC.one {cs : Array Value} {f : UInt8 → Bool} (h : SetC cs f) (k : Nat) (v : Value) (hk : cs[k]? = some v) : v.oneCell' = true := by
  have hlt := (Array.getElem?_eq_some_iff.1 hk).1
  have := h.2 (UInt8.ofNat k)
  rw [h.1] at hlt
  rw [UInt8.toNat_ofNat', Nat.mod_eq_of_lt (by omega), hk] at this
  cases this; rfl
theorem bAt_u8 (s : ByteArray) {i : Nat} (h : i < s.size) : ∃ x : UInt8, (tB s)[i]? = some x ∧ bAt s i = (x.toNat : Int) :=
  ⟨(tB s)[i]'(by rw [tB_length]; exact h), List.getElem?_eq_getElem _, bAt_eq s i h⟩

theorem mkascii_ok (s : ByteArray) (w : World) (hs : s.size < 9223372036854775807) (ha : ∀ x ∈ tB s, x.toNat < 128) :
    Calls Tryd.prog 67 #[.string s] w fun e w' => ∃ cs, e = .returned (.tuple #[.agg cs, .bool true]) ∧ SetC cs (fun x => (tB s).contains x) ∧ Ext w w' := by
  apply mkascii_vc
  unfold mkascii_T
  intro b1 w2 h1
  rw [zero_set] at h1
  have H1 := (Hold.start (Ext.rfl (w := w))).new h1
  refine ⟨fun i w' => ∃ (k : Nat) (cs : Array Value), i = (k : Int) ∧ k ≤ s.size ∧ SetC cs (fun x => ((tB s).take k).contains x) ∧ Hold w w' [(b1, .cells cs 93 (0, 0))] [], fun i _ => s.size - i.toNat, ⟨0, _, rfl, Nat.zero_le _, ⟨by simp, fun x => ?_⟩, H1⟩, ?_⟩
  · have := x.toNat_lt
    rw [Array.getElem?_eq_getElem (by simp; omega)]; simp
  rintro i w7 ⟨k, cs, rfl, hk, hc, H⟩
  have B := H.blk 0 rfl
  simp only [Int.toNat_natCast, Nat.zero_add]
  refine ⟨fun hlt => ?_, fun hge => ?_⟩
  · obtain ⟨x, hx, hb⟩ := bAt_u8 s (i := k) (by omega)
    have hx8 := ha x (List.mem_of_getElem? hx)
    rw [hb]
    refine ⟨by omega, by omega, fun h => by omega, fun _ => ⟨by omega, by omega, ⟨_, by rw [Int.toNat_natCast, B.cell]; exact hc.2 x⟩, B.frozen _, fun w17 h17 => ?_⟩⟩
    rw [Int.toNat_natCast] at h17
    have H17 := H.put 0 rfl h17
    rw [i64_next (by omega)]
    refine ⟨⟨k + 1, _, rfl, by omega, ⟨by rw [setA_size]; exact hc.1, fun y => ?_⟩, H17⟩, by simp only [Int.toNat_natCast]; omega⟩
    have htk : (tB s).take (k + 1) = (tB s).take k ++ [x] := by
      rw [List.take_add_one, hx]; rfl
    show _ = some (Value.bool (((tB s).take (k + 1)).contains y))
    rw [setA_get, hc.1, htk]
    have hy := y.toNat_lt
    by_cases hxy : x = y
    · subst hxy
      rw [if_pos (by simp; omega)]
      simp
    · have hn : x.toNat ≠ y.toNat := fun e => hxy (UInt8.toNat_inj.1 e)
      rw [if_neg (by simp; omega), hc.2 y]
      simp [Ne.symm hxy]
  · refine ⟨cs, hc.1, B.cellsAt, hc.1, B.canPut rfl hc.one, fun w21 h21 => ?_⟩
    have H21 := H.putAll 0 rfl rfl h21
    have B21 : Blk w21 b1 93 cs := H21.blk 0 rfl
    refine ⟨cs, hc.1, B21.cellsAt, cs, rfl, ?_, H21.ext⟩
    have : (tB s).take k = tB s := List.take_of_length_le (by rw [tB_length]; omega)
    rw [this] at hc
    exact hc

section
variable {w : World} {b : Nat} {cs : Array Value} {f : UInt8 → Bool}
theorem ascont_ok (h : Blk w b 93 cs) (hc : SetC cs f) (x : UInt8) : Calls Tryd.prog 85 #[.pointer (some ⟨b, 0, none⟩), .int .u8 (x.toNat : Int)] w fun e w' => e = .returned (.bool (f x)) ∧ Ext w w' := by
  apply ascont_vc
  unfold ascont_T
  have hx := x.toNat_lt
  exact ⟨b, 0, rfl, by omega, by omega, _, by rw [Int.toNat_natCast, Nat.zero_add, h.cell]; exact hc.2 x, rfl, .rfl⟩
theorem trimra_ok (s : ByteArray) (hs : s.size ≤ 9223372036854775807) (h : Blk w b 93 cs) (hc : SetC cs f) :
    Calls Tryd.prog 69 #[.string s, .pointer (some ⟨b, 0, none⟩)] w fun e w' => ∃ r, e = .returned (.string r) ∧ r.size ≤ s.size ∧ (tB r).all f = (tB s).all f ∧ Ext w w' := by
  apply trimra_vc
  unfold trimra_T
  refine ⟨fun r w' => r.size ≤ s.size ∧ (tB r).all f = (tB s).all f ∧ Ext w w', fun r _ => r.size, ⟨Nat.le_refl _, rfl, .rfl⟩, ?_⟩
  rintro r w4 ⟨hr, ha, hx⟩
  refine ⟨fun h0 => ?_, fun _ => ⟨r, rfl, hr, ha, hx⟩⟩
  rw [i64_fit (by omega) (by omega)]
  have e1 : ((r.size : Int) - 1) = ((r.size - 1 : Nat) : Int) := by omega
  rw [e1]
  simp only [Int.toNat_natCast]
  obtain ⟨x, hx', hb⟩ := bAt_u8 r (i := r.size - 1) (by omega)
  rw [hb]
  refine ⟨by omega, by omega, (ascont_ok (h.ext hx) hc x).mono ?_⟩
  rintro e w8 ⟨rfl, e8⟩
  have hx8 := hx.trans e8
  refine ⟨_, rfl, fun _ => ⟨r, rfl, hr, ha, hx8⟩, fun hf => ⟨by omega, by omega, ⟨?_, ?_, hx8⟩, ?_⟩⟩
  · rw [← tB_length, tB_extract]; simp; omega
  · rw [tB_extract, List.drop_zero, ← ha]
    have : tB r = (tB r).take (r.size - 1) ++ [x] := by
      have := List.take_add_one (l := tB r) (i := r.size - 1)
      rw [hx', List.take_of_length_le (by rw [tB_length]; omega)] at this
      exact this
    conv => rhs; rw [this, List.all_append]
    simp [hf]
  · rw [← tB_length, tB_extract]; simp [tB_length]; omega
theorem trimla_ok (s : ByteArray) (hs : s.size ≤ 9223372036854775807) (h : Blk w b 93 cs) (hc : SetC cs f) :
    Calls Tryd.prog 68 #[.string s, .pointer (some ⟨b, 0, none⟩)] w fun e w' => ∃ r, e = .returned (.string r) ∧ (tB r = [] ↔ (tB s).all f = true) ∧ Ext w w' := by
  apply trimla_vc
  unfold trimla_T
  refine ⟨fun r w' => (tB r).all f = (tB s).all f ∧ Ext w w', fun r _ => r.size, ⟨rfl, .rfl⟩, ?_⟩
  rintro r w4 ⟨ha, hx⟩
  refine ⟨fun h0 => ?_, fun h0 => ⟨r, rfl, ?_, hx⟩⟩
  · obtain ⟨x, hx', hb⟩ := bAt_u8 r (i := 0) (by omega)
    rw [hb]
    refine ⟨by omega, by omega, (ascont_ok (h.ext hx) hc x).mono ?_⟩
    rintro e w8 ⟨rfl, e8⟩
    have hx8 := hx.trans e8
    cases hr : tB r with
    | nil => rw [hr] at hx'; simp at hx'
    | cons y l =>
      rw [hr] at hx'
      cases hx'
      refine ⟨_, rfl, fun hf => ⟨r, rfl, ?_, hx8⟩, fun hf => ⟨by omega, by omega, ⟨?_, hx8⟩, ?_⟩⟩
      · rw [hr, ← ha, hr]; simp [hf]
      · rw [tB_extract, List.take_of_length_le (by rw [tB_length]; omega), ← ha, hr]; simp [hf]
      · show (r.extract 1 r.size).size < r.size
        rw [← tB_length, tB_extract]; simp [tB_length]; omega
  · have : tB r = [] := List.length_eq_zero_iff.1 (by rw [tB_length]; omega)
    rw [← ha, this]; simp
end

theorem ba_nil {s : ByteArray} : s = ⟨#[]⟩ ↔ tB s = [] := by rw [← tB_inj]; rfl
theorem trim_ok (s : ByteArray) (hs : s.size ≤ 9223372036854775807) {c : ByteArray} (hc : 2 ≤ c.size) (hc' : c.size < 9223372036854775807) (ha : ∀ x ∈ tB c, x.toNat < 128) (w : World) :
    Calls Tryd.prog 47 #[.string s, .string c] w fun e w' => ∃ r, e = .returned (.string r) ∧ (r = ⟨#[]⟩ ↔ (tB s).all (fun x => (tB c).contains x) = true) ∧ Ext w w' := by
  apply strim_vc
  unfold strim_T
  refine ⟨fun h => ?_, fun _ => ⟨fun h => by omega, fun _ => (mkascii_ok c w hc' ha).mono ?_⟩⟩
  · rcases h with h | h
    · exact ⟨s, rfl, by rw [h]; simp [tB], .rfl⟩
    · rw [h] at hc; cases hc
  · rintro e w39 ⟨cs, rfl, hs', e39⟩
    refine ⟨cs, hs'.1, true, rfl, fun b42 w43 h43 => ?_⟩
    rw [zero_set] at h43
    have H43 := (Hold.start e39).new h43
    have B43 := H43.blk 0 rfl
    refine ⟨hs'.1, B43.canPut (by rw [hs'.1]; simp) hs'.one, fun w45 h45 => ⟨fun _ => ?_, fun h => by cases h⟩⟩
    have H45 := H43.putAll 0 rfl (by rw [hs'.1]; simp) h45
    have B45 : Blk w45 b42 93 cs := H45.blk 0 rfl
    refine (trimra_ok s hs B45 hs').mono ?_
    rintro e w49 ⟨r, rfl, hrs, hr, e49⟩
    refine ⟨r, rfl, (trimla_ok r (by omega) (B45.ext e49) hs').mono ?_⟩
    rintro e w52 ⟨q, rfl, hq, e52⟩
    exact ⟨q, rfl, q, rfl, by rw [ba_nil, hq, hr], (H45.step (e49.trans e52)).ext⟩

def letC : ByteArray := ⟨#[97, 98, 99, 100, 101, 102, 103, 104, 105, 106, 107, 108, 109, 110, 111, 112, 113, 114, 115, 116, 117, 118, 119, 120, 121, 122]⟩
def othC : ByteArray := ⟨#[97, 98, 99, 100, 101, 102, 103, 104, 105, 106, 107, 108, 109, 110, 111, 112, 113, 114, 115, 116, 117, 118, 119, 120, 121, 122, 48, 49, 50, 51, 52, 53, 54, 55, 56, 57, 95]⟩
theorem let_all : ∀ i : Fin 256, decide (0 ≤ Lib.indexByte (tB letC) (UInt8.ofNat i.1)) = letterB (UInt8.ofNat i.1) := by decide +kernel
theorem oth_all : ∀ i : Fin 256, (tB othC).contains (UInt8.ofNat i.1) = otherB (UInt8.ofNat i.1) := by decide +kernel
theorem let_eq (x : UInt8) : 0 ≤ Lib.indexByte (tB letC) x ↔ letterB x = true := by
  have := let_all ⟨x.toNat, x.toNat_lt⟩
  rw [UInt8.ofNat_toNat] at this
  rw [← this, decide_eq_true_eq]
theorem oth_eq (x : UInt8) : (tB othC).contains x = otherB x := by
  have := oth_all ⟨x.toNat, x.toNat_lt⟩
  rwa [UInt8.ofNat_toNat] at this
theorem oth_ascii : ∀ x ∈ tB othC, x.toNat < 128 := by decide +kernel

theorem sisname_ok (s : ByteArray) (w : World) : Calls Tryd.prog 22 #[.string s] w fun e w' => e = .returned (.bool (isName s)) ∧ Ext w w' := by
  apply sisname_vc
  unfold sisname_T
  refine ⟨fun ⟨hne, hle⟩ => ?_, fun h => ⟨?_, .rfl⟩⟩
  · have h0 : 0 < s.size := by
      rcases Nat.eq_zero_or_pos s.size with h | h
      · exact absurd (ba_nil.2 (List.length_eq_zero_iff.1 (by rw [tB_length]; exact h))) hne
      · exact h
    obtain ⟨x, hx, hb⟩ := bAt_u8 s h0
    refine ⟨by omega, by omega, ?_⟩
    rw [hb]
    refine (idxbyte_ok letC (x.toNat : Int) w).mono ?_
    rintro e w3 ⟨rfl, rfl⟩
    have hxx : ((x.toNat : Int)).toNat.toUInt8 = x := by simp
    rw [hxx]
    cases hl : tB s with
    | nil => rw [hl] at hx; simp at hx
    | cons y l =>
      rw [hl] at hx
      cases hx
      have hlen : l.length + 1 ≤ 24 := by have := tB_length s; rw [hl] at this; simp at this; omega
      refine ⟨_, rfl, fun hge => ?_, fun hlt => ⟨?_, .rfl⟩⟩
      · refine (trim_ok s (by omega) (c := othC) (by decide) (by decide) oth_ascii _).mono ?_
        rintro e w7 ⟨r, rfl, hr, e7⟩
        refine ⟨r, rfl, ?_, e7⟩
        have : sEq r ⟨#[]⟩ = isName s := by
          rw [Bool.eq_iff_iff, sEq_iff, hr, hl]
          unfold isName isNameL
          rw [hl]
          have hx1 := (let_eq x).1 hge
          have hx2 : otherB x = true := by unfold otherB; rw [hx1]; rfl
          simp only [List.all_cons, oth_eq, hx1, hx2, Bool.true_and, List.length_cons, Bool.and_eq_true, decide_eq_true_eq]
          exact ⟨fun h => ⟨h, hlen⟩, fun h => h.1⟩
        rw [this]
      · have : isName s = false := by
          unfold isName isNameL
          rw [hl]
          have : letterB x = false := by
            rw [← Bool.not_eq_true, ← let_eq]; omega
          simp [this]
        rw [this]
  · have : isName s = false := by
      unfold isName isNameL
      rcases h with h | h
      · rw [h]; rfl
      · cases hl : tB s with
        | nil => rfl
        | cons y l =>
          have := tB_length s
          rw [hl] at this
          have hb : ¬ ((y :: l).length ≤ 24) := by omega
          simp only [hb, decide_false, Bool.and_false]
    rw [this]
end Go.Proofs.YtiojkfckaalooaaDoor

/- The contracts of package schema: schemas, and columns by name; the document's answer for them. -/
namespace Go.Proofs.YtiojkfckaalooaaDoor
open Go Go.Vc Go.RowKit
set_option maxRecDepth 20000

/-- What is asked of byte k of a name. -/
def nameB (k : Nat) (x : UInt8) : Bool := if k = 0 then letterB x else otherB x
section
variable {w : World} {p rp : Option Addr} {n c rn rc : Nat} {cols : List Col} {row : List Val}

/-! ### Find -/
/-! ### Right -/
/-- The map of names that were met. -/
def metL (l : List Col) : List (ByteArray × Value) := l.foldl (fun m x => setS m x.name (.bool true)) []
theorem metL_snoc (l : List Col) (x : Col) : metL (l ++ [x]) = setS (metL l) x.name (.bool true) := by simp [metL]
theorem metL_look (l : List Col) (s : ByteArray) : (lookS (metL l) s).getD (.bool false) = .bool ((l.map Col.name).contains s) := by
  have key : ∀ (l : List Col) (m : List (ByteArray × Value)), lookS (l.foldl (fun m x => setS m x.name (.bool true)) m) s = if (l.map Col.name).contains s then some (.bool true) else lookS m s := by
    intro l
    induction l with
    | nil => intro m; simp
    | cons x l ih =>
      intro m
      rw [List.foldl_cons, ih, lookS_setS, List.map_cons]
      by_cases hx : x.name = s
      · subst hx; simp
      · simp [hx, Ne.symm hx]
  unfold metL
  rw [key]
  cases (l.map Col.name).contains s <;> rfl
theorem sright_ok (h : Cols w p n c cols) : Calls Tryd.prog 11 #[.slice p n c] w fun e w' => e = .returned (.bool (rightC cols)) ∧ Ext w w' := by
  apply sright_vc
  unfold sright_T
  intro b1 w2 h1
  have hl := h.len
  have hm : n ≤ 9223372036854775807 := h.le
  have H1 := (Hold.start (Ext.rfl (w := w))).new h1
  refine ⟨fun i w' => ∃ (k : Nat) (es : Array MapEntry) (clock : Nat), i = (k : Int) ∧ k ≤ n ∧ colsOk [] (cols.take k) = true ∧ MapL es (metL (cols.take k)) ∧ Hold w w' [(b1, .map es clock)] [], fun i _ => n - i.toNat, ⟨0, _, _, rfl, Nat.zero_le _, by simp [colsOk], by simp [metL, MapL], H1⟩, ?_⟩
  rintro i w7 ⟨k, es, clock, rfl, hk, hok, hmap, H⟩
  refine ⟨fun hlt => ?_, fun hge => ⟨?_, H.ext⟩⟩
  · have g : cols[k]? = some (cols[k]'(by omega)) := List.getElem?_eq_getElem _
    generalize cols[k]'(by omega) = x at g
    obtain ⟨b, o, hp, c0, c1, c2⟩ := (h.ext H.ext).col g
    have hdec : colOk ((cols.take k).map Col.name) x = false → rightC cols = false := by
      intro hv
      unfold rightC
      have hc : cols = cols.take k ++ x :: cols.drop (k + 1) := by
        obtain ⟨hk', rfl⟩ := List.getElem?_eq_some_iff.1 g
        rw [← List.drop_eq_getElem_cons hk', List.take_append_drop]
      have : colsOk [] cols = false := by
        conv => lhs; rw [hc, colsOk_append]
        rw [hok, List.nil_append]
        unfold colsOk
        rw [hv]; rfl
      rw [this, Bool.and_false]
    simp only [Int.toNat_natCast]
    refine ⟨b, o, hp, by omega, by omega, _, c0, _, c1, _, c2, fun b15 w16 h16 => ?_⟩
    have H16 := H.new h16
    obtain ⟨q0, q1, q2⟩ := (H16.blk 0 rfl).c3
    refine ⟨⟨_, q0⟩, (H16.blk 0 rfl).frozen _, ⟨_, q1⟩, (H16.blk 0 rfl).frozen _, ⟨_, q2⟩, (H16.blk 0 rfl).frozen _, fun w21 h21 => ?_⟩
    have H21 := H16.put 0 rfl h21
    have B : Blk w21 b15 53 #[.string x.name, .int .i64 x.kind, .bool x.null] := H21.blk 0 rfl
    obtain ⟨q0, q1, q2⟩ := B.c3
    refine ⟨_, q0, (sisname_ok x.name w21).mono ?_⟩
    rintro e w25 ⟨rfl, e25⟩
    have H25 := H21.step e25
    have B25 := B.ext e25
    obtain ⟨q0, q1, q2⟩ := B25.c3
    have hM : w25.heap[b1]? = some (.map es clock) := H25.holds 1 _ rfl
    refine ⟨_, rfl, fun hn => ⟨?_, H25.ext⟩, fun hn => ⟨_, q0, ((cols.take k).map Col.name).contains x.name, fun w1 hs => ?_, fun hin => ⟨?_, H25.ext⟩, fun hin => ⟨_, q1, fun hlow => ⟨?_, H25.ext⟩, fun hge => ⟨_, q1, fun hhi => ⟨?_, H25.ext⟩, fun hle => ⟨_, q0, ?_⟩⟩⟩⟩⟩
    · rw [hdec (by unfold colOk; rw [hn]; rfl)]
    · rw [← metL_look]
      exact map_look (kt := 9) (e := 4) (by kernel_rfl) (by kernel_rfl) (run_zeroOf (by kernel_rfl) w1) ((hs b1 (H25.lt 1 rfl)).trans hM) hmap
    · rw [hdec (by unfold colOk; rw [hn, hin]; rfl)]
    · rw [hdec (by unfold colOk; rw [hn, hin, decide_eq_false (by omega)]; rfl)]
    · rw [hdec (by unfold colOk; rw [hn, hin, decide_eq_false (by omega)]; rfl)]
    · obtain ⟨w42, es', clock', hrun, hobj, hmap', hbut, hsz⟩ := map_set (P := Tryd.prog) (t := 54) (kt := 9) (e := 4) (s := x.name) (by kernel_rfl) (by kernel_rfl) hM hmap (.bool true)
      refine ⟨w42, hrun, ?_⟩
      rw [i64_next (by omega)]
      have htk : cols.take (k + 1) = cols.take k ++ [x] := by rw [List.take_add_one, g]; rfl
      refine ⟨⟨k + 1, es', clock', rfl, by omega, ?_, ?_, (H25.upd 1 rfl hbut hobj).tail⟩, by simp only [Int.toNat_natCast]; omega⟩
      · rw [htk, colsOk_append, hok, List.nil_append]
        unfold colsOk colOk
        rw [hn, hin, decide_eq_true (by omega)]; rfl
      · rw [htk, metL_snoc]; exact hmap'
  · have hk' : k = n := by omega
    subst hk'
    rw [List.take_of_length_le (by omega)] at hok
    have : (decide ((0 : Int) < (k : Int)) && decide ((k : Int) ≤ 16)) = rightC cols := by
      unfold rightC
      rw [hok, Bool.and_true, Bool.eq_iff_iff, Bool.and_eq_true, decide_eq_true_eq, decide_eq_true_eq, decide_eq_true_eq]
      omega
    rw [this]
end
end Go.Proofs.YtiojkfckaalooaaDoor

/- The contracts of package schema: rows that fit; the document's answer for them. -/
namespace Go.Proofs.YtiojkfckaalooaaDoor
open Go Go.Vc Go.RowKit
set_option maxRecDepth 20000

section
variable {w : World} {p rp : Option Addr} {n c rn rc : Nat} {cols : List Col} {row : List Val}

/-! ### Rows that fit -/
theorem spairs_ok (w : World) : Calls Tryd.prog 61 #[.slice p n c, .slice rp rn rc] w fun e w' => ∃ b1 b4, e = .returned (.func (.func 83) #[] #[.pointer (some ⟨b1, 0, none⟩), .pointer (some ⟨b4, 0, none⟩)]) ∧
    ∀ fs ms w0, Hold w0 w fs ms → Hold w0 w' ((b4, .cells #[.slice rp rn rc] 24) :: (b1, .cells #[.slice p n c] 22) :: fs) ms := by
  apply spairs_vc
  unfold spairs_T
  intro b1 w2 h1 b4 w5 h4
  exact ⟨b1, b4, rfl, fun fs ms w0 h => (h.new h1).new h4⟩

theorem spairs1_ok {l0 fv0 fv1 : Nat} (w0 : World) (h : Cols w0 p n c cols) (hr : Vs w0 rp rn rc row) (hlen : rn = n) (Inv : Nat → World → Prop) (Stop : World → Prop) {w : World} (h0 : Inv 0 w)
    (hex : ∀ k W, Inv k W → Ext w0 W) (hc0 : ∀ k W, Inv k W → W.cell? ⟨fv0, 0, none⟩ = some (.slice p n c)) (hc1 : ∀ k W, Inv k W → W.cell? ⟨fv1, 0, none⟩ = some (.slice rp rn rc))
    (hstep : ∀ k W W', Inv k W → Ext W W' → Inv k W')
    (hy : ∀ k x v W (R : Bool → World → Prop), k < n → cols[k]? = some x → row[k]? = some v → Inv k W → (∀ W', Inv (k + 1) W' → R true W') → (∀ W', Stop W' → R false W') → Yield Tryd.prog l0 #[x.agg, v.agg] W R) :
    Calls Tryd.prog 83 #[.func (.yield l0) #[] #[], .pointer (some ⟨fv0, 0, none⟩), .pointer (some ⟨fv1, 0, none⟩)] w fun e W' => e = .returned (.tuple #[]) ∧ (Inv n W' ∨ Stop W') := by
  apply spairs1_vc
  unfold spairs1_T
  subst hlen
  have hl := h.len
  have hrl := hr.len
  have hm : rn ≤ 9223372036854775807 := h.le
  refine ⟨_, _, _, hc0 _ _ h0, fun i W => ∃ k : Nat, i = (k : Int) ∧ k ≤ rn ∧ Inv k W, fun i _ => rn - i.toNat, ⟨0, rfl, Nat.zero_le _, h0⟩, ?_⟩
  rintro i w7 ⟨k, rfl, hk, hI⟩
  refine ⟨fun hlt => ?_, fun hge => ?_⟩
  · have g : cols[k]? = some (cols[k]'(by omega)) := List.getElem?_eq_getElem _
    generalize cols[k]'(by omega) = x at g
    have gv : row[k]? = some (row[k]'(by omega)) := List.getElem?_eq_getElem _
    generalize row[k]'(by omega) = v at gv
    obtain ⟨b, o, hp, c0, c1, c2⟩ := (h.ext (hex _ _ hI)).col g
    simp only [Int.toNat_natCast]
    refine ⟨b, o, hp, by omega, by omega, _, c0, _, c1, _, c2, fun b15 w16 h16 => ?_⟩
    have H16 := (Hold.start (Ext.rfl (w := w7))).new h16
    obtain ⟨q0, q1, q2⟩ := (H16.blk 0 rfl).c3
    refine ⟨⟨_, q0⟩, (H16.blk 0 rfl).frozen _, ⟨_, q1⟩, (H16.blk 0 rfl).frozen _, ⟨_, q2⟩, (H16.blk 0 rfl).frozen _, fun w21 h21 w23 h23 => ?_⟩
    have H21 := (H16.put 0 rfl h21).step h23.ext
    have B : Blk w23 b15 53 #[.string x.name, .int .i64 x.kind, .bool x.null] := H21.blk 0 rfl
    obtain ⟨q0, q1, q2⟩ := B.c3
    have hI23 := hstep _ _ _ hI H21.ext
    obtain ⟨b2, o2, hp2, d0, d1, d2⟩ := (hr.ext (hex _ _ hI23)).val gv
    refine ⟨_, q0, _, q1, _, q2, _, _, _, hc1 _ _ hI23, b2, o2, hp2, by omega, by omega, _, d0, _, d1, _, d2, ?_⟩
    refine hy k x v w23 _ (by omega) g gv hI23 (fun W' hI' => ⟨fun h => (by cases h), fun _ => ?_⟩) fun W' hS => ⟨fun _ => ⟨by trivial, .inr hS⟩, fun h => (by cases h)⟩
    rw [i64_next (by omega)]
    exact ⟨⟨k + 1, rfl, by omega, hI'⟩, by simp only [Int.toNat_natCast]; omega⟩
  · have : k = rn := by omega
    subst this
    exact ⟨rfl, .inl hI⟩

theorem sfits0_ok (h : Cols w p n c cols) (hr : Vs w rp rn rc row) : Calls Tryd.prog 33 #[.slice p n c, .slice rp rn rc] w fun e w' => e = .returned (.bool (fitsL cols row)) ∧ Ext w w' := by
  apply sfits0_vc
  unfold sfits0_T
  intro b1 w2 h1
  have hl := h.len
  have hrl := hr.len
  have hm : n ≤ 9223372036854775807 := h.le
  have H1 := (Hold.start (Ext.rfl (w := w))).new h1
  refine ⟨fun hne => ?_, fun heq => (spairs_ok w2).mono ?_⟩
  · have B1 := H1.blk 0 rfl
    refine ⟨⟨_, B1.one⟩, B1.frozen 0, fun w6 h6 => ?_⟩
    have H6 := H1.box 0 rfl h6
    refine ⟨_, (H6.blk 0 rfl).one, ?_, H6.ext⟩
    have : fitsL cols row = false := by
      rw [← Bool.not_eq_true]
      intro hf
      have := fitsL_length hf
      omega
    rw [this]
  · rintro e w11 ⟨bc, br, rfl, hH⟩
    have H11 := hH _ _ _ H1
    refine ⟨_, rfl, _, _, rfl, by kernel_rfl, fun r d l w18 hB hY => ?_⟩
    have HB := H11.began hB
    let fs : Nat → Bool → List (Nat × Obj) := fun q v => [(l, .loop (r q)), (d, .deferred (some [])), (br, .cells #[.slice rp rn rc] 24), (bc, .cells #[.slice p n c] 22), (b1, .cells #[.bool v] 4)]
    refine (spairs1_ok (cols := cols) (row := row) w h hr (by omega) (fun k W => (fitsL (cols.drop k) (row.drop k) = fitsL cols row) ∧ Hold w W (fs 0 false) []) (fun W => fitsL cols row = false ∧ Hold w W (fs 3 false) []) ⟨rfl, HB⟩ (fun k W hI => hI.2.ext) (fun k W hI => (hI.2.blk 3 rfl).one) (fun k W hI => (hI.2.blk 2 rfl).one) (fun k W W' hI e => ⟨hI.1, hI.2.step e⟩) ?_).mono ?_
    · rintro k x v W R hk g gv ⟨hf, H⟩ yes no
      have hfd := fitsL_drop g gv
      refine hY _ _ _ _ _ _ W R (H.loop 0 rfl) fun b29 w30 h30 => ?_
      have H30 := H.new h30
      obtain ⟨q0, q1, q2⟩ := (H30.blk 0 rfl).c3
      refine ⟨⟨_, q0⟩, (H30.blk 0 rfl).frozen _, ⟨_, q1⟩, (H30.blk 0 rfl).frozen _, ⟨_, q2⟩, (H30.blk 0 rfl).frozen _, fun w35 h35 b37 w38 h38 => ?_⟩
      have H38 := (H30.put 0 rfl h35).new h38
      obtain ⟨q0, q1, q2⟩ := (H38.blk 0 rfl).c3
      refine ⟨⟨_, q0⟩, (H38.blk 0 rfl).frozen _, ⟨_, q1⟩, (H38.blk 0 rfl).frozen _, ⟨_, q2⟩, (H38.blk 0 rfl).frozen _, fun w43 h43 => ?_⟩
      have H43 := H38.put 0 rfl h43
      refine ⟨H43.loop 2 rfl, ?_⟩
      rintro Wb rfl
      have H45 := H43.turn 2 1 rfl
      have Bv : Blk (turn r l 1 w43) b37 65 #[.int .i64 v.k, .int .i64 v.n, .string v.s] := H45.blk 0 rfl
      obtain ⟨v0, v1, v2⟩ := Bv.c3
      refine ⟨_, v0, _, v1, _, v2, (vright_ok v _).mono ?_⟩
      rintro e w51 ⟨rfl, e51⟩
      have H51 := H45.step e51
      have Bv : Blk w51 b37 65 #[.int .i64 v.k, .int .i64 v.n, .string v.s] := H51.blk 0 rfl
      have Bc : Blk w51 b29 53 #[.string x.name, .int .i64 x.kind, .bool x.null] := H51.blk 1 rfl
      obtain ⟨v0, v1, v2⟩ := Bv.c3
      obtain ⟨c0, c1, c2⟩ := Bc.c3
      have B1 : Blk w51 b1 4 #[.bool false] := H51.blk 6 rfl
      -- a value that does not fit
      have stop : valFits x v = false → (∃ u, w51.cell? ⟨b1, 0, none⟩ = some u) ∧ w51.frozen? ⟨b1, 0, none⟩ = false ∧ ∀ w55 : World, Put w51 b1 0 [.bool false] w55 → Rec r l 1 w55 ∧ R false (turn r l 3 w55) := by
        intro hb
        refine ⟨⟨_, B1.one⟩, B1.frozen 0, fun w55 h55 => ?_⟩
        have H55 := H51.box 6 rfl h55
        refine ⟨H55.loop 2 rfl, no _ ⟨?_, (H55.turn 2 3 rfl).tail.tail⟩⟩
        rw [← hf, hfd, hb]; rfl
      have go : valFits x v = true → Rec r l 1 w51 ∧ R true (turn r l 0 w51) := by
        intro hb
        refine ⟨H51.loop 2 rfl, yes _ ⟨?_, (H51.turn 2 0 rfl).tail.tail⟩⟩
        rw [← hf, hfd, hb]; rfl
      refine ⟨_, rfl, fun hb => stop (by unfold valFits; rw [hb]; rfl), fun hb => ⟨_, v0, _, c1, fun hne => ⟨_, c2, fun hnull => ⟨_, v0, fun h0 => stop ?_, fun h0 => go ?_⟩, fun hnull => stop ?_⟩, fun he => go ?_⟩⟩
      · unfold valFits; rw [hb, decide_eq_false hne, hnull, decide_eq_false h0]; rfl
      · unfold valFits; rw [hb, decide_eq_false hne, hnull, decide_eq_true h0]; rfl
      · unfold valFits; rw [hb, decide_eq_false hne, hnull]; rfl
      · unfold valFits; rw [hb, decide_eq_true he]; rfl
    · rintro e W ⟨rfl, hI | hS⟩
      · obtain ⟨hf, H⟩ := hI
        refine ⟨⟨_, rfl⟩, .inl ⟨H.loop 0 rfl, ?_⟩⟩
        have H2 := H.turn 0 2 rfl
        have B1 : Blk (turn r l 2 W) b1 4 #[.bool false] := H2.blk 4 rfl
        refine ⟨⟨_, B1.one⟩, B1.frozen 0, fun w82 h82 => ?_⟩
        have H82 := H2.box 4 rfl h82
        have H83 := H82.shut 1 rfl
        refine ⟨H82.dfr 1 rfl, _, (H83.blk 4 rfl).one, ?_, H83.ext⟩
        rw [← hf, List.drop_eq_nil_of_le (by omega), List.drop_eq_nil_of_le (by omega)]; rfl
      · obtain ⟨hf, H⟩ := hS
        refine ⟨⟨_, rfl⟩, .inr (.inl ⟨H.loop 0 rfl, ?_⟩)⟩
        have H2 := H.turn 0 4 rfl
        have H83 := H2.shut 1 rfl
        refine ⟨H2.dfr 1 rfl, _, (H83.blk 4 rfl).one, ?_, H83.ext⟩
        rw [hf]
end
end Go.Proofs.YtiojkfckaalooaaDoor

/- The contracts of schemas' bytes: laying, by the program and by the document. -/
namespace Go.Vc
open Go Go.RowKit
theorem colsOk_all : ∀ {met : List ByteArray} {cols : List Col}, colsOk met cols = true → ∀ c ∈ cols, isName c.name = true ∧ 1 ≤ c.kind ∧ c.kind ≤ 3
  | _, [], _, c, hc => by cases hc
  | met, x :: r, h, c, hc => by
    unfold colsOk at h
    rw [Bool.and_eq_true] at h
    rcases List.mem_cons.1 hc with rfl | hc
    · have := h.1
      unfold colOk at this
      simp only [Bool.and_eq_true, decide_eq_true_eq] at this
      exact ⟨this.1.1, this.2⟩
    · exact colsOk_all h.2 c hc
theorem name_size {s : ByteArray} (h : isName s = true) : s.size ≤ 24 := by
  unfold isName at h
  rw [← tB_length]
  cases ht : tB s with
  | nil => simp
  | cons x r =>
    rw [ht] at h
    unfold isNameL at h
    simp only [Bool.and_eq_true, decide_eq_true_eq] at h
    exact h.2
theorem right_all {cols : List Col} (h : rightC cols = true) : 1 ≤ cols.length ∧ cols.length ≤ 16 ∧ ∀ c ∈ cols, c.name.size ≤ 24 ∧ 1 ≤ c.kind ∧ c.kind ≤ 3 := by
  unfold rightC at h
  rw [Bool.and_eq_true, decide_eq_true_eq] at h
  refine ⟨h.1.1, h.1.2, fun c hc => ?_⟩
  obtain ⟨h1, h2, h3⟩ := colsOk_all h.2 c hc
  exact ⟨name_size h1, h2, h3⟩
theorem colB_len {c : Col} (h : c.name.size ≤ 24) : (colB c).length ≤ 36 := by
  have := uvar_len10 (n := c.name.size) (by omega)
  unfold colB
  simp [tB_length]; omega
theorem cols_len {cols : List Col} (h : ∀ c ∈ cols, c.name.size ≤ 24) : (cols.flatMap colB).length ≤ 36 * cols.length := by
  induction cols with
  | nil => simp
  | cons c r ih =>
    have h1 := colB_len (h c (by simp))
    have h2 := ih fun x hx => h x (by simp [hx])
    rw [List.flatMap_cons, List.length_append, List.length_cons]; omega
def layS (l : List UInt8) (cols : List Col) : List UInt8 × Int := if rightC cols then (l ++ schB cols, 0) else ([], 50)
/-- What is laid once j columns were. -/
def partS (l : List UInt8) (cols : List Col) (j : Nat) : List UInt8 := (l ++ uvar cols.length) ++ (cols.take j).flatMap colB
theorem partS_all (l : List UInt8) (cols : List Col) : partS l cols cols.length = l ++ schB cols := by
  unfold partS schB; rw [List.take_of_length_le (Nat.le_refl _), List.append_assoc]
theorem partS_step {l : List UInt8} {cols : List Col} {j : Nat} {c : Col} (h : cols[j]? = some c) : partS l cols (j + 1) = partS l cols j ++ (uvar c.name.size ++ tB c.name) ++ [UInt8.ofNat c.kind.toNat, if c.null then 1 else 0] := by
  unfold partS
  rw [take_snoc h, List.flatMap_append]
  simp [colB]
theorem partS_len {l : List UInt8} {cols : List Col} (h : rightC cols = true) (j : Nat) : (partS l cols j).length ≤ l.length + 600 := by
  obtain ⟨h1, h2, h3⟩ := right_all h
  have a1 := uvar_len10 (n := cols.length) (by omega)
  have a2 := cols_len (cols := cols.take j) fun c hc => (h3 c (List.mem_of_mem_take hc)).1
  have a3 : (cols.take j).length ≤ 16 := by rw [List.length_take]; omega
  unfold partS
  simp only [List.length_append]; omega
end Go.Vc
namespace Go.Proofs.YtiojkfckaalooaaDoor
open Go Go.Vc Go.RowKit
set_option maxRecDepth 20000
attribute [local irreducible] Calls Put Drew New

theorem kindB {k : Int} (h : 1 ≤ k ∧ k ≤ 3) : IntKind.u8.wrap k = (((UInt8.ofNat k.toNat).toNat : Nat) : Int) := by
  rcases (by omega : k = 1 ∨ k = 2 ∨ k = 3) with e | e | e <;> rw [e] <;> rfl
theorem sflag_ok (b : Bool) (w : World) : Calls Tryd.prog 36 #[.bool b] w fun e w' => e = .returned (.int .u8 (((if b then (1 : UInt8) else 0).toNat : Nat) : Int)) ∧ Ext w w' := by
  apply sflag_vc
  unfold sflag_T
  cases b with
  | true => exact ⟨fun _ => ⟨rfl, Ext.rfl⟩, fun h => by cases h⟩
  | false => exact ⟨fun h => (by cases h), fun _ => ⟨rfl, Ext.rfl⟩⟩
set_option maxHeartbeats 4000000 in
theorem slay_ok (w : World) {p cp : Option Addr} {n c cn cc : Nat} {l : List UInt8} {cols : List Col} (h : In w p n c l) (hc : Cols w cp cn cc cols) (hroom : n + 2002000 ≤ 211106232532992) :
    Calls Tryd.prog 13 #[.slice p n c, .slice cp cn cc] w fun e w' => ∃ p' n' c', e = .returned (.tuple #[.slice p' n' c', .int .i64 (layS l cols).2]) ∧ Out w.heap.size w' p' n' c' (layS l cols).1 ∧ Ext w w' := by
  have hl := h.len
  have hcl := hc.len
  apply slay_vc
  unfold slay_T
  refine (sright_ok hc).mono ?_
  rintro e w2 ⟨rfl, e1⟩
  refine ⟨_, rfl, fun hf => ?_, fun ht => ?_⟩
  · have hL : layS l cols = ([], 50) := by unfold layS; rw [hf]; rfl
    refine ⟨none, 0, 0, by rw [hL], ?_, e1⟩
    rw [hL]
    exact ⟨rfl, Mine.nil _ _ _ _⟩
  obtain ⟨r1, r2, r3⟩ := right_all ht
  have hL : layS l cols = (l ++ schB cols, 0) := by unfold layS; rw [if_pos ht]
  rw [u64_nat (by omega)]
  refine (number_out w2 (h.ext e1) (by omega) (by omega)).mono ?_
  rintro e w7 ⟨p2, n2, c2, rfl, ho, e2⟩
  have H0 := (Hold.start e1).addRow e2 ho.2
  refine ⟨_, _, _, rfl, ?_⟩
  refine ⟨fun q k d i W => ∃ j : Nat, i = (j : Int) ∧ j ≤ cn ∧ k = (partS l cols j).length ∧ Hold w W [] [⟨5, 1, q, k, d, vB (partS l cols j)⟩], fun _ _ _ i _ => cn - i.toNat, ⟨0, rfl, Nat.zero_le _, ?_, ?_⟩, ?_⟩
  · rw [← ho.1]; unfold partS; rw [hcl]; simp
  · have : partS l cols 0 = l ++ uvar cn := by unfold partS; rw [hcl]; simp
    rw [this]; exact H0
  clear H0 ho
  rintro q k d i W ⟨j, rfl, hj, rfl, H⟩
  have hlen := partS_len (l := l) ht j
  refine ⟨fun hlt => ?_, fun hge => ?_⟩
  · have gx : cols[j]? = some (cols[j]'(by omega)) := List.getElem?_eq_getElem _
    generalize cols[j]'(by omega) = x at gx
    obtain ⟨x1, x2⟩ := r3 x (List.mem_of_getElem? gx)
    obtain ⟨b, o, hp, c0, c1, c3⟩ := (hc.ext H.ext).col gx
    simp only [Int.toNat_natCast]
    refine ⟨b, o, hp, by omega, hlt, _, c0, _, c1, _, c3, ?_⟩
    repeat (first
      | (intro _ _ hS; replace H := H.new hS; clear hS)
      | (intro _ hS; (first | replace H := H.put 0 rfl hS | replace H := H.put 1 rfl hS | replace H := H.put 2 rfl hS | replace H := H.put 3 rfl hS | replace H := H.put 4 rfl hS | replace H := H.put 5 rfl hS | replace H := H.put 6 rfl hS | replace H := H.put 7 rfl hS); clear hS; try simp only [setA, List.setIfInBounds_toArray, List.set_cons_zero, List.set_cons_succ, Nat.zero_add, Nat.reduceAdd] at H)
      | (intro _ hS; replace H := H.step (Drew.ext hS); clear hS)
      | (first | refine ⟨⟨_, H.get 0 rfl rfl⟩, ?_⟩ | refine ⟨⟨_, H.get 1 rfl rfl⟩, ?_⟩ | refine ⟨⟨_, H.get 2 rfl rfl⟩, ?_⟩ | refine ⟨⟨_, H.get 3 rfl rfl⟩, ?_⟩ | refine ⟨⟨_, H.get 4 rfl rfl⟩, ?_⟩ | refine ⟨⟨_, H.get 5 rfl rfl⟩, ?_⟩ | refine ⟨⟨_, H.get 6 rfl rfl⟩, ?_⟩ | refine ⟨⟨_, H.get 7 rfl rfl⟩, ?_⟩)
      | (first | refine ⟨H.frz 0 rfl, ?_⟩ | refine ⟨H.frz 1 rfl, ?_⟩ | refine ⟨H.frz 2 rfl, ?_⟩ | refine ⟨H.frz 3 rfl, ?_⟩ | refine ⟨H.frz 4 rfl, ?_⟩ | refine ⟨H.frz 5 rfl, ?_⟩ | refine ⟨H.frz 6 rfl, ?_⟩ | refine ⟨H.frz 7 rfl, ?_⟩)
      | (first | refine ⟨_, H.get 0 rfl rfl, ?_⟩ | refine ⟨_, H.get 1 rfl rfl, ?_⟩ | refine ⟨_, H.get 2 rfl rfl, ?_⟩ | refine ⟨_, H.get 3 rfl rfl, ?_⟩ | refine ⟨_, H.get 4 rfl rfl, ?_⟩ | refine ⟨_, H.get 5 rfl rfl, ?_⟩ | refine ⟨_, H.get 6 rfl rfl, ?_⟩ | refine ⟨_, H.get 7 rfl rfl, ?_⟩)
      | (first | refine ⟨_, _, _, H.get 0 rfl rfl, ?_⟩ | refine ⟨_, _, _, H.get 1 rfl rfl, ?_⟩ | refine ⟨_, _, _, H.get 2 rfl rfl, ?_⟩ | refine ⟨_, _, _, H.get 3 rfl rfl, ?_⟩ | refine ⟨_, _, _, H.get 4 rfl rfl, ?_⟩ | refine ⟨_, _, _, H.get 5 rfl rfl, ?_⟩ | refine ⟨_, _, _, H.get 6 rfl rfl, ?_⟩ | refine ⟨_, _, _, H.get 7 rfl rfl, ?_⟩))
    refine (text_out _ (hold_in H 0 rfl rfl) (by omega)).mono ?_
    rintro e W2 ⟨p3, n3, c3', rfl, ho, eS⟩
    have et : textL (partS l cols j) (tB x.name) = (partS l cols j ++ (uvar x.name.size ++ tB x.name), 0) := by
      unfold textL
      rw [tB_length, if_pos (by omega)]
    rw [et] at ho ⊢
    have hn3 := ho.1
    have hlen2 := partS_len (l := l) ht (j + 1)
    have hst := partS_step (l := l) gx
    have hn3b : n3 + 2 = (partS l cols (j + 1)).length := by rw [hst, List.length_append, hn3]; rfl
    replace H := H.noRow.addRow eS ho.2
    refine ⟨_, _, _, _, rfl, ?_⟩
    repeat (first
      | (intro _ _ hS; replace H := H.new hS; clear hS)
      | (intro _ hS; (first | replace H := H.put 0 rfl hS | replace H := H.put 1 rfl hS | replace H := H.put 2 rfl hS | replace H := H.put 3 rfl hS | replace H := H.put 4 rfl hS | replace H := H.put 5 rfl hS | replace H := H.put 6 rfl hS | replace H := H.put 7 rfl hS); clear hS; try simp only [setA, List.setIfInBounds_toArray, List.set_cons_zero, List.set_cons_succ, Nat.zero_add, Nat.reduceAdd] at H)
      | (intro _ hS; replace H := H.step (Drew.ext hS); clear hS)
      | (first | refine ⟨⟨_, H.get 0 rfl rfl⟩, ?_⟩ | refine ⟨⟨_, H.get 1 rfl rfl⟩, ?_⟩ | refine ⟨⟨_, H.get 2 rfl rfl⟩, ?_⟩ | refine ⟨⟨_, H.get 3 rfl rfl⟩, ?_⟩ | refine ⟨⟨_, H.get 4 rfl rfl⟩, ?_⟩ | refine ⟨⟨_, H.get 5 rfl rfl⟩, ?_⟩ | refine ⟨⟨_, H.get 6 rfl rfl⟩, ?_⟩ | refine ⟨⟨_, H.get 7 rfl rfl⟩, ?_⟩)
      | (first | refine ⟨H.frz 0 rfl, ?_⟩ | refine ⟨H.frz 1 rfl, ?_⟩ | refine ⟨H.frz 2 rfl, ?_⟩ | refine ⟨H.frz 3 rfl, ?_⟩ | refine ⟨H.frz 4 rfl, ?_⟩ | refine ⟨H.frz 5 rfl, ?_⟩ | refine ⟨H.frz 6 rfl, ?_⟩ | refine ⟨H.frz 7 rfl, ?_⟩)
      | (first | refine ⟨_, H.get 0 rfl rfl, ?_⟩ | refine ⟨_, H.get 1 rfl rfl, ?_⟩ | refine ⟨_, H.get 2 rfl rfl, ?_⟩ | refine ⟨_, H.get 3 rfl rfl, ?_⟩ | refine ⟨_, H.get 4 rfl rfl, ?_⟩ | refine ⟨_, H.get 5 rfl rfl, ?_⟩ | refine ⟨_, H.get 6 rfl rfl, ?_⟩ | refine ⟨_, H.get 7 rfl rfl, ?_⟩)
      | (first | refine ⟨_, _, _, H.get 0 rfl rfl, ?_⟩ | refine ⟨_, _, _, H.get 1 rfl rfl, ?_⟩ | refine ⟨_, _, _, H.get 2 rfl rfl, ?_⟩ | refine ⟨_, _, _, H.get 3 rfl rfl, ?_⟩ | refine ⟨_, _, _, H.get 4 rfl rfl, ?_⟩ | refine ⟨_, _, _, H.get 5 rfl rfl, ?_⟩ | refine ⟨_, _, _, H.get 6 rfl rfl, ?_⟩ | refine ⟨_, _, _, H.get 7 rfl rfl, ?_⟩))
    refine (sflag_ok _ _).mono ?_
    rintro e W3 ⟨rfl, eT⟩
    refine ⟨_, rfl, eT.same, ?_⟩
    replace H := H.step eT
    rw [kindB x2]
    repeat (first
      | (intro _ _ hS; replace H := H.new hS; clear hS)
      | (intro _ hS; (first | replace H := H.put 0 rfl hS | replace H := H.put 1 rfl hS | replace H := H.put 2 rfl hS | replace H := H.put 3 rfl hS | replace H := H.put 4 rfl hS | replace H := H.put 5 rfl hS | replace H := H.put 6 rfl hS | replace H := H.put 7 rfl hS); clear hS; try simp only [setA, List.setIfInBounds_toArray, List.set_cons_zero, List.set_cons_succ, Nat.zero_add, Nat.reduceAdd] at H)
      | (intro _ hS; replace H := H.step (Drew.ext hS); clear hS)
      | (first | refine ⟨⟨_, H.get 0 rfl rfl⟩, ?_⟩ | refine ⟨⟨_, H.get 1 rfl rfl⟩, ?_⟩ | refine ⟨⟨_, H.get 2 rfl rfl⟩, ?_⟩ | refine ⟨⟨_, H.get 3 rfl rfl⟩, ?_⟩ | refine ⟨⟨_, H.get 4 rfl rfl⟩, ?_⟩ | refine ⟨⟨_, H.get 5 rfl rfl⟩, ?_⟩ | refine ⟨⟨_, H.get 6 rfl rfl⟩, ?_⟩ | refine ⟨⟨_, H.get 7 rfl rfl⟩, ?_⟩)
      | (first | refine ⟨H.frz 0 rfl, ?_⟩ | refine ⟨H.frz 1 rfl, ?_⟩ | refine ⟨H.frz 2 rfl, ?_⟩ | refine ⟨H.frz 3 rfl, ?_⟩ | refine ⟨H.frz 4 rfl, ?_⟩ | refine ⟨H.frz 5 rfl, ?_⟩ | refine ⟨H.frz 6 rfl, ?_⟩ | refine ⟨H.frz 7 rfl, ?_⟩)
      | (first | refine ⟨_, H.get 0 rfl rfl, ?_⟩ | refine ⟨_, H.get 1 rfl rfl, ?_⟩ | refine ⟨_, H.get 2 rfl rfl, ?_⟩ | refine ⟨_, H.get 3 rfl rfl, ?_⟩ | refine ⟨_, H.get 4 rfl rfl, ?_⟩ | refine ⟨_, H.get 5 rfl rfl, ?_⟩ | refine ⟨_, H.get 6 rfl rfl, ?_⟩ | refine ⟨_, H.get 7 rfl rfl, ?_⟩)
      | (first | refine ⟨_, _, _, H.get 0 rfl rfl, ?_⟩ | refine ⟨_, _, _, H.get 1 rfl rfl, ?_⟩ | refine ⟨_, _, _, H.get 2 rfl rfl, ?_⟩ | refine ⟨_, _, _, H.get 3 rfl rfl, ?_⟩ | refine ⟨_, _, _, H.get 4 rfl rfl, ?_⟩ | refine ⟨_, _, _, H.get 5 rfl rfl, ?_⟩ | refine ⟨_, _, _, H.get 6 rfl rfl, ?_⟩ | refine ⟨_, _, _, H.get 7 rfl rfl, ?_⟩))
    obtain ⟨p4, c4, w53, hrun, H1⟩ := H.append (ty := 28) (P := Tryd.prog) (q := some ⟨_, 0, none⟩) (m := 2) (d' := 2) (news := vB [UInt8.ofNat x.kind.toNat, if x.null then 1 else 0]) 0 rfl undB tyB rfl (by decide) (H.blk 0 rfl).at rfl (fun e => by cases e) vB_one (by dsimp only; omega) (by unfold maxLen; omega)
    refine ⟨_, _, _, _, hrun, ?_⟩
    rw [i64_next (by omega)]
    refine ⟨⟨j + 1, rfl, by omega, ?_, ?_⟩, by simp only [Int.toNat_natCast]; omega⟩
    · rw [hst, List.length_append, hn3]; rfl
    · rw [hst, vB_append]
      exact H1.tail.tail
  · have : j = cols.length := by omega
    subst this
    rw [partS_all] at H ⊢
    refine ⟨_, _, _, by rw [hL], ?_, H.ext⟩
    rw [hL]
    exact hold_out H 0 rfl rfl
end Go.Proofs.YtiojkfckaalooaaDoor

/- The contracts of schemas' bytes: taking, by the program and by the document. Printed by mksl2.py. -/
namespace Go.Vc
open Go Go.RowKit
def takeSV (l : List UInt8) (pos : Int) : List Col × Int × Int :=
  match takeSch l pos with
  | some (cs, k) => (cs, (k : Int), 0)
  | none => ([], 0, 52)
theorem takeT_tx {l : List UInt8} {pos : Int} {m : Nat} (hm : m ≤ 1048576) : takeT l pos (m : Int) = (match takeTx l pos m with
    | some (s, k) => .tuple #[.string s, .int .i64 (k : Int), .int .i64 0]
    | none => .tuple #[.string ⟨#[]⟩, .int .i64 0, .int .i64 20]) := by
  unfold takeT takeTx
  cases takeN l pos with
  | none => rfl
  | some r =>
    obtain ⟨v, k⟩ := r
    simp only [Option.bind_some]
    by_cases h : v ≤ m ∧ v ≤ l.length - k
    · rw [if_pos h, if_pos ⟨by omega, by omega, h.2⟩]; rfl
    · rw [if_neg h, if_neg (by omega)]
end Go.Vc
namespace Go.Proofs.YtiojkfckaalooaaDoor
open Go Go.Vc Go.RowKit
set_option maxRecDepth 20000
attribute [local irreducible] Calls Put Drew New

theorem undCols : Tryd.prog.underlying 22 = some (.slice 53) := by kernel_rfl
theorem tyCol : tyOf Tryd.prog 53 = some { agg := true, ls := [.str, .int .i64, .bool], zero := .agg #[.string ⟨#[]⟩, .int .i64 0, .bool false], bytes := 32, big := false, n := 3 } := by kernel_rfl
/-- Columns of our own, as they come in. -/
theorem hold_cols {w0 W : World} {fs : List (Nat × Obj)} {ms : List Row} (H : Hold w0 W fs ms) (i : Nat) {p : Option Addr} {n c : Nat} {cs : List Col} (hi : ms[i]? = some ⟨53, 3, p, n, c, cs.flatMap Col.cs⟩) (hl : cs.length = n) : Cols W p n c cs :=
  ⟨hl, (H.row i hi).cap, (H.row i hi).at, (H.row i hi).isNil⟩

set_option maxHeartbeats 4000000 in
theorem stake_ok (w : World) {p : Option Addr} {n c : Nat} {l : List UInt8} (h : In w p n c l) {pos : Int} (hpos : pos ≤ 9223372036854775807) :
    Calls Tryd.prog 15 #[.slice p n c, .int .i64 pos] w fun e w' => ∃ p' n' c', e = .returned (.tuple #[.slice p' n' c', .int .i64 (takeSV l pos).2.1, .int .i64 (takeSV l pos).2.2]) ∧ Cols w' p' n' c' (takeSV l pos).1 ∧ Ext w w' := by
  have hl := h.len
  have hn : n ≤ 9223372036854775807 := h.le
  have hcap := h.cap.1
  have bad : ∀ {W : World}, Ext w W → takeSch l pos = none → ∃ p' n' c', Ending.returned (Value.tuple #[.slice none 0 0, .int .i64 0, .int .i64 52]) = .returned (.tuple #[.slice p' n' c', .int .i64 (takeSV l pos).2.1, .int .i64 (takeSV l pos).2.2]) ∧ Cols W p' n' c' (takeSV l pos).1 ∧ Ext w W := by
    intro W hx hn
    have e : takeSV l pos = ([], 0, 52) := by unfold takeSV; rw [hn]
    rw [e]
    exact ⟨none, 0, 0, rfl, Ls.nothing _ _, hx⟩
  apply stake_vc
  unfold stake_T
  refine (takeNumber_ok w p n c l pos h.len h.cap.1 h.le h.lies).mono ?_
  rintro e w2 ⟨rfl, e1⟩
  unfold takeV
  cases hN : takeN l pos with
  | none => exact ⟨0, 0, 20, rfl, fun _ => bad e1 (by unfold takeSch; rw [hN]; rfl), fun hx => absurd hx.1 (by decide)⟩
  | some r =>
    obtain ⟨N, k⟩ := r
    obtain ⟨_, hN64, _, hkl, _⟩ := takeN_spec hN
    have hS : takeSch l pos = if N ≤ 16 then (takeCols l N k).bind fun q => if rightC q.1 then some q else none else none := by unfold takeSch; rw [hN]; rfl
    refine ⟨_, _, _, rfl, fun hx => bad e1 (by rw [hS, if_neg (by omega)]), fun hx => ?_⟩
    have hN16 : N ≤ 16 := by omega
    rw [if_pos hN16] at hS
    refine ⟨fun q m d pos i W => ∃ (j z : Nat) (done : List Col), i = (j : Int) ∧ pos = (z : Int) ∧ j ≤ N ∧ m = done.length ∧ takeCols l j k = some (done, z) ∧ Hold w W [] [⟨53, 3, q, m, d, done.flatMap Col.cs⟩], fun _ _ _ _ i _ => N - i.toNat, ⟨0, k, [], rfl, rfl, Nat.zero_le _, rfl, rfl, (Hold.start e1).nilRow _ _⟩, ?_⟩
    rintro q m d pos' i W ⟨j, z, done, rfl, rfl, hj, rfl, hdone, H⟩
    obtain ⟨d1, d2, d3, d4, d5⟩ := takeCols_spec hdone hkl
    refine ⟨fun hlt => ?_, fun hge => ?_⟩
    · have hsnoc := takeCols_snoc (l := l) (n := j) (p := k)
      rw [hdone] at hsnoc
      simp only [Option.bind_some] at hsnoc
      have hno : takeCol l z = none → takeSch l pos = none := by
        intro hc
        rw [hS, takeCols_fail (n := j + 1) (by rw [hsnoc, hc]; rfl) (by omega)]; rfl
      refine (takeText_ok _ (h.ext H.ext) (pos := (z : Int)) (most := 24) (by decide)).mono ?_
      rintro e W2 ⟨rfl, eS⟩
      replace H := H.step eS
      rw [show (24 : Int) = ((24 : Nat) : Int) from rfl, takeT_tx (by decide)]
      cases hx : takeTx l (z : Int) 24 with
      | none => exact ⟨⟨#[]⟩, 0, 20, rfl, fun _ => bad H.ext (hno (by unfold takeCol; rw [hx]; rfl)), fun hx => absurd hx.1 (by decide)⟩
      | some r =>
        obtain ⟨s, y⟩ := r
        obtain ⟨_, hs24, _, hyl, _⟩ := takeTx_spec hx
        have hcol : takeCol l z = if 2 ≤ l.length - y ∧ by_ l (y + 1) ≤ 1 then some (⟨s, (by_ l y : Int), decide (by_ l (y + 1) = 1)⟩, y + 2) else none := by unfold takeCol; rw [hx]; rfl
        have ew : IntKind.i64.wrap ((n : Int) - (y : Int)) = ((n - y : Nat) : Int) := by rw [i64_fit (by omega) (by omega)]; omega
        refine ⟨_, _, _, rfl, fun hx => bad H.ext (hno (by rw [ew] at hx; rw [hcol, if_neg (by omega)])), fun hx => ?_⟩
        rw [ew] at hx
        have hy2 : y + 2 ≤ n := by omega
        have e1' : IntKind.i64.wrap ((y : Int) + 1) = ((y + 1 : Nat) : Int) := i64_fit (by omega) (by omega)
        have e2' : IntKind.i64.wrap ((y : Int) + 2) = ((y + 2 : Nat) : Int) := i64_fit (by omega) (by omega)
        rw [e1', e2']
        simp only [Int.toNat_natCast]
        obtain ⟨b, o, hb, hc1⟩ := h.byte (i := y + 1) (by omega)
        obtain ⟨b', o', hb', hc0⟩ := h.byte (i := y) (by omega)
        have t1 := by_lt l (y + 1)
        have t0 := by_lt l y
        refine ⟨b, o, hb, by omega, by omega, _, cell_ext hc1 H.ext, fun hx => bad H.ext (hno (by rw [hcol, if_neg (by omega)])), fun hx => ?_⟩
        intro w30 hD
        replace H := H.step (Drew.ext hD)
        refine ⟨b', o', hb', by omega, by omega, _, cell_ext hc0 H.ext, b, o, hb, by omega, by omega, _, cell_ext hc1 H.ext, ?_⟩
        have e8 : IntKind.i64.wrap ((by_ l y : Nat) : Int) = ((by_ l y : Nat) : Int) := i64_fit (by omega) (by omega)
        have e9 : decide (((by_ l (y + 1) : Nat) : Int) = Int.ofNat 1) = decide (by_ l (y + 1) = 1) := decide_eq_decide.2 ⟨fun h => by have h : ((by_ l (y + 1) : Nat) : Int) = 1 := h; omega, fun h => by rw [h]; rfl⟩
        rw [e8, e9]
        intro b38 w39 h38
        replace H := H.new h38
        rw [if_pos (by omega)] at hcol
        rw [hcol] at hsnoc
        simp only [Option.map_some] at hsnoc
        obtain ⟨p', c', w44, hrun, H1⟩ := H.append (ty := 22) (P := Tryd.prog) (q := some ⟨b38, 0, none⟩) (m := 1) (d' := 1) (news := Col.cs ⟨s, ((by_ l y : Nat) : Int), decide (by_ l (y + 1) = 1)⟩) 0 rfl undCols tyCol rfl (by decide) (H.blk 0 rfl).at rfl (fun e => by cases e) (Col.cs_one _) (by show ((done.length + 1) + (done.length + 1) / 4 + 192) * 32 ≤ 281474976710656; omega) (by unfold maxLen; omega)
        refine ⟨_, _, _, _, hrun, ?_⟩
        have ei : IntKind.u64.wrap ((j : Int) + 1) = ((j + 1 : Nat) : Int) := by rw [show (j : Int) + 1 = ((j + 1 : Nat) : Int) by omega, u64_nat (by omega)]
        rw [ei]
        refine ⟨⟨j + 1, y + 2, _, rfl, rfl, by omega, by rw [List.length_append]; rfl, hsnoc, ?_⟩, by simp only [Int.toNat_natCast]; omega⟩
        rw [List.flatMap_append]
        have := H1.tail
        simpa using this
    · have hjN : j = N := by omega
      subst hjN
      rw [hdone] at hS
      simp only [Option.bind_some] at hS
      have hcols := hold_cols H 0 rfl rfl
      refine (sright_ok hcols).mono ?_
      rintro e W2 ⟨rfl, eS⟩
      refine ⟨_, rfl, fun hf => bad (H.ext.trans eS) (by rw [hS, hf]; rfl), fun ht => ?_⟩
      have e : takeSV l pos = (done, (z : Int), 0) := by unfold takeSV; rw [hS, if_pos ht]
      rw [e]
      exact ⟨_, _, _, rfl, hcols.ext eS, H.ext.trans eS⟩

end Go.Proofs.YtiojkfckaalooaaDoor

/- The shelf's tables of numbers for this program: as its command lays them, written out by a program of ours (lays.py). -/
namespace Go.Proofs.YtiojkfckaalooaaDoor
open Go Go.Shelf

def joinL_ren : Ren := ⟨fun | 156 => 54 | 165 => 77 | 166 => 78 | 169 => 79 | 240 => 90 | 241 => 91 | 276 => 100 | 277 => 101 | n => n, fun | 31 => 76 | 9 => 9 | 3 => 3 | 4 => 4 | 0 => 0 | 20 => 20 | 72 => 104 | 76 => 108 | 70 => 102 | 37 => 28 | 75 => 107 | 127 => 119 | 164 => 124 | 5 => 5 | 80 => 110 | n => n, fun | n => n⟩
theorem joinL : Lays.n156 Tryd.prog joinL_ren where
  mixed := by kernel_rfl
  f156 := Tryd.func54.trans (congrArg some (by kernel_rfl))
  f165 := Tryd.func77.trans (congrArg some (by kernel_rfl))
  f166 := Tryd.func78.trans (congrArg some (by kernel_rfl))
  f169 := Tryd.func79.trans (congrArg some (by kernel_rfl))
  f240 := Tryd.func90.trans (congrArg some (by kernel_rfl))
  f241 := Tryd.func91.trans (congrArg some (by kernel_rfl))
  f276 := Tryd.func100.trans (congrArg some (by kernel_rfl))
  f277 := Tryd.func101.trans (congrArg some (by kernel_rfl))
  t0 := Tryd.underlying0
  a0 := Tryd.isAgg0
  z0 := Tryd.sizeOf0
  v0 := Tryd.zeroValue0
  t3 := Tryd.underlying3
  a3 := Tryd.isAgg3
  z3 := Tryd.sizeOf3
  v3 := Tryd.zeroValue3
  t4 := Tryd.underlying4
  a4 := Tryd.isAgg4
  z4 := Tryd.sizeOf4
  v4 := Tryd.zeroValue4
  t9 := Tryd.underlying9
  a9 := Tryd.isAgg9
  z9 := Tryd.sizeOf9
  v9 := Tryd.zeroValue9
  t20 := Tryd.underlying20
  a20 := Tryd.isAgg20
  z20 := Tryd.sizeOf20
  v20 := Tryd.zeroValue20
  t31 := Tryd.underlying76
  a31 := Tryd.isAgg76
  z31 := Tryd.sizeOf76
  v31 := Tryd.zeroValue76
  t37 := Tryd.underlying28
  a37 := Tryd.isAgg28
  z37 := Tryd.sizeOf28
  v37 := Tryd.zeroValue28
  t70 := Tryd.underlying102
  a70 := Tryd.isAgg102
  z70 := Tryd.sizeOf102
  v70 := Tryd.zeroValue102
  t72 := Tryd.underlying104
  a72 := Tryd.isAgg104
  z72 := Tryd.sizeOf104
  v72 := Tryd.zeroValue104
  t75 := Tryd.underlying107
  a75 := Tryd.isAgg107
  z75 := Tryd.sizeOf107
  v75 := Tryd.zeroValue107
  t76 := Tryd.underlying108
  a76 := Tryd.isAgg108
  z76 := Tryd.sizeOf108
  v76 := Tryd.zeroValue108
  t127 := Tryd.underlying119
  a127 := Tryd.isAgg119
  z127 := Tryd.sizeOf119
  v127 := Tryd.zeroValue119
  t164 := Tryd.underlying124
  a164 := Tryd.isAgg124
  z164 := Tryd.sizeOf124
  v164 := Tryd.zeroValue124

def splitL_ren : Ren := ⟨fun | 146 => 56 | 221 => 80 | 268 => 92 | 138 => 93 | 143 => 94 | 195 => 102 | 197 => 86 | 218 => 103 | 219 => 96 | 260 => 97 | 217 => 64 | 225 => 104 | 224 => 105 | 267 => 106 | 266 => 84 | 314 => 108 | n => n, fun | 9 => 9 | 31 => 76 | 3 => 3 | 4 => 4 | 0 => 0 | 105 => 115 | 21 => 21 | 5 => 5 | 46 => 113 | 119 => 128 | 139 => 131 | 138 => 130 | 146 => 134 | 51 => 133 | n => n, fun | 1 => 1 | 3 => 2 | 4 => 3 | n => n⟩
theorem splitL : Lays.n146 Tryd.prog splitL_ren where
  mixed := by kernel_rfl
  f138 := Tryd.func93.trans (congrArg some (by kernel_rfl))
  f143 := Tryd.func94.trans (congrArg some (by kernel_rfl))
  f146 := Tryd.func56.trans (congrArg some (by kernel_rfl))
  f195 := Tryd.func102.trans (congrArg some (by kernel_rfl))
  f197 := Tryd.func86.trans (congrArg some (by kernel_rfl))
  f217 := Tryd.func64.trans (congrArg some (by kernel_rfl))
  f218 := Tryd.func103.trans (congrArg some (by kernel_rfl))
  f219 := Tryd.func96.trans (congrArg some (by kernel_rfl))
  f221 := Tryd.func80.trans (congrArg some (by kernel_rfl))
  f224 := Tryd.func105.trans (congrArg some (by kernel_rfl))
  f225 := Tryd.func104.trans (congrArg some (by kernel_rfl))
  f260 := Tryd.func97.trans (congrArg some (by kernel_rfl))
  f266 := Tryd.func84.trans (congrArg some (by kernel_rfl))
  f267 := Tryd.func106.trans (congrArg some (by kernel_rfl))
  f268 := Tryd.func92.trans (congrArg some (by kernel_rfl))
  f314 := Tryd.func108.trans (congrArg some (by kernel_rfl))
  t0 := Tryd.underlying0
  a0 := Tryd.isAgg0
  z0 := Tryd.sizeOf0
  v0 := Tryd.zeroValue0
  t3 := Tryd.underlying3
  a3 := Tryd.isAgg3
  z3 := Tryd.sizeOf3
  v3 := Tryd.zeroValue3
  t4 := Tryd.underlying4
  a4 := Tryd.isAgg4
  z4 := Tryd.sizeOf4
  v4 := Tryd.zeroValue4
  t5 := Tryd.underlying5
  a5 := Tryd.isAgg5
  z5 := Tryd.sizeOf5
  v5 := Tryd.zeroValue5
  t9 := Tryd.underlying9
  a9 := Tryd.isAgg9
  z9 := Tryd.sizeOf9
  v9 := Tryd.zeroValue9
  t21 := Tryd.underlying21
  a21 := Tryd.isAgg21
  z21 := Tryd.sizeOf21
  v21 := Tryd.zeroValue21
  t31 := Tryd.underlying76
  a31 := Tryd.isAgg76
  z31 := Tryd.sizeOf76
  v31 := Tryd.zeroValue76
  t46 := Tryd.underlying113
  a46 := Tryd.isAgg113
  z46 := Tryd.sizeOf113
  v46 := Tryd.zeroValue113
  t51 := Tryd.underlying133
  a51 := Tryd.isAgg133
  z51 := Tryd.sizeOf133
  v51 := Tryd.zeroValue133
  t105 := Tryd.underlying115
  a105 := Tryd.isAgg115
  z105 := Tryd.sizeOf115
  v105 := Tryd.zeroValue115
  t119 := Tryd.underlying128
  a119 := Tryd.isAgg128
  z119 := Tryd.sizeOf128
  t138 := Tryd.underlying130
  a138 := Tryd.isAgg130
  z138 := Tryd.sizeOf130
  v138 := Tryd.zeroValue130
  t139 := Tryd.underlying131
  a139 := Tryd.isAgg131
  z139 := Tryd.sizeOf131
  v139 := Tryd.zeroValue131
  t146 := Tryd.underlying134
  a146 := Tryd.isAgg134
  z146 := Tryd.sizeOf134
  v146 := Tryd.zeroValue134
  g1 := by kernel_rfl
  g3 := by kernel_rfl
  g4 := by kernel_rfl

def cutL_ren : Ren := ⟨fun | 145 => 58 | 220 => 82 | 219 => 96 | 217 => 64 | 225 => 104 | 224 => 105 | 267 => 106 | 266 => 84 | 314 => 108 | n => n, fun | 9 => 9 | 4 => 4 | 59 => 83 | 3 => 3 | 5 => 5 | 46 => 113 | 146 => 134 | 51 => 133 | n => n, fun | 1 => 1 | n => n⟩
theorem cutL : Lays.n145 Tryd.prog cutL_ren where
  mixed := by kernel_rfl
  f145 := Tryd.func58.trans (congrArg some (by kernel_rfl))
  f217 := Tryd.func64.trans (congrArg some (by kernel_rfl))
  f219 := Tryd.func96.trans (congrArg some (by kernel_rfl))
  f220 := Tryd.func82.trans (congrArg some (by kernel_rfl))
  f224 := Tryd.func105.trans (congrArg some (by kernel_rfl))
  f225 := Tryd.func104.trans (congrArg some (by kernel_rfl))
  f266 := Tryd.func84.trans (congrArg some (by kernel_rfl))
  f267 := Tryd.func106.trans (congrArg some (by kernel_rfl))
  f314 := Tryd.func108.trans (congrArg some (by kernel_rfl))
  t3 := Tryd.underlying3
  a3 := Tryd.isAgg3
  z3 := Tryd.sizeOf3
  v3 := Tryd.zeroValue3
  t4 := Tryd.underlying4
  a4 := Tryd.isAgg4
  z4 := Tryd.sizeOf4
  v4 := Tryd.zeroValue4
  t5 := Tryd.underlying5
  a5 := Tryd.isAgg5
  z5 := Tryd.sizeOf5
  v5 := Tryd.zeroValue5
  t9 := Tryd.underlying9
  a9 := Tryd.isAgg9
  z9 := Tryd.sizeOf9
  v9 := Tryd.zeroValue9
  t46 := Tryd.underlying113
  a46 := Tryd.isAgg113
  z46 := Tryd.sizeOf113
  v46 := Tryd.zeroValue113
  t51 := Tryd.underlying133
  a51 := Tryd.isAgg133
  z51 := Tryd.sizeOf133
  v51 := Tryd.zeroValue133
  t59 := Tryd.underlying83
  a59 := Tryd.isAgg83
  z59 := Tryd.sizeOf83
  v59 := Tryd.zeroValue83
  t146 := Tryd.underlying134
  a146 := Tryd.isAgg134
  z146 := Tryd.sizeOf134
  v146 := Tryd.zeroValue134
  g1 := by kernel_rfl

end Go.Proofs.YtiojkfckaalooaaDoor
