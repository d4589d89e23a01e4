/- The contracts of package expr: numbers, truths, one node. -/
import Derived.Test.YtdephmdfdgclpaaDoorEx2
import Derived.Test.YtdephmdfdgclpaaDoorEv0
namespace Go.Proofs.YtdephmdfdgclpaaDoor
open Go Go.Vc Go.RowKit

/-- The tables of and, or. -/
def Tab2 (w : World) : Prop := CellsAt w 1 0 (tabA andI) ∧ CellsAt w 2 0 (tabA orJ)
theorem Tab2.ext {w w' : World} (h : Tab2 w) (e : Ext w w') : Tab2 w' := ⟨fun k v hk => cell_ext (h.1 k v hk) e, fun k v hk => cell_ext (h.2 k v hk) e⟩

theorem xtruth_ok (b : Bool) (w : World) : Calls Tryd.prog 76 #[.bool b] w fun e w' => e = .returned (truthV b).agg ∧ Ext w w' := by
  apply xtruth_vc
  unfold xtruth_T
  intro b1 w2 h1
  have H := (Hold.start (Ext.rfl (w := w))).new h1
  obtain ⟨q0, q1, q2⟩ := (H.blk 0 rfl).c3
  refine ⟨fun hb => ⟨⟨_, q0⟩, (H.blk 0 rfl).frozen _, ⟨_, q1⟩, (H.blk 0 rfl).frozen _, ⟨_, q2⟩, (H.blk 0 rfl).frozen _, fun w8 h8 => ?_⟩, fun hb => ⟨⟨_, q0⟩, (H.blk 0 rfl).frozen _, ⟨_, q1⟩, (H.blk 0 rfl).frozen _, ⟨_, q2⟩, (H.blk 0 rfl).frozen _, fun w8 h8 => ?_⟩⟩
  · have H8 := H.put 0 rfl h8
    have B : Blk w8 b1 26 #[.int .i64 2, .int .i64 1, .string ⟨#[]⟩] := H8.blk 0 rfl
    obtain ⟨q0, q1, q2⟩ := B.c3
    exact ⟨_, q0, _, q1, _, q2, by rw [hb]; rfl, H8.ext⟩
  · have H8 := H.put 0 rfl h8
    have B : Blk w8 b1 26 #[.int .i64 2, .int .i64 0, .string ⟨#[]⟩] := H8.blk 0 rfl
    obtain ⟨q0, q1, q2⟩ := B.c3
    exact ⟨_, q0, _, q1, _, q2, by rw [hb]; rfl, H8.ext⟩

theorem times1_ok {n : Int} (h : fitI n) (w : World) : Calls Tryd.prog 115 #[.int .i64 n] w fun e w' => e = .returned (.int .u64 ((n.natAbs : Nat) : Int)) ∧ Ext w w' := by
  apply times1_vc
  unfold times1_T
  unfold fitI at h
  refine ⟨fun hn => ⟨?_, .rfl⟩, fun hn => ⟨?_, .rfl⟩⟩
  · rw [u64_wrap, u64_wrap, show (0 - n % 18446744073709551616) % 18446744073709551616 = ((n.natAbs : Nat) : Int) by omega]
  · rw [u64_wrap, show n % 18446744073709551616 = ((n.natAbs : Nat) : Int) by omega]
theorem mul64_ok {x y : Nat} (hx : x < 18446744073709551616) (hy : y < 18446744073709551616) (w : World) :
    Calls Tryd.prog 116 #[.int .u64 (x : Int), .int .u64 (y : Int)] w fun e w' => e = .returned (.tuple #[.int .u64 ((x * y / 18446744073709551616 : Nat) : Int), .int .u64 ((x * y % 18446744073709551616 : Nat) : Int)]) ∧ Ext w w' := by
  apply mul64_vc
  unfold mul64_T
  refine ⟨?_, .rfl⟩
  rw [mul64_hi hx hy, u64_wrap, ← Int.natCast_mul]
  rfl
theorem mul_abs (a b : Int) : (decide (a < 0) ≠ decide (b < 0) → a * b = -((a.natAbs * b.natAbs : Nat) : Int)) ∧ (decide (a < 0) = decide (b < 0) → a * b = ((a.natAbs * b.natAbs : Nat) : Int)) := by
  rw [Int.natCast_mul]
  rcases Int.lt_or_le a 0 with ha | ha <;> rcases Int.lt_or_le b 0 with hb | hb
  · rw [Int.ofNat_natAbs_of_nonpos (by omega), Int.ofNat_natAbs_of_nonpos (by omega), Int.neg_mul_neg]
    simp [ha, hb]
  · rw [Int.ofNat_natAbs_of_nonpos (by omega), Int.natAbs_of_nonneg hb, Int.neg_mul, Int.neg_neg]
    have : ¬ b < 0 := by omega
    simp [ha, this]
  · rw [Int.natAbs_of_nonneg ha, Int.ofNat_natAbs_of_nonpos (by omega), Int.mul_neg, Int.neg_neg]
    have : ¬ a < 0 := by omega
    simp [hb, this]
  · rw [Int.natAbs_of_nonneg ha, Int.natAbs_of_nonneg hb]
    simp [Int.not_lt.2 ha, Int.not_lt.2 hb]
theorem times_ok {a b : Int} (ha : fitI a) (hb : fitI b) (w : World) : Calls Tryd.prog 104 #[.int .i64 a, .int .i64 b] w fun e w' => ∃ n : Int, e = .returned (.tuple #[.int .i64 n, .bool (decide (fitI (a * b)))]) ∧ (fitI (a * b) → n = a * b) ∧ Ext w w' := by
  apply times_vc
  unfold times_T
  have ha' : a.natAbs ≤ 9223372036854775808 := by unfold fitI at ha; omega
  have hb' : b.natAbs ≤ 9223372036854775808 := by unfold fitI at hb; omega
  refine (times1_ok ha w).mono ?_
  rintro e w2 ⟨rfl, e2⟩
  refine ⟨_, rfl, (times1_ok hb w2).mono ?_⟩
  rintro e w5 ⟨rfl, e5⟩
  refine ⟨_, rfl, (mul64_ok (by omega) (by omega) w5).mono ?_⟩
  rintro e w8 ⟨rfl, e8⟩
  have hx := (e2.trans e5).trans e8
  obtain ⟨m1, m2⟩ := mul_abs a b
  generalize a.natAbs * b.natAbs = P at m1 m2
  refine ⟨_, _, rfl, fun hne => ⟨0, ?_, fun hf => ?_, hx⟩, fun h0 => ⟨fun hs => ⟨IntKind.i64.wrap (0 - IntKind.i64.wrap ((P % 18446744073709551616 : Nat) : Int)), ?_, fun hf => ?_, hx⟩, fun hs => ⟨IntKind.i64.wrap ((P % 18446744073709551616 : Nat) : Int), ?_, fun hf => ?_, hx⟩⟩⟩
  · have : ¬ fitI (a * b) := by
      unfold fitI
      by_cases hs : decide (a < 0) = decide (b < 0)
      · rw [m2 hs]; omega
      · rw [m1 hs]; omega
    rw [decide_eq_false this]
  · unfold fitI at hf
    exfalso
    by_cases hs : decide (a < 0) = decide (b < 0)
    · rw [m2 hs] at hf; omega
    · rw [m1 hs] at hf; omega
  · have hP : P % 18446744073709551616 = P := by omega
    have : decide (((P % 18446744073709551616 : Nat) : Int) ≤ 9223372036854775808) = decide (fitI (a * b)) := by
      rw [m1 hs, hP, decide_eq_decide]; unfold fitI; omega
    rw [this]
  · rw [m1 hs] at hf ⊢
    unfold fitI at hf
    rw [IntKind.wrap_i64, IntKind.wrap_i64]; omega
  · have hP : P % 18446744073709551616 = P := by omega
    have : decide (((P % 18446744073709551616 : Nat) : Int) < 9223372036854775808) = decide (fitI (a * b)) := by
      rw [m2 hs, hP, decide_eq_decide]; unfold fitI; omega
    rw [this]
  · rw [m2 hs] at hf ⊢
    unfold fitI at hf
    rw [IntKind.wrap_i64]; omega

theorem xarith_ok (op : Int) {a b : Int} (ha : fitI a) (hb : fitI b) (w : World) : Calls Tryd.prog 80 #[.int .i64 op, .int .i64 a, .int .i64 b] w fun e w' => e = .returned (.tuple #[.int .i64 (arithF op a b).1, .int .i64 (arithF op a b).2]) ∧ Ext w w' := by
  apply xarith_vc
  unfold xarith_T
  have ew : ∀ x, fitI x → IntKind.i64.wrap x = x := fun x hx => by unfold fitI at hx; exact i64_fit hx.1 hx.2
  refine ⟨fun h => ⟨?_, .rfl⟩, fun hz => ⟨fun h3 => ⟨fun h => ⟨?_, .rfl⟩, fun h => ⟨?_, .rfl⟩⟩, fun h3 => ⟨fun h4 => ⟨fun h => ⟨?_, .rfl⟩, fun h => ⟨?_, .rfl⟩⟩, fun h4 => ⟨fun h5 => (times_ok ha hb w).mono ?_, fun h5 => ⟨fun h6 => ⟨?_, fun h => ⟨?_, .rfl⟩, fun h => ⟨?_, .rfl⟩⟩, fun h6 => ⟨fun h7 => ⟨?_, ?_, .rfl⟩, fun h7 => ⟨?_, .rfl⟩⟩⟩⟩⟩⟩⟩
  · unfold arithF; rw [if_pos h]
  · have := (add_over ha hb).1 h
    unfold arithF overF; rw [if_neg (by omega), if_pos h3, if_neg this]
  · have : fitI (a + b) := Decidable.not_not.1 fun hn => by have := (add_over ha hb).2 hn; omega
    rw [ew _ this]
    unfold arithF overF; rw [if_neg (by omega), if_pos h3, if_pos this]
  · have := (sub_over ha hb).1 h
    unfold arithF overF; rw [if_neg (by omega), if_neg h3, if_pos h4, if_neg this]
  · have : fitI (a - b) := Decidable.not_not.1 fun hn => by have := (sub_over ha hb).2 hn; omega
    rw [ew _ this]
    unfold arithF overF; rw [if_neg (by omega), if_neg h3, if_pos h4, if_pos this]
  · rintro e w13 ⟨n, rfl, hn, e13⟩
    refine ⟨_, _, rfl, fun hf => ⟨?_, e13⟩, fun hf => ⟨?_, e13⟩⟩
    · unfold arithF overF; rw [if_neg (by omega), if_neg h3, if_neg h4, if_pos h5, if_neg (of_decide_eq_false hf)]
    · rw [hn (of_decide_eq_true hf)]
      unfold arithF overF; rw [if_neg (by omega), if_neg h3, if_neg h4, if_pos h5, if_pos (of_decide_eq_true hf)]
  · omega
  · have : ¬ fitI (a.tdiv b) := fun hf => ((tdiv_fit ha (by omega)).1 hf) h
    unfold arithF overF; rw [if_neg (by omega), if_neg h3, if_neg h4, if_neg h5, if_pos h6, if_neg this]
  · have : fitI (a.tdiv b) := (tdiv_fit ha (by omega)).2 (by omega)
    unfold quoI
    rw [ew _ this]
    unfold arithF overF; rw [if_neg (by omega), if_neg h3, if_neg h4, if_neg h5, if_pos h6, if_pos this]
  · omega
  · unfold arithF remI; rw [if_neg (by omega), if_neg h3, if_neg h4, if_neg h5, if_neg h6, if_pos h7]
  · unfold arithF; rw [if_neg (by omega), if_neg h3, if_neg h4, if_neg h5, if_neg h6, if_neg h7]

theorem third_ok (v : Val) (w : World) : Calls Tryd.prog 78 #[v.agg] w fun e w' => e = .returned (.int .i64 (thirdI v)) ∧ Ext w w' := by
  apply third_vc
  unfold third_T
  intro b1 w2 h1
  obtain ⟨q0, q1, q2⟩ := (Blk.new h1).c3
  refine ⟨_, q0, fun h => ⟨?_, h1.ext⟩, fun h => ⟨_, q1, ?_, h1.ext⟩⟩
  · unfold thirdI; rw [if_pos h]
  · unfold thirdI; rw [if_neg h]
theorem answer_ok (n : Int) (w : World) : Calls Tryd.prog 77 #[.int .i64 n] w fun e w' => e = .returned (answerV n).agg ∧ Ext w w' := by
  apply answer_vc
  unfold answer_T
  intro b1 w2 h1
  have H := (Hold.start (Ext.rfl (w := w))).new h1
  obtain ⟨q0, q1, q2⟩ := (H.blk 0 rfl).c3
  refine ⟨fun h => ⟨⟨_, q0⟩, (H.blk 0 rfl).frozen _, ⟨_, q1⟩, (H.blk 0 rfl).frozen _, ⟨_, q2⟩, (H.blk 0 rfl).frozen _, fun w8 h8 => ?_⟩, fun h => (xtruth_ok _ w2).mono ?_⟩
  · have H8 := H.put 0 rfl h8
    have B : Blk w8 b1 26 #[.int .i64 0, .int .i64 0, .string ⟨#[]⟩] := H8.blk 0 rfl
    obtain ⟨q0, q1, q2⟩ := B.c3
    exact ⟨_, q0, _, q1, _, q2, by unfold answerV; rw [if_pos h]; rfl, H8.ext⟩
  · rintro e w15 ⟨rfl, e15⟩
    have H15 := H.step e15
    obtain ⟨q0, q1, q2⟩ := (H15.blk 0 rfl).c3
    refine ⟨_, _, _, rfl, ⟨_, q0⟩, (H15.blk 0 rfl).frozen _, ⟨_, q1⟩, (H15.blk 0 rfl).frozen _, ⟨_, q2⟩, (H15.blk 0 rfl).frozen _, fun w22 h22 => ?_⟩
    have H22 := H15.put 0 rfl h22
    have B : Blk w22 b1 26 #[.int .i64 (truthV (decide (n = 1))).k, .int .i64 (truthV (decide (n = 1))).n, .string (truthV (decide (n = 1))).s] := H22.blk 0 rfl
    obtain ⟨q0, q1, q2⟩ := B.c3
    exact ⟨_, q0, _, q1, _, q2, by unfold answerV; rw [if_neg h]; rfl, H22.ext⟩
end Go.Proofs.YtdephmdfdgclpaaDoor
