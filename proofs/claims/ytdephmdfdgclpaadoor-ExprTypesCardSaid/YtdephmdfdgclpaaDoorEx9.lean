/- The contracts of the document's answer for expressions: numbers, truths. -/
import Derived.Test.YtdephmdfdgclpaaDoorEx8
namespace Go.Proofs.YtdephmdfdgclpaaDoor
open Go Go.Vc Go.RowKit

theorem rtruth_ok (b : Bool) (w : World) : Calls Tryd.prog 57 #[.bool b] w fun e w' => e = .returned (truthV b).agg ∧ Ext w w' := by
  apply rtruth_vc
  unfold rtruth_T
  intro b1 w2 h1 b4 w5 h4
  have H5 := ((Hold.start (Ext.rfl (w := w))).new h1).new h4
  obtain ⟨q0, q1, q2⟩ := (H5.blk 0 rfl).c3
  refine ⟨⟨_, q0⟩, (H5.blk 0 rfl).frozen _, ⟨_, q1⟩, (H5.blk 0 rfl).frozen _, ⟨_, q2⟩, (H5.blk 0 rfl).frozen _, fun w10 h10 => ?_⟩
  have H10 := H5.put 0 rfl h10
  have B : Blk w10 b4 26 #[.int .i64 2, .int .i64 0, .string ⟨#[]⟩] := H10.blk 0 rfl
  obtain ⟨q0, q1, q2⟩ := B.c3
  refine ⟨fun hb => ⟨⟨_, q1⟩, B.frozen _, fun w14 h14 => ?_⟩, fun hb => ⟨_, q0, _, q1, _, q2, H10.ret3 1 rfl _ _ _ fun W' hx => ⟨by rw [hb]; rfl, hx⟩⟩⟩
  have H14 := H10.put 0 rfl h14
  have B : Blk w14 b4 26 #[.int .i64 2, .int .i64 1, .string ⟨#[]⟩] := H14.blk 0 rfl
  obtain ⟨q0, q1, q2⟩ := B.c3
  exact ⟨_, q0, _, q1, _, q2, H14.ret3 1 rfl _ _ _ fun W' hx => ⟨by rw [hb]; rfl, hx⟩⟩
theorem rnumber_ok (n : Int) (w : World) : Calls Tryd.prog 58 #[.int .i64 n] w fun e w' => e = .returned (numV n).agg ∧ Ext w w' := by
  apply rnumber_vc
  unfold rnumber_T
  intro b1 w2 h1
  have H := (Hold.start (Ext.rfl (w := w))).new h1
  exact H.ret3 0 rfl _ _ _ fun W' hx => ⟨rfl, hx⟩

theorem prod_test {a b : Int} (ha : fitI a) (hb : fitI b) (b0 : b ≠ 0) (h1 : ¬ (b = -1 ∧ a = -9223372036854775808)) : quoI .i64 (IntKind.i64.wrap (a * b)) b = a ↔ fitI (a * b) := by
  have ew : ∀ x, fitI x → IntKind.i64.wrap x = x := fun x hx => by unfold fitI at hx; exact i64_fit hx.1 hx.2
  constructor
  · intro h
    have hw := IntKind.wrap_i64 (a * b)
    have hp : fitI (IntKind.i64.wrap (a * b)) := by unfold fitI; omega
    unfold quoI at h
    by_cases hs : IntKind.i64.wrap (a * b) = -9223372036854775808 ∧ b = -1
    · obtain ⟨h2, rfl⟩ := hs
      exfalso
      rw [h2] at h
      have : IntKind.i64.wrap ((-9223372036854775808 : Int).tdiv (-1)) = -9223372036854775808 := by decide +kernel
      rw [this] at h
      exact h1 ⟨rfl, h.symm⟩
    · have hq := (tdiv_fit hp b0).2 hs
      rw [ew _ hq] at h
      have hdm := Int.mul_tdiv_add_tmod (IntKind.i64.wrap (a * b)) b
      have hm : ((IntKind.i64.wrap (a * b)).tmod b).natAbs = (IntKind.i64.wrap (a * b)).natAbs % b.natAbs := Int.natAbs_tmod _ _
      have hlt := Nat.mod_lt (IntKind.i64.wrap (a * b)).natAbs (y := b.natAbs) (by omega)
      rw [h, Int.mul_comm b a] at hdm
      generalize (IntKind.i64.wrap (a * b)).tmod b = r at *
      generalize IntKind.i64.wrap (a * b) = p at *
      generalize a * b = X at *
      unfold fitI at *
      generalize p.natAbs % b.natAbs = t at *
      omega
  · intro h
    rw [ew _ h]
    unfold quoI
    rw [Int.mul_tdiv_cancel _ b0, ew _ ha]
theorem rproduct_ok {a b : Int} (ha : fitI a) (hb : fitI b) (w : World) : Calls Tryd.prog 84 #[.int .i64 a, .int .i64 b] w fun e w' => ∃ n : Int, e = .returned (.tuple #[.int .i64 n, .bool (decide (fitI (a * b)))]) ∧ (fitI (a * b) → n = a * b) ∧ Ext w w' := by
  apply rproduct_vc
  unfold rproduct_T
  have ew : ∀ x, fitI x → IntKind.i64.wrap x = x := fun x hx => by unfold fitI at hx; exact i64_fit hx.1 hx.2
  refine ⟨fun hz => ⟨0, ?_, ?_, .rfl⟩, fun hz => ⟨fun h1 => ⟨0, ?_, ?_, .rfl⟩, fun h1 => ⟨fun h2 => ⟨0, ?_, ?_, .rfl⟩, fun h2 w7 h7 => ⟨hz.2, IntKind.i64.wrap (a * b), ?_, fun h => ew _ h, h7.ext⟩⟩⟩⟩
  · have : a * b = 0 := by rcases hz with h | h <;> simp [h]
    rw [this]; rfl
  · intro _; rcases hz with h | h <;> simp [h]
  · obtain ⟨rfl, rfl⟩ := h1; rfl
  · obtain ⟨rfl, rfl⟩ := h1; intro h; exact absurd h (by decide)
  · obtain ⟨rfl, rfl⟩ := h2; rfl
  · obtain ⟨rfl, rfl⟩ := h2; intro h; exact absurd h (by decide)
  · have : decide (quoI .i64 (IntKind.i64.wrap (a * b)) b = a) = decide (fitI (a * b)) := by
      rw [decide_eq_decide]
      exact prod_test ha hb hz.2 (by omega)
    rw [this]

theorem reckoned_ok {op a b : Int} (hop : 3 ≤ op ∧ op ≤ 7) (ha : fitI a) (hb : fitI b) (w : World) : Calls Tryd.prog 59 #[.int .i64 op, .int .i64 a, .int .i64 b] w fun e w' => e = .returned (.tuple #[.int .i64 (arithF op a b).1, .int .i64 (arithF op a b).2]) ∧ Ext w w' := by
  apply reckoned_vc
  unfold reckoned_T
  have ew : ∀ x, fitI x → IntKind.i64.wrap x = x := fun x hx => by unfold fitI at hx; exact i64_fit hx.1 hx.2
  have wa := IntKind.wrap_i64 (a + b)
  have ws := IntKind.wrap_i64 (a - b)
  have A3 : op = 3 → arithF op a b = overF (a + b) := fun h => by unfold arithF; rw [if_neg (by omega), if_pos h]
  have A4 : op = 4 → arithF op a b = overF (a - b) := fun h => by unfold arithF; rw [if_neg (by omega), if_neg (by omega), if_pos h]
  have A5 : op = 5 → arithF op a b = overF (a * b) := fun h => by unfold arithF; rw [if_neg (by omega), if_neg (by omega), if_neg (by omega), if_pos h]
  have A6 : op = 6 → b ≠ 0 → arithF op a b = overF (a.tdiv b) := fun h h0 => by unfold arithF; rw [if_neg (by omega), if_neg (by omega), if_neg (by omega), if_neg (by omega), if_pos h]
  have A7 : op = 7 → b ≠ 0 → arithF op a b = (a.tmod b, 0) := fun h h0 => by unfold arithF; rw [if_neg (by omega), if_neg (by omega), if_neg (by omega), if_neg (by omega), if_neg (by omega), if_pos h]
  have Az : op = 6 ∨ op = 7 → b = 0 → arithF op a b = (0, 101) := fun h h0 => by unfold arithF; rw [if_pos ⟨h, h0⟩]
  have yes : ∀ x, fitI x → overF x = (x, 0) := fun x h => by unfold overF; rw [if_pos h]
  have no : ∀ x, ¬ fitI x → overF x = (0, 100) := fun x h => by unfold overF; rw [if_neg h]
  have fa := ha
  have fb := hb
  unfold fitI at fa fb
  refine ⟨fun h3 => ⟨fun h => ⟨?_, .rfl⟩, fun h => ⟨fun h' => ⟨?_, .rfl⟩, fun h' => ⟨?_, .rfl⟩⟩⟩, fun h3 => ⟨fun h4 => ⟨fun h => ⟨?_, .rfl⟩, fun h => ⟨fun h' => ⟨?_, .rfl⟩, fun h' => ⟨?_, .rfl⟩⟩⟩, fun h4 => ⟨fun h5 => (rproduct_ok ha hb w).mono ?_, fun h5 => ⟨fun h6 => ⟨fun hz => ⟨?_, .rfl⟩, fun hz => ⟨fun hm => ⟨fun hmin => ⟨?_, .rfl⟩, fun hmin => ⟨?_, .rfl⟩⟩, fun hm => ⟨hz, ?_, .rfl⟩⟩⟩,
    fun h6 => ⟨fun hz => ⟨?_, .rfl⟩, fun hz => ⟨fun hm => ⟨hz, ?_, .rfl⟩, fun hm => ⟨?_, .rfl⟩⟩⟩⟩⟩⟩⟩
  · have : fitI (a + b) := by unfold fitI; omega
    rw [A3 h3, yes _ this, ew _ this]
  · have : ¬ fitI (a + b) := by unfold fitI; omega
    rw [A3 h3, no _ this]
  · have : fitI (a + b) := by unfold fitI; omega
    rw [A3 h3, yes _ this, ew _ this]
  · have : fitI (a - b) := by unfold fitI; omega
    rw [A4 h4, yes _ this, ew _ this]
  · have : ¬ fitI (a - b) := by unfold fitI; omega
    rw [A4 h4, no _ this]
  · have : fitI (a - b) := by unfold fitI; omega
    rw [A4 h4, yes _ this, ew _ this]
  · rintro e w15 ⟨n, rfl, hn, e15⟩
    refine ⟨_, _, rfl, fun hf => ⟨?_, e15⟩, fun hf => ⟨?_, e15⟩⟩
    · rw [A5 h5, no _ (of_decide_eq_false hf)]
    · rw [A5 h5, yes _ (of_decide_eq_true hf), hn (of_decide_eq_true hf)]
  · rw [Az (.inl h6) hz]
  · rw [A6 h6 hz, no _ (fun hf => (tdiv_fit ha hz).1 hf ⟨hmin, hm⟩)]
  · have : fitI (a.tdiv b) := (tdiv_fit ha hz).2 fun h => hmin h.1
    rw [A6 h6 hz, yes _ this, hm, Int.tdiv_neg, Int.tdiv_one]
    rw [i64_fit (by omega) (by omega)]
    show Ending.returned (.tuple #[.int .i64 (0 - a), .int .i64 0]) = _
    rw [Int.zero_sub]
  · have : fitI (a.tdiv b) := (tdiv_fit ha hz).2 fun h => hm h.2
    rw [A6 h6 hz, yes _ this]
    unfold quoI
    rw [ew _ this]
  · rw [Az (by omega) hz]
  · rw [A7 (by omega) hz]; rfl
  · rw [A7 (by omega) hz, hm, Int.tmod_neg, Int.tmod_one]
end Go.Proofs.YtdephmdfdgclpaaDoor
