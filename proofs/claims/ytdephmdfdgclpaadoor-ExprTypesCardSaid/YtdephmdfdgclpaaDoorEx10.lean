/- The contracts of the document's answer for expressions: a node of two kids. -/
import Derived.Test.YtdephmdfdgclpaaDoorEx9
namespace Go.Proofs.YtdephmdfdgclpaaDoor
open Go Go.Vc Go.RowKit

def bothF (a b : Val) (strong : Int) : Val :=
  if (a.k = 2 ∧ a.n = strong) ∨ (b.k = 2 ∧ b.n = strong) then truthV (decide (strong = 1)) else if a.k = 0 ∨ b.k = 0 then nullV else truthV (decide (strong = 0))
theorem good2_cases {a : Val} (h : GoodV 2 a) : (a.k = 0 ∧ thirdI a = 2) ∨ (a.k = 2 ∧ a.n = 0 ∧ thirdI a = 0) ∨ (a.k = 2 ∧ a.n = 1 ∧ thirdI a = 1) := by
  obtain ⟨ho, _, hk⟩ := h
  unfold Val.Ok at ho
  unfold thirdI
  rcases hk with hk | hk
  · rw [if_pos hk]; exact .inl ⟨hk, rfl⟩
  · rw [if_neg (by omega)]; omega
theorem bothF_and {a b : Val} (ha : GoodV 2 a) (hb : GoodV 2 b) : bothF a b 0 = answerV (andI (thirdI a) (thirdI b)) := by
  rcases good2_cases ha with h | h | h <;> rcases good2_cases hb with h' | h' | h' <;> (unfold bothF; simp [h, h', andI, answerV])
theorem bothF_or {a b : Val} (ha : GoodV 2 a) (hb : GoodV 2 b) : bothF a b 1 = answerV (orJ (thirdI a) (thirdI b)) := by
  rcases good2_cases ha with h | h | h <;> rcases good2_cases hb with h' | h' | h' <;> (unfold bothF; simp [h, h', orJ, answerV])

theorem rboth_ok (a b : Val) (s : Int) (w : World) : Calls Tryd.prog 82 #[a.agg, b.agg, .int .i64 s] w fun e w' => e = .returned (bothF a b s).agg ∧ Ext w w' := by
  apply rboth_vc
  unfold rboth_T
  intro ba w2 h1 bb w5 h4 br w8 h7
  have H8 := (((Hold.start (Ext.rfl (w := w))).new h1).new h4).new h7
  have Ba : Blk w8 ba 26 #[.int .i64 a.k, .int .i64 a.n, .string a.s] := H8.blk 2 rfl
  have Bb : Blk w8 bb 26 #[.int .i64 b.k, .int .i64 b.n, .string b.s] := H8.blk 1 rfl
  obtain ⟨a0, a1, a2⟩ := Ba.c3
  obtain ⟨b0, b1, b2⟩ := Bb.c3
  have Y : (a.k = 2 ∧ a.n = s) ∨ (b.k = 2 ∧ b.n = s) → bothF a b s = truthV (decide (s = 1)) := fun h => by unfold bothF; rw [if_pos h]
  have Z : ¬ ((a.k = 2 ∧ a.n = s) ∨ (b.k = 2 ∧ b.n = s)) → a.k = 0 ∨ b.k = 0 → bothF a b s = nullV := fun h h' => by unfold bothF; rw [if_neg h, if_pos h']
  have O : ¬ ((a.k = 2 ∧ a.n = s) ∨ (b.k = 2 ∧ b.n = s)) → ¬ (a.k = 0 ∨ b.k = 0) → bothF a b s = truthV (decide (s = 0)) := fun h h' => by unfold bothF; rw [if_neg h, if_neg h']
  refine ⟨_, a0, fun k2 => ⟨_, a1, fun hs => ?_, fun hs => ⟨_, b0, fun k2b => ⟨_, b1, fun hsb => ?_, fun hsb => ⟨_, a0, fun hz => ?_, fun hz => ⟨_, b0, fun hz' => ?_, fun hz' => ?_⟩⟩⟩, fun k2b => ⟨_, a0, fun hz => ?_, fun hz => ⟨_, b0, fun hz' => ?_, fun hz' => ?_⟩⟩⟩⟩,
    fun k2 => ⟨_, b0, fun k2b => ⟨_, b1, fun hsb => ?_, fun hsb => ⟨_, a0, fun hz => ?_, fun hz => ⟨_, b0, fun hz' => ?_, fun hz' => ?_⟩⟩⟩, fun k2b => ⟨_, a0, fun hz => ?_, fun hz => ⟨_, b0, fun hz' => ?_, fun hz' => ?_⟩⟩⟩⟩
  all_goals first
    | (refine H8.ret3 0 rfl _ _ _ fun W' hx => ⟨?_, hx⟩
       rw [Z (by omega) (by omega)]; rfl)
    | (refine (rtruth_ok _ w8).mono ?_
       rintro e w15 ⟨rfl, e15⟩
       refine ⟨_, _, _, rfl, (H8.step e15).ret3 0 rfl _ _ _ fun W' hx => ⟨?_, hx⟩⟩
       first
         | (rw [Y (by omega)]; rfl)
         | (rw [O (by omega) (by omega)]; rfl))

theorem rtwo_ok (op : Int) (a b : Val) (w : World) (hop : (3 ≤ op ∧ op ≤ 7) ∨ (9 ≤ op ∧ op ≤ 13)) (hao : a.Ok) (hbo : b.Ok) (ha : fitI a.n) (hb : fitI b.n) (ht : op = 12 ∨ op = 13 → GoodV 2 a ∧ GoodV 2 b) :
    Calls Tryd.prog 56 #[.int .i64 op, a.agg, b.agg] w fun e w' => e = .returned (.tuple #[(pairF op a b).1.agg, .int .i64 (pairF op a b).2]) ∧ Ext w w' := by
  apply rtwo_vc
  unfold rtwo_T
  intro ba w2 h1 bb w5 h4 br w8 h7
  have H8 := (((Hold.start (Ext.rfl (w := w))).new h1).new h4).new h7
  have Ba : Blk w8 ba 26 #[.int .i64 a.k, .int .i64 a.n, .string a.s] := H8.blk 2 rfl
  have Bb : Blk w8 bb 26 #[.int .i64 b.k, .int .i64 b.n, .string b.s] := H8.blk 1 rfl
  obtain ⟨a0, a1, a2⟩ := Ba.c3
  obtain ⟨b0, b1, b2⟩ := Bb.c3
  refine ⟨fun h12 => ⟨_, a0, _, a1, _, a2, _, b0, _, b1, _, b2, (rboth_ok a b 0 w8).mono ?_⟩, fun h12 => ⟨fun h13 => ⟨_, a0, _, a1, _, a2, _, b0, _, b1, _, b2, (rboth_ok a b 1 w8).mono ?_⟩, fun h13 => ?_⟩⟩
  · rintro e w18 ⟨rfl, e18⟩
    obtain ⟨g1, g2⟩ := ht (.inl h12)
    refine ⟨_, _, _, rfl, (H8.step e18).ret3 0 rfl _ _ _ fun W' hx => ⟨?_, hx⟩⟩
    unfold pairF; rw [if_pos h12, ← bothF_and g1 g2]; rfl
  · rintro e w18 ⟨rfl, e18⟩
    obtain ⟨g1, g2⟩ := ht (.inr h13)
    refine ⟨_, _, _, rfl, (H8.step e18).ret3 0 rfl _ _ _ fun W' hx => ⟨?_, hx⟩⟩
    unfold pairF; rw [if_neg h12, if_pos h13, ← bothF_or g1 g2]; rfl
  · refine ⟨_, a0, fun hz => H8.ret3 0 rfl _ _ _ fun W' hx => ⟨?_, hx⟩, fun hz => ⟨_, b0, fun hz' => H8.ret3 0 rfl _ _ _ fun W' hx => ⟨?_, hx⟩, fun hz' => ⟨_, a0, _, a1, _, a2, _, b0, _, b1, _, b2, (rvcompare_ok a b w8).mono ?_⟩⟩⟩
    · unfold pairF; rw [if_neg h12, if_neg h13, if_pos (.inl hz)]; rfl
    · unfold pairF; rw [if_neg h12, if_neg h13, if_pos (.inr hz')]; rfl
    rintro e w99 ⟨rfl, e99⟩
    rw [rcmpV_eq hao hbo]
    have H99 := H8.step e99
    have hz2 : ¬ (a.k = 0 ∨ b.k = 0) := by omega
    refine ⟨_, rfl, fun h9 => (rtruth_ok _ w99).mono ?_, fun h9 => ⟨fun h10 => (rtruth_ok _ w99).mono ?_, fun h10 => ⟨fun h11 => (rtruth_ok _ w99).mono ?_, fun h11 => ?_⟩⟩⟩
    · rintro e w103 ⟨rfl, e103⟩
      refine ⟨_, _, _, rfl, (H99.step e103).ret3 0 rfl _ _ _ fun W' hx => ⟨?_, hx⟩⟩
      unfold pairF; rw [if_neg h12, if_neg h13, if_neg hz2, if_pos h9]; rfl
    · rintro e w103 ⟨rfl, e103⟩
      refine ⟨_, _, _, rfl, (H99.step e103).ret3 0 rfl _ _ _ fun W' hx => ⟨?_, hx⟩⟩
      unfold pairF; rw [if_neg h12, if_neg h13, if_neg hz2, if_neg h9, if_pos h10]; rfl
    · rintro e w103 ⟨rfl, e103⟩
      refine ⟨_, _, _, rfl, (H99.step e103).ret3 0 rfl _ _ _ fun W' hx => ⟨?_, hx⟩⟩
      unfold pairF; rw [if_neg h12, if_neg h13, if_neg hz2, if_neg h9, if_neg h10, if_pos h11]; rfl
    · refine ⟨_, cell_ext a1 e99, _, cell_ext b1 e99, (reckoned_ok (by omega) ha hb w99).mono ?_⟩
      rintro e w149 ⟨rfl, e149⟩
      refine ⟨_, _, rfl, fun hne => (H99.step e149).ret3 0 rfl _ _ _ fun W' hx => ⟨?_, hx⟩, fun he => (rnumber_ok _ w149).mono ?_⟩
      · unfold pairF; rw [if_neg h12, if_neg h13, if_neg hz2, if_neg h9, if_neg h10, if_neg h11, if_pos hne]; rfl
      · rintro e w160 ⟨rfl, e160⟩
        refine ⟨_, _, _, rfl, ((H99.step e149).step e160).ret3 0 rfl _ _ _ fun W' hx => ⟨?_, hx⟩⟩
        unfold pairF; rw [if_neg h12, if_neg h13, if_neg hz2, if_neg h9, if_neg h10, if_neg h11, if_neg (by simpa using he)]; rfl
end Go.Proofs.YtdephmdfdgclpaaDoor
