/- The contracts of package expr: a node of one kid, of two. -/
import Derived.Test.YtdephmdfdgclpaaDoorEx3
namespace Go.Proofs.YtdephmdfdgclpaaDoor
open Go Go.Vc Go.RowKit

def trio (i : Int) : Prop := 0 ≤ i ∧ i < 3
theorem Tab2.and {w : World} (h : Tab2 w) {i j : Int} (hi : trio i) (hj : trio j) : w.cell? ⟨1, 0 + i.toNat * 3 + j.toNat, none⟩ = some (.int .i64 (andI i j)) := by
  obtain ⟨a, rfl⟩ := Int.eq_ofNat_of_zero_le hi.1
  obtain ⟨b, rfl⟩ := Int.eq_ofNat_of_zero_le hj.1
  unfold trio at hi hj
  rw [Int.toNat_natCast, Int.toNat_natCast, Nat.add_assoc]
  exact h.1 _ _ (tabA_at andI (by omega) (by omega))
theorem Tab2.or {w : World} (h : Tab2 w) {i j : Int} (hi : trio i) (hj : trio j) : w.cell? ⟨2, 0 + i.toNat * 3 + j.toNat, none⟩ = some (.int .i64 (orJ i j)) := by
  obtain ⟨a, rfl⟩ := Int.eq_ofNat_of_zero_le hi.1
  obtain ⟨b, rfl⟩ := Int.eq_ofNat_of_zero_le hj.1
  unfold trio at hi hj
  rw [Int.toNat_natCast, Int.toNat_natCast, Nat.add_assoc]
  exact h.2 _ _ (tabA_at orJ (by omega) (by omega))

theorem xpair_ok (op : Int) (a b : Val) (w : World) (hT : Tab2 w) (ha : fitI a.n) (hb : fitI b.n) (ht : op = 12 ∨ op = 13 → trio (thirdI a) ∧ trio (thirdI b)) :
    Calls Tryd.prog 52 #[.int .i64 op, a.agg, b.agg] w fun e w' => e = .returned (.tuple #[(pairF op a b).1.agg, .int .i64 (pairF op a b).2]) ∧ Ext w w' := by
  apply xpair_vc
  unfold xpair_T
  intro ba w2 h1 bb w5 h4 br w8 h7
  have H8 := (((Hold.start (Ext.rfl (w := w))).new h1).new h4).new h7
  have hT8 := hT.ext H8.ext
  have Ba : Blk w8 ba 26 #[.int .i64 a.k, .int .i64 a.n, .string a.s] := H8.blk 2 rfl
  have Bb : Blk w8 bb 26 #[.int .i64 b.k, .int .i64 b.n, .string b.s] := H8.blk 1 rfl
  refine ⟨fun hop w11 h11 => ?_, fun h12 => ⟨fun hop w11 h11 => ?_, fun h13 => ?_⟩⟩
  · obtain ⟨t1, t2⟩ := ht (.inl hop)
    have H11 := H8.step h11.ext
    obtain ⟨a0, a1, a2⟩ := (Ba.ext h11.ext).c3
    obtain ⟨b0, b1, b2⟩ := (Bb.ext h11.ext).c3
    refine ⟨_, a0, _, a1, _, a2, _, b0, _, b1, _, b2, (third_ok a w11).mono ?_⟩
    rintro e w20 ⟨rfl, e20⟩
    refine ⟨_, rfl, e20.same, t1.1, t1.2, (third_ok b w20).mono ?_⟩
    rintro e w23 ⟨rfl, e23⟩
    have H23 := (H11.step e20).step e23
    refine ⟨_, rfl, t2.1, t2.2, _, (hT.ext H23.ext).and t1 t2, (answer_ok _ w23).mono ?_⟩
    rintro e w27 ⟨rfl, e27⟩
    refine ⟨_, _, _, rfl, (H23.step e27).ret3 0 rfl _ _ _ fun W' hx => ⟨?_, hx⟩⟩
    unfold pairF; rw [if_pos hop]; rfl
  · obtain ⟨t1, t2⟩ := ht (.inr hop)
    have H11 := H8.step h11.ext
    obtain ⟨a0, a1, a2⟩ := (Ba.ext h11.ext).c3
    obtain ⟨b0, b1, b2⟩ := (Bb.ext h11.ext).c3
    refine ⟨_, a0, _, a1, _, a2, _, b0, _, b1, _, b2, (third_ok a w11).mono ?_⟩
    rintro e w20 ⟨rfl, e20⟩
    refine ⟨_, rfl, e20.same, t1.1, t1.2, (third_ok b w20).mono ?_⟩
    rintro e w23 ⟨rfl, e23⟩
    have H23 := (H11.step e20).step e23
    refine ⟨_, rfl, t2.1, t2.2, _, (hT.ext H23.ext).or t1 t2, (answer_ok _ w23).mono ?_⟩
    rintro e w27 ⟨rfl, e27⟩
    refine ⟨_, _, _, rfl, (H23.step e27).ret3 0 rfl _ _ _ fun W' hx => ⟨?_, hx⟩⟩
    unfold pairF; rw [if_neg h12, if_pos hop]; rfl
  · obtain ⟨a0, a1, a2⟩ := Ba.c3
    obtain ⟨b0, b1, b2⟩ := Bb.c3
    refine ⟨_, a0, fun hz => H8.ret3 0 rfl _ _ _ fun W' hx => ⟨?_, hx⟩, fun hz => ⟨_, b0, fun hz' => H8.ret3 0 rfl _ _ _ fun W' hx => ⟨?_, hx⟩, fun hz' => ⟨_, a0, _, a1, _, a2, _, b0, _, b1, _, b2, (vcompare_ok a b w8).mono ?_⟩⟩⟩
    · unfold pairF; rw [if_neg h12, if_neg h13, if_pos (.inl hz)]; rfl
    · unfold pairF; rw [if_neg h12, if_neg h13, if_pos (.inr hz')]; rfl
    rintro e w99 ⟨rfl, e99⟩
    have H99 := H8.step e99
    have hz2 : ¬ (a.k = 0 ∨ b.k = 0) := by omega
    refine ⟨_, rfl, fun h9 => (xtruth_ok _ w99).mono ?_, fun h9 => ⟨fun h10 => (xtruth_ok _ w99).mono ?_, fun h10 => ⟨fun h11 => (xtruth_ok _ w99).mono ?_, fun h11 => ?_⟩⟩⟩
    · rintro e w103 ⟨rfl, e103⟩
      refine ⟨_, _, _, rfl, (H99.step e103).ret3 0 rfl _ _ _ fun W' hx => ⟨?_, hx⟩⟩
      unfold pairF; rw [if_neg h12, if_neg h13, if_neg hz2, if_pos h9]; rfl
    · rintro e w103 ⟨rfl, e103⟩
      refine ⟨_, _, _, rfl, (H99.step e103).ret3 0 rfl _ _ _ fun W' hx => ⟨?_, hx⟩⟩
      unfold pairF; rw [if_neg h12, if_neg h13, if_neg hz2, if_neg h9, if_pos h10]; rfl
    · rintro e w103 ⟨rfl, e103⟩
      refine ⟨_, _, _, rfl, (H99.step e103).ret3 0 rfl _ _ _ fun W' hx => ⟨?_, hx⟩⟩
      unfold pairF; rw [if_neg h12, if_neg h13, if_neg hz2, if_neg h9, if_neg h10, if_pos h11]; rfl
    · refine ⟨_, cell_ext a1 e99, _, cell_ext b1 e99, (xarith_ok op ha hb w99).mono ?_⟩
      rintro e w149 ⟨rfl, e149⟩
      refine ⟨_, _, rfl, fun hne => (H99.step e149).ret3 0 rfl _ _ _ fun W' hx => ⟨?_, hx⟩, fun he => (H99.step e149).ret3 0 rfl _ _ _ fun W' hx => ⟨?_, hx⟩⟩
      · unfold pairF; rw [if_neg h12, if_neg h13, if_neg hz2, if_neg h9, if_neg h10, if_neg h11, if_pos hne]; rfl
      · unfold pairF; rw [if_neg h12, if_neg h13, if_neg hz2, if_neg h9, if_neg h10, if_neg h11, if_neg (by simpa using he)]; rfl

theorem xsingle_ok (op : Int) (v : Val) (w : World) (hT : Tab2 w) (hv : fitI v.n) :
    Calls Tryd.prog 51 #[.int .i64 op, v.agg] w fun e w' => e = .returned (.tuple #[(singleF op v).1.agg, .int .i64 (singleF op v).2]) ∧ Ext w w' := by
  apply xsingle_vc
  unfold xsingle_T
  intro bv w2 h1 br w5 h4
  have H5 := ((Hold.start (Ext.rfl (w := w))).new h1).new h4
  have Bv : Blk w5 bv 26 #[.int .i64 v.k, .int .i64 v.n, .string v.s] := H5.blk 1 rfl
  obtain ⟨a0, a1, a2⟩ := Bv.c3
  refine ⟨fun h15 => ⟨_, a0, (xtruth_ok _ w5).mono ?_⟩, fun h15 => ⟨_, a0, fun hz => ⟨_, a0, _, a1, _, a2, H5.ret3 0 rfl _ _ _ fun W' hx => ⟨?_, hx⟩⟩, fun hz => ⟨fun h14 => ⟨_, a1, (xtruth_ok _ w5).mono ?_⟩, fun h14 => ⟨fun h16 => ⟨_, a2, H5.ret3 0 rfl _ _ _ fun W' hx => ⟨?_, hx⟩⟩,
    fun h16 => ⟨_, a0, _, a1, _, a2, (xpair_ok 4 (numV 0) v w5 (hT.ext H5.ext) (by decide) hv (fun h => by omega)).mono ?_⟩⟩⟩⟩⟩
  · rintro e w10 ⟨rfl, e10⟩
    refine ⟨_, _, _, rfl, (H5.step e10).ret3 0 rfl _ _ _ fun W' hx => ⟨?_, hx⟩⟩
    unfold singleF; rw [if_pos h15]; rfl
  · unfold singleF; rw [if_neg h15, if_pos hz]; rfl
  · rintro e w10 ⟨rfl, e10⟩
    refine ⟨_, _, _, rfl, (H5.step e10).ret3 0 rfl _ _ _ fun W' hx => ⟨?_, hx⟩⟩
    unfold singleF; rw [if_neg h15, if_neg hz, if_pos h14]; rfl
  · unfold singleF; rw [if_neg h15, if_neg hz, if_neg h14, if_pos h16]; rfl
  · rintro e w68 ⟨rfl, e68⟩
    refine ⟨_, _, _, _, rfl, (H5.step e68).ret3 0 rfl _ _ _ fun W' hx => ⟨?_, hx⟩⟩
    unfold singleF; rw [if_neg h15, if_neg hz, if_neg h14, if_neg h16]; rfl
end Go.Proofs.YtdephmdfdgclpaaDoor
