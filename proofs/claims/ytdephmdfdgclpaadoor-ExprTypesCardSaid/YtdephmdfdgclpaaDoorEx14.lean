/- The contracts of the laws of package expr. -/
import Derived.Test.YtdephmdfdgclpaaDoorEx13
namespace Go.Proofs.YtdephmdfdgclpaaDoor
open Go Go.Vc Go.RowKit

def shownC : List Col := [⟨⟨#[98]⟩, 1, false⟩]
def shownR : List Val := [numV 3]
def shownX : Ex := twoE 3 (twoE 5 (.mk 1 ⟨#[98]⟩ nullV []) (numE 2)) (numE 1)
theorem shown_val : evalF shownC shownR shownX = (numV 7, 0) := by decide +kernel
theorem shown_ok {w : World} (hT : Tab w) (hT2 : Tab2 w) : Calls Tryd.prog 11 #[] w fun e w' => e = .returned (.bool true) ∧ Ext w w' := by
  apply shown_vc
  unfold shown_T
  intro b1 w2 h1 b4 w5 h4
  have H5 := ((Hold.start (Ext.rfl (w := w))).new h1).new h4
  refine (lnum_ok 2 w5).mono ?_
  rintro e w8 ⟨c2, rfl, x2, e8⟩
  have hb : ExAt w8 (.mk 1 ⟨#[98]⟩ nullV []) [.int .i64 1, .string ⟨#[98]⟩, .int .i64 0, .int .i64 0, .string ⟨#[]⟩, .slice none 0 0] := by
    unfold ExAt
    exact ⟨none, 0, 0, [], rfl, ⟨Nat.le_refl _, Nat.zero_le _⟩, fun _ => ⟨rfl, rfl⟩, rfl, by simp, .inl rfl, by unfold ExsAt; trivial⟩
  obtain ⟨p2, n2, d2, rfl, _⟩ := x2.six
  refine ⟨_, _, _, _, _, _, _, _, rfl, (ltwo_ok 5 hb x2).mono ?_⟩
  rintro e w18 ⟨c3, rfl, x3, e18⟩
  obtain ⟨p3, n3, d3, rfl, _⟩ := x3.six
  refine ⟨_, _, _, _, _, _, _, _, rfl, (lnum_ok 1 w18).mono ?_⟩
  rintro e w28 ⟨c4, rfl, x4, e28⟩
  obtain ⟨p4, n4, d4, rfl, _⟩ := x4.six
  refine ⟨_, _, _, _, _, _, _, _, rfl, (ltwo_ok 3 (x3.ext e28) x4).mono ?_⟩
  rintro e w38 ⟨c5, rfl, x5, e38⟩
  obtain ⟨p5, n5, d5, rfl, _⟩ := x5.six
  have H38 := (((H5.step e8).step e18).step e28).step e38
  have hc : Cols w38 (some ⟨b1, 0, none⟩) 1 1 shownC := ⟨rfl, ⟨Nat.le_refl _, by decide⟩, (H38.blk 1 rfl).at, fun h => by cases h⟩
  have hr : Vs w38 (some ⟨b4, 0, none⟩) 1 1 shownR := ⟨rfl, ⟨Nat.le_refl _, by decide⟩, (H38.blk 0 rfl).at, fun h => by cases h⟩
  refine ⟨_, _, _, _, _, _, _, _, rfl, (xEval_ok shownX (hT.ext H38.ext) (hT2.ext H38.ext) hc hr x5 (by decide) (by decide)).mono ?_⟩
  rintro e w48 ⟨rfl, e48⟩
  rw [shown_val]
  have H48 := H38.step e48
  refine ⟨_, _, _, _, rfl, fun b53 w54 h53 => ?_⟩
  have H54 := H48.new h53
  obtain ⟨q0, q1, q2⟩ := (H54.blk 0 rfl).c3
  refine ⟨⟨_, q0⟩, (H54.blk 0 rfl).frozen _, ⟨_, q1⟩, (H54.blk 0 rfl).frozen _, ⟨_, q2⟩, (H54.blk 0 rfl).frozen _, fun w59 h59 => ?_⟩
  have H59 := H54.put 0 rfl h59
  have B : Blk w59 b53 26 #[.int .i64 1, .int .i64 7, .string ⟨#[]⟩] := H59.blk 0 rfl
  obtain ⟨q0, q1, q2⟩ := B.c3
  refine ⟨fun _ => ⟨_, q0, _, q1, _, q2, ?_, H59.ext⟩, fun h => absurd rfl h⟩
  rw [sEq_self]; rfl

theorem lawTypes_ok (x : Ex) {w : World} {p : Option Addr} {n c : Nat} {cols : List Col} {cs : List Value} (hT : Tab w) (hT2 : Tab2 w) (hc : Cols w p n c cols) (hs : ∀ y ∈ cols, y.name.size ≤ 9223372036854775807) (hx : ExAt w x cs) :
    Calls Tryd.prog 5 #[.slice p n c, .agg cs.toArray] w fun e w' => e = .returned (.bool true) ∧ Ext w w' := by
  obtain ⟨xp, xn, xc, hcs, _⟩ := hx.six
  subst hcs
  apply lawTypes_vc
  unfold lawTypes_T
  intro b1 w2 h1
  have H2 := (Hold.start (Ext.rfl (w := w))).new h1
  refine (shown_ok (hT.ext H2.ext) (hT2.ext H2.ext)).mono ?_
  rintro e w5 ⟨rfl, e5⟩
  have H5 := H2.step e5
  have B1 : Blk w5 b1 29 #[.int .i64 x.op, .string x.name, .int .i64 x.v.k, .int .i64 x.v.n, .string x.v.s, .slice xp xn xc] := H5.blk 0 rfl
  obtain ⟨a0, a1, a2, a3, a4, a5⟩ := B1.c6
  refine ⟨_, rfl, _, a0, _, a1, _, a2, _, a3, _, a4, _, _, _, a5, (xtype_ok x (hT.ext H5.ext) (hc.ext H5.ext) (hx.ext H5.ext)).mono ?_⟩
  rintro e w16 ⟨rfl, e16⟩
  have H16 := H5.step e16
  refine ⟨_, _, rfl, _, cell_ext a0 e16, _, cell_ext a1 e16, _, cell_ext a2 e16, _, cell_ext a3 e16, _, cell_ext a4 e16, _, _, _, cell_ext a5 e16, (rtype_ok x (hc.ext H16.ext) hs (hx.ext H16.ext)).mono ?_⟩
  rintro e w28 ⟨rfl, e28⟩
  exact ⟨_, _, rfl, by simp, (H16.step e28).ext⟩

theorem lawEvals_ok (x : Ex) {w : World} {p rp : Option Addr} {n c rn rc : Nat} {cols : List Col} {row : List Val} {cs : List Value} (hT : Tab w) (hT2 : Tab2 w) (hc : Cols w p n c cols) (hs : ∀ y ∈ cols, y.name.size ≤ 9223372036854775807) (hr : Vs w rp rn rc row) (hx : ExAt w x cs)
    (hfit : ∀ u ∈ row, fitI u.n) (hxf : ∀ y ∈ nodesT x, fitI y.v.n) :
    Calls Tryd.prog 6 #[.slice p n c, .slice rp rn rc, .agg cs.toArray] w fun e w' => e = .returned (.bool true) ∧ Ext w w' := by
  obtain ⟨xp, xn, xc, hcs, _⟩ := hx.six
  subst hcs
  apply lawEvals_vc
  unfold lawEvals_T
  intro b1 w2 h1
  have H2 := (Hold.start (Ext.rfl (w := w))).new h1
  refine (shown_ok (hT.ext H2.ext) (hT2.ext H2.ext)).mono ?_
  rintro e w5 ⟨rfl, e5⟩
  have H5 := H2.step e5
  have B1 : Blk w5 b1 29 #[.int .i64 x.op, .string x.name, .int .i64 x.v.k, .int .i64 x.v.n, .string x.v.s, .slice xp xn xc] := H5.blk 0 rfl
  obtain ⟨a0, a1, a2, a3, a4, a5⟩ := B1.c6
  refine ⟨_, rfl, _, a0, _, a1, _, a2, _, a3, _, a4, _, _, _, a5, (xEval_ok x (hT.ext H5.ext) (hT2.ext H5.ext) (hc.ext H5.ext) (hr.ext H5.ext) (hx.ext H5.ext) hfit hxf).mono ?_⟩
  rintro e w16 ⟨rfl, e16⟩
  refine ⟨_, _, _, _, rfl, fun b21 w22 h21 => ?_⟩
  have H22 := (H5.step e16).new h21
  obtain ⟨q0, q1, q2⟩ := (H22.blk 0 rfl).c3
  refine ⟨⟨_, q0⟩, (H22.blk 0 rfl).frozen _, ⟨_, q1⟩, (H22.blk 0 rfl).frozen _, ⟨_, q2⟩, (H22.blk 0 rfl).frozen _, fun w27 h27 => ?_⟩
  have H27 := H22.put 0 rfl h27
  have B1 : Blk w27 b1 29 #[.int .i64 x.op, .string x.name, .int .i64 x.v.k, .int .i64 x.v.n, .string x.v.s, .slice xp xn xc] := H27.blk 1 rfl
  obtain ⟨a0, a1, a2, a3, a4, a5⟩ := B1.c6
  refine ⟨_, a0, _, a1, _, a2, _, a3, _, a4, _, _, _, a5, (reval_ok x (hc.ext H27.ext) hs (hr.ext H27.ext) (hx.ext H27.ext) hfit hxf).mono ?_⟩
  rintro e w38 ⟨rfl, e38⟩
  refine ⟨_, _, _, _, rfl, fun b43 w44 h43 => ?_⟩
  have H44 := (H27.step e38).new h43
  obtain ⟨q0, q1, q2⟩ := (H44.blk 0 rfl).c3
  refine ⟨⟨_, q0⟩, (H44.blk 0 rfl).frozen _, ⟨_, q1⟩, (H44.blk 0 rfl).frozen _, ⟨_, q2⟩, (H44.blk 0 rfl).frozen _, fun w49 h49 => ?_⟩
  have H49 := H44.put 0 rfl h49
  have Bb : Blk w49 b43 26 #[.int .i64 (evalF cols row x).1.k, .int .i64 (evalF cols row x).1.n, .string (evalF cols row x).1.s] := H49.blk 0 rfl
  have Ba : Blk w49 b21 26 #[.int .i64 (evalF cols row x).1.k, .int .i64 (evalF cols row x).1.n, .string (evalF cols row x).1.s] := H49.blk 1 rfl
  obtain ⟨p0, p1, p2⟩ := Ba.c3
  obtain ⟨q0, q1, q2⟩ := Bb.c3
  refine ⟨fun _ => ⟨_, p0, _, p1, _, p2, _, q0, _, q1, _, q2, ?_, H49.ext⟩, fun h => by cases h⟩
  rw [sEq_self]; simp
end Go.Proofs.YtdephmdfdgclpaaDoor
