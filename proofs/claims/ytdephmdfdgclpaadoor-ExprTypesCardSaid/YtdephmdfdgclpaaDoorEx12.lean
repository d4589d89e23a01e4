/- The contract of the document's Eval. -/
import Derived.Test.YtdephmdfdgclpaaDoorEx11
namespace Go.Proofs.YtdephmdfdgclpaaDoor
open Go Go.Vc Go.RowKit

theorem reval_ok (x : Ex) {w : World} {p rp : Option Addr} {n c rn rc : Nat} {cols : List Col} {row : List Val} {cs : List Value} (hc : Cols w p n c cols) (hs : ∀ y ∈ cols, y.name.size ≤ 9223372036854775807) (hr : Vs w rp rn rc row) (hx : ExAt w x cs) (hfit : ∀ u ∈ row, fitI u.n) (hxf : ∀ y ∈ nodesT x, fitI y.v.n) :
    Calls Tryd.prog 22 #[.slice p n c, .slice rp rn rc, .agg cs.toArray] w fun e w' => e = .returned (.tuple #[(evalF cols row x).1.agg, .int .i64 (evalF cols row x).2]) ∧ Ext w w' := by
  obtain ⟨xp, xn, xc, hcs, _⟩ := hx.six
  subst hcs
  apply reval_vc
  unfold reval_T
  intro b1 w2 h1 b4 w5 h4
  have H5 := ((Hold.start (Ext.rfl (w := w))).new h1).new h4
  have B1 : Blk w5 b1 29 #[.int .i64 x.op, .string x.name, .int .i64 x.v.k, .int .i64 x.v.n, .string x.v.s, .slice xp xn xc] := H5.blk 1 rfl
  obtain ⟨a0, a1, a2, a3, a4, a5⟩ := B1.c6
  refine ⟨_, a0, _, a1, _, a2, _, a3, _, a4, _, _, _, a5, (rtype_ok x (hc.ext H5.ext) hs (hx.ext H5.ext)).mono ?_⟩
  rintro e w16 ⟨rfl, e16⟩
  have H16 := H5.step e16
  refine ⟨_, _, rfl, fun hne => H16.ret3 0 rfl _ _ _ fun W' hx => ⟨?_, hx⟩, fun he => (r5fits_ok (hc.ext H16.ext) hs (hr.ext H16.ext)).mono ?_⟩
  · unfold evalF; rw [if_pos hne]; rfl
  · rintro e w30 ⟨rfl, e30⟩
    have H30 := H16.step e30
    have e130 := e16.trans e30
    refine ⟨_, rfl, fun hb => H30.ret3 0 rfl _ _ _ fun W' hx => ⟨?_, hx⟩, fun hb => ?_⟩
    · unfold evalF; rw [if_neg (by simpa using he), if_pos hb]; rfl
    · have hform : formedB x = true := by
        unfold typeF at he
        split at he
        · exact absurd he (by decide)
        · split at he
          · exact absurd he (by decide)
          · simpa using ‹¬ formedB x = false›
      have hk : (kindF cols x).2 = 0 := by
        unfold typeF at he
        split at he
        · exact absurd he (by decide)
        · rwa [if_neg (by simp [hform])] at he
      have hfits : fitsL cols row = true := by
        unfold fitsC at hb
        rw [Bool.and_eq_true] at hb
        exact hb.2
      have hfp : FormedP x := of_decide_eq_true hform
      refine ⟨_, cell_ext a0 e130, _, cell_ext a1 e130, _, cell_ext a2 e130, _, cell_ext a3 e130, _, cell_ext a4 e130, _, _, _, cell_ext a5 e130,
        (rvalue_ok _ x (Nat.le_refl _) (fun y hy => ⟨hfp.1 y hy, hxf y hy⟩) hk hfits hfit (hc.ext H30.ext) (hr.ext H30.ext) (hx.ext H30.ext)).mono ?_⟩
      rintro e w51 ⟨rfl, e51⟩
      refine ⟨_, _, _, _, rfl, (H30.step e51).ret3 0 rfl _ _ _ fun W' hx => ⟨?_, hx⟩⟩
      unfold evalF; rw [if_neg (by simpa using he), if_neg (by simp [hb])]; rfl
end Go.Proofs.YtdephmdfdgclpaaDoor
