/- The contracts of the document's answer for expressions: which are well formed. -/
import Derived.Test.YtdephmdfdgclpaaDoorXR
import Derived.Test.YtdephmdfdgclpaaDoorEx6
namespace Go.Proofs.YtdephmdfdgclpaaDoor
open Go Go.Vc Go.RowKit

theorem many_ok (op : Int) (w : World) : Calls Tryd.prog 81 #[.int .i64 op] w fun e w' => e = .returned (.int .i64 (manyOf op)) ∧ Ext w w' := by
  apply many_vc
  unfold many_T
  have m0 : op = 1 ∨ op = 2 → manyOf op = 0 := fun h => by unfold manyOf; rw [if_pos h]
  have m1 : op = 8 ∨ op = 14 ∨ op = 15 ∨ op = 16 → manyOf op = 1 := fun h => by unfold manyOf; rw [if_neg (by omega), if_pos h]
  have m2 : 3 ≤ op ∧ op ≤ 7 ∨ 9 ≤ op ∧ op ≤ 13 → manyOf op = 2 := fun h => by unfold manyOf; rw [if_neg (by omega), if_neg (by omega), if_pos (by omega)]
  have m3 : ¬ (1 ≤ op ∧ op ≤ 16) → manyOf op = -1 := fun h => by unfold manyOf; rw [if_neg (by omega), if_neg (by omega), if_neg (by omega)]
  have good : ∀ v : Int, v = manyOf op → Ending.returned (.int .i64 v) = Ending.returned (.int .i64 (manyOf op)) ∧ Ext w w := fun v h => ⟨by rw [h], .rfl⟩
  generalize manyOf op = m at m0 m1 m2 m3 good ⊢
  repeat' first
    | exact good _ (by omega)
    | omega
    | intro _
    | refine And.intro ?_ ?_
theorem wants_ok (op : Int) (w : World) : Calls Tryd.prog 55 #[.int .i64 op] w fun e w' => e = .returned (.int .i64 (wantOf op)) ∧ Ext w w' := by
  apply wants_vc
  unfold wants_T
  have m0 : 3 ≤ op ∧ op ≤ 8 → wantOf op = 1 := fun h => by unfold wantOf; rw [if_pos h]
  have m1 : 12 ≤ op ∧ op ≤ 14 → wantOf op = 2 := fun h => by unfold wantOf; rw [if_neg (by omega), if_pos h]
  have m2 : op = 16 → wantOf op = 3 := fun h => by unfold wantOf; rw [if_neg (by omega), if_neg (by omega), if_pos h]
  have m3 : ¬ (3 ≤ op ∧ op ≤ 8 ∨ 12 ≤ op ∧ op ≤ 14 ∨ op = 16) → wantOf op = 0 := fun h => by unfold wantOf; rw [if_neg (by omega), if_neg (by omega), if_neg (by omega)]
  have good : ∀ v : Int, v = wantOf op → Ending.returned (.int .i64 v) = Ending.returned (.int .i64 (wantOf op)) ∧ Ext w w := fun v h => ⟨by rw [h], .rfl⟩
  generalize wantOf op = m at m0 m1 m2 m3 good ⊢
  repeat' first
    | exact good _ (by omega)
    | omega
    | intro _
    | refine And.intro ?_ ?_

theorem refFs_neg {l : List Ex} {d left : Int} (h : left < 0) : refFs l d left = left := by
  cases l with
  | nil => rw [refFs]
  | cons k r => rw [refFs, if_pos h]
set_option maxHeartbeats 4000000 in
theorem rformed_ok : ∀ (N : Nat) (x : Ex) {w : World} {cs : List Value} (d left : Int), depthT x ≤ N → -100 ≤ d → d ≤ 100 → 0 ≤ left → left ≤ 400 → ExAt w x cs →
    Calls Tryd.prog 53 #[.agg cs.toArray, .int .i64 d, .int .i64 left] w fun e w' => e = .returned (.int .i64 (refF x d left)) ∧ Ext w w' := by
  intro N
  induction N with
  | zero => intro x w cs d left hd; cases x; unfold depthT at hd; omega
  | succ N ih =>
  intro x w cs d left hdep hd0 hd1 hl0 hl1 hx
  obtain ⟨xp, xn, xc, rfl, hkl, hxn, hkid⟩ := hx.six
  apply rformed_vc
  unfold rformed_T
  intro b1 w2 h1
  have H2 := (Hold.start (Ext.rfl (w := w))).new h1
  have B1 : Blk w2 b1 29 #[.int .i64 x.op, .string x.name, .int .i64 x.v.k, .int .i64 x.v.n, .string x.v.s, .slice xp xn xc] := H2.blk 0 rfl
  obtain ⟨a0, a1, a2, a3, a4, a5⟩ := B1.c6
  have hrf : refF x d left = if d < 1 ∨ left < 1 ∨ ¬ NodeOk x then -1 else refFs x.kids (d - 1) (left - 1) := by cases x; rw [refF]; rfl
  refine ⟨_, a2, _, a3, _, a4, (rvright_ok x.v w2).mono ?_⟩
  rintro e w8 ⟨rfl, e8⟩
  refine ⟨_, rfl, fun w10 h10 => ?_⟩
  have H10 := (H2.step e8).step h10.ext
  have B1 : Blk w10 b1 29 #[.int .i64 x.op, .string x.name, .int .i64 x.v.k, .int .i64 x.v.n, .string x.v.s, .slice xp xn xc] := H10.blk 0 rfl
  obtain ⟨a0, a1, a2, a3, a4, a5⟩ := B1.c6
  refine ⟨fun hb => ⟨Same.refl _, ?_, H10.ext⟩, fun hg => ⟨_, _, _, a5, _, a0, (many_ok x.op w10).mono ?_⟩⟩
  · rw [hrf, if_pos (by omega)]
  rintro e w19 ⟨rfl, e19⟩
  have H19 := H10.step e19
  have bad : ¬ NodeOk x → Ending.returned (Value.int .i64 (-1)) = Ending.returned (Value.int .i64 (refF x d left)) ∧ Ext w w19 := fun h => ⟨by rw [hrf, if_pos (.inr (.inr h))], H19.ext⟩
  have nullI : x.v = nullV ↔ x.v.k = 0 ∧ x.v.n = 0 ∧ x.v.s = ⟨#[]⟩ := Val.ext'
  have b0 := cell_ext a0 e19
  have b1' := cell_ext a1 e19
  have b2 := cell_ext a2 e19
  have b3 := cell_ext a3 e19
  have b4 := cell_ext a4 e19
  refine ⟨_, rfl, e19.same, fun hb => bad ?_, fun ⟨hm, hv⟩ => ?_⟩
  · rintro ⟨h, _, _, ho⟩
    rcases hb with hb | hb
    · omega
    · exact absurd ho (of_decide_eq_false hb)
  have hvo : x.v.Ok := of_decide_eq_true hv
  have I0 : ∀ (hok : NodeOk x), ∃ j : Nat, (0 : Int) = (j : Int) ∧ j ≤ xn ∧ refFs (x.kids.drop j) (d - 1) (IntKind.i64.wrap (left - 1)) = refF x d left ∧ IntKind.i64.wrap (left - 1) ≤ 400 ∧
      Hold w w19 [(b1, .cells #[.int .i64 x.op, .string x.name, .int .i64 x.v.k, .int .i64 x.v.n, .string x.v.s, .slice xp xn xc] 29 (0, 0))] [] := by
    intro hok
    rw [i64_fit (by omega) (by omega)]
    refine ⟨0, rfl, Nat.zero_le _, ?_, by omega, H19⟩
    rw [hrf, if_neg]
    · rfl
    · rintro (h | h | h)
      · omega
      · omega
      · exact h hok
  refine ⟨_, b0, fun h1 => ⟨_, b1', fun hn => bad ?_, fun hn => ⟨_, b0, fun h2 => ⟨_, b2, _, b3, _, b4, fun hz => bad ?_, fun hz => ?_⟩, fun h2 => ?_⟩⟩, fun h1 => ⟨_, b0, fun h2 => ⟨_, b2, _, b3, _, b4, fun hz => bad ?_, fun hz => ?_⟩, fun h2 => ?_⟩⟩
  · rintro ⟨_, h, _⟩
    rcases h with h | h
    · exact h1 h
    · exact hn h
  · rintro ⟨_, _, h, _⟩
    rcases h with h | h
    · exact h2 h
    · have := nullI.1 h
      rcases hz with hz | hz | hz
      · exact hz this.1
      · exact hz this.2.1
      · exact hz this.2.2
  rotate_left 2
  · rintro ⟨_, _, h, _⟩
    rcases h with h | h
    · exact h2 h
    · have := nullI.1 h
      rcases hz with hz | hz | hz
      · exact hz this.1
      · exact hz this.2.1
      · exact hz this.2.2
  all_goals
    have hok : NodeOk x := ⟨by omega, by first | exact .inl h1 | exact .inr hn, by first | exact .inl h2 | exact .inr (nullI.2 hz), hvo⟩
    refine ⟨fun lf i W => ∃ j : Nat, i = (j : Int) ∧ j ≤ xn ∧ refFs (x.kids.drop j) (d - 1) lf = refF x d left ∧ lf ≤ 400 ∧ Hold w W [(b1, .cells #[.int .i64 x.op, .string x.name, .int .i64 x.v.k, .int .i64 x.v.n, .string x.v.s, .slice xp xn xc] 29 (0, 0))] [],
      fun _ i _ => xn - i.toNat, I0 hok, ?_⟩
    rintro lf i W ⟨j, rfl, hj, hrun, hlf, H⟩
    have B1 : Blk W b1 29 #[.int .i64 x.op, .string x.name, .int .i64 x.v.k, .int .i64 x.v.n, .string x.v.s, .slice xp xn xc] := H.blk 0 rfl
    obtain ⟨_, _, _, _, _, a5⟩ := B1.c6
    refine ⟨_, _, _, a5, fun ⟨hlt, hpos⟩ => ?_, fun hex => ⟨?_, H.ext⟩⟩
    · have g : x.kids[j]? = some (x.kids[j]'(by omega)) := List.getElem?_eq_getElem _
      have hdrop : x.kids.drop j = x.kids[j]'(by omega) :: x.kids.drop (j + 1) := List.drop_eq_getElem_cons _
      generalize x.kids[j]'(by omega) = k at g hdrop
      obtain ⟨kc, b, o, hk, hp, hcell⟩ := hkid H.ext g
      obtain ⟨kp, kn, kcap, hkc, _⟩ := hk.six
      simp only [Int.toNat_natCast]
      have e0 := hcell 0 _ (by rw [hkc]; rfl)
      have e1 := hcell 1 _ (by rw [hkc]; rfl)
      have e2 := hcell 2 _ (by rw [hkc]; rfl)
      have e3 := hcell 3 _ (by rw [hkc]; rfl)
      have e4 := hcell 4 _ (by rw [hkc]; rfl)
      have e5 := hcell 5 _ (by rw [hkc]; rfl)
      subst hkc
      rw [i64_fit (n := d - 1) (by omega) (by omega)]
      refine ⟨_, _, _, a5, b, o, hp, by omega, by omega, _, e0, _, e1, _, e2, _, e3, _, e4, _, _, _, e5, (ih k (d - 1) lf (by have := kid_depth g; omega) (by omega) (by omega) hpos hlf (hk.ext H.ext)).mono ?_⟩
      rintro e w59 ⟨rfl, e59⟩
      rw [i64_next (by omega)]
      refine ⟨_, rfl, ⟨j + 1, rfl, by omega, ?_, ?_, H.step e59⟩, by simp only [Int.toNat_natCast]; omega⟩
      · rw [← hrun, hdrop, refFs, if_neg (by omega)]
      · have := (refF_spec k (d - 1) lf).2
        omega
    · rcases (by omega : j = xn ∨ lf < 0) with h | h
      · rw [← hrun, List.drop_eq_nil_of_le (by omega), refFs]
      · rw [← hrun, refFs_neg h]
theorem rFormed_ok (x : Ex) {w : World} {cs : List Value} (hx : ExAt w x cs) : Calls Tryd.prog 36 #[.agg cs.toArray] w fun e w' => e = .returned (.bool (formedB x)) ∧ Ext w w' := by
  obtain ⟨xp, xn, xc, hcs, _⟩ := hx.six
  subst hcs
  apply rFormed_vc
  unfold rFormed_T
  intro b1 w2 h1
  have H2 := (Hold.start (Ext.rfl (w := w))).new h1
  have B1 : Blk w2 b1 29 #[.int .i64 x.op, .string x.name, .int .i64 x.v.k, .int .i64 x.v.n, .string x.v.s, .slice xp xn xc] := H2.blk 0 rfl
  obtain ⟨a0, a1, a2, a3, a4, a5⟩ := B1.c6
  refine ⟨_, a0, _, a1, _, a2, _, a3, _, a4, _, _, _, a5, (rformed_ok _ x 40 400 (Nat.le_refl _) (by omega) (by omega) (by omega) (by omega) (hx.ext H2.ext)).mono ?_⟩
  rintro e w5 ⟨rfl, e5⟩
  exact ⟨_, rfl, by rw [← refF_formed], (H2.step e5).ext⟩
end Go.Proofs.YtdephmdfdgclpaaDoor
