/- Texts of the proof, one behind the other. -/
import Derived.Test.YtpjafkcmbinjiaaDoorMf
import Derived.Lib.LaidTab
import Derived.Test.YtpjafkcmbinjiaaDoorRows
import Derived.JoinedOf
set_option linter.unusedVariables false
set_option linter.unusedSimpArgs false
/- The laws of prune: answers, and turned round. -/
namespace Go.Proofs.YtpjafkcmbinjiaaDoor
open Go Go.Vc Go.RowKit
set_option maxRecDepth 20000
attribute [local irreducible] Calls Put Drew New

def lessX (name : ByteArray) (n : Int) : Ex := .mk 10 ⟨#[]⟩ nullV [.mk 1 name nullV [], .mk 2 ⟨#[]⟩ (numV n) []]
theorem leaf_at {w : World} (op : Int) (name : ByteArray) (v : Val) : ExAt w (.mk op name v []) [.int .i64 op, .string name, .int .i64 v.k, .int .i64 v.n, .string v.s, .slice none 0 0] := by
  unfold ExAt
  exact ⟨none, 0, 0, [], rfl, ⟨Nat.le_refl _, Nat.zero_le _⟩, fun _ => ⟨rfl, rfl⟩, rfl, by simp, .inl rfl, by unfold ExsAt; trivial⟩
theorem lless_ok (name : ByteArray) (n : Int) (w : World) : Calls Tryd.prog 16 #[.string name, .int .i64 n] w fun e w' => ∃ cs, e = .returned (.agg cs.toArray) ∧ ExAt w' (lessX name n) cs ∧ Ext w w' := by
  apply lless_vc
  unfold lless_T
  intro b1 w2 h1 b4 w5 h4
  have H := ((Hold.start (Ext.rfl (w := w))).new h1).new h4
  have hne : b4 ≠ b1 := H.keys 0 1 _ _ rfl rfl (by decide)
  repeat (first
    | (intro _ _ hS; replace H := H.new hS; clear hS)
    | (intro _ hS; (first | replace H := H.put 0 rfl hS | replace H := H.put 1 rfl hS | replace H := H.put 2 rfl hS | replace H := H.put 3 rfl hS | replace H := H.put 4 rfl hS | replace H := H.put 5 rfl hS | replace H := H.put 6 rfl hS | replace H := H.put 7 rfl hS); clear hS; try simp only [setA, List.setIfInBounds_toArray, List.set_cons_zero, List.set_cons_succ, Nat.zero_add, Nat.reduceAdd] at H)
    | (intro _ hS; replace H := H.step (Drew.ext hS); clear hS)
    | (first | refine ⟨⟨_, H.get 0 rfl rfl⟩, ?_⟩ | refine ⟨⟨_, H.get 1 rfl rfl⟩, ?_⟩ | refine ⟨⟨_, H.get 2 rfl rfl⟩, ?_⟩ | refine ⟨⟨_, H.get 3 rfl rfl⟩, ?_⟩ | refine ⟨⟨_, H.get 4 rfl rfl⟩, ?_⟩ | refine ⟨⟨_, H.get 5 rfl rfl⟩, ?_⟩ | refine ⟨⟨_, H.get 6 rfl rfl⟩, ?_⟩ | refine ⟨⟨_, H.get 7 rfl rfl⟩, ?_⟩)
    | (first | refine ⟨H.frz 0 rfl, ?_⟩ | refine ⟨H.frz 1 rfl, ?_⟩ | refine ⟨H.frz 2 rfl, ?_⟩ | refine ⟨H.frz 3 rfl, ?_⟩ | refine ⟨H.frz 4 rfl, ?_⟩ | refine ⟨H.frz 5 rfl, ?_⟩ | refine ⟨H.frz 6 rfl, ?_⟩ | refine ⟨H.frz 7 rfl, ?_⟩)
    | (first | refine ⟨_, H.get 0 rfl rfl, ?_⟩ | refine ⟨_, H.get 1 rfl rfl, ?_⟩ | refine ⟨_, H.get 2 rfl rfl, ?_⟩ | refine ⟨_, H.get 3 rfl rfl, ?_⟩ | refine ⟨_, H.get 4 rfl rfl, ?_⟩ | refine ⟨_, H.get 5 rfl rfl, ?_⟩ | refine ⟨_, H.get 6 rfl rfl, ?_⟩ | refine ⟨_, H.get 7 rfl rfl, ?_⟩)
    | (first | refine ⟨_, _, _, H.get 0 rfl rfl, ?_⟩ | refine ⟨_, _, _, H.get 1 rfl rfl, ?_⟩ | refine ⟨_, _, _, H.get 2 rfl rfl, ?_⟩ | refine ⟨_, _, _, H.get 3 rfl rfl, ?_⟩ | refine ⟨_, _, _, H.get 4 rfl rfl, ?_⟩ | refine ⟨_, _, _, H.get 5 rfl rfl, ?_⟩ | refine ⟨_, _, _, H.get 6 rfl rfl, ?_⟩ | refine ⟨_, _, _, H.get 7 rfl rfl, ?_⟩))
  refine ⟨[.int .i64 10, .string ⟨#[]⟩, .int .i64 0, .int .i64 0, .string ⟨#[]⟩, .slice (some ⟨b4, 0, none⟩) 2 2], rfl, ?_, H.ext⟩
  have hB := H.blk 0 rfl
  unfold lessX ExAt
  refine ⟨some ⟨b4, 0, none⟩, 2, 2, [[.int .i64 1, .string name, .int .i64 0, .int .i64 0, .string ⟨#[]⟩, .slice none 0 0], [.int .i64 2, .string ⟨#[]⟩, .int .i64 1, .int .i64 n, .string ⟨#[]⟩, .slice none 0 0]], rfl, ⟨Nat.le_refl _, by decide⟩, fun h => (by cases h), rfl, ?_, hB.at, ?_⟩
  · intro x hx
    simp only [List.mem_cons, List.not_mem_nil, or_false] at hx
    rcases hx with rfl | rfl <;> rfl
  · unfold ExsAt
    refine ⟨leaf_at 1 name nullV, ?_⟩
    unfold ExsAt
    exact ⟨leaf_at 2 ⟨#[]⟩ (numV n), by unfold ExsAt; trivial⟩
def shownC : List Col := [⟨⟨#[97]⟩, 1, false⟩]
def shownZ : List Zn := [⟨0, numV 5, numV 9⟩]
theorem shown_a : answersF shownC shownZ 3 (lessX ⟨#[97]⟩ 5) = (1, 0) := by decide +kernel
theorem shown_b : answersF shownC shownZ 3 (lessX ⟨#[97]⟩ 6) = (3, 0) := by decide +kernel
theorem shown16_ok {w : World} (hT : Tab w) : Calls Tryd.prog 7 #[] w fun e w' => e = .returned (.bool true) ∧ Ext w w' := by
  apply shown16_vc
  unfold shown16_T
  intro b1 w2 h1 b4 w5 h4
  have H := ((Hold.start (Ext.rfl (w := w))).new h1).new h4
  have cols : ∀ {W : World} {o : Obj} , Hold w W [(b4, o), (b1, .cells #[.string ⟨#[97]⟩, .int .i64 1, .bool false] 48 (0, 0))] [] → Cols W (some ⟨b1, 0, none⟩) 1 1 shownC := fun H => ⟨rfl, ⟨Nat.le_refl _, by decide⟩, (H.blk 1 rfl).at, fun h => by cases h⟩
  have zones : ∀ {W : World} {o : Nat × Obj}, Hold w W [(b4, .cells #[.int .i64 0, .int .i64 1, .int .i64 5, .string ⟨#[]⟩, .int .i64 1, .int .i64 9, .string ⟨#[]⟩] 50 (0, 0)), o] [] → Zns W (some ⟨b4, 0, none⟩) 1 1 shownZ := fun H => ⟨rfl, ⟨Nat.le_refl _, by decide⟩, (H.blk 0 rfl).at, fun h => by cases h⟩
  refine (lless_ok _ _ _).mono ?_
  rintro e W ⟨cs, rfl, x1, eX⟩
  replace H := H.step eX
  obtain ⟨p1, n1, c1, rfl, _⟩ := x1.six
  refine ⟨_, _, _, _, _, _, _, _, rfl, (pAnswers_ok (m := 3) _ (hT.ext H.ext) (cols H) (zones H) x1).mono ?_⟩
  rintro e W ⟨rfl, eX⟩
  replace H := H.step eX
  refine ⟨_, _, rfl, (lless_ok _ _ _).mono ?_⟩
  rintro e W ⟨cs, rfl, x2, eX⟩
  replace H := H.step eX
  obtain ⟨p2, n2, c2, rfl, _⟩ := x2.six
  refine ⟨_, _, _, _, _, _, _, _, rfl, (pAnswers_ok (m := 3) _ (hT.ext H.ext) (cols H) (zones H) x2).mono ?_⟩
  rintro e W ⟨rfl, eX⟩
  replace H := H.step eX
  refine ⟨_, _, rfl, ?_, H.ext⟩
  rw [shown_a, shown_b]; rfl

set_option maxHeartbeats 4000000 in
theorem lawAnswers_ok (x : Ex) {m : Int} {w : World} {p zp : Option Addr} {n c zn zc : Nat} {cols : List Col} {zones : List Zn} {cs : List Value} (hT : Tab w) (hc : Cols w p n c cols) (hs : ∀ y ∈ cols, y.name.size ≤ 9223372036854775807) (hz : Zns w zp zn zc zones) (hx : ExAt w x cs) :
    Calls Tryd.prog 5 #[.slice p n c, .slice zp zn zc, .int .i64 m, .agg cs.toArray] w fun e w' => e = .returned (.bool true) ∧ Ext w w' := by
  obtain ⟨xp, xn, xc, rfl, _⟩ := hx.six
  apply lawAnswers_vc
  unfold lawAnswers_T
  have H := Hold.start (Ext.rfl (w := w))
  repeat (first
    | (intro _ _ hS; replace H := H.new hS; clear hS)
    | (intro _ hS; (first | replace H := H.put 0 rfl hS | replace H := H.put 1 rfl hS | replace H := H.put 2 rfl hS | replace H := H.put 3 rfl hS | replace H := H.put 4 rfl hS | replace H := H.put 5 rfl hS | replace H := H.put 6 rfl hS | replace H := H.put 7 rfl hS); clear hS; try simp only [setA, List.setIfInBounds_toArray, List.set_cons_zero, List.set_cons_succ, Nat.zero_add, Nat.reduceAdd] at H)
    | (intro _ hS; replace H := H.step (Drew.ext hS); clear hS)
    | (first | refine ⟨⟨_, H.get 0 rfl rfl⟩, ?_⟩ | refine ⟨⟨_, H.get 1 rfl rfl⟩, ?_⟩ | refine ⟨⟨_, H.get 2 rfl rfl⟩, ?_⟩ | refine ⟨⟨_, H.get 3 rfl rfl⟩, ?_⟩ | refine ⟨⟨_, H.get 4 rfl rfl⟩, ?_⟩ | refine ⟨⟨_, H.get 5 rfl rfl⟩, ?_⟩ | refine ⟨⟨_, H.get 6 rfl rfl⟩, ?_⟩ | refine ⟨⟨_, H.get 7 rfl rfl⟩, ?_⟩)
    | (first | refine ⟨H.frz 0 rfl, ?_⟩ | refine ⟨H.frz 1 rfl, ?_⟩ | refine ⟨H.frz 2 rfl, ?_⟩ | refine ⟨H.frz 3 rfl, ?_⟩ | refine ⟨H.frz 4 rfl, ?_⟩ | refine ⟨H.frz 5 rfl, ?_⟩ | refine ⟨H.frz 6 rfl, ?_⟩ | refine ⟨H.frz 7 rfl, ?_⟩)
    | (first | refine ⟨_, H.get 0 rfl rfl, ?_⟩ | refine ⟨_, H.get 1 rfl rfl, ?_⟩ | refine ⟨_, H.get 2 rfl rfl, ?_⟩ | refine ⟨_, H.get 3 rfl rfl, ?_⟩ | refine ⟨_, H.get 4 rfl rfl, ?_⟩ | refine ⟨_, H.get 5 rfl rfl, ?_⟩ | refine ⟨_, H.get 6 rfl rfl, ?_⟩ | refine ⟨_, H.get 7 rfl rfl, ?_⟩)
    | (first | refine ⟨_, _, _, H.get 0 rfl rfl, ?_⟩ | refine ⟨_, _, _, H.get 1 rfl rfl, ?_⟩ | refine ⟨_, _, _, H.get 2 rfl rfl, ?_⟩ | refine ⟨_, _, _, H.get 3 rfl rfl, ?_⟩ | refine ⟨_, _, _, H.get 4 rfl rfl, ?_⟩ | refine ⟨_, _, _, H.get 5 rfl rfl, ?_⟩ | refine ⟨_, _, _, H.get 6 rfl rfl, ?_⟩ | refine ⟨_, _, _, H.get 7 rfl rfl, ?_⟩))
  refine (shown16_ok (hT.ext H.ext)).mono ?_
  rintro e W ⟨rfl, eX⟩
  replace H := H.step eX
  refine ⟨_, rfl, ?_⟩
  repeat (first
    | (intro _ _ hS; replace H := H.new hS; clear hS)
    | (intro _ hS; (first | replace H := H.put 0 rfl hS | replace H := H.put 1 rfl hS | replace H := H.put 2 rfl hS | replace H := H.put 3 rfl hS | replace H := H.put 4 rfl hS | replace H := H.put 5 rfl hS | replace H := H.put 6 rfl hS | replace H := H.put 7 rfl hS); clear hS; try simp only [setA, List.setIfInBounds_toArray, List.set_cons_zero, List.set_cons_succ, Nat.zero_add, Nat.reduceAdd] at H)
    | (intro _ hS; replace H := H.step (Drew.ext hS); clear hS)
    | (first | refine ⟨⟨_, H.get 0 rfl rfl⟩, ?_⟩ | refine ⟨⟨_, H.get 1 rfl rfl⟩, ?_⟩ | refine ⟨⟨_, H.get 2 rfl rfl⟩, ?_⟩ | refine ⟨⟨_, H.get 3 rfl rfl⟩, ?_⟩ | refine ⟨⟨_, H.get 4 rfl rfl⟩, ?_⟩ | refine ⟨⟨_, H.get 5 rfl rfl⟩, ?_⟩ | refine ⟨⟨_, H.get 6 rfl rfl⟩, ?_⟩ | refine ⟨⟨_, H.get 7 rfl rfl⟩, ?_⟩)
    | (first | refine ⟨H.frz 0 rfl, ?_⟩ | refine ⟨H.frz 1 rfl, ?_⟩ | refine ⟨H.frz 2 rfl, ?_⟩ | refine ⟨H.frz 3 rfl, ?_⟩ | refine ⟨H.frz 4 rfl, ?_⟩ | refine ⟨H.frz 5 rfl, ?_⟩ | refine ⟨H.frz 6 rfl, ?_⟩ | refine ⟨H.frz 7 rfl, ?_⟩)
    | (first | refine ⟨_, H.get 0 rfl rfl, ?_⟩ | refine ⟨_, H.get 1 rfl rfl, ?_⟩ | refine ⟨_, H.get 2 rfl rfl, ?_⟩ | refine ⟨_, H.get 3 rfl rfl, ?_⟩ | refine ⟨_, H.get 4 rfl rfl, ?_⟩ | refine ⟨_, H.get 5 rfl rfl, ?_⟩ | refine ⟨_, H.get 6 rfl rfl, ?_⟩ | refine ⟨_, H.get 7 rfl rfl, ?_⟩)
    | (first | refine ⟨_, _, _, H.get 0 rfl rfl, ?_⟩ | refine ⟨_, _, _, H.get 1 rfl rfl, ?_⟩ | refine ⟨_, _, _, H.get 2 rfl rfl, ?_⟩ | refine ⟨_, _, _, H.get 3 rfl rfl, ?_⟩ | refine ⟨_, _, _, H.get 4 rfl rfl, ?_⟩ | refine ⟨_, _, _, H.get 5 rfl rfl, ?_⟩ | refine ⟨_, _, _, H.get 6 rfl rfl, ?_⟩ | refine ⟨_, _, _, H.get 7 rfl rfl, ?_⟩))
  refine (pAnswers_ok (m := m) x (hT.ext H.ext) (hc.ext H.ext) (hz.ext H.ext) (hx.ext H.ext)).mono ?_
  rintro e W ⟨rfl, eX⟩
  replace H := H.step eX
  refine ⟨_, _, rfl, ?_⟩
  repeat (first
    | (intro _ _ hS; replace H := H.new hS; clear hS)
    | (intro _ hS; (first | replace H := H.put 0 rfl hS | replace H := H.put 1 rfl hS | replace H := H.put 2 rfl hS | replace H := H.put 3 rfl hS | replace H := H.put 4 rfl hS | replace H := H.put 5 rfl hS | replace H := H.put 6 rfl hS | replace H := H.put 7 rfl hS); clear hS; try simp only [setA, List.setIfInBounds_toArray, List.set_cons_zero, List.set_cons_succ, Nat.zero_add, Nat.reduceAdd] at H)
    | (intro _ hS; replace H := H.step (Drew.ext hS); clear hS)
    | (first | refine ⟨⟨_, H.get 0 rfl rfl⟩, ?_⟩ | refine ⟨⟨_, H.get 1 rfl rfl⟩, ?_⟩ | refine ⟨⟨_, H.get 2 rfl rfl⟩, ?_⟩ | refine ⟨⟨_, H.get 3 rfl rfl⟩, ?_⟩ | refine ⟨⟨_, H.get 4 rfl rfl⟩, ?_⟩ | refine ⟨⟨_, H.get 5 rfl rfl⟩, ?_⟩ | refine ⟨⟨_, H.get 6 rfl rfl⟩, ?_⟩ | refine ⟨⟨_, H.get 7 rfl rfl⟩, ?_⟩)
    | (first | refine ⟨H.frz 0 rfl, ?_⟩ | refine ⟨H.frz 1 rfl, ?_⟩ | refine ⟨H.frz 2 rfl, ?_⟩ | refine ⟨H.frz 3 rfl, ?_⟩ | refine ⟨H.frz 4 rfl, ?_⟩ | refine ⟨H.frz 5 rfl, ?_⟩ | refine ⟨H.frz 6 rfl, ?_⟩ | refine ⟨H.frz 7 rfl, ?_⟩)
    | (first | refine ⟨_, H.get 0 rfl rfl, ?_⟩ | refine ⟨_, H.get 1 rfl rfl, ?_⟩ | refine ⟨_, H.get 2 rfl rfl, ?_⟩ | refine ⟨_, H.get 3 rfl rfl, ?_⟩ | refine ⟨_, H.get 4 rfl rfl, ?_⟩ | refine ⟨_, H.get 5 rfl rfl, ?_⟩ | refine ⟨_, H.get 6 rfl rfl, ?_⟩ | refine ⟨_, H.get 7 rfl rfl, ?_⟩)
    | (first | refine ⟨_, _, _, H.get 0 rfl rfl, ?_⟩ | refine ⟨_, _, _, H.get 1 rfl rfl, ?_⟩ | refine ⟨_, _, _, H.get 2 rfl rfl, ?_⟩ | refine ⟨_, _, _, H.get 3 rfl rfl, ?_⟩ | refine ⟨_, _, _, H.get 4 rfl rfl, ?_⟩ | refine ⟨_, _, _, H.get 5 rfl rfl, ?_⟩ | refine ⟨_, _, _, H.get 6 rfl rfl, ?_⟩ | refine ⟨_, _, _, H.get 7 rfl rfl, ?_⟩))
  refine (rAnswers_ok (m := m) x (hc.ext H.ext) hs (hz.ext H.ext) (hx.ext H.ext)).mono ?_
  rintro e W ⟨rfl, eX⟩
  replace H := H.step eX
  refine ⟨_, _, rfl, ?_⟩
  repeat (first
    | (intro _ _ hS; replace H := H.new hS; clear hS)
    | (intro _ hS; (first | replace H := H.put 0 rfl hS | replace H := H.put 1 rfl hS | replace H := H.put 2 rfl hS | replace H := H.put 3 rfl hS | replace H := H.put 4 rfl hS | replace H := H.put 5 rfl hS | replace H := H.put 6 rfl hS | replace H := H.put 7 rfl hS); clear hS; try simp only [setA, List.setIfInBounds_toArray, List.set_cons_zero, List.set_cons_succ, Nat.zero_add, Nat.reduceAdd] at H)
    | (intro _ hS; replace H := H.step (Drew.ext hS); clear hS)
    | (first | refine ⟨⟨_, H.get 0 rfl rfl⟩, ?_⟩ | refine ⟨⟨_, H.get 1 rfl rfl⟩, ?_⟩ | refine ⟨⟨_, H.get 2 rfl rfl⟩, ?_⟩ | refine ⟨⟨_, H.get 3 rfl rfl⟩, ?_⟩ | refine ⟨⟨_, H.get 4 rfl rfl⟩, ?_⟩ | refine ⟨⟨_, H.get 5 rfl rfl⟩, ?_⟩ | refine ⟨⟨_, H.get 6 rfl rfl⟩, ?_⟩ | refine ⟨⟨_, H.get 7 rfl rfl⟩, ?_⟩)
    | (first | refine ⟨H.frz 0 rfl, ?_⟩ | refine ⟨H.frz 1 rfl, ?_⟩ | refine ⟨H.frz 2 rfl, ?_⟩ | refine ⟨H.frz 3 rfl, ?_⟩ | refine ⟨H.frz 4 rfl, ?_⟩ | refine ⟨H.frz 5 rfl, ?_⟩ | refine ⟨H.frz 6 rfl, ?_⟩ | refine ⟨H.frz 7 rfl, ?_⟩)
    | (first | refine ⟨_, H.get 0 rfl rfl, ?_⟩ | refine ⟨_, H.get 1 rfl rfl, ?_⟩ | refine ⟨_, H.get 2 rfl rfl, ?_⟩ | refine ⟨_, H.get 3 rfl rfl, ?_⟩ | refine ⟨_, H.get 4 rfl rfl, ?_⟩ | refine ⟨_, H.get 5 rfl rfl, ?_⟩ | refine ⟨_, H.get 6 rfl rfl, ?_⟩ | refine ⟨_, H.get 7 rfl rfl, ?_⟩)
    | (first | refine ⟨_, _, _, H.get 0 rfl rfl, ?_⟩ | refine ⟨_, _, _, H.get 1 rfl rfl, ?_⟩ | refine ⟨_, _, _, H.get 2 rfl rfl, ?_⟩ | refine ⟨_, _, _, H.get 3 rfl rfl, ?_⟩ | refine ⟨_, _, _, H.get 4 rfl rfl, ?_⟩ | refine ⟨_, _, _, H.get 5 rfl rfl, ?_⟩ | refine ⟨_, _, _, H.get 6 rfl rfl, ?_⟩ | refine ⟨_, _, _, H.get 7 rfl rfl, ?_⟩))
  refine (pMay_ok (m := m) x (hT.ext H.ext) (hc.ext H.ext) (hz.ext H.ext) (hx.ext H.ext)).mono ?_
  rintro e W ⟨rfl, eX⟩
  replace H := H.step eX
  refine ⟨_, _, rfl, ?_⟩
  repeat (first
    | (intro _ _ hS; replace H := H.new hS; clear hS)
    | (intro _ hS; (first | replace H := H.put 0 rfl hS | replace H := H.put 1 rfl hS | replace H := H.put 2 rfl hS | replace H := H.put 3 rfl hS | replace H := H.put 4 rfl hS | replace H := H.put 5 rfl hS | replace H := H.put 6 rfl hS | replace H := H.put 7 rfl hS); clear hS; try simp only [setA, List.setIfInBounds_toArray, List.set_cons_zero, List.set_cons_succ, Nat.zero_add, Nat.reduceAdd] at H)
    | (intro _ hS; replace H := H.step (Drew.ext hS); clear hS)
    | (first | refine ⟨⟨_, H.get 0 rfl rfl⟩, ?_⟩ | refine ⟨⟨_, H.get 1 rfl rfl⟩, ?_⟩ | refine ⟨⟨_, H.get 2 rfl rfl⟩, ?_⟩ | refine ⟨⟨_, H.get 3 rfl rfl⟩, ?_⟩ | refine ⟨⟨_, H.get 4 rfl rfl⟩, ?_⟩ | refine ⟨⟨_, H.get 5 rfl rfl⟩, ?_⟩ | refine ⟨⟨_, H.get 6 rfl rfl⟩, ?_⟩ | refine ⟨⟨_, H.get 7 rfl rfl⟩, ?_⟩)
    | (first | refine ⟨H.frz 0 rfl, ?_⟩ | refine ⟨H.frz 1 rfl, ?_⟩ | refine ⟨H.frz 2 rfl, ?_⟩ | refine ⟨H.frz 3 rfl, ?_⟩ | refine ⟨H.frz 4 rfl, ?_⟩ | refine ⟨H.frz 5 rfl, ?_⟩ | refine ⟨H.frz 6 rfl, ?_⟩ | refine ⟨H.frz 7 rfl, ?_⟩)
    | (first | refine ⟨_, H.get 0 rfl rfl, ?_⟩ | refine ⟨_, H.get 1 rfl rfl, ?_⟩ | refine ⟨_, H.get 2 rfl rfl, ?_⟩ | refine ⟨_, H.get 3 rfl rfl, ?_⟩ | refine ⟨_, H.get 4 rfl rfl, ?_⟩ | refine ⟨_, H.get 5 rfl rfl, ?_⟩ | refine ⟨_, H.get 6 rfl rfl, ?_⟩ | refine ⟨_, H.get 7 rfl rfl, ?_⟩)
    | (first | refine ⟨_, _, _, H.get 0 rfl rfl, ?_⟩ | refine ⟨_, _, _, H.get 1 rfl rfl, ?_⟩ | refine ⟨_, _, _, H.get 2 rfl rfl, ?_⟩ | refine ⟨_, _, _, H.get 3 rfl rfl, ?_⟩ | refine ⟨_, _, _, H.get 4 rfl rfl, ?_⟩ | refine ⟨_, _, _, H.get 5 rfl rfl, ?_⟩ | refine ⟨_, _, _, H.get 6 rfl rfl, ?_⟩ | refine ⟨_, _, _, H.get 7 rfl rfl, ?_⟩))
  refine (rMay_ok (m := m) x (hc.ext H.ext) hs (hz.ext H.ext) (hx.ext H.ext)).mono ?_
  rintro e W ⟨rfl, eX⟩
  replace H := H.step eX
  refine ⟨_, _, rfl, ?_⟩
  repeat' (first
    | (refine And.intro (fun hq => ?_) (fun hq => ?_) <;> (try (exfalso; omega)))
    | (refine And.intro ?_ H.ext))
  all_goals first | rfl | simp | (simp_all; done)

theorem nots_bits (s : S3) : bits .or .i64 (bits .or .i64 (bits .and .i64 (shrI .i64 s.i 1) 1) (shlI .i64 (bits .and .i64 s.i 1) 1)) (bits .and .i64 s.i 4) = s.not.i := by
  obtain ⟨a, b, c⟩ := s
  cases a <;> cases b <;> cases c <;> decide +kernel
theorem nots_law {cols : List Col} {zones : List Zn} {m : Int} (x : Ex) :
    (((answersF cols zones m x).2 ≠ 0 ∨ (answersF cols zones m (mk1 14 x)).2 ≠ 0) ∧ ((answersF cols zones m x).2 = (answersF cols zones m (mk1 14 x)).2 ∨ (answersF cols zones m (mk1 14 x)).2 = 122)) ∨
    ((answersF cols zones m x).2 = 0 ∧ (answersF cols zones m (mk1 14 x)).2 = 0 ∧ ∃ s : S3, (answersF cols zones m x).1 = s.i ∧ (answersF cols zones m (mk1 14 x)).1 = s.not.i) := by
  by_cases hr : rightC cols = true
  · by_cases hf : formedB (mk1 14 x) = true
    · have hF := (formed1 (by decide)).1 hf
      have hfx : formedB x = true := decide_eq_true ⟨hF.1, by have := hF.2.1; omega, by have := hF.2.2; omega⟩
      have ht : typeF cols x = kindF cols x := by unfold typeF; rw [if_neg (by simp [hr]), if_neg (by simp [hfx])]
      have ht1 : typeF cols (mk1 14 x) = kindF cols (mk1 14 x) := by unfold typeF; rw [if_neg (by simp [hr]), if_neg (by simp [hf])]
      by_cases hk : (kindF cols x).2 = 0
      · by_cases hal : alikeB (kindF cols x).1 2 = true
        · have hk1 := not_right hk hal
          have hkk : (kindF cols x).1 = 2 ∨ (kindF cols x).1 = 0 := alike_want hal (by decide)
          have hans : ansF cols zones m (mk1 14 x) = (ansF cols zones m x).not := by
            rw [ansF_eq]
            unfold nodeS mk1
            simp only [Ex.op, Ex.kids, List.map_cons, List.map_nil, List.getD_cons_zero]
            rfl
          have e1 : answersF cols zones m x = if zonesOk cols zones m = false then (0, 2) else if m = 0 then (0, 0) else ((ansF cols zones m x).i, 0) := by
            unfold answersF
            rw [ht, if_neg (by simp [hk]), if_neg (by omega)]
          have e2 : answersF cols zones m (mk1 14 x) = if zonesOk cols zones m = false then (0, 2) else if m = 0 then (0, 0) else ((ansF cols zones m (mk1 14 x)).i, 0) := by
            unfold answersF
            rw [ht1, hk1, if_neg (by decide), if_neg (by decide)]
          rw [e1, e2]
          by_cases hz : zonesOk cols zones m = false
          · rw [if_pos hz, if_pos hz]
            exact .inl ⟨.inl (by decide), .inl rfl⟩
          · rw [if_neg hz, if_neg hz]
            by_cases h0 : m = 0
            · rw [if_pos h0, if_pos h0]
              exact .inr ⟨rfl, rfl, ⟨false, false, false⟩, rfl, rfl⟩
            · rw [if_neg h0, if_neg h0, hans]
              exact .inr ⟨rfl, rfl, _, rfl, rfl⟩
        · have hk1 : kindF cols (mk1 14 x) = (0, 121) := by
            rw [kind1, if_neg (by simp [hk])]
            unfold kindN
            rw [show wantOf 14 = 2 from rfl, if_pos ⟨by decide, fun h => hal (h _ (by simp))⟩]
          have hkk : (kindF cols x).1 ≠ 2 ∧ (kindF cols x).1 ≠ 0 := by
            unfold alikeB at hal
            simp only [Bool.or_eq_true, decide_eq_true_eq] at hal
            omega
          unfold answersF
          rw [ht, ht1, hk1, if_neg (by simp [hk]), if_pos hkk, if_pos (by decide)]
          exact .inl ⟨.inl (by decide), .inl rfl⟩
      · have hk1 : kindF cols (mk1 14 x) = (0, (kindF cols x).2) := by rw [kind1, if_pos hk]
        unfold answersF
        rw [ht, ht1, hk1, if_pos hk, if_pos hk]
        exact .inl ⟨.inl hk, .inl rfl⟩
    · have ht1 : typeF cols (mk1 14 x) = (0, 122) := by unfold typeF; rw [if_neg (by simp [hr]), if_pos (by simpa using hf)]
      have : answersF cols zones m (mk1 14 x) = (0, 122) := by unfold answersF; rw [ht1]; rfl
      rw [this]
      exact .inl ⟨.inr (by decide), .inr rfl⟩
  · have ht : ∀ y, typeF cols y = (0, 50) := fun y => by unfold typeF; rw [if_pos (by simpa using hr)]
    have : ∀ y, answersF cols zones m y = (0, 50) := fun y => by unfold answersF; rw [ht y]; rfl
    rw [this, this]
    exact .inl ⟨.inl (by decide), .inl rfl⟩
set_option maxHeartbeats 4000000 in
theorem lawNots_ok (x : Ex) {m : Int} {w : World} {p zp : Option Addr} {n c zn zc : Nat} {cols : List Col} {zones : List Zn} {cs : List Value} (hT : Tab w) (hc : Cols w p n c cols) (hz : Zns w zp zn zc zones) (hx : ExAt w x cs) :
    Calls Tryd.prog 4 #[.slice p n c, .slice zp zn zc, .int .i64 m, .agg cs.toArray] w fun e w' => e = .returned (.bool true) ∧ Ext w w' := by
  obtain ⟨xp, xn, xc, rfl, _⟩ := hx.six
  apply lawNots_vc
  unfold lawNots_T
  have H := Hold.start (Ext.rfl (w := w))
  repeat (first
    | (intro _ _ hS; replace H := H.new hS; clear hS)
    | (intro _ hS; (first | replace H := H.put 0 rfl hS | replace H := H.put 1 rfl hS | replace H := H.put 2 rfl hS | replace H := H.put 3 rfl hS | replace H := H.put 4 rfl hS | replace H := H.put 5 rfl hS | replace H := H.put 6 rfl hS | replace H := H.put 7 rfl hS); clear hS; try simp only [setA, List.setIfInBounds_toArray, List.set_cons_zero, List.set_cons_succ, Nat.zero_add, Nat.reduceAdd] at H)
    | (intro _ hS; replace H := H.step (Drew.ext hS); clear hS)
    | (first | refine ⟨⟨_, H.get 0 rfl rfl⟩, ?_⟩ | refine ⟨⟨_, H.get 1 rfl rfl⟩, ?_⟩ | refine ⟨⟨_, H.get 2 rfl rfl⟩, ?_⟩ | refine ⟨⟨_, H.get 3 rfl rfl⟩, ?_⟩ | refine ⟨⟨_, H.get 4 rfl rfl⟩, ?_⟩ | refine ⟨⟨_, H.get 5 rfl rfl⟩, ?_⟩ | refine ⟨⟨_, H.get 6 rfl rfl⟩, ?_⟩ | refine ⟨⟨_, H.get 7 rfl rfl⟩, ?_⟩)
    | (first | refine ⟨H.frz 0 rfl, ?_⟩ | refine ⟨H.frz 1 rfl, ?_⟩ | refine ⟨H.frz 2 rfl, ?_⟩ | refine ⟨H.frz 3 rfl, ?_⟩ | refine ⟨H.frz 4 rfl, ?_⟩ | refine ⟨H.frz 5 rfl, ?_⟩ | refine ⟨H.frz 6 rfl, ?_⟩ | refine ⟨H.frz 7 rfl, ?_⟩)
    | (first | refine ⟨_, H.get 0 rfl rfl, ?_⟩ | refine ⟨_, H.get 1 rfl rfl, ?_⟩ | refine ⟨_, H.get 2 rfl rfl, ?_⟩ | refine ⟨_, H.get 3 rfl rfl, ?_⟩ | refine ⟨_, H.get 4 rfl rfl, ?_⟩ | refine ⟨_, H.get 5 rfl rfl, ?_⟩ | refine ⟨_, H.get 6 rfl rfl, ?_⟩ | refine ⟨_, H.get 7 rfl rfl, ?_⟩)
    | (first | refine ⟨_, _, _, H.get 0 rfl rfl, ?_⟩ | refine ⟨_, _, _, H.get 1 rfl rfl, ?_⟩ | refine ⟨_, _, _, H.get 2 rfl rfl, ?_⟩ | refine ⟨_, _, _, H.get 3 rfl rfl, ?_⟩ | refine ⟨_, _, _, H.get 4 rfl rfl, ?_⟩ | refine ⟨_, _, _, H.get 5 rfl rfl, ?_⟩ | refine ⟨_, _, _, H.get 6 rfl rfl, ?_⟩ | refine ⟨_, _, _, H.get 7 rfl rfl, ?_⟩))
  refine (shown16_ok (hT.ext H.ext)).mono ?_
  rintro e W ⟨rfl, eX⟩
  replace H := H.step eX
  refine ⟨_, rfl, ?_⟩
  repeat (first
    | (intro _ _ hS; replace H := H.new hS; clear hS)
    | (intro _ hS; (first | replace H := H.put 0 rfl hS | replace H := H.put 1 rfl hS | replace H := H.put 2 rfl hS | replace H := H.put 3 rfl hS | replace H := H.put 4 rfl hS | replace H := H.put 5 rfl hS | replace H := H.put 6 rfl hS | replace H := H.put 7 rfl hS); clear hS; try simp only [setA, List.setIfInBounds_toArray, List.set_cons_zero, List.set_cons_succ, Nat.zero_add, Nat.reduceAdd] at H)
    | (intro _ hS; replace H := H.step (Drew.ext hS); clear hS)
    | (first | refine ⟨⟨_, H.get 0 rfl rfl⟩, ?_⟩ | refine ⟨⟨_, H.get 1 rfl rfl⟩, ?_⟩ | refine ⟨⟨_, H.get 2 rfl rfl⟩, ?_⟩ | refine ⟨⟨_, H.get 3 rfl rfl⟩, ?_⟩ | refine ⟨⟨_, H.get 4 rfl rfl⟩, ?_⟩ | refine ⟨⟨_, H.get 5 rfl rfl⟩, ?_⟩ | refine ⟨⟨_, H.get 6 rfl rfl⟩, ?_⟩ | refine ⟨⟨_, H.get 7 rfl rfl⟩, ?_⟩)
    | (first | refine ⟨H.frz 0 rfl, ?_⟩ | refine ⟨H.frz 1 rfl, ?_⟩ | refine ⟨H.frz 2 rfl, ?_⟩ | refine ⟨H.frz 3 rfl, ?_⟩ | refine ⟨H.frz 4 rfl, ?_⟩ | refine ⟨H.frz 5 rfl, ?_⟩ | refine ⟨H.frz 6 rfl, ?_⟩ | refine ⟨H.frz 7 rfl, ?_⟩)
    | (first | refine ⟨_, H.get 0 rfl rfl, ?_⟩ | refine ⟨_, H.get 1 rfl rfl, ?_⟩ | refine ⟨_, H.get 2 rfl rfl, ?_⟩ | refine ⟨_, H.get 3 rfl rfl, ?_⟩ | refine ⟨_, H.get 4 rfl rfl, ?_⟩ | refine ⟨_, H.get 5 rfl rfl, ?_⟩ | refine ⟨_, H.get 6 rfl rfl, ?_⟩ | refine ⟨_, H.get 7 rfl rfl, ?_⟩)
    | (first | refine ⟨_, _, _, H.get 0 rfl rfl, ?_⟩ | refine ⟨_, _, _, H.get 1 rfl rfl, ?_⟩ | refine ⟨_, _, _, H.get 2 rfl rfl, ?_⟩ | refine ⟨_, _, _, H.get 3 rfl rfl, ?_⟩ | refine ⟨_, _, _, H.get 4 rfl rfl, ?_⟩ | refine ⟨_, _, _, H.get 5 rfl rfl, ?_⟩ | refine ⟨_, _, _, H.get 6 rfl rfl, ?_⟩ | refine ⟨_, _, _, H.get 7 rfl rfl, ?_⟩))
  refine (pAnswers_ok (m := m) x (hT.ext H.ext) (hc.ext H.ext) (hz.ext H.ext) (hx.ext H.ext)).mono ?_
  rintro e W ⟨rfl, eX⟩
  replace H := H.step eX
  refine ⟨_, _, rfl, ?_⟩
  repeat (first
    | (intro _ _ hS; replace H := H.new hS; clear hS)
    | (intro _ hS; (first | replace H := H.put 0 rfl hS | replace H := H.put 1 rfl hS | replace H := H.put 2 rfl hS | replace H := H.put 3 rfl hS | replace H := H.put 4 rfl hS | replace H := H.put 5 rfl hS | replace H := H.put 6 rfl hS | replace H := H.put 7 rfl hS); clear hS; try simp only [setA, List.setIfInBounds_toArray, List.set_cons_zero, List.set_cons_succ, Nat.zero_add, Nat.reduceAdd] at H)
    | (intro _ hS; replace H := H.step (Drew.ext hS); clear hS)
    | (first | refine ⟨⟨_, H.get 0 rfl rfl⟩, ?_⟩ | refine ⟨⟨_, H.get 1 rfl rfl⟩, ?_⟩ | refine ⟨⟨_, H.get 2 rfl rfl⟩, ?_⟩ | refine ⟨⟨_, H.get 3 rfl rfl⟩, ?_⟩ | refine ⟨⟨_, H.get 4 rfl rfl⟩, ?_⟩ | refine ⟨⟨_, H.get 5 rfl rfl⟩, ?_⟩ | refine ⟨⟨_, H.get 6 rfl rfl⟩, ?_⟩ | refine ⟨⟨_, H.get 7 rfl rfl⟩, ?_⟩)
    | (first | refine ⟨H.frz 0 rfl, ?_⟩ | refine ⟨H.frz 1 rfl, ?_⟩ | refine ⟨H.frz 2 rfl, ?_⟩ | refine ⟨H.frz 3 rfl, ?_⟩ | refine ⟨H.frz 4 rfl, ?_⟩ | refine ⟨H.frz 5 rfl, ?_⟩ | refine ⟨H.frz 6 rfl, ?_⟩ | refine ⟨H.frz 7 rfl, ?_⟩)
    | (first | refine ⟨_, H.get 0 rfl rfl, ?_⟩ | refine ⟨_, H.get 1 rfl rfl, ?_⟩ | refine ⟨_, H.get 2 rfl rfl, ?_⟩ | refine ⟨_, H.get 3 rfl rfl, ?_⟩ | refine ⟨_, H.get 4 rfl rfl, ?_⟩ | refine ⟨_, H.get 5 rfl rfl, ?_⟩ | refine ⟨_, H.get 6 rfl rfl, ?_⟩ | refine ⟨_, H.get 7 rfl rfl, ?_⟩)
    | (first | refine ⟨_, _, _, H.get 0 rfl rfl, ?_⟩ | refine ⟨_, _, _, H.get 1 rfl rfl, ?_⟩ | refine ⟨_, _, _, H.get 2 rfl rfl, ?_⟩ | refine ⟨_, _, _, H.get 3 rfl rfl, ?_⟩ | refine ⟨_, _, _, H.get 4 rfl rfl, ?_⟩ | refine ⟨_, _, _, H.get 5 rfl rfl, ?_⟩ | refine ⟨_, _, _, H.get 6 rfl rfl, ?_⟩ | refine ⟨_, _, _, H.get 7 rfl rfl, ?_⟩))
  rename_i b27 w28
  have hk : ExAt w28 (mk1 14 x) [.int .i64 14, .string ⟨#[]⟩, .int .i64 0, .int .i64 0, .string ⟨#[]⟩, .slice (some ⟨b27, 0, none⟩) 1 1] := by
    unfold mk1 ExAt
    refine ⟨some ⟨b27, 0, none⟩, 1, 1, [[.int .i64 x.op, .string x.name, .int .i64 x.v.k, .int .i64 x.v.n, .string x.v.s, .slice xp xn xc]], rfl, ⟨Nat.le_refl _, by decide⟩, fun h => (by cases h), rfl, ?_, (H.blk 0 rfl).at, ?_⟩
    · intro y hy
      simp only [List.mem_cons, List.not_mem_nil, or_false] at hy
      subst hy; rfl
    · unfold ExsAt
      exact ⟨hx.ext H.ext, by unfold ExsAt; trivial⟩
  refine (pAnswers_ok (m := m) (mk1 14 x) (hT.ext H.ext) (hc.ext H.ext) (hz.ext H.ext) hk).mono ?_
  rintro e W ⟨rfl, eX⟩
  replace H := H.step eX
  refine ⟨_, _, rfl, ?_⟩
  rcases nots_law (cols := cols) (zones := zones) (m := m) x with ⟨h1, h2⟩ | ⟨h1, h2, s, h3, h4⟩
  · refine ⟨fun _ => ⟨fun _ => ⟨fun _ => ⟨rfl, H.ext⟩, fun hn => ?_⟩, fun h => (by cases h)⟩, fun h => ?_⟩
    · exfalso; rcases h2 with h2 | h2
      · exact hn.1 h2
      · exact hn.2 h2
    · exfalso; rcases h1 with h1 | h1
      · exact h1 h.1
      · exact h1 h.2
  · refine ⟨fun h => ?_, fun _ => ⟨?_, H.ext⟩⟩
    · exfalso; rcases h with h | h
      · exact h h1
      · exact h h2
    · rw [h3, h4, nots_bits]; simp
end Go.Proofs.YtpjafkcmbinjiaaDoor

/- Tables of tables: what a row's list says of their cells. -/
namespace Go.Vc
open Go

theorem cells_of_arr {H α : Type} {enc : TypeId × Value → H} {P : Program} {w : World} {base : Nat} {sp : Nat → Bool} {held : Bool} {fuel : Nat} {t e : TypeId} {n s : Nat} {cs : List Value} {zs : List α} {p : List MemPlace} {D : α → DataW H} {C : α → List Value}
    (ht : P.underlying t = some (.array n e)) (hce : P.cellsOf e = s) (hct : P.cellsOf t = n * s) (hs : ∀ z, (C z).length = s) (h0 : 0 < s)
    (inner : ∀ fuel cs z p, cs.length = s → DataW.trod enc P w base sp held fuel e cs = some (D z, p) → cs = C z)
    (h : DataW.trod enc P w base sp held fuel t cs = some (.agg (zs.map D), p)) : cs = zs.flatMap C := by
  cases fuel with
  | zero => simp [DataW.trod] at h
  | succ fuel =>
    simp only [DataW.trod, ht, hce, hct] at h
    split at h
    · rename_i hl
      obtain ⟨xs, hm, hx⟩ := Option.map_eq_some_iff.1 h
      have hxs : xs.map (·.1) = zs.map D := by
        have := congrArg Prod.fst hx
        simpa using this
      have hxl : xs.length = n := by simpa using Lib.mapM_length hm
      have hzl : zs.length = n := by
        have := congrArg List.length hxs
        simp at this
        omega
      have key : ∀ i, i < n → ∃ z, zs[i]? = some z ∧ (cs.drop (i * s)).take s = C z := by
        intro i hi
        obtain ⟨b, hb, hf⟩ := Lib.mapM_at hm i i (by simp [hi])
        have h2 : (xs.map (·.1))[i]? = some b.1 := by simp [hb]
        rw [hxs, List.getElem?_map] at h2
        obtain ⟨z, hz, he⟩ := Option.map_eq_some_iff.1 h2
        refine ⟨z, hz, inner fuel _ z b.2 ?_ ?_⟩
        · have hmul : (i + 1) * s ≤ n * s := Nat.mul_le_mul_right _ (by omega)
          have e1 : (i + 1) * s = i * s + s := Nat.succ_mul i s
          simp only [List.length_take, List.length_drop]
          omega
        · rw [hf, he]
      -- both lists, piece by piece
      have go : ∀ (m : Nat) (zs : List α) (cs : List Value), zs.length = m → cs.length = m * s → (∀ i, i < m → ∃ z, zs[i]? = some z ∧ (cs.drop (i * s)).take s = C z) → cs = zs.flatMap C := by
        intro m
        induction m with
        | zero =>
          intro zs cs hz hc _
          rw [List.length_eq_zero_iff] at hz
          rw [Nat.zero_mul, List.length_eq_zero_iff] at hc
          rw [hz, hc]; rfl
        | succ m ih =>
          intro zs cs hz hc hk
          match zs, hz with
          | z :: r, hz =>
            have hcm : (m + 1) * s = m * s + s := Nat.succ_mul m s
            obtain ⟨z', hz', h1⟩ := hk 0 (by omega)
            cases hz'
            rw [Nat.zero_mul, List.drop_zero] at h1
            have := ih r (cs.drop s) (by simpa using hz) (by rw [List.length_drop]; omega) (fun i hi => by
              obtain ⟨y, hy, h2⟩ := hk (i + 1) (by omega)
              refine ⟨y, by simpa using hy, ?_⟩
              rw [List.drop_drop, ← h2]
              congr 2
              rw [Nat.succ_mul]; omega)
            rw [List.flatMap_cons, ← h1, ← this, List.take_append_drop]
      exact go n zs cs hzl (by simpa using hl) key
    · cases h
end Go.Vc

/- A row's list of tables, looked up by name; rows of three numbers. -/
namespace Go.Vc
open Go

theorem laid_get {P : Program} {w : World} : ∀ {laid : List (String × DataW Unit)} {ps : List MemPlace}, DataW.LaidVars P w laid ps → ∀ {n : String} {d : DataW Unit}, (n, d) ∈ laid →
    ∃ g t cs fuel p, P.globalNamed n = some g ∧ (P.globals[g]?).map (·.type) = some t ∧ w.var? P n = some cs ∧ DataW.trod (fun _ => ()) P w 0 (fun _ => true) false fuel t cs.toList = some (d, p)
  | [], _, _, n, d, hm => by cases hm
  | (m, e) :: r, ps, h, n, d, hm => by
    obtain ⟨g, t, cs, fuel, p, q, h1, h2, h3, h4, h5, _⟩ := h
    rcases List.mem_cons.1 hm with hm | hm
    · cases hm; exact ⟨g, t, cs, fuel, p, h1, h2, h3, h4⟩
    · exact laid_get h5 hm
theorem trod_three {H : Type} {enc : TypeId × Value → H} {P : Program} {w : World} {base : Nat} {sp : Nat → Bool} {held : Bool} {fuel : Nat} {e ti : TypeId} {k : IntKind} {cs : List Value} {a b c : Int} {p : List MemPlace}
    (hu : structOf P e = some [(ti, 0), (ti, 1), (ti, 2)]) (hi : P.underlying ti = some (.int k)) (h1 : P.cellsOf ti = 1) (hl : cs.length = 3)
    (h : DataW.trod enc P w base sp held fuel e cs = some (.agg [.lit (.int k a), .lit (.int k b), .lit (.int k c)], p)) : cs = [.int k a, .int k b, .int k c] := by
  cases fuel with
  | zero => simp [DataW.trod] at h
  | succ fuel =>
    unfold structOf at hu
    split at hu
    · rename_i fs hfs
      simp only [DataW.trod, hfs] at h
      split at h
      · cases hm : fs.toList.mapM fun f => DataW.trod enc P w base sp held fuel f.type ((cs.drop f.offset).take (P.cellsOf f.type)) with
        | none => rw [hm] at h; cases h
        | some xs =>
          rw [hm] at h
          simp only [Option.map_some, Option.some.injEq, Prod.mk.injEq] at h hu
          obtain ⟨hx, _⟩ := h
          replace hx : xs.map (·.1) = [.lit (.int k a), .lit (.int k b), .lit (.int k c)] := by first | exact hx | (injection hx)
          have hlen : fs.toList.length = 3 := by have := congrArg List.length hu; simpa using this
          have key : ∀ (i : Nat) (z : Int), i < 3 → (xs.map (·.1))[i]? = some (.lit (.int k z)) → cs[i]? = some (.int k z) := by
            intro i z hi3 hz
            have hf : fs.toList[i]? = some (fs.toList[i]'(by omega)) := List.getElem?_eq_getElem _
            generalize fs.toList[i]'(by omega) = f at hf
            obtain ⟨y, hy, hfy⟩ := Lib.mapM_at hm i f hf
            have hto : f.type = ti ∧ f.offset = i := by
              have := congrArg (·[i]?) hu
              simp only [List.getElem?_map, hf, Option.map_some] at this
              rcases (by omega : i = 0 ∨ i = 1 ∨ i = 2) with rfl | rfl | rfl <;> simpa using this
            rw [hto.1, hto.2, h1] at hfy
            obtain ⟨z', hc, rfl, _⟩ := DataW.trod_int hi hfy
            simp only [List.getElem?_map, hy, Option.map_some, Option.some.injEq, DataW.lit.injEq, Lit.int.injEq, true_and] at hz
            subst hz
            have := congrArg (·[0]?) hc
            simpa [List.getElem?_take, List.getElem?_drop] using this
          have c0 := key 0 a (by decide) (by rw [hx]; rfl)
          have c1 := key 1 b (by decide) (by rw [hx]; rfl)
          have c2 := key 2 c (by decide) (by rw [hx]; rfl)
          obtain ⟨x, y, z, rfl⟩ : ∃ x y z, cs = [x, y, z] := by
            match cs, hl with
            | [x, y, z], _ => exact ⟨x, y, z, rfl⟩
          cases c0
          cases c1
          cases c2
          rfl
      · cases h
    · cases hu
end Go.Vc

/- The tables of package expr, out of a row's list. -/
namespace Go.Proofs.YtpjafkcmbinjiaaDoor
open Go Go.Vc Go.RowKit
set_option maxRecDepth 20000

theorem kind3 : structOf Tryd.prog 96 = some [(3, 0), (3, 1), (3, 2)] := by kernel_rfl
theorem shapes_eq : shapesA = ((List.range 17).flatMap shapeC).toArray := rfl
def shapeD (i : Nat) : DataW Unit := .agg [.lit (.int .i64 (manyOf i)), .lit (.int .i64 (wantOf i)), .lit (.int .i64 (kindOf i))]
theorem laid_shapes : Rows.laid_stackyard_expr_shapes (H := Unit) = .agg ((List.range 17).map shapeD) := by kernel_rfl
def rowsD (l : List (List Int)) : DataW Unit := .agg (l.map (Lib.tabData .i64))
theorem laid_ands : Rows.laid_stackyard_expr_ands (H := Unit) = rowsD [[0, 0, 0], [0, 1, 2], [0, 2, 2]] := by kernel_rfl
theorem laid_ors : Rows.laid_stackyard_expr_ors (H := Unit) = rowsD [[0, 1, 2], [1, 1, 1], [2, 1, 2]] := by kernel_rfl
theorem u65 : Tryd.prog.underlying 97 = some (.array 17 96) := by kernel_rfl
theorem u104 : Tryd.prog.underlying 118 = some (.array 3 117) := by kernel_rfl
theorem u103 : Tryd.prog.underlying 117 = some (.array 3 3) := by kernel_rfl
theorem uInt : Tryd.prog.underlying 3 = some (.int .i64) := by kernel_rfl
theorem cInt : Tryd.prog.cellsOf 3 = 1 := by kernel_rfl
theorem rows_cells {W : World} {fuel : Nat} {cs : List Value} {l : List (List Int)} {p : List MemPlace} (hl : ∀ r ∈ l, r.length = 3) (h : DataW.trod (fun _ => ()) Tryd.prog W 0 (fun _ => true) false fuel 118 cs = some (rowsD l, p)) :
    cs = l.flatMap fun r => (r ++ [0, 0, 0]).take 3 |>.map fun z => Value.int .i64 z := by
  have e : l.map (Lib.tabData (H := Unit) .i64) = l.map fun r => Lib.tabData .i64 ((r ++ [0, 0, 0]).take 3) := by
    apply List.map_congr_left
    intro r hr
    rw [List.take_append_of_le_length (by rw [hl r hr]; decide), List.take_of_length_le (by rw [hl r hr]; decide)]
  unfold rowsD at h
  rw [e] at h
  exact cells_of_arr (C := fun r => ((r ++ [0, 0, 0]).take 3).map fun z => Value.int .i64 z) (s := 3) u104 (by kernel_rfl) (by kernel_rfl) (fun z => by simp) (by decide)
    (fun fuel cs z p _ h => Lib.cells_of_tab u103 uInt cInt (by kernel_rfl) h) h
theorem tab_of {L : List (String × DataW Unit)} {W : World} (hm : ("stackyard/expr.shapes", Rows.laid_stackyard_expr_shapes) ∈ L) (h : laidMet Tryd.prog L W) : Tab W := by
  obtain ⟨ps, hl, _⟩ := h
  obtain ⟨g, t, cs, fuel, p, hg, ht, hv, hd⟩ := laid_get hl (n := "stackyard/expr.shapes") (d := Rows.laid_stackyard_expr_shapes) hm
  obtain rfl : g = 0 := Option.some.inj (hg.symm.trans (by kernel_rfl))
  obtain rfl : t = 97 := Option.some.inj (ht.symm.trans (by kernel_rfl))
  rw [laid_shapes] at hd
  have hc := cells_of_arr (C := shapeC) (s := 3) u65 (by kernel_rfl) (by kernel_rfl) (fun _ => rfl) (by decide) (fun fuel cs z p hl h => trod_three kind3 uInt cInt hl h) hd
  have hcs : cs = shapesA := by apply Array.ext'; rw [hc]; rfl
  intro k v hk
  rw [World.var?_cell hg hv, hcs, Nat.zero_add]; exact hk
theorem tab2_of {L : List (String × DataW Unit)} {W : World} (h1 : ("stackyard/expr.ands", Rows.laid_stackyard_expr_ands) ∈ L) (h2 : ("stackyard/expr.ors", Rows.laid_stackyard_expr_ors) ∈ L) (h : laidMet Tryd.prog L W) : Tab2 W := by
  obtain ⟨ps, hl, _⟩ := h
  constructor
  · obtain ⟨g, t, cs, fuel, p, hg, ht, hv, hd⟩ := laid_get hl (n := "stackyard/expr.ands") (d := Rows.laid_stackyard_expr_ands) h1
    obtain rfl : g = 1 := Option.some.inj (hg.symm.trans (by kernel_rfl))
    obtain rfl : t = 118 := Option.some.inj (ht.symm.trans (by kernel_rfl))
    rw [laid_ands] at hd
    have hc := rows_cells (by decide) hd
    have hcs : cs = tabA andI := by apply Array.ext'; rw [hc]; rfl
    intro k v hk
    rw [World.var?_cell hg hv, hcs, Nat.zero_add]; exact hk
  · obtain ⟨g, t, cs, fuel, p, hg, ht, hv, hd⟩ := laid_get hl (n := "stackyard/expr.ors") (d := Rows.laid_stackyard_expr_ors) h2
    obtain rfl : g = 2 := Option.some.inj (hg.symm.trans (by kernel_rfl))
    obtain rfl : t = 118 := Option.some.inj (ht.symm.trans (by kernel_rfl))
    rw [laid_ors] at hd
    have hc := rows_cells (by decide) hd
    have hcs : cs = tabA orJ := by apply Array.ext'; rw [hc]; rfl
    intro k v hk
    rw [World.var?_cell hg hv, hcs, Nat.zero_add]; exact hk
end Go.Proofs.YtpjafkcmbinjiaaDoor

/- An argument that is an expression, opened. -/
namespace Go.Vc
open Go Go.RowKit

theorem ArgF.fields {n : Nat} {P : Program} {w : World} {t : TypeId} {cs : List Value} {l : List (TypeId × Nat)} (hu : structOf P t = some l) (h : ArgF (n + 1) P w t cs) :
    cs.length = P.cellsOf t ∧ ∀ x ∈ l, ArgF n P w x.1 ((cs.drop x.2).take (P.cellsOf x.1)) := by
  unfold structOf at hu
  split at hu
  · rename_i fs hfs
    cases hu
    obtain ⟨h1, h2⟩ := ArgF.struct hfs h
    refine ⟨h1, fun x hx => ?_⟩
    obtain ⟨f, hf, rfl⟩ := List.mem_map.1 hx
    exact h2 f hf
  · cases hu
theorem ExsAt.all {w : World} : ∀ (css : List (List Value)), (∀ c ∈ css, ∃ x, ExAt w x c ∧ ∀ y ∈ nodesT x, fitI y.v.n) → ∃ xs, ExsAt w xs css ∧ ∀ y ∈ nodesTs xs, fitI y.v.n
  | [], _ => ⟨[], by unfold ExsAt; trivial, fun y hy => by unfold nodesTs at hy; cases hy⟩
  | c :: r, h => by
    obtain ⟨x, h1, h2⟩ := h c (by simp)
    obtain ⟨xs, h3, h4⟩ := ExsAt.all r fun q hq => h q (by simp [hq])
    refine ⟨x :: xs, by unfold ExsAt; exact ⟨h1, h3⟩, fun y hy => ?_⟩
    unfold nodesTs at hy
    rcases List.mem_append.1 hy with hy | hy
    · exact h2 y hy
    · exact h4 y hy
theorem arg_ex {P : Program} {w : World} {t ti ts tv tk : TypeId} (hu : structOf P t = some [(ti, 0), (ts, 1), (tv, 2), (tk, 5)]) (hc : P.cellsOf t = 6) (h1 : P.cellsOf ti = 1) (h2 : P.cellsOf ts = 1) (h3 : P.cellsOf tv = 3) (h4 : P.cellsOf tk = 1)
    (u1 : P.underlying ti = some (.int .i64)) (u2 : P.underlying ts = some .string) (u4 : P.underlying tk = some (.slice t)) (hv : ∀ cs, Arg P w tv cs → ∃ v : Val, cs = v.cs ∧ v.fit) :
    ∀ (f : Nat) (cs : List Value), ArgF f P w t cs → ∃ x, ExAt w x cs ∧ ∀ y ∈ nodesT x, fitI y.v.n := by
  intro f
  induction f using Nat.strongRecOn with
  | ind f ih =>
  intro cs h
  obtain ⟨n, rfl⟩ := h.pos
  obtain ⟨hl, hf⟩ := h.fields hu
  rw [hc] at hl
  obtain ⟨a, b, c, d, e, g, rfl⟩ : ∃ a b c d e g, cs = [a, b, c, d, e, g] := by
    match cs, hl with
    | [a, b, c, d, e, g], _ => exact ⟨a, b, c, d, e, g, rfl⟩
  have f1 := hf (ti, 0) (by simp)
  have f2 := hf (ts, 1) (by simp)
  have f3 := hf (tv, 2) (by simp)
  have f4 := hf (tk, 5) (by simp)
  simp only [h1, h2, h3, h4] at f1 f2 f3 f4
  obtain ⟨op, e1, _⟩ := Arg.int u1 f1.arg
  obtain ⟨nm, e2, _⟩ := Arg.string u2 f2.arg
  obtain ⟨v, e3, hvf⟩ := hv _ f3.arg
  obtain ⟨m, rfl⟩ := f4.pos
  obtain ⟨p, k, cap, css, e4, hkc, hcm, _, hcl, hall, hat, hnil⟩ := ArgF.slice u4 (by omega) f4
  simp [Val.cs] at e1 e2 e3 e4
  obtain ⟨rfl, rfl, rfl⟩ := e3
  subst e1 e2 e4
  obtain ⟨xs, hxs, hxf⟩ := ExsAt.all (w := w) (css.take k) fun q hq => ih m (by omega) q (hall q (List.mem_of_mem_take hq)).2
  refine ⟨.mk op nm v xs, ?_, fun y hy => ?_⟩
  · unfold ExAt
    refine ⟨p, k, cap, css.take k, rfl, ⟨hkc, hcm⟩, hnil, by rw [List.length_take]; omega, fun q hq => by rw [(hall q (List.mem_of_mem_take hq)).1, hc], ?_, hxs⟩
    have hsplit : css.flatten = (css.take k).flatten ++ (css.drop k).flatten := by rw [← List.flatten_append, List.take_append_drop]
    have := hat.take ((css.take k).flatten.length)
    rw [hsplit, List.take_left] at this
    exact this
  · unfold nodesT at hy
    rcases List.mem_cons.1 hy with rfl | hy
    · exact hvf.2
    · exact hxf y hy
end Go.Vc

/- The arguments of law16's statements, as they are handed in; the walks. -/
namespace Go.Proofs.YtpjafkcmbinjiaaDoor
open Go Go.Vc Go.RowKit
set_option maxRecDepth 20000

theorem list3 {cs : List Value} (h : cs.length = 3) : ∃ a b d, cs = [a, b, d] := by
  match cs, h with
  | [a, b, d], _ => exact ⟨a, b, d, rfl⟩
theorem arg_value {w : World} {cs : List Value} (h : Arg Tryd.prog w 25 cs) : ∃ v : Val, cs = v.cs ∧ v.fit :=
  arg_val (ti := 3) (tn := 2) (ts := 9) (by kernel_rfl) (by kernel_rfl) (by kernel_rfl) (by kernel_rfl) (by kernel_rfl) (by kernel_rfl) (by kernel_rfl) (by kernel_rfl) h
theorem arg_col {w : World} {cs : List Value} (h : Arg Tryd.prog w 48 cs) : ∃ c : Col, cs = c.cs ∧ c.name.size ≤ 140737488351232 := by
  obtain ⟨hl, hf⟩ := Arg.fields (l := [(9, 0), (3, 1), (4, 2)]) (by kernel_rfl) h
  have h3 : Tryd.prog.cellsOf 48 = 3 := by kernel_rfl
  rw [h3] at hl
  obtain ⟨a, b, d, rfl⟩ := list3 hl
  have f1 := hf (9, 0) (by simp)
  have f2 := hf (3, 1) (by simp)
  have f3 := hf (4, 2) (by simp)
  have c1 : Tryd.prog.cellsOf 9 = 1 := by kernel_rfl
  have c2 : Tryd.prog.cellsOf 3 = 1 := by kernel_rfl
  have c3 : Tryd.prog.cellsOf 4 = 1 := by kernel_rfl
  simp only [c1, c2, c3] at f1 f2 f3
  obtain ⟨s, e1, hs⟩ := Arg.string (by kernel_rfl) f1
  obtain ⟨n, e2, _⟩ := Arg.int (k := .i64) (by kernel_rfl) f2
  obtain ⟨v, e3⟩ := Arg.bool (by kernel_rfl) f3
  simp at e1 e2 e3
  subst e1 e2 e3
  exact ⟨⟨s, n, v⟩, rfl, hs⟩
theorem arg_cols {w : World} {v : Value} (h : Arg Tryd.prog w 22 [v]) : ∃ p n c cols, v = .slice p n c ∧ Cols w p n c cols ∧ ∀ x ∈ cols, x.name.size ≤ 140737488351232 := by
  obtain ⟨p, n, c, l, e, h1, h2, _⟩ := arg_ls (e := 48) (enc := Col.cs) (Q := fun x => x.name.size ≤ 140737488351232) (by kernel_rfl) (by decide +kernel) (fun x hx => arg_col hx) (fun _ => by kernel_rfl) h
  exact ⟨p, n, c, l, e, h1, h2⟩
theorem arg_row {w : World} {v : Value} (h : Arg Tryd.prog w 32 [v]) : ∃ p n c row, v = .slice p n c ∧ Vs w p n c row ∧ ∀ x ∈ row, x.fit := by
  obtain ⟨p, n, c, l, e, h1, h2, _⟩ := arg_ls (e := 25) (enc := Val.cs) (Q := Val.fit) (by kernel_rfl) (by decide +kernel) (fun x hx => arg_value hx) (fun _ => by kernel_rfl) h
  exact ⟨p, n, c, l, e, h1, h2⟩
theorem arg_expr {w : World} {cs : List Value} (h : Arg Tryd.prog w 28 cs) : ∃ x, ExAt w x cs ∧ ∀ y ∈ nodesT x, fitI y.v.n := by
  obtain ⟨f, h⟩ := h.told
  exact arg_ex (ti := 3) (ts := 9) (tv := 25) (tk := 26) (by kernel_rfl) (by kernel_rfl) (by kernel_rfl) (by kernel_rfl) (by kernel_rfl) (by kernel_rfl) (by kernel_rfl) (by kernel_rfl) (by kernel_rfl) (fun cs h => arg_value h) f cs h

theorem list7 {cs : List Value} (h : cs.length = 7) : ∃ a b c d e f g, cs = [a, b, c, d, e, f, g] := by
  match cs, h with
  | [a, b, c, d, e, f, g], _ => exact ⟨a, b, c, d, e, f, g, rfl⟩
theorem arg_zone {w : World} {cs : List Value} (h : Arg Tryd.prog w 50 cs) : ∃ z : Zn, cs = z.cs := by
  obtain ⟨hl, hf⟩ := Arg.fields (l := [(3, 0), (25, 1), (25, 4)]) (by kernel_rfl) h
  have h7 : Tryd.prog.cellsOf 50 = 7 := by kernel_rfl
  rw [h7] at hl
  obtain ⟨a, b, c, d, e, f, g, rfl⟩ := list7 hl
  have f1 := hf (3, 0) (by simp)
  have f2 := hf (25, 1) (by simp)
  have f3 := hf (25, 4) (by simp)
  have c1 : Tryd.prog.cellsOf 3 = 1 := by kernel_rfl
  have c2 : Tryd.prog.cellsOf 25 = 3 := by kernel_rfl
  simp only [c1, c2] at f1 f2 f3
  obtain ⟨n, e1, _⟩ := Arg.int (k := .i64) (by kernel_rfl) f1
  obtain ⟨lo, e2, _⟩ := arg_value f2
  obtain ⟨hi, e3, _⟩ := arg_value f3
  refine ⟨⟨n, lo, hi⟩, ?_⟩
  simp [Val.cs] at e1 e2 e3
  obtain ⟨rfl, rfl, rfl⟩ := e2
  obtain ⟨rfl, rfl, rfl⟩ := e3
  subst e1
  rfl
theorem arg_zones {w : World} {v : Value} (h : Arg Tryd.prog w 33 [v]) : ∃ p n c zones, v = .slice p n c ∧ Zns w p n c zones := by
  obtain ⟨p, n, c, l, e, h1, _⟩ := arg_ls (e := 50) (enc := Zn.cs) (Q := fun _ => True) (by kernel_rfl) (by decide +kernel) (fun x hx => by obtain ⟨z, hz⟩ := arg_zone hx; exact ⟨z, hz, trivial⟩) (fun _ => by kernel_rfl) h
  exact ⟨p, n, c, l, e, h1⟩
theorem arg_n {w : World} {v : Value} (h : Arg Tryd.prog w 3 [v]) : ∃ n : Int, v = .int .i64 n := by
  obtain ⟨n, e, _⟩ := Arg.int (k := .i64) (by kernel_rfl) h
  simp at e
  exact ⟨n, e⟩
theorem answers_walk (W : World) (hT : Tab W) (v0 v1 v2 : Value) (cs3 : Array Value) (a0 : Arg Tryd.prog W 22 [v0]) (a1 : Arg Tryd.prog W 33 [v1]) (a2 : Arg Tryd.prog W 3 [v2]) (a3 : Arg Tryd.prog W 28 cs3.toList) :
    Calls Tryd.prog 5 #[v0, v1, v2, .agg cs3] W fun e w' => e = .returned (.bool true) ∧ Ext W w' := by
  obtain ⟨p, n, c, cols, rfl, hc, hs⟩ := arg_cols a0
  obtain ⟨zp, zn, zc, zones, rfl, hz⟩ := arg_zones a1
  obtain ⟨m, rfl⟩ := arg_n a2
  obtain ⟨x, hx, _⟩ := arg_expr a3
  exact lawAnswers_ok x hT hc (fun y hy => by have := hs y hy; omega) hz hx
theorem nots_walk (W : World) (hT : Tab W) (v0 v1 v2 : Value) (cs3 : Array Value) (a0 : Arg Tryd.prog W 22 [v0]) (a1 : Arg Tryd.prog W 33 [v1]) (a2 : Arg Tryd.prog W 3 [v2]) (a3 : Arg Tryd.prog W 28 cs3.toList) :
    Calls Tryd.prog 4 #[v0, v1, v2, .agg cs3] W fun e w' => e = .returned (.bool true) ∧ Ext W w' := by
  obtain ⟨p, n, c, cols, rfl, hc, hs⟩ := arg_cols a0
  obtain ⟨zp, zn, zc, zones, rfl, hz⟩ := arg_zones a1
  obtain ⟨m, rfl⟩ := arg_n a2
  obtain ⟨x, hx, _⟩ := arg_expr a3
  exact lawNots_ok x hT hc hz hx
theorem tabA_of {W : World} (h : laidMetH Tryd.prog Rows.pruneAnswersRow.laid W) : Tab W := tab_of (L := Rows.pruneAnswersRow.laid) (by simp [Rows.pruneAnswersRow]) h
theorem tabN_of {W : World} (h : laidMetH Tryd.prog Rows.pruneNotsRow.laid W) : Tab W := tab_of (L := Rows.pruneNotsRow.laid) (by simp [Rows.pruneNotsRow]) h
end Go.Proofs.YtpjafkcmbinjiaaDoor

/- Three closed facts of the seat's program, asked once: they want much memory. -/
namespace Go.Proofs.YtpjafkcmbinjiaaDoor
set_option maxRecDepth 100000 in
theorem Tryd.entersB : (Tryd.prog.mayEnter && (false == Tryd.prog.liftsFinal) && (Tryd.prog.make == some .cut)) = true := by kernel_rfl
theorem Tryd.enters : Tryd.prog.mayEnter = true ∧ Tryd.prog.liftsFinal = false ∧ Tryd.prog.make = some .cut := by
  have h := Tryd.entersB
  simp only [Bool.and_eq_true, beq_iff_eq] at h
  exact ⟨h.1.1, h.1.2.symm, h.2⟩
end Go.Proofs.YtpjafkcmbinjiaaDoor
