/- The contracts of the document's answer for expressions: kinds. -/
import Derived.Test.YtdephmdfdgclpaaDoorEx7
namespace Go.Proofs.YtdephmdfdgclpaaDoor
open Go Go.Vc Go.RowKit

theorem undInts : Tryd.prog.underlying 48 = some (.slice 3) := by kernel_rfl
theorem tyInt : tyOf Tryd.prog 3 = some { agg := false, ls := [.int .i64], zero := .int .i64 0, bytes := 8, big := false, n := 1 } := by kernel_rfl

set_option maxHeartbeats 4000000 in
theorem rkind_ok : ∀ (N : Nat) (x : Ex) {w : World} {p : Option Addr} {n c : Nat} {cols : List Col} {cs : List Value}, depthT x ≤ N → (∀ y ∈ nodesT x, NodeOk y) → Cols w p n c cols → ExAt w x cs →
    Calls Tryd.prog 40 #[.slice p n c, .agg cs.toArray] w fun e w' => e = .returned (.tuple #[.int .i64 (kindF cols x).1, .int .i64 (kindF cols x).2]) ∧ Ext w w' := by
  intro N
  induction N with
  | zero => intro x w p n c cols cs hd; cases x; unfold depthT at hd; omega
  | succ N ih =>
  intro x w p n c cols cs hd hno hc hx
  obtain ⟨xp, xn, xc, rfl, hkl, hxn, hkid⟩ := hx.six
  obtain ⟨hmany, _⟩ := hno x (self_node x)
  have h2m := many_le x.op
  have hop := many_range (op := x.op) (by omega)
  have hl := hc.len
  apply rkind_vc
  unfold rkind_T
  intro b1 w2 h1
  have H2 := ((Hold.start (Ext.rfl (w := w))).new h1).nilRow 3 1
  let fs : List (Nat × Obj) := [(b1, .cells #[.int .i64 x.op, .string x.name, .int .i64 x.v.k, .int .i64 x.v.n, .string x.v.s, .slice xp xn xc] 29 (0, 0))]
  have c5 : ∀ {W : World} {ms : List Row}, Hold w W fs ms → W.cell? ⟨b1, 5, none⟩ = some (.slice xp xn xc) := fun H => by rw [(H.blk 0 rfl).cell]; rfl
  refine ⟨fun q m d i W => ∃ j : Nat, i = (j : Int) ∧ m = j ∧ j ≤ xn ∧ (runL (kindF cols) (x.kids.take j)).2 = 0 ∧ Hold w W fs [⟨3, 1, q, m, d, vI .i64 (runL (kindF cols) (x.kids.take j)).1⟩], fun _ _ _ i _ => xn - i.toNat, ⟨0, rfl, rfl, Nat.zero_le _, rfl, H2⟩, ?_⟩
  rintro q m d i W ⟨j, rfl, rfl, hj, hrun, H⟩
  refine ⟨_, _, _, c5 H, fun hlt => ?_, fun hge => ?_⟩
  · have g : x.kids[m]? = some (x.kids[m]'(by omega)) := List.getElem?_eq_getElem _
    generalize x.kids[m]'(by omega) = k at g
    obtain ⟨kc, b, o, hk, hp, hcell⟩ := hkid H.ext g
    obtain ⟨kp, kn, kcap, hkc, _⟩ := hk.six
    simp only [Int.toNat_natCast]
    have e0 := hcell 0 _ (by rw [hkc]; rfl)
    have e1 := hcell 1 _ (by rw [hkc]; rfl)
    have e2 := hcell 2 _ (by rw [hkc]; rfl)
    have e3 := hcell 3 _ (by rw [hkc]; rfl)
    have e4 := hcell 4 _ (by rw [hkc]; rfl)
    have e5 := hcell 5 _ (by rw [hkc]; rfl)
    subst hkc
    refine ⟨_, _, _, c5 H, b, o, hp, by omega, by omega, _, e0, _, e1, _, e2, _, e3, _, e4, _, _, _, e5, (ih k (by have := kid_depth g; omega) (fun y hy => hno y (kid_node g hy)) (hc.ext H.ext) (hk.ext H.ext)).mono ?_⟩
    rintro e w30 ⟨rfl, e30⟩
    have H30 := H.step e30
    refine ⟨_, _, rfl, fun hne => ⟨?_, H30.ext⟩, fun he b35 w36 h35 => ?_⟩
    · rw [kindF_eq cols x, runL_stop g hrun hne, if_pos hne]
    · have hnx := runL_take (f := kindF cols) g hrun
      rw [if_neg (by simpa using he)] at hnx
      have H36 := H30.step h35.ext
      obtain ⟨p', c', w41, hrn, H41⟩ := H36.append (ty := 48) (P := Tryd.prog) (q := some ⟨b35, 0, none⟩) (m := 1) (d' := 1) (news := [.int .i64 (kindF cols k).1]) 0 rfl undInts tyInt rfl (by decide) (Blk.new h35).at rfl (fun e => by cases e)
        (fun u hu => by simp at hu; subst hu; rfl) (by show ((m + 1) + (m + 1) / 4 + 192) * 8 ≤ _; omega) (by show m + 1 ≤ 9223372036854775807; omega)
      refine ⟨p', m + 1, c', w41, hrn, ?_⟩
      rw [i64_next (by omega)]
      refine ⟨⟨m + 1, rfl, rfl, by omega, by rw [hnx], ?_⟩, by simp only [Int.toNat_natCast]; omega⟩
      rw [hnx]
      have : vI .i64 ((runL (kindF cols) (x.kids.take m)).1 ++ [(kindF cols k).1]) = vI .i64 (runL (kindF cols) (x.kids.take m)).1 ++ [.int .i64 (kindF cols k).1] := by simp [vI]
      show Hold w w41 fs [⟨3, 1, p', m + 1, c', vI .i64 ((runL (kindF cols) (x.kids.take m)).1 ++ [(kindF cols k).1])⟩]
      rw [this]
      exact H41
  · have hjn : m = xn := by omega
    subst hjn
    rw [List.take_of_length_le (by omega)] at hrun H
    have hlen := runL_len hrun
    generalize hL : (runL (kindF cols) x.kids).1 = L at hlen H
    have hkf : kindF cols x = kindN cols x.op x.name x.v L := by rw [kindF_eq, if_neg (by simpa using hrun), hL]
    have B1 : Blk W b1 29 #[.int .i64 x.op, .string x.name, .int .i64 x.v.k, .int .i64 x.v.n, .string x.v.s, .slice xp m xc] := H.blk 0 rfl
    obtain ⟨a0, a1, a2, a3, a4, a5⟩ := B1.c6
    refine ⟨_, a0, (wants_ok x.op W).mono ?_⟩
    rintro e w45 ⟨rfl, e45⟩
    have H45 := H.step e45
    refine ⟨_, rfl, fun i W => ∃ k : Nat, i = (k : Int) ∧ k ≤ m ∧ (wantOf x.op ≠ 0 → ∀ g ∈ L.take k, alikeB g (wantOf x.op) = true) ∧ Hold w W fs [⟨3, 1, q, m, d, vI .i64 L⟩], fun i _ => m - i.toNat, ⟨0, rfl, Nat.zero_le _, by simp, H45⟩, ?_⟩
    clear H45 H B1 a0 a1 a2 a3 a4 a5
    rintro i W ⟨k, rfl, hk, hal, H⟩
    have hat := (H.row 0 rfl).at
    refine ⟨fun hlt => ?_, fun hge => ?_⟩
    · obtain ⟨b, o, hp, hcl⟩ := hat.getI (i := k) (by omega)
      have g : L[k]? = some (L[k]'(by omega)) := List.getElem?_eq_getElem _
      generalize L[k]'(by omega) = gk at g hcl
      have nxt : (wantOf x.op ≠ 0 → alikeB gk (wantOf x.op) = true) → (∃ k' : Nat, IntKind.i64.wrap ((k : Int) + 1) = (k' : Int) ∧ k' ≤ m ∧ (wantOf x.op ≠ 0 → ∀ g ∈ L.take k', alikeB g (wantOf x.op) = true) ∧ Hold w W fs [⟨3, 1, q, m, d, vI .i64 L⟩]) ∧
          m - (IntKind.i64.wrap ((k : Int) + 1)).toNat < m - k := by
        intro hb
        rw [i64_next (by omega)]
        refine ⟨⟨k + 1, rfl, by omega, fun hw y hy => ?_, H⟩, by simp only [Int.toNat_natCast]; omega⟩
        rw [List.take_add_one, g] at hy
        rcases List.mem_append.1 hy with hy | hy
        · exact hal hw y hy
        · simp at hy; subst hy; exact hb hw
      simp only [Int.toNat_natCast]
      refine ⟨fun hw => ⟨b, o, hp, by omega, by omega, _, hcl, fun hne => ⟨b, o, hp, by omega, by omega, _, hcl, fun hz => ⟨?_, H.ext⟩, fun hz => nxt fun _ => ?_⟩, fun he => nxt fun _ => ?_⟩, fun hw => nxt fun h => absurd hw h⟩
      · rw [hkf]
        unfold kindN
        rw [if_pos ⟨hw, fun hall => by
          have := alike_want (hall gk (List.mem_of_getElem? g)) hw
          omega⟩]
      · unfold alikeB; simp [hz]
      · unfold alikeB; simp [he]
    · have hkj : k = m := by omega
      rw [hkj, List.take_of_length_le (by omega)] at hal
      have hwant : ¬ (wantOf x.op ≠ 0 ∧ ¬ (∀ g ∈ L, alikeB g (wantOf x.op) = true)) := fun h => h.2 (hal h.1)
      have B1 : Blk W b1 29 #[.int .i64 x.op, .string x.name, .int .i64 x.v.k, .int .i64 x.v.n, .string x.v.s, .slice xp m xc] := H.blk 0 rfl
      obtain ⟨a0, a1, a2, a3, a4, a5⟩ := B1.c6
      have plain : x.op ≠ 1 → x.op ≠ 2 → ¬ ((x.op = 9 ∨ x.op = 10 ∨ x.op = 11) ∧ alikeB (L.getD 0 0) (L.getD 1 0) = false) → kindF cols x = (kindOf x.op, 0) := fun h1 h2 h9 => by
        rw [hkf]; unfold kindN; rw [if_neg hwant, if_neg h1, if_neg h2, if_neg h9]
      refine ⟨_, a0, fun h1 => ⟨_, a1, (r5find_ok (hc.ext H.ext) x.name).mono ?_⟩, fun h1 => ⟨fun h2 => ⟨_, a2, ?_, H.ext⟩, fun h2 => ?_⟩⟩
      · rintro e w93 ⟨rfl, e93⟩
        have hx93 := H.ext.trans e93
        refine ⟨_, rfl, fun hneg => ⟨?_, hx93⟩, fun hpos => ?_⟩
        · rw [hkf]; unfold kindN; rw [if_neg hwant, if_pos h1, if_pos hneg]
        · obtain ⟨y, hy, hyn⟩ := findC_get hpos
          obtain ⟨b, o, hp, d0, d1, d2⟩ := (hc.ext hx93).col hy
          have hrg := findC_range cols x.name
          refine ⟨b, o, hp, hpos, by omega, _, d1, ?_, hx93⟩
          rw [hkf]; unfold kindN; rw [if_neg hwant, if_pos h1, if_neg (by omega), hy]; rfl
      · rw [hkf]; unfold kindN; rw [if_neg hwant, if_neg h1, if_pos h2]
      · refine ⟨fun h9 => ⟨fun _ => ?_, fun h => absurd h9 h⟩, fun h9 => ⟨fun h10 => ⟨fun _ => ?_, fun h => absurd h10 h⟩, fun h10 => ⟨fun h11 => ?_, fun h11 => ?_⟩⟩⟩
        rotate_left 3
        · have hp := plain h1 h2 (by omega)
          have k2 : 12 ≤ x.op ∧ x.op ≤ 15 → kindOf x.op = 2 := fun h => by unfold kindOf; rw [if_neg (by omega), if_pos (by omega)]
          have k1 : 3 ≤ x.op ∧ x.op ≤ 8 ∨ x.op = 16 → kindOf x.op = 1 := fun h => by unfold kindOf; rw [if_pos h]
          have good : ∀ v : Int, v = kindOf x.op → Ending.returned (.tuple #[.int .i64 v, .int .i64 0]) = Ending.returned (.tuple #[.int .i64 (kindF cols x).1, .int .i64 (kindF cols x).2]) ∧ Ext w W := fun v h => ⟨by rw [hp, h], H.ext⟩
          generalize x.op = op at *
          generalize kindOf op = kk at *
          repeat' first
            | exact good _ (by omega)
            | omega
            | intro _
            | refine And.intro ?_ ?_
        all_goals
          intro w83 h83
          have hm2 : m = 2 := by
            have : manyOf x.op = 2 := by unfold manyOf; rw [if_neg (by omega), if_neg (by omega), if_pos (by omega)]
            omega
          have hat' := hat.ext h83.ext
          obtain ⟨b, o, hp, c0⟩ := hat'.getI (i := 0) (by omega)
          obtain ⟨b', o', hp', c1⟩ := hat'.getI (i := 1) (by omega)
          have g0 : L.getD 0 0 = L[0]'(by omega) := by rw [List.getD_eq_getElem?_getD, List.getElem?_eq_getElem (by omega : 0 < L.length)]; rfl
          have g1 : L.getD 1 0 = L[1]'(by omega) := by rw [List.getD_eq_getElem?_getD, List.getElem?_eq_getElem (by omega : 1 < L.length)]; rfl
          have hk2 : kindOf x.op = 2 := by unfold kindOf; rw [if_neg (by omega), if_pos (by omega)]
          have hx83 := H.ext.trans h83.ext
          generalize L[0]'(by omega) = ga at c0 g0
          generalize L[1]'(by omega) = gb at c1 g1
          have ok : alikeB ga gb = true → Ending.returned (.tuple #[.int .i64 2, .int .i64 0]) = Ending.returned (.tuple #[.int .i64 (kindF cols x).1, .int .i64 (kindF cols x).2]) ∧ Ext w w83 := fun h => ⟨by
            rw [plain h1 h2 (fun h' => by rw [g0, g1, h] at h'; cases h'.2), hk2], hx83⟩
          have no : alikeB ga gb = false → Ending.returned (.tuple #[.int .i64 0, .int .i64 121]) = Ending.returned (.tuple #[.int .i64 (kindF cols x).1, .int .i64 (kindF cols x).2]) ∧ Ext w w83 := fun h => ⟨by
            rw [hkf]; unfold kindN; rw [if_neg hwant, if_neg h1, if_neg h2, if_pos ⟨by omega, by rw [g0, g1]; exact h⟩], hx83⟩
          refine ⟨b, o, hp, by omega, by omega, _, c0, b', o', hp', by omega, by omega, _, c1, fun hne => ⟨b, o, hp, by omega, by omega, _, c0, fun hz => ⟨b', o', hp', by omega, by omega, _, c1, fun hz' => no ?_, fun hz' => ok ?_⟩, fun hz => ok ?_⟩, fun he => ok ?_⟩
          · unfold alikeB; simp [hne, hz, hz']
          · unfold alikeB; simp [hz']
          · unfold alikeB; simp [hz]
          · unfold alikeB; simp [he]

theorem rtype_ok (x : Ex) {w : World} {p : Option Addr} {n c : Nat} {cols : List Col} {cs : List Value} (hc : Cols w p n c cols) (hs : ∀ y ∈ cols, y.name.size ≤ 9223372036854775807) (hx : ExAt w x cs) :
    Calls Tryd.prog 21 #[.slice p n c, .agg cs.toArray] w fun e w' => e = .returned (.tuple #[.int .i64 (typeF cols x).1, .int .i64 (typeF cols x).2]) ∧ Ext w w' := by
  obtain ⟨xp, xn, xc, hcs, _⟩ := hx.six
  subst hcs
  apply rtype_vc
  unfold rtype_T
  intro b1 w2 h1
  have H2 := (Hold.start (Ext.rfl (w := w))).new h1
  refine (r5right_ok (hc.ext H2.ext) hs).mono ?_
  rintro e w5 ⟨rfl, e5⟩
  have H5 := H2.step e5
  refine ⟨_, rfl, fun hb => ⟨by unfold typeF; rw [if_pos hb], H5.ext⟩, fun hb => ?_⟩
  have B1 : Blk w5 b1 29 #[.int .i64 x.op, .string x.name, .int .i64 x.v.k, .int .i64 x.v.n, .string x.v.s, .slice xp xn xc] := H5.blk 0 rfl
  obtain ⟨a0, a1, a2, a3, a4, a5⟩ := B1.c6
  refine ⟨_, a0, _, a1, _, a2, _, a3, _, a4, _, _, _, a5, (rFormed_ok x (hx.ext H5.ext)).mono ?_⟩
  rintro e w18 ⟨rfl, e18⟩
  have H18 := H5.step e18
  refine ⟨_, rfl, fun hf => ⟨by unfold typeF; rw [if_neg (by simp [hb]), if_pos hf], H18.ext⟩, fun hf => ?_⟩
  have hfp : FormedP x := of_decide_eq_true hf
  refine ⟨_, cell_ext a0 e18, _, cell_ext a1 e18, _, cell_ext a2 e18, _, cell_ext a3 e18, _, cell_ext a4 e18, _, _, _, cell_ext a5 e18, (rkind_ok _ x (Nat.le_refl _) hfp.1 (hc.ext H18.ext) (hx.ext H18.ext)).mono ?_⟩
  rintro e w31 ⟨rfl, e31⟩
  exact ⟨_, _, rfl, by unfold typeF; rw [if_neg (by simp [hb]), if_neg (by simp [hf])], (H18.step e31).ext⟩
end Go.Proofs.YtdephmdfdgclpaaDoor
