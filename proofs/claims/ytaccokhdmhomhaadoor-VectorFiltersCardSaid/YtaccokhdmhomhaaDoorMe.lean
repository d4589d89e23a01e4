/- Texts of the proof, one behind the other. -/
import Derived.Test.YtaccokhdmhomhaaDoorMd
import Derived.Lib.LaidTab
import Derived.Test.YtaccokhdmhomhaaDoorRows
import Derived.JoinedOf
set_option linter.unusedVariables false
set_option linter.unusedSimpArgs false
/- The contracts of the document's answer for expressions: kinds. -/
namespace Go.Proofs.YtaccokhdmhomhaaDoor
open Go Go.Vc Go.RowKit
set_option maxRecDepth 20000

set_option maxHeartbeats 4000000 in
theorem rkind_ok : ∀ (N : Nat) (x : Ex) {w : World} {p : Option Addr} {n c : Nat} {cols : List Col} {cs : List Value}, depthT x ≤ N → (∀ y ∈ nodesT x, NodeOk y) → Cols w p n c cols → ExAt w x cs →
    Calls Tryd.prog 49 #[.slice p n c, .agg cs.toArray] w fun e w' => e = .returned (.tuple #[.int .i64 (kindF cols x).1, .int .i64 (kindF cols x).2]) ∧ Ext w w' := by
  intro N
  induction N with
  | zero => intro x w p n c cols cs hd; cases x; unfold depthT at hd; omega
  | succ N ih =>
  intro x w p n c cols cs hd hno hc hx
  obtain ⟨xp, xn, xc, rfl, hkl, hxn, hkid⟩ := hx.six
  obtain ⟨hmany, _⟩ := hno x (self_node x)
  have h2m := many_le x.op
  have hop := many_range (op := x.op) (by omega)
  have hl := hc.len
  apply rkind_vc
  unfold rkind_T
  intro b1 w2 h1
  have H2 := ((Hold.start (Ext.rfl (w := w))).new h1).nilRow 3 1
  let fs : List (Nat × Obj) := [(b1, .cells #[.int .i64 x.op, .string x.name, .int .i64 x.v.k, .int .i64 x.v.n, .string x.v.s, .slice xp xn xc] 29 (0, 0))]
  have c5 : ∀ {W : World} {ms : List Row}, Hold w W fs ms → W.cell? ⟨b1, 5, none⟩ = some (.slice xp xn xc) := fun H => by rw [(H.blk 0 rfl).cell]; rfl
  refine ⟨fun q m d i W => ∃ j : Nat, i = (j : Int) ∧ m = j ∧ j ≤ xn ∧ (runL (kindF cols) (x.kids.take j)).2 = 0 ∧ Hold w W fs [⟨3, 1, q, m, d, vI .i64 (runL (kindF cols) (x.kids.take j)).1⟩], fun _ _ _ i _ => xn - i.toNat, ⟨0, rfl, rfl, Nat.zero_le _, rfl, H2⟩, ?_⟩
  rintro q m d i W ⟨j, rfl, rfl, hj, hrun, H⟩
  refine ⟨_, _, _, c5 H, fun hlt => ?_, fun hge => ?_⟩
  · have g : x.kids[m]? = some (x.kids[m]'(by omega)) := List.getElem?_eq_getElem _
    generalize x.kids[m]'(by omega) = k at g
    obtain ⟨kc, b, o, hk, hp, hcell⟩ := hkid H.ext g
    obtain ⟨kp, kn, kcap, hkc, _⟩ := hk.six
    simp only [Int.toNat_natCast]
    have e0 := hcell 0 _ (by rw [hkc]; rfl)
    have e1 := hcell 1 _ (by rw [hkc]; rfl)
    have e2 := hcell 2 _ (by rw [hkc]; rfl)
    have e3 := hcell 3 _ (by rw [hkc]; rfl)
    have e4 := hcell 4 _ (by rw [hkc]; rfl)
    have e5 := hcell 5 _ (by rw [hkc]; rfl)
    subst hkc
    refine ⟨_, _, _, c5 H, b, o, hp, by omega, by omega, _, e0, _, e1, _, e2, _, e3, _, e4, _, _, _, e5, (ih k (by have := kid_depth g; omega) (fun y hy => hno y (kid_node g hy)) (hc.ext H.ext) (hk.ext H.ext)).mono ?_⟩
    rintro e w30 ⟨rfl, e30⟩
    have H30 := H.step e30
    refine ⟨_, _, rfl, fun hne => ⟨?_, H30.ext⟩, fun he b35 w36 h35 => ?_⟩
    · rw [kindF_eq cols x, runL_stop g hrun hne, if_pos hne]
    · have hnx := runL_take (f := kindF cols) g hrun
      rw [if_neg (by simpa using he)] at hnx
      have H36 := H30.step h35.ext
      obtain ⟨p', c', w41, hrn, H41⟩ := H36.append (ty := 24) (P := Tryd.prog) (q := some ⟨b35, 0, none⟩) (m := 1) (d' := 1) (news := [.int .i64 (kindF cols k).1]) 0 rfl undInts tyInt rfl (by decide) (Blk.new h35).at rfl (fun e => by cases e)
        (fun u hu => by simp at hu; subst hu; rfl) (by show ((m + 1) + (m + 1) / 4 + 192) * 8 ≤ _; omega) (by show m + 1 ≤ 9223372036854775807; omega)
      refine ⟨p', m + 1, c', w41, hrn, ?_⟩
      rw [i64_next (by omega)]
      refine ⟨⟨m + 1, rfl, rfl, by omega, by rw [hnx], ?_⟩, by simp only [Int.toNat_natCast]; omega⟩
      rw [hnx]
      have : vI .i64 ((runL (kindF cols) (x.kids.take m)).1 ++ [(kindF cols k).1]) = vI .i64 (runL (kindF cols) (x.kids.take m)).1 ++ [.int .i64 (kindF cols k).1] := by simp [vI]
      show Hold w w41 fs [⟨3, 1, p', m + 1, c', vI .i64 ((runL (kindF cols) (x.kids.take m)).1 ++ [(kindF cols k).1])⟩]
      rw [this]
      exact H41
  · have hjn : m = xn := by omega
    subst hjn
    rw [List.take_of_length_le (by omega)] at hrun H
    have hlen := runL_len hrun
    generalize hL : (runL (kindF cols) x.kids).1 = L at hlen H
    have hkf : kindF cols x = kindN cols x.op x.name x.v L := by rw [kindF_eq, if_neg (by simpa using hrun), hL]
    have B1 : Blk W b1 29 #[.int .i64 x.op, .string x.name, .int .i64 x.v.k, .int .i64 x.v.n, .string x.v.s, .slice xp m xc] := H.blk 0 rfl
    obtain ⟨a0, a1, a2, a3, a4, a5⟩ := B1.c6
    refine ⟨_, a0, (wants_ok x.op W).mono ?_⟩
    rintro e w45 ⟨rfl, e45⟩
    have H45 := H.step e45
    refine ⟨_, rfl, fun i W => ∃ k : Nat, i = (k : Int) ∧ k ≤ m ∧ (wantOf x.op ≠ 0 → ∀ g ∈ L.take k, alikeB g (wantOf x.op) = true) ∧ Hold w W fs [⟨3, 1, q, m, d, vI .i64 L⟩], fun i _ => m - i.toNat, ⟨0, rfl, Nat.zero_le _, by simp, H45⟩, ?_⟩
    clear H45 H B1 a0 a1 a2 a3 a4 a5
    rintro i W ⟨k, rfl, hk, hal, H⟩
    have hat := (H.row 0 rfl).at
    refine ⟨fun hlt => ?_, fun hge => ?_⟩
    · obtain ⟨b, o, hp, hcl⟩ := hat.getI (i := k) (by omega)
      have g : L[k]? = some (L[k]'(by omega)) := List.getElem?_eq_getElem _
      generalize L[k]'(by omega) = gk at g hcl
      have nxt : (wantOf x.op ≠ 0 → alikeB gk (wantOf x.op) = true) → (∃ k' : Nat, IntKind.i64.wrap ((k : Int) + 1) = (k' : Int) ∧ k' ≤ m ∧ (wantOf x.op ≠ 0 → ∀ g ∈ L.take k', alikeB g (wantOf x.op) = true) ∧ Hold w W fs [⟨3, 1, q, m, d, vI .i64 L⟩]) ∧
          m - (IntKind.i64.wrap ((k : Int) + 1)).toNat < m - k := by
        intro hb
        rw [i64_next (by omega)]
        refine ⟨⟨k + 1, rfl, by omega, fun hw y hy => ?_, H⟩, by simp only [Int.toNat_natCast]; omega⟩
        rw [List.take_add_one, g] at hy
        rcases List.mem_append.1 hy with hy | hy
        · exact hal hw y hy
        · simp at hy; subst hy; exact hb hw
      simp only [Int.toNat_natCast]
      refine ⟨fun hw => ⟨b, o, hp, by omega, by omega, _, hcl, fun hne => ⟨b, o, hp, by omega, by omega, _, hcl, fun hz => ⟨?_, H.ext⟩, fun hz => nxt fun _ => ?_⟩, fun he => nxt fun _ => ?_⟩, fun hw => nxt fun h => absurd hw h⟩
      · rw [hkf]
        unfold kindN
        rw [if_pos ⟨hw, fun hall => by
          have := alike_want (hall gk (List.mem_of_getElem? g)) hw
          omega⟩]
      · unfold alikeB; simp [hz]
      · unfold alikeB; simp [he]
    · have hkj : k = m := by omega
      rw [hkj, List.take_of_length_le (by omega)] at hal
      have hwant : ¬ (wantOf x.op ≠ 0 ∧ ¬ (∀ g ∈ L, alikeB g (wantOf x.op) = true)) := fun h => h.2 (hal h.1)
      have B1 : Blk W b1 29 #[.int .i64 x.op, .string x.name, .int .i64 x.v.k, .int .i64 x.v.n, .string x.v.s, .slice xp m xc] := H.blk 0 rfl
      obtain ⟨a0, a1, a2, a3, a4, a5⟩ := B1.c6
      have plain : x.op ≠ 1 → x.op ≠ 2 → ¬ ((x.op = 9 ∨ x.op = 10 ∨ x.op = 11) ∧ alikeB (L.getD 0 0) (L.getD 1 0) = false) → kindF cols x = (kindOf x.op, 0) := fun h1 h2 h9 => by
        rw [hkf]; unfold kindN; rw [if_neg hwant, if_neg h1, if_neg h2, if_neg h9]
      refine ⟨_, a0, fun h1 => ⟨_, a1, (r5find_ok (hc.ext H.ext) x.name).mono ?_⟩, fun h1 => ⟨fun h2 => ⟨_, a2, ?_, H.ext⟩, fun h2 => ?_⟩⟩
      · rintro e w93 ⟨rfl, e93⟩
        have hx93 := H.ext.trans e93
        refine ⟨_, rfl, fun hneg => ⟨?_, hx93⟩, fun hpos => ?_⟩
        · rw [hkf]; unfold kindN; rw [if_neg hwant, if_pos h1, if_pos hneg]
        · obtain ⟨y, hy, hyn⟩ := findC_get hpos
          obtain ⟨b, o, hp, d0, d1, d2⟩ := (hc.ext hx93).col hy
          have hrg := findC_range cols x.name
          refine ⟨b, o, hp, hpos, by omega, _, d1, ?_, hx93⟩
          rw [hkf]; unfold kindN; rw [if_neg hwant, if_pos h1, if_neg (by omega), hy]; rfl
      · rw [hkf]; unfold kindN; rw [if_neg hwant, if_neg h1, if_pos h2]
      · refine ⟨fun h9 => ⟨fun _ => ?_, fun h => absurd h9 h⟩, fun h9 => ⟨fun h10 => ⟨fun _ => ?_, fun h => absurd h10 h⟩, fun h10 => ⟨fun h11 => ?_, fun h11 => ?_⟩⟩⟩
        rotate_left 3
        · have hp := plain h1 h2 (by omega)
          have k2 : 12 ≤ x.op ∧ x.op ≤ 15 → kindOf x.op = 2 := fun h => by unfold kindOf; rw [if_neg (by omega), if_pos (by omega)]
          have k1 : 3 ≤ x.op ∧ x.op ≤ 8 ∨ x.op = 16 → kindOf x.op = 1 := fun h => by unfold kindOf; rw [if_pos h]
          have good : ∀ v : Int, v = kindOf x.op → Ending.returned (.tuple #[.int .i64 v, .int .i64 0]) = Ending.returned (.tuple #[.int .i64 (kindF cols x).1, .int .i64 (kindF cols x).2]) ∧ Ext w W := fun v h => ⟨by rw [hp, h], H.ext⟩
          generalize x.op = op at *
          generalize kindOf op = kk at *
          repeat' first
            | exact good _ (by omega)
            | omega
            | intro _
            | refine And.intro ?_ ?_
        all_goals
          intro w83 h83
          have hm2 : m = 2 := by
            have : manyOf x.op = 2 := by unfold manyOf; rw [if_neg (by omega), if_neg (by omega), if_pos (by omega)]
            omega
          have hat' := hat.ext h83.ext
          obtain ⟨b, o, hp, c0⟩ := hat'.getI (i := 0) (by omega)
          obtain ⟨b', o', hp', c1⟩ := hat'.getI (i := 1) (by omega)
          have g0 : L.getD 0 0 = L[0]'(by omega) := by rw [List.getD_eq_getElem?_getD, List.getElem?_eq_getElem (by omega : 0 < L.length)]; rfl
          have g1 : L.getD 1 0 = L[1]'(by omega) := by rw [List.getD_eq_getElem?_getD, List.getElem?_eq_getElem (by omega : 1 < L.length)]; rfl
          have hk2 : kindOf x.op = 2 := by unfold kindOf; rw [if_neg (by omega), if_pos (by omega)]
          have hx83 := H.ext.trans h83.ext
          generalize L[0]'(by omega) = ga at c0 g0
          generalize L[1]'(by omega) = gb at c1 g1
          have ok : alikeB ga gb = true → Ending.returned (.tuple #[.int .i64 2, .int .i64 0]) = Ending.returned (.tuple #[.int .i64 (kindF cols x).1, .int .i64 (kindF cols x).2]) ∧ Ext w w83 := fun h => ⟨by
            rw [plain h1 h2 (fun h' => by rw [g0, g1, h] at h'; cases h'.2), hk2], hx83⟩
          have no : alikeB ga gb = false → Ending.returned (.tuple #[.int .i64 0, .int .i64 121]) = Ending.returned (.tuple #[.int .i64 (kindF cols x).1, .int .i64 (kindF cols x).2]) ∧ Ext w w83 := fun h => ⟨by
            rw [hkf]; unfold kindN; rw [if_neg hwant, if_neg h1, if_neg h2, if_pos ⟨by omega, by rw [g0, g1]; exact h⟩], hx83⟩
          refine ⟨b, o, hp, by omega, by omega, _, c0, b', o', hp', by omega, by omega, _, c1, fun hne => ⟨b, o, hp, by omega, by omega, _, c0, fun hz => ⟨b', o', hp', by omega, by omega, _, c1, fun hz' => no ?_, fun hz' => ok ?_⟩, fun hz => ok ?_⟩, fun he => ok ?_⟩
          · unfold alikeB; simp [hne, hz, hz']
          · unfold alikeB; simp [hz']
          · unfold alikeB; simp [hz]
          · unfold alikeB; simp [he]

theorem rtype_ok (x : Ex) {w : World} {p : Option Addr} {n c : Nat} {cols : List Col} {cs : List Value} (hc : Cols w p n c cols) (hs : ∀ y ∈ cols, y.name.size ≤ 9223372036854775807) (hx : ExAt w x cs) :
    Calls Tryd.prog 23 #[.slice p n c, .agg cs.toArray] w fun e w' => e = .returned (.tuple #[.int .i64 (typeF cols x).1, .int .i64 (typeF cols x).2]) ∧ Ext w w' := by
  obtain ⟨xp, xn, xc, hcs, _⟩ := hx.six
  subst hcs
  apply rtype_vc
  unfold rtype_T
  intro b1 w2 h1
  have H2 := (Hold.start (Ext.rfl (w := w))).new h1
  refine (r5right_ok (hc.ext H2.ext) hs).mono ?_
  rintro e w5 ⟨rfl, e5⟩
  have H5 := H2.step e5
  refine ⟨_, rfl, fun hb => ⟨by unfold typeF; rw [if_pos hb], H5.ext⟩, fun hb => ?_⟩
  have B1 : Blk w5 b1 29 #[.int .i64 x.op, .string x.name, .int .i64 x.v.k, .int .i64 x.v.n, .string x.v.s, .slice xp xn xc] := H5.blk 0 rfl
  obtain ⟨a0, a1, a2, a3, a4, a5⟩ := B1.c6
  refine ⟨_, a0, _, a1, _, a2, _, a3, _, a4, _, _, _, a5, (rFormed_ok x (hx.ext H5.ext)).mono ?_⟩
  rintro e w18 ⟨rfl, e18⟩
  have H18 := H5.step e18
  refine ⟨_, rfl, fun hf => ⟨by unfold typeF; rw [if_neg (by simp [hb]), if_pos hf], H18.ext⟩, fun hf => ?_⟩
  have hfp : FormedP x := of_decide_eq_true hf
  refine ⟨_, cell_ext a0 e18, _, cell_ext a1 e18, _, cell_ext a2 e18, _, cell_ext a3 e18, _, cell_ext a4 e18, _, _, _, cell_ext a5 e18, (rkind_ok _ x (Nat.le_refl _) hfp.1 (hc.ext H18.ext) (hx.ext H18.ext)).mono ?_⟩
  rintro e w31 ⟨rfl, e31⟩
  exact ⟨_, _, rfl, by unfold typeF; rw [if_neg (by simp [hb]), if_neg (by simp [hf])], (H18.step e31).ext⟩
end Go.Proofs.YtaccokhdmhomhaaDoor

/- The contracts of the document's answer: a row of a batch, a right batch; numbers held against one another. -/
namespace Go.Proofs.YtaccokhdmhomhaaDoor
open Go Go.Vc Go.RowKit
set_option maxRecDepth 20000
attribute [local irreducible] Calls Put Drew New

theorem undRow : Tryd.prog.underlying 50 = some (.slice 26) := by kernel_rfl

section
variable {w : World} {p bp cp : Option Addr} {n c bn bc cn cc : Nat} {hs : List Sl} {B : List (List Val)} {cols : List Col} {ch : List Int}
theorem wrow_ok {i : Nat} (hB : Rws w bp bn bc hs B) (hbn : bn ≤ 1024) (hi : ∀ r ∈ B, i < r.length) :
    Calls Tryd.prog 26 #[.slice bp bn bc, .int .i64 (i : Int)] w fun e w' => ∃ (q : Option Addr) (d : Nat), e = .returned (.slice q bn d) ∧ Vs w' q bn d (rowB B i) ∧ Ext w w' := by
  have hl := hB.len
  have hrl : (rowB B i).length = bn := by rw [rowB_len, hl]
  apply wrow_vc
  unfold wrow_T
  refine ⟨fun q k d i' W => ∃ j : Nat, i' = (j : Int) ∧ j ≤ bn ∧ k = j ∧ Hold w W [] [⟨26, 3, q, k, d, ((rowB B i).take j).flatMap Val.cs⟩], fun _ _ _ i' _ => bn - i'.toNat, ⟨0, rfl, Nat.zero_le _, rfl, (Hold.start Ext.rfl).nilRow _ _⟩, ?_⟩
  rintro q j d i' W ⟨_, rfl, hj, rfl, H⟩
  refine ⟨fun hlt => ?_, fun hge => ?_⟩
  · have g : B[j]? = some (B[j]'(by omega)) := List.getElem?_eq_getElem _
    generalize B[j]'(by omega) = r at g
    have hir := hi r (List.mem_of_getElem? g)
    have gv : r[i]? = some (r[i]'hir) := List.getElem?_eq_getElem _
    generalize r[i]'hir = v at gv
    have gr : (rowB B i)[j]? = some v := by unfold rowB; rw [List.getElem?_map, g]; simp [gv]
    obtain ⟨x, _, hvs, b, o, hp, hcell⟩ := (hB.ext H.ext).get g
    obtain ⟨vb, vo, hvp, c0, c1, c2⟩ := hvs.val gv
    have hvl := hvs.len
    simp only [Int.toNat_natCast]
    refine ⟨b, o, hp, by omega, hlt, _, _, _, hcell, vb, vo, hvp, by omega, by omega, _, c0, _, c1, _, c2, ?_⟩
    intro b20 w21 h20
    have h20' := h20
    replace H := H.step h20.ext
    obtain ⟨p', c', w26, hrn, H26⟩ := H.append (ty := 50) (P := Tryd.prog) (q := some ⟨b20, 0, none⟩) (m := 1) (d' := 1) (news := v.cs) 0 rfl undRow tyVal rfl (by decide) (Blk.new h20').at rfl (fun e => by cases e) v.cs_one (by dsimp only; omega) (by unfold maxLen; omega)
    refine ⟨p', _, c', w26, hrn, ?_⟩
    rw [i64_next (by omega)]
    refine ⟨⟨j + 1, rfl, by omega, rfl, ?_⟩, by simp only [Int.toNat_natCast]; omega⟩
    rw [List.take_add_one, gr, List.flatMap_append]
    simpa using H26
  · have hjn : j = bn := by omega
    subst hjn
    rw [List.take_of_length_le (by omega)] at H
    exact ⟨q, d, rfl, (H.row 0 rfl).ls Val.cs_length (by decide), H.ext⟩
theorem sameints_ok {ap bp' : Option Addr} {an ac bn' bc' : Nat} {a b : List Int} (ha : Is w ap an ac a) (hb : Is w bp' bn' bc' b) :
    Calls Tryd.prog 15 #[.slice ap an ac, .slice bp' bn' bc'] w fun e w' => e = .returned (.bool (decide (a = b))) ∧ Ext w w' := by
  have la := ha.len
  have lb := hb.len
  have hm := ha.le
  unfold maxLen at hm
  apply sameints_vc
  unfold sameints_T
  refine ⟨fun h => ⟨?_, .rfl⟩, fun h => ?_⟩
  · have : a ≠ b := fun e => by subst e; omega
    simp [this]
  refine ⟨fun i w' => ∃ k : Nat, i = (k : Int) ∧ k ≤ an ∧ a.take k = b.take k ∧ Ext w w', fun i _ => an - i.toNat, ⟨0, rfl, Nat.zero_le _, by simp, .rfl⟩, ?_⟩
  rintro i w' ⟨k, rfl, hk, he, hx⟩
  refine ⟨fun hlt w9 h9 => ?_, fun hge => ⟨?_, hx⟩⟩
  · have hx9 := hx.trans h9.ext
    have ga : a[k]? = some (a[k]'(by omega)) := List.getElem?_eq_getElem _
    have gb : b[k]? = some (b[k]'(by omega)) := List.getElem?_eq_getElem _
    obtain ⟨b1, o1, hp, c0⟩ := (ha.ext hx9).int ga
    obtain ⟨b2, o2, hq, d0⟩ := (hb.ext hx9).int gb
    simp only [Int.toNat_natCast]
    refine ⟨b1, o1, hp, by omega, by omega, _, c0, b2, o2, hq, by omega, by omega, _, d0, fun hne => ⟨?_, hx9⟩, fun heq => ?_⟩
    · have : a ≠ b := fun e => by subst e; exact hne rfl
      simp [this]
    · rw [i64_next (by omega)]
      refine ⟨⟨k + 1, rfl, by omega, ?_, hx9⟩, by simp only [Int.toNat_natCast]; omega⟩
      rw [take_snoc ga, take_snoc gb, he, heq]
  · have : k = an := by omega
    subst this
    rw [List.take_of_length_le (by omega), List.take_of_length_le (by omega)] at he
    simp [he]
set_option maxHeartbeats 4000000 in
theorem wright_ok (hc : Cols w p n c cols) (hcs : ∀ y ∈ cols, y.name.size ≤ 9223372036854775807) (hr : rightC cols = true) (hB : Rws w bp bn bc hs B) (hch : Is w cp cn cc ch) :
    Calls Tryd.prog 24 #[.slice p n c, .slice bp bn bc, .slice cp cn cc] w fun e w' => e = .returned (.bool (rightB cols B ch)) ∧ Ext w w' := by
  have hl := hB.len
  have hcl := hc.len
  have hchl := hch.len
  have hchm := hch.le
  unfold maxLen at hchm
  obtain ⟨r1, r2⟩ := right_len hr
  have no : ¬ ((B.length = cols.length ∧ highB B ≤ 1024) ∧ (∀ c ∈ B, c.length = highB B) ∧ (∀ i, i < highB B → fitsC cols (rowB B i) = true) ∧ ∀ i, i < ch.length → chosenAt (highB B) ch i = true) → rightB cols B ch = false := fun h => by
    rw [← Bool.not_eq_true, rightB_iff]; exact h
  apply wright_vc
  unfold wright_T
  refine ⟨fun h => ⟨?_, Ext.rfl⟩, fun h => ?_⟩
  · rw [no fun k => by have := k.1.1; omega]
  have g : B[0]? = some (B[0]'(by omega)) := List.getElem?_eq_getElem _
  generalize B[0]'(by omega) = r at g
  have hhr : highB B = r.length := by unfold highB; rw [g]; rfl
  obtain ⟨x, _, hvs, b, o, hp, hcell⟩ := hB.get g
  have hvl := hvs.len
  refine ⟨b, o, hp, by omega, by omega, _, _, _, hcell, fun hbig => ⟨?_, Ext.rfl⟩, fun hsm => ?_⟩
  · rw [no fun k => by have := k.1.2; omega]
  refine ⟨b, o, hp, by omega, by omega, _, _, _, hcell, ?_⟩
  have hxn : x.n = highB B := by omega
  rw [hxn]
  refine ⟨fun i W => ∃ j : Nat, i = (j : Int) ∧ j ≤ bn ∧ (∀ r ∈ B.take j, r.length = highB B) ∧ Ext w W, fun i _ => bn - i.toNat, ⟨0, rfl, Nat.zero_le _, fun r h => (List.not_mem_nil h).elim, Ext.rfl⟩, ?_⟩
  rintro i W ⟨j, rfl, hj, hlen, H⟩
  refine ⟨fun hlt => ?_, fun hge => ?_⟩
  · have g : B[j]? = some (B[j]'(by omega)) := List.getElem?_eq_getElem _
    generalize B[j]'(by omega) = r' at g
    obtain ⟨y, _, hvs', b', o', hp', hcell'⟩ := (hB.ext H).get g
    have hvl' := hvs'.len
    simp only [Int.toNat_natCast]
    refine ⟨b', o', hp', by omega, hlt, _, _, _, hcell', fun hne => ⟨?_, H⟩, fun heq => ?_⟩
    · rw [no fun k => by have := k.2.1 r' (List.mem_of_getElem? g); omega]
    · rw [i64_next (by omega)]
      refine ⟨⟨j + 1, rfl, by omega, fun q hq => ?_, H⟩, by simp only [Int.toNat_natCast]; omega⟩
      rw [List.take_add_one, g] at hq
      rcases List.mem_append.1 hq with hq | hq
      · exact hlen q hq
      · simp at hq; subst hq; omega
  rw [List.take_of_length_le (by omega)] at hlen
  refine ⟨fun i W => ∃ j : Nat, i = (j : Int) ∧ j ≤ highB B ∧ (∀ k, k < j → fitsC cols (rowB B k) = true) ∧ Ext w W, fun i _ => highB B - i.toNat, ⟨0, rfl, Nat.zero_le _, fun k h => absurd h (by omega), H⟩, ?_⟩
  clear H
  rintro i W ⟨j, rfl, hj, hfit, H⟩
  refine ⟨fun hlt => ?_, fun hge => ?_⟩
  · refine (wrow_ok (i := j) (hB.ext H) (by omega) fun q hq => by rw [hlen q hq]; omega).mono ?_
    rintro e W1 ⟨q, d, rfl, hv, eX⟩
    replace H := H.trans eX
    refine ⟨_, _, _, rfl, (r5fits_ok (hc.ext H) hcs hv).mono ?_⟩
    rintro e W2 ⟨rfl, eX⟩
    replace H := H.trans eX
    refine ⟨_, rfl, fun hb => ⟨?_, H⟩, fun hb => ?_⟩
    · rw [no fun k => ?_]
      rw [k.2.2.1 j (by omega)] at hb
      cases hb
    · rw [i64_next (by omega)]
      refine ⟨⟨j + 1, rfl, by omega, fun k hk => ?_, H⟩, by simp only [Int.toNat_natCast]; omega⟩
      rcases Nat.lt_or_ge k j with h | h
      · exact hfit k h
      · have : k = j := by omega
        subst this; exact hb
  have hjn : j = highB B := by omega
  subst hjn
  refine ⟨fun i W => ∃ j : Nat, i = (j : Int) ∧ j ≤ cn ∧ (∀ k, k < j → chosenAt (highB B) ch k = true) ∧ Ext w W, fun i _ => cn - i.toNat, ⟨0, rfl, Nat.zero_le _, fun k h => absurd h (by omega), H⟩, ?_⟩
  clear H
  rintro i W ⟨j, rfl, hj, hcho, H⟩
  refine ⟨fun hlt w52 hD => ?_, fun hge => ⟨?_, H⟩⟩
  · replace H := H.trans (Drew.ext hD)
    have gz : ch[j]? = some (ch[j]'(by omega)) := List.getElem?_eq_getElem _
    generalize ch[j]'(by omega) = z at gz
    have hat := chosenAt_get (m := highB B) gz
    obtain ⟨b2, o2, hp2, c0⟩ := (hch.ext H).int gz
    simp only [Int.toNat_natCast]
    have bad : ¬ (0 ≤ z ∧ z < (highB B : Int) ∧ (0 < j → ch.getD (j - 1) 0 < z)) → rightB cols B ch = false := fun h => no fun k => by
      have := k.2.2.2 j (by omega)
      rw [hat] at this
      exact h (of_decide_eq_true this)
    have good : (0 ≤ z ∧ z < (highB B : Int) ∧ (0 < j → ch.getD (j - 1) 0 < z)) → (∃ t : Nat, ((j + 1 : Nat) : Int) = (t : Int) ∧ t ≤ cn ∧ (∀ k, k < t → chosenAt (highB B) ch k = true) ∧ Ext w w52) ∧ cn - ((j + 1 : Nat) : Int).toNat < cn - j := fun h => by
      refine ⟨⟨j + 1, rfl, by omega, fun k hk => ?_, H⟩, by simp only [Int.toNat_natCast]; omega⟩
      rcases Nat.lt_or_ge k j with h' | h'
      · exact hcho k h'
      · have : k = j := by omega
        subst this
        rw [hat]; exact decide_eq_true h
    rw [i64_next (by omega)]
    refine ⟨b2, o2, hp2, by omega, hlt, _, c0, fun hz => ⟨?_, H⟩, fun hz => ⟨b2, o2, hp2, by omega, hlt, _, c0, fun hz2 => ⟨?_, H⟩, fun hz2 => ⟨fun hj0 => ?_, fun hj0 => good ⟨hz, hz2, fun h => absurd h (by omega)⟩⟩⟩⟩
    · rw [bad fun h => by omega]
    · rw [bad fun h => by omega]
    · have gy : ch[j - 1]? = some (ch[j - 1]'(by omega)) := List.getElem?_eq_getElem _
      generalize ch[j - 1]'(by omega) = y at gy
      obtain ⟨b3, o3, hp3, d0⟩ := (hch.ext H).int gy
      have hy : ch.getD (j - 1) 0 = y := by rw [List.getD_eq_getElem?_getD, gy]; rfl
      have hw : IntKind.i64.wrap ((j : Int) - 1) = ((j - 1 : Nat) : Int) := by rw [i64_fit (by omega) (by omega)]; omega
      rw [hw]
      simp only [Int.toNat_natCast]
      refine ⟨b3, o3, hp3, by omega, by omega, _, d0, b2, o2, hp2, by omega, hlt, _, c0, fun hzy => ⟨?_, H⟩, fun hzy => good ⟨hz, hz2, fun _ => by omega⟩⟩
      rw [bad fun h => by have := h.2.2 (by omega); omega]
  · rw [rightB_iff.2 ⟨⟨by omega, by omega⟩, hlen, hfit, fun k hk => hcho k (by omega)⟩]
end
end Go.Proofs.YtaccokhdmhomhaaDoor

/- The contract of vector.Turn. -/
namespace Go.Proofs.YtaccokhdmhomhaaDoor
open Go Go.Vc Go.RowKit
set_option maxRecDepth 20000
attribute [local irreducible] Calls Put Drew New

section
variable {w : World} {p : Option Addr} {n c : Nat} {hs : List Sl} {L : List (List Val)} {cols : List Col}
end
end Go.Proofs.YtaccokhdmhomhaaDoor

/- The contracts of vector: plain, chosen. -/
namespace Go.Proofs.YtaccokhdmhomhaaDoor
open Go Go.Vc Go.RowKit
set_option maxRecDepth 20000
attribute [local irreducible] Calls Put Drew New

theorem chosen_len {n : Nat} {ch : List Int} (h : ∀ i, i < ch.length → chosenAt n ch i = true) : ch.length ≤ n := by
  have hs := chosen_sorted h
  have key : ∀ i (hi : i < ch.length), (i : Int) ≤ ch[i] := by
    intro i
    induction i with
    | zero => intro hi; have := (ch_get hi (h 0 hi)).1; simpa using this
    | succ i ih =>
      intro hi
      have := ih (by omega)
      have := (List.pairwise_iff_getElem.1 hs) i (i + 1) (by omega) hi (by omega)
      omega
  rcases Nat.eq_zero_or_pos ch.length with h0 | h0
  · omega
  · have a := key (ch.length - 1) (by omega)
    have b := (ch_get (show ch.length - 1 < ch.length by omega) (h _ (by omega))).2
    omega
theorem right_all {cols : List Col} {B : List (List Val)} {ch : List Int} (h : rightB cols B ch = true) : ch.length ≤ 1024 ∧ ∀ i ∈ ch, 0 ≤ i ∧ i < (highB B : Int) ∧ fitsC cols (rowB B i.toNat) = true ∧ ∀ r ∈ B, i.toNat < r.length := by
  obtain ⟨⟨h1, h2⟩, h3, h4, h5⟩ := rightB_iff.1 h
  refine ⟨Nat.le_trans (chosen_len h5) h2, fun i hi => ?_⟩
  obtain ⟨a, b⟩ := chosen_mem h5 hi
  exact ⟨a, b, h4 _ (by omega), fun r hr => by rw [h3 r hr]; omega⟩
section
variable {w : World} {p bp cp : Option Addr} {n c bn bc cn cc : Nat} {hs : List Sl} {B : List (List Val)} {cols : List Col} {ch : List Int}
theorem vplain1_ok {f0 f1 f2 i : Nat} {k : Int} {z : Int} {r : List Val} {v : Val} (hB : Rws w bp bn bc hs B) (hch : Is w cp cn cc ch) (h0 : w.cell? ⟨f0, 0, none⟩ = some (.slice bp bn bc)) (h1 : w.cell? ⟨f1, 0, none⟩ = some (.int .i64 k)) (h2 : w.cell? ⟨f2, 0, none⟩ = some (.slice cp cn cc))
    (hk : 0 ≤ k) (hr : B[k.toNat]? = some r) (hz : ch[i]? = some z) (hz0 : 0 ≤ z) (hv : r[z.toNat]? = some v) :
    Calls Tryd.prog 44 #[.int .i64 (i : Int), .pointer (some ⟨f0, 0, none⟩), .pointer (some ⟨f1, 0, none⟩), .pointer (some ⟨f2, 0, none⟩)] w fun e w' => e = .returned v.agg ∧ Ext w w' := by
  apply vplain1_vc
  unfold vplain1_T
  intro b1 w2 hN
  have H := (Hold.start (Ext.rfl (w := w))).new hN
  intro w4 hD
  replace H := H.step (Drew.ext hD)
  have hl := hB.len
  have hcl := hch.len
  have hj := (List.getElem?_eq_some_iff.1 hr).1
  have hi := (List.getElem?_eq_some_iff.1 hz).1
  obtain ⟨x, _, hvs, b, o, hp, hcell⟩ := (hB.ext H.ext).get hr
  have hvl := hvs.len
  have hzr := (List.getElem?_eq_some_iff.1 hv).1
  obtain ⟨vb, vo, hvp, c0, c1, c2⟩ := hvs.val hv
  obtain ⟨cb, co, hcp, d0⟩ := (hch.ext H.ext).int hz
  simp only [Int.toNat_natCast]
  refine ⟨_, _, _, cell_ext h0 H.ext, _, cell_ext h1 H.ext, b, o, hp, hk, by omega, _, _, _, hcell, _, _, _, cell_ext h2 H.ext, cb, co, hcp, by omega, by omega, _, d0, vb, vo, hvp, hz0, by omega, _, c0, _, c1, _, c2, ?_⟩
  repeat (first
    | (intro _ _ hS; replace H := H.new hS; clear hS)
    | (intro _ hS; (first | replace H := H.put 0 rfl hS | replace H := H.put 1 rfl hS | replace H := H.put 2 rfl hS | replace H := H.put 3 rfl hS | replace H := H.put 4 rfl hS | replace H := H.put 5 rfl hS | replace H := H.put 6 rfl hS | replace H := H.put 7 rfl hS); clear hS; try simp only [setA, List.setIfInBounds_toArray, List.set_cons_zero, List.set_cons_succ, Nat.zero_add, Nat.reduceAdd] at H)
    | (intro _ hS; replace H := H.step (Drew.ext hS); clear hS)
    | (first | refine ⟨⟨_, H.get 0 rfl rfl⟩, ?_⟩ | refine ⟨⟨_, H.get 1 rfl rfl⟩, ?_⟩ | refine ⟨⟨_, H.get 2 rfl rfl⟩, ?_⟩ | refine ⟨⟨_, H.get 3 rfl rfl⟩, ?_⟩ | refine ⟨⟨_, H.get 4 rfl rfl⟩, ?_⟩ | refine ⟨⟨_, H.get 5 rfl rfl⟩, ?_⟩ | refine ⟨⟨_, H.get 6 rfl rfl⟩, ?_⟩ | refine ⟨⟨_, H.get 7 rfl rfl⟩, ?_⟩)
    | (first | refine ⟨H.frz 0 rfl, ?_⟩ | refine ⟨H.frz 1 rfl, ?_⟩ | refine ⟨H.frz 2 rfl, ?_⟩ | refine ⟨H.frz 3 rfl, ?_⟩ | refine ⟨H.frz 4 rfl, ?_⟩ | refine ⟨H.frz 5 rfl, ?_⟩ | refine ⟨H.frz 6 rfl, ?_⟩ | refine ⟨H.frz 7 rfl, ?_⟩)
    | (first | refine ⟨_, H.get 0 rfl rfl, ?_⟩ | refine ⟨_, H.get 1 rfl rfl, ?_⟩ | refine ⟨_, H.get 2 rfl rfl, ?_⟩ | refine ⟨_, H.get 3 rfl rfl, ?_⟩ | refine ⟨_, H.get 4 rfl rfl, ?_⟩ | refine ⟨_, H.get 5 rfl rfl, ?_⟩ | refine ⟨_, H.get 6 rfl rfl, ?_⟩ | refine ⟨_, H.get 7 rfl rfl, ?_⟩)
    | (first | refine ⟨_, _, _, H.get 0 rfl rfl, ?_⟩ | refine ⟨_, _, _, H.get 1 rfl rfl, ?_⟩ | refine ⟨_, _, _, H.get 2 rfl rfl, ?_⟩ | refine ⟨_, _, _, H.get 3 rfl rfl, ?_⟩ | refine ⟨_, _, _, H.get 4 rfl rfl, ?_⟩ | refine ⟨_, _, _, H.get 5 rfl rfl, ?_⟩ | refine ⟨_, _, _, H.get 6 rfl rfl, ?_⟩ | refine ⟨_, _, _, H.get 7 rfl rfl, ?_⟩))
  exact ⟨rfl, H.ext⟩
theorem vplain2_ok {f0 : Nat} {x : Ex} {i : Int} {y z u : Value} (hb : Blk w f0 29 #[y, z, .int .i64 x.v.k, .int .i64 x.v.n, .string x.v.s, u]) :
    Calls Tryd.prog 45 #[.int .i64 i, .pointer (some ⟨f0, 0, none⟩)] w fun e w' => e = .returned x.v.agg ∧ Ext w w' := by
  apply vplain2_vc
  unfold vplain2_T
  intro b1 w2 hN
  have H := (Hold.start (Ext.rfl (w := w))).new hN
  obtain ⟨_, _, a2, a3, a4, _⟩ := Blk.c6 (hb.ext H.ext)
  refine ⟨_, a2, _, a3, _, a4, ?_⟩
  repeat (first
    | (intro _ _ hS; replace H := H.new hS; clear hS)
    | (intro _ hS; (first | replace H := H.put 0 rfl hS | replace H := H.put 1 rfl hS | replace H := H.put 2 rfl hS | replace H := H.put 3 rfl hS | replace H := H.put 4 rfl hS | replace H := H.put 5 rfl hS | replace H := H.put 6 rfl hS | replace H := H.put 7 rfl hS); clear hS; try simp only [setA, List.setIfInBounds_toArray, List.set_cons_zero, List.set_cons_succ, Nat.zero_add, Nat.reduceAdd] at H)
    | (intro _ hS; replace H := H.step (Drew.ext hS); clear hS)
    | (first | refine ⟨⟨_, H.get 0 rfl rfl⟩, ?_⟩ | refine ⟨⟨_, H.get 1 rfl rfl⟩, ?_⟩ | refine ⟨⟨_, H.get 2 rfl rfl⟩, ?_⟩ | refine ⟨⟨_, H.get 3 rfl rfl⟩, ?_⟩ | refine ⟨⟨_, H.get 4 rfl rfl⟩, ?_⟩ | refine ⟨⟨_, H.get 5 rfl rfl⟩, ?_⟩ | refine ⟨⟨_, H.get 6 rfl rfl⟩, ?_⟩ | refine ⟨⟨_, H.get 7 rfl rfl⟩, ?_⟩)
    | (first | refine ⟨H.frz 0 rfl, ?_⟩ | refine ⟨H.frz 1 rfl, ?_⟩ | refine ⟨H.frz 2 rfl, ?_⟩ | refine ⟨H.frz 3 rfl, ?_⟩ | refine ⟨H.frz 4 rfl, ?_⟩ | refine ⟨H.frz 5 rfl, ?_⟩ | refine ⟨H.frz 6 rfl, ?_⟩ | refine ⟨H.frz 7 rfl, ?_⟩)
    | (first | refine ⟨_, H.get 0 rfl rfl, ?_⟩ | refine ⟨_, H.get 1 rfl rfl, ?_⟩ | refine ⟨_, H.get 2 rfl rfl, ?_⟩ | refine ⟨_, H.get 3 rfl rfl, ?_⟩ | refine ⟨_, H.get 4 rfl rfl, ?_⟩ | refine ⟨_, H.get 5 rfl rfl, ?_⟩ | refine ⟨_, H.get 6 rfl rfl, ?_⟩ | refine ⟨_, H.get 7 rfl rfl, ?_⟩)
    | (first | refine ⟨_, _, _, H.get 0 rfl rfl, ?_⟩ | refine ⟨_, _, _, H.get 1 rfl rfl, ?_⟩ | refine ⟨_, _, _, H.get 2 rfl rfl, ?_⟩ | refine ⟨_, _, _, H.get 3 rfl rfl, ?_⟩ | refine ⟨_, _, _, H.get 4 rfl rfl, ?_⟩ | refine ⟨_, _, _, H.get 5 rfl rfl, ?_⟩ | refine ⟨_, _, _, H.get 6 rfl rfl, ?_⟩ | refine ⟨_, _, _, H.get 7 rfl rfl, ?_⟩))
  exact ⟨rfl, H.ext⟩
theorem col_pos {x : Ex} (h1 : x.op = 1) (hk : (kindF cols x).2 = 0) : 0 ≤ findC cols x.name := by
  obtain ⟨_, hk2⟩ := kids_kinds hk
  rw [hk2] at hk
  unfold kindN at hk
  have hw : wantOf x.op = 0 := by rw [h1]; rfl
  rw [hw, if_neg (by simp), if_pos h1] at hk
  split at hk
  · exact absurd hk (by decide)
  · rename_i hge
    omega
theorem vplain_ok (x : Ex) {cs : List Value} (hc : Cols w p n c cols) (hB : Rws w bp bn bc hs B) (hch : Is w cp cn cc ch) (hx : ExAt w x cs) (ht : (typeF cols x).2 = 0) (hr : rightB cols B ch = true) :
    Calls Tryd.prog 21 #[.slice p n c, .slice bp bn bc, .slice cp cn cc, .agg cs.toArray] w fun e w' => ((∃ (q : Option Addr) (d : Nat), e = .returned (.tuple #[.slice q cn d, .bool true]) ∧ Vs w' q cn d (ch.map fun i => (valAt cols B x i).1) ∧ ∀ i ∈ ch, (valAt cols B x i).2 = 0) ∨
      e = .returned (.tuple #[.slice none 0 0, .bool false])) ∧ Ext w w' := by
  obtain ⟨xp, xn, xc, rfl, _⟩ := hx.six
  obtain ⟨hright, hform, hkd⟩ := typeF_right ht
  rw [hkd] at ht
  have hn : NodeOk x := (of_decide_eq_true hform : FormedP x).1 x (by cases x; unfold nodesT; exact List.mem_cons_self)
  obtain ⟨hlen, hin⟩ := right_all hr
  obtain ⟨⟨r1, r2⟩, r3, _, _⟩ := rightB_iff.1 hr
  have hcl := hch.len
  apply vplain_vc
  unfold vplain_T
  intro b1 w2 h1
  have H := (Hold.start (Ext.rfl (w := w))).new h1
  intro b4 w5 h4
  replace H := H.new h4
  intro b7 w8 h7
  replace H := H.new h7
  refine ⟨_, H.get 0 rfl rfl, fun ho => ?_, fun ho => ⟨fun ho2 => ?_, fun _ => ⟨.inr rfl, H.ext⟩⟩⟩
  · obtain ⟨cl, hcc, _⟩ := col_node ho hn ht
    have hci := (List.getElem?_eq_some_iff.1 hcc).1
    have hf0 : 0 ≤ findC cols x.name := col_pos ho ht
    refine ⟨_, H.get 0 rfl rfl, (sfind_ok (hc.ext H.ext) x.name).mono ?_⟩
    rintro e W ⟨rfl, eX⟩
    replace H := H.step eX
    refine ⟨_, rfl, ?_⟩
    intro b16 w17 h16
    replace H := H.new h16
    refine ⟨⟨_, H.get 0 rfl rfl⟩, H.frz 0 rfl, ?_⟩
    intro w20 hS
    replace H := H.put 0 rfl hS
    try simp only [setA, List.setIfInBounds_toArray, List.set_cons_zero, List.set_cons_succ, Nat.zero_add, Nat.reduceAdd] at H
    refine ⟨_, _, _, H.get 2 rfl rfl, ?_⟩
    have val : ∀ i ∈ ch, ∃ r v, B[(findC cols x.name).toNat]? = some r ∧ r[i.toNat]? = some v ∧ valAt cols B x i = (v, 0) := by
      intro i hi
      obtain ⟨i0, i1, i2, i3⟩ := hin i hi
      rw [fitsC_iff hright] at i2
      obtain ⟨u, hu, hval, _⟩ := col_value ho hn i2 hcc
      have hk : (findC cols x.name).toNat < B.length := by omega
      have hBr : B[(findC cols x.name).toNat]? = some B[(findC cols x.name).toNat] := List.getElem?_eq_getElem hk
      exact ⟨_, u, hBr, rowB_get hBr hu i3, hval⟩
    refine (vcolP_ok (l := ch.map fun i => (valAt cols B x i).1) (by omega) (by simp [hcl]) fun {W j v} e hv => ?_).mono ?_
    · rw [List.getElem?_map] at hv
      have hj : j < ch.length := by
        rcases Nat.lt_or_ge j ch.length with h | h
        · exact h
        · rw [List.getElem?_eq_none h] at hv; cases hv
      have hz : ch[j]? = some ch[j] := List.getElem?_eq_getElem hj
      obtain ⟨r, v', k1, k2, k3⟩ := val _ (List.getElem_mem hj)
      rw [hz] at hv
      have : (valAt cols B x ch[j]).1 = v := Option.some.inj hv
      rw [k3] at this
      subst this
      have H' := H.step e
      exact vplain1_ok (hB.ext H'.ext) (hch.ext H'.ext) (H'.get 3 rfl rfl) (H'.get 0 rfl rfl) (H'.get 2 rfl rfl) hf0 k1 hz (hin _ (List.getElem_mem hj)).1 k2
    · rintro e w26 ⟨q, d, rfl, _, hv, eX⟩
      exact ⟨_, _, _, rfl, .inl ⟨q, d, rfl, hv, fun i hi => by obtain ⟨_, _, _, _, h⟩ := val i hi; rw [h]⟩, H.ext.trans eX⟩
  · have val : ∀ i : Int, valAt cols B x i = (x.v, 0) := fun i => const_value ho2 hn
    refine ⟨_, _, _, H.get 1 rfl rfl, ?_⟩
    refine (vcolQ_ok (l := ch.map fun i => (valAt cols B x i).1) (by omega) (by simp [hcl]) fun {W j v} e hv => ?_).mono ?_
    · rw [List.getElem?_map] at hv
      cases hz : ch[j]? with
      | none => rw [hz] at hv; cases hv
      | some z =>
        rw [hz] at hv
        have : (valAt cols B x z).1 = v := Option.some.inj hv
        rw [val] at this
        subst this
        exact vplain2_ok ((H.step e).blk 0 rfl)
    · rintro e w26 ⟨q, d, rfl, _, hv, eX⟩
      exact ⟨_, _, _, rfl, .inl ⟨q, d, rfl, hv, fun i _ => by rw [val]⟩, H.ext.trans eX⟩
theorem chosen_ok (hbatch : Value) : Calls Tryd.prog 22 #[.slice bp bn bc, .slice cp cn cc] w fun e w' => ∃ b1 b4 w2, e = .returned (.func (.func 46) #[] #[.pointer (some ⟨b4, 0, none⟩), .pointer (some ⟨b1, 0, none⟩)]) ∧
    New w (.cells #[.slice bp bn bc] 23) b1 w2 ∧ New w2 (.cells #[.slice cp cn cc] 24) b4 w' := by
  apply vchosen_vc
  unfold vchosen_T
  intro b1 w2 h1 b4 w5 h4
  exact ⟨b1, b4, w2, rfl, h1, h4⟩
theorem chosen1_ok {l0 fv0 fv1 : Nat} {wc : World} (hB : Rws wc bp bn bc hs B) (hbn : bn ≤ 1024) (hch : Is wc cp cn cc ch) (hin : ∀ i ∈ ch, 0 ≤ i ∧ ∀ r ∈ B, i.toNat < r.length) (P : Nat → World → Prop)
    (hP : ∀ k W, P k W → Ext wc W ∧ W.cell? ⟨fv0, 0, none⟩ = some (.slice cp cn cc) ∧ W.cell? ⟨fv1, 0, none⟩ = some (.slice bp bn bc)) (hE : ∀ k W W', P k W → Ext W W' → P k W')
    (hR : ∀ (k : Nat) (i : Int) (W : World) (q : Option Addr) (d : Nat) (R : Bool → World → Prop), ch[k]? = some i → P k W → Vs W q bn d (rowB B i.toNat) → (∀ W', P (k + 1) W' → R true W') → Yield Tryd.prog l0 #[.int .i64 (k : Int), .slice q bn d] W R)
    (p0 : P 0 w) :
    Calls Tryd.prog 46 #[.func (.yield l0) #[] #[], .pointer (some ⟨fv0, 0, none⟩), .pointer (some ⟨fv1, 0, none⟩)] w fun e W' => e = .returned (.tuple #[]) ∧ P ch.length W' := by
  have hcl := hch.len
  have hcm := hch.le
  unfold maxLen at hcm
  apply vchosen1_vc
  unfold vchosen1_T
  refine ⟨_, _, _, (hP _ _ p0).2.1, fun i W => ∃ k : Nat, i = (k : Int) ∧ k ≤ cn ∧ P k W, fun i _ => cn - i.toNat, ⟨0, rfl, Nat.zero_le _, p0⟩, ?_⟩
  rintro i W ⟨k, rfl, hk, pk⟩
  obtain ⟨e0, e1, e2⟩ := hP _ _ pk
  refine ⟨fun hlt => ?_, fun hge => ?_⟩
  · have gz : ch[k]? = some (ch[k]'(by omega)) := List.getElem?_eq_getElem _
    generalize ch[k]'(by omega) = z at gz
    obtain ⟨b, o, hp, c0⟩ := (hch.ext e0).int gz
    obtain ⟨z0, z1⟩ := hin z (List.mem_of_getElem? gz)
    simp only [Int.toNat_natCast]
    refine ⟨b, o, hp, by omega, hlt, _, c0, _, _, _, e2, ?_⟩
    have ez : z = ((z.toNat : Nat) : Int) := by omega
    rw [ez]
    refine (vrowof_ok (hB.ext e0) hbn z1).mono ?_
    rintro e W1 ⟨q, d, rfl, hv, eX⟩
    refine ⟨_, _, _, rfl, ?_⟩
    refine hR k z W1 q d _ gz (hE _ _ _ pk eX) hv fun W' pk' => ⟨fun h => (by cases h), fun _ => ?_⟩
    rw [i64_next (by omega)]
    exact ⟨⟨k + 1, rfl, by omega, pk'⟩, by omega⟩
  · have : k = cn := by omega
    subst this
    rw [hcl]
    exact ⟨rfl, pk⟩
end
end Go.Proofs.YtaccokhdmhomhaaDoor

/- The contract of vector.Filter, given that of Eval. -/
namespace Go.Proofs.YtaccokhdmhomhaaDoor
open Go Go.Vc Go.RowKit
set_option maxRecDepth 20000
attribute [local irreducible] Calls Put Drew New

theorem firstBad_at {cols : List Col} {B : List (List Val)} {x : Ex} : ∀ {ch : List Int} {j : Nat} {z : Int}, (∀ i ∈ ch.take j, (valAt cols B x i).2 = 0) → ch[j]? = some z → (valAt cols B x z).2 ≠ 0 → firstBad cols B x ch = some z
  | [], _, _, _, h, _ => by simp at h
  | y :: ch, 0, z, _, h, hz => by
    cases h
    unfold firstBad
    rw [if_pos hz]
  | y :: ch, j + 1, z, ha, h, hz => by
    unfold firstBad
    rw [if_neg (by rw [ha y (by simp)]; simp)]
    exact firstBad_at (j := j) (fun i hi => ha i (by simp [hi])) (by simpa using h) hz
/-- What Eval answers. -/
def EvalAns (cols : List Col) (B : List (List Val)) (ch : List Int) (x : Ex) (e : Ending) (w' : World) : Prop :=
  ∃ (q : Option Addr) (k d : Nat) (q2 : Option Addr) (k2 d2 : Nat), e = .returned (.tuple #[.slice q k d, .slice q2 k2 d2, .int .i64 (evalB cols B ch x).2.2]) ∧ Vs w' q k d (evalB cols B ch x).1 ∧ Is w' q2 k2 d2 (evalB cols B ch x).2.1
set_option maxHeartbeats 4000000 in
theorem vFilter_ok (x : Ex) {w : World} {p bp cp : Option Addr} {n c bn bc cn cc : Nat} {B : List (List Val)} {cols : List Col} {ch : List Int} {cs : List Value} (hT : Tab w) (hc : Cols w p n c cols) (hch : Is w cp cn cc ch) (hx : ExAt w x cs)
    (hE : ∀ {W : World}, Ext w W → Calls Tryd.prog 9 #[.slice p n c, .slice bp bn bc, .slice cp cn cc, .agg cs.toArray] W fun e w' => EvalAns cols B ch x e w' ∧ Ext W w') :
    Calls Tryd.prog 13 #[.slice p n c, .slice bp bn bc, .slice cp cn cc, .agg cs.toArray] w fun e w' => (∃ (q : Option Addr) (k d : Nat), e = .returned (.tuple #[.slice q k d, .int .i64 (filterB cols B ch x).2.1, .int .i64 (filterB cols B ch x).2.2]) ∧ Is w' q k d (filterB cols B ch x).1) ∧ Ext w w' := by
  obtain ⟨xp, xn, xc, rfl, _⟩ := hx.six
  apply vFilter_vc
  unfold vFilter_T
  intro b1 w2 h1
  have H := (Hold.start (Ext.rfl (w := w))).new h1
  obtain ⟨a0, a1, a2, a3, a4, a5⟩ := Blk.c6 (H.blk 0 rfl)
  refine ⟨_, a0, _, a1, _, a2, _, a3, _, a4, _, _, _, a5, ?_⟩
  refine (xtype_ok x (hT.ext H.ext) (hc.ext H.ext) (hx.ext H.ext)).mono ?_
  rintro e W ⟨rfl, eX⟩
  replace H := H.step eX
  refine ⟨_, _, rfl, fun hk => ⟨fun _ => ?_, fun h => absurd h (by decide)⟩, fun hk => ⟨fun hne => ?_, fun heq => ?_⟩⟩
  · have : filterB cols B ch x = ([], 0, 121) := by
      unfold filterB
      rw [if_neg (by simp [hk.1.1]), if_pos ⟨hk.1.2, hk.2⟩]
    rw [this]
    exact ⟨⟨none, 0, 0, rfl, Ls.nothing _ _⟩, H.ext⟩
  · have : filterB cols B ch x = ([], 0, (typeF cols x).2) := by
      unfold filterB
      rw [if_pos hne]
    rw [this]
    exact ⟨⟨none, 0, 0, rfl, Ls.nothing _ _⟩, H.ext⟩
  have hk' : ¬ ((typeF cols x).1 ≠ 2 ∧ (typeF cols x).1 ≠ 0) := by omega
  obtain ⟨a0, a1, a2, a3, a4, a5⟩ := Blk.c6 (H.blk 0 rfl)
  refine ⟨_, a0, _, a1, _, a2, _, a3, _, a4, _, _, _, a5, ?_⟩
  refine (hE H.ext).mono ?_
  rintro e W1 ⟨⟨q, k, d, q2, k2, d2, rfl, hv, hb⟩, eX⟩
  replace H := H.step eX
  refine ⟨_, _, _, _, _, _, _, rfl, fun hne => ?_, fun heq2 => ?_⟩
  · have hr : rightB cols B ch = false := by
      cases hr : rightB cols B ch with
      | false => rfl
      | true =>
        exfalso; apply hne
        unfold evalB
        rw [if_neg (by simp [heq]), if_neg (by simp [hr])]
    have e1 : evalB cols B ch x = ([], [], 2) := by unfold evalB; rw [if_neg (by simp [heq]), if_pos hr]
    have e2 : filterB cols B ch x = ([], 0, 2) := by
      unfold filterB
      rw [if_neg (by simp [heq]), if_neg hk', if_pos hr]
    rw [e1, e2]
    exact ⟨⟨none, 0, 0, rfl, Ls.nothing _ _⟩, H.ext⟩
  have hr : rightB cols B ch = true := by
    cases hr : rightB cols B ch with
    | true => rfl
    | false =>
      exfalso
      unfold evalB at heq2
      rw [if_neg (by simp [heq]), if_pos hr] at heq2
      exact absurd heq2 (by decide)
  have e1 : evalB cols B ch x = (ch.map fun i => (valAt cols B x i).1, ch.map fun i => (valAt cols B x i).2, 0) := by unfold evalB; rw [if_neg (by simp [heq]), if_neg (by simp [hr])]
  rw [e1] at hv hb
  have hcl := hch.len
  have hvl := hv.len
  have hbl := hb.len
  simp only [List.length_map] at hvl hbl
  obtain ⟨hlen, _⟩ := right_all hr
  have e0 := H.ext
  clear H
  refine ⟨fun o k' d' i W => ∃ j : Nat, i = (j : Int) ∧ j ≤ k ∧ (∀ i ∈ ch.take j, (valAt cols B x i).2 = 0) ∧ ∃ vs : List Int, vs = (ch.take j).filter (fun i => isTruth (valAt cols B x i).1) ∧ vs.length = k' ∧ Hold W1 W [] [⟨3, 1, o, k', d', vs.flatMap encI⟩], fun _ _ _ i _ => k - i.toNat, ⟨0, rfl, Nat.zero_le _, by simp, [], rfl, rfl, (Hold.start Ext.rfl).nilRow _ _⟩, ?_⟩
  rintro o k' d' i W ⟨j, rfl, hj, hall, vs, hvs, hvsl, H⟩
  refine ⟨fun hlt => ?_, fun hge => ⟨fun h => absurd h (by decide), fun _ => ?_⟩⟩
  · have gz : ch[j]? = some (ch[j]'(by omega)) := List.getElem?_eq_getElem _
    generalize ch[j]'(by omega) = z at gz
    have gv : (ch.map fun i => (valAt cols B x i).1)[j]? = some (valAt cols B x z).1 := by rw [List.getElem?_map, gz]; rfl
    have gb : (ch.map fun i => (valAt cols B x i).2)[j]? = some (valAt cols B x z).2 := by rw [List.getElem?_map, gz]; rfl
    obtain ⟨vb, vo, hvp, c0, c1, c2⟩ := (hv.ext H.ext).val gv
    simp only [Int.toNat_natCast]
    refine ⟨vb, vo, hvp, by omega, hlt, _, c0, _, c1, _, c2, ?_⟩
    intro b52 w53 h52
    replace H := H.new h52
    refine ⟨⟨_, H.get 0 rfl rfl⟩, H.frz 0 rfl, ⟨_, H.get 0 rfl rfl⟩, H.frz 0 rfl, ⟨_, H.get 0 rfl rfl⟩, H.frz 0 rfl, ?_⟩
    intro w58 hS
    replace H := H.put 0 rfl hS
    try simp only [setA, List.setIfInBounds_toArray, List.set_cons_zero, List.set_cons_succ, Nat.zero_add, Nat.reduceAdd] at H
    obtain ⟨bb, bo, hbp, d0⟩ := (hb.ext H.ext).int gb
    refine ⟨bb, bo, hbp, by omega, by omega, _, d0, fun hne => ⟨fun _ => ?_, fun h => absurd h (by omega)⟩, fun h0 => ?_⟩
    · intro w65 hD
      replace H := H.step (Drew.ext hD)
      obtain ⟨cb, co, hcp, f0⟩ := (hch.ext (e0.trans H.ext)).int gz
      obtain ⟨bb, bo, hbp, d0⟩ := (hb.ext H.ext).int gb
      refine ⟨cb, co, hcp, by omega, by omega, _, f0, bb, bo, hbp, by omega, by omega, _, d0, ?_⟩
      have e2 : filterB cols B ch x = ([], z, (valAt cols B x z).2) := by
        unfold filterB
        rw [if_neg (by simp [heq]), if_neg hk', if_neg (by simp [hr]), firstBad_at hall gz hne]
      rw [e2]
      exact ⟨⟨none, 0, 0, rfl, Ls.nothing _ _⟩, e0.trans H.ext⟩
    · have hall' : ∀ i ∈ ch.take (j + 1), (valAt cols B x i).2 = 0 := fun i hi => by
        rw [List.take_add_one, gz] at hi
        rcases List.mem_append.1 hi with h | h
        · exact hall i h
        · simp at h; subst h; exact h0
      rw [i64_next (by omega)]
      have M : k - ((j + 1 : Nat) : Int).toNat < k - ((j : Nat) : Int).toNat := by simp only [Int.toNat_natCast]; omega
      have no : isTruth (valAt cols B x z).1 = false → (ch.take (j + 1)).filter (fun i => isTruth (valAt cols B x i).1) = vs := fun h => by
        rw [List.take_add_one, gz, List.filter_append, hvs]
        simp [h]
      have yes : isTruth (valAt cols B x z).1 = true → (ch.take (j + 1)).filter (fun i => isTruth (valAt cols B x i).1) = vs ++ [z] := fun h => by
        rw [List.take_add_one, gz, List.filter_append, hvs]
        simp [h]
      refine ⟨_, H.get 0 rfl rfl, fun hk2 => ⟨_, H.get 0 rfl rfl, fun hn1 => ?_, fun hn1 => ?_⟩, fun hk2 => ?_⟩
      · obtain ⟨cb, co, hcp, f0⟩ := (hch.ext (e0.trans H.ext)).int gz
        refine ⟨cb, co, hcp, by omega, by omega, _, f0, ?_⟩
        intro b82 w83 h82
        have h82' := h82
        replace H := H.step h82.ext
        have hvk : vs.length ≤ j := by rw [hvs]; exact Nat.le_trans (List.length_filter_le _ _) (by simp; omega)
        obtain ⟨p', c', w26, hrn, H26⟩ := H.append (ty := 24) (P := Tryd.prog) (q := some ⟨b82, 0, none⟩) (m := 1) (d' := 1) (news := encI z) 0 rfl undInts tyInt rfl (by decide) (Blk.new h82').at rfl (fun e => by cases e) (encI_one _) (by dsimp only; omega) (by unfold maxLen; omega)
        refine ⟨p', _, c', w26, hrn, ⟨j + 1, rfl, by omega, hall', vs ++ [z], (yes (by unfold isTruth; simp [hk2, hn1])).symm, by simp [hvsl], ?_⟩, by simpa using M⟩
        rw [List.flatMap_append]
        simpa using H26.tail
      · exact ⟨⟨j + 1, rfl, by omega, hall', vs, (no (by unfold isTruth; simp [hn1])).symm, hvsl, H.tail⟩, by simpa using M⟩
      · exact ⟨⟨j + 1, rfl, by omega, hall', vs, (no (by unfold isTruth; simp [hk2])).symm, hvsl, H.tail⟩, by simpa using M⟩
  · have hjk : j = k := by omega
    subst hjk
    have e2 := filterB_make heq (by omega) hr fun i hi => hall i (by rw [List.take_of_length_le (by omega)]; exact hi)
    rw [e2]
    rw [List.take_of_length_le (by omega)] at hvs
    refine ⟨⟨o, k', d', rfl, ?_⟩, e0.trans H.ext⟩
    rw [← hvs]
    exact (H.row 0 rfl).ls encI_len (by decide)
end Go.Proofs.YtaccokhdmhomhaaDoor

/- The contract of the document's Filter, given that of its Eval. -/
namespace Go.Proofs.YtaccokhdmhomhaaDoor
open Go Go.Vc Go.RowKit
set_option maxRecDepth 20000
attribute [local irreducible] Calls Put Drew New

set_option maxHeartbeats 4000000 in
theorem wFilter_ok (x : Ex) {w : World} {p bp cp : Option Addr} {n c bn bc cn cc : Nat} {B : List (List Val)} {cols : List Col} {ch : List Int} {cs : List Value} (hc : Cols w p n c cols) (hcs : ∀ y ∈ cols, y.name.size ≤ 9223372036854775807) (hch : Is w cp cn cc ch) (hx : ExAt w x cs)
    (hE : ∀ {W : World}, Ext w W → Calls Tryd.prog 10 #[.slice p n c, .slice bp bn bc, .slice cp cn cc, .agg cs.toArray] W fun e w' => EvalAns cols B ch x e w' ∧ Ext W w') :
    Calls Tryd.prog 14 #[.slice p n c, .slice bp bn bc, .slice cp cn cc, .agg cs.toArray] w fun e w' => (∃ (q : Option Addr) (k d : Nat), e = .returned (.tuple #[.slice q k d, .int .i64 (filterB cols B ch x).2.1, .int .i64 (filterB cols B ch x).2.2]) ∧ Is w' q k d (filterB cols B ch x).1) ∧ Ext w w' := by
  obtain ⟨xp, xn, xc, rfl, _⟩ := hx.six
  apply wFilter_vc
  unfold wFilter_T
  intro b1 w2 h1
  have H := (Hold.start (Ext.rfl (w := w))).new h1
  obtain ⟨a0, a1, a2, a3, a4, a5⟩ := Blk.c6 (H.blk 0 rfl)
  refine ⟨_, a0, _, a1, _, a2, _, a3, _, a4, _, _, _, a5, ?_⟩
  refine (rtype_ok x (hc.ext H.ext) hcs (hx.ext H.ext)).mono ?_
  rintro e W ⟨rfl, eX⟩
  replace H := H.step eX
  refine ⟨_, _, rfl, fun hne => ?_, fun heq => ⟨fun hk => ?_, fun hk => ?_⟩⟩
  · have : filterB cols B ch x = ([], 0, (typeF cols x).2) := by
      unfold filterB
      rw [if_pos hne]
    rw [this]
    exact ⟨⟨none, 0, 0, rfl, Ls.nothing _ _⟩, H.ext⟩
  · have : filterB cols B ch x = ([], 0, 121) := by
      unfold filterB
      rw [if_neg (by simp [heq]), if_pos hk]
    rw [this]
    exact ⟨⟨none, 0, 0, rfl, Ls.nothing _ _⟩, H.ext⟩
  have hk' : ¬ ((typeF cols x).1 ≠ 2 ∧ (typeF cols x).1 ≠ 0) := by omega
  obtain ⟨a0, a1, a2, a3, a4, a5⟩ := Blk.c6 (H.blk 0 rfl)
  refine ⟨_, a0, _, a1, _, a2, _, a3, _, a4, _, _, _, a5, ?_⟩
  refine (hE H.ext).mono ?_
  rintro e W1 ⟨⟨q, k, d, q2, k2, d2, rfl, hv, hb⟩, eX⟩
  replace H := H.step eX
  refine ⟨_, _, _, _, _, _, _, rfl, fun hne => ?_, fun heq2 => ?_⟩
  · have hr : rightB cols B ch = false := by
      cases hr : rightB cols B ch with
      | false => rfl
      | true =>
        exfalso; apply hne
        unfold evalB
        rw [if_neg (by simp [heq]), if_neg (by simp [hr])]
    have e1 : evalB cols B ch x = ([], [], 2) := by unfold evalB; rw [if_neg (by simp [heq]), if_pos hr]
    have e2 : filterB cols B ch x = ([], 0, 2) := by
      unfold filterB
      rw [if_neg (by simp [heq]), if_neg hk', if_pos hr]
    rw [e1, e2]
    exact ⟨⟨none, 0, 0, rfl, Ls.nothing _ _⟩, H.ext⟩
  have hr : rightB cols B ch = true := by
    cases hr : rightB cols B ch with
    | true => rfl
    | false =>
      exfalso
      unfold evalB at heq2
      rw [if_neg (by simp [heq]), if_pos hr] at heq2
      exact absurd heq2 (by decide)
  have e1 : evalB cols B ch x = (ch.map fun i => (valAt cols B x i).1, ch.map fun i => (valAt cols B x i).2, 0) := by unfold evalB; rw [if_neg (by simp [heq]), if_neg (by simp [hr])]
  rw [e1] at hv hb
  have hcl := hch.len
  have hvl := hv.len
  have hbl := hb.len
  simp only [List.length_map] at hvl hbl
  obtain ⟨hlen, _⟩ := right_all hr
  have e0 := H.ext
  clear H
  refine ⟨fun o k' d' i W => ∃ j : Nat, i = (j : Int) ∧ j ≤ k ∧ (∀ i ∈ ch.take j, (valAt cols B x i).2 = 0) ∧ ∃ vs : List Int, vs = (ch.take j).filter (fun i => isTruth (valAt cols B x i).1) ∧ vs.length = k' ∧ Hold W1 W [] [⟨3, 1, o, k', d', vs.flatMap encI⟩], fun _ _ _ i _ => k - i.toNat, ⟨0, rfl, Nat.zero_le _, by simp, [], rfl, rfl, (Hold.start Ext.rfl).nilRow _ _⟩, ?_⟩
  rintro o k' d' i W ⟨j, rfl, hj, hall, vs, hvs, hvsl, H⟩
  refine ⟨fun hlt => ?_, fun hge => ?_⟩
  · have gz : ch[j]? = some (ch[j]'(by omega)) := List.getElem?_eq_getElem _
    generalize ch[j]'(by omega) = z at gz
    have gv : (ch.map fun i => (valAt cols B x i).1)[j]? = some (valAt cols B x z).1 := by rw [List.getElem?_map, gz]; rfl
    have gb : (ch.map fun i => (valAt cols B x i).2)[j]? = some (valAt cols B x z).2 := by rw [List.getElem?_map, gz]; rfl
    obtain ⟨vb, vo, hvp, c0, c1, c2⟩ := (hv.ext H.ext).val gv
    simp only [Int.toNat_natCast]
    obtain ⟨bb, bo, hbp, d0⟩ := (hb.ext H.ext).int gb
    refine ⟨bb, bo, hbp, by omega, by omega, _, d0, fun hne => ?_, fun h0 => ?_⟩
    · intro w65 hD
      replace H := H.step (Drew.ext hD)
      obtain ⟨cb, co, hcp, f0⟩ := (hch.ext (e0.trans H.ext)).int gz
      obtain ⟨bb, bo, hbp, d0⟩ := (hb.ext H.ext).int gb
      refine ⟨cb, co, hcp, by omega, by omega, _, f0, bb, bo, hbp, by omega, by omega, _, d0, ?_⟩
      have e2 : filterB cols B ch x = ([], z, (valAt cols B x z).2) := by
        unfold filterB
        rw [if_neg (by simp [heq]), if_neg hk', if_neg (by simp [hr]), firstBad_at hall gz hne]
      rw [e2]
      exact ⟨⟨none, 0, 0, rfl, Ls.nothing _ _⟩, e0.trans H.ext⟩
    · have hall' : ∀ i ∈ ch.take (j + 1), (valAt cols B x i).2 = 0 := fun i hi => by
        rw [List.take_add_one, gz] at hi
        rcases List.mem_append.1 hi with h | h
        · exact hall i h
        · simp at h; subst h; exact h0
      rw [i64_next (by omega)]
      have M : k - ((j + 1 : Nat) : Int).toNat < k - ((j : Nat) : Int).toNat := by simp only [Int.toNat_natCast]; omega
      have no : isTruth (valAt cols B x z).1 = false → (ch.take (j + 1)).filter (fun i => isTruth (valAt cols B x i).1) = vs := fun h => by
        rw [List.take_add_one, gz, List.filter_append, hvs]
        simp [h]
      have yes : isTruth (valAt cols B x z).1 = true → (ch.take (j + 1)).filter (fun i => isTruth (valAt cols B x i).1) = vs ++ [z] := fun h => by
        rw [List.take_add_one, gz, List.filter_append, hvs]
        simp [h]
      refine ⟨vb, vo, hvp, by omega, hlt, _, c0, fun hk2 => ⟨vb, vo, hvp, by omega, hlt, _, c1, fun hn1 => ?_, fun hn1 => ?_⟩, fun hk2 => ?_⟩
      · obtain ⟨cb, co, hcp, f0⟩ := (hch.ext (e0.trans H.ext)).int gz
        refine ⟨cb, co, hcp, by omega, by omega, _, f0, ?_⟩
        intro b82 w83 h82
        have h82' := h82
        replace H := H.step h82.ext
        have hvk : vs.length ≤ j := by rw [hvs]; exact Nat.le_trans (List.length_filter_le _ _) (by simp; omega)
        obtain ⟨p', c', w26, hrn, H26⟩ := H.append (ty := 24) (P := Tryd.prog) (q := some ⟨b82, 0, none⟩) (m := 1) (d' := 1) (news := encI z) 0 rfl undInts tyInt rfl (by decide) (Blk.new h82').at rfl (fun e => by cases e) (encI_one _) (by dsimp only; omega) (by unfold maxLen; omega)
        refine ⟨p', _, c', w26, hrn, ⟨j + 1, rfl, by omega, hall', vs ++ [z], (yes (by unfold isTruth; simp [hk2, hn1])).symm, by simp [hvsl], ?_⟩, by simpa using M⟩
        rw [List.flatMap_append]
        simpa using H26
      · exact ⟨⟨j + 1, rfl, by omega, hall', vs, (no (by unfold isTruth; simp [hn1])).symm, hvsl, H⟩, by simpa using M⟩
      · exact ⟨⟨j + 1, rfl, by omega, hall', vs, (no (by unfold isTruth; simp [hk2])).symm, hvsl, H⟩, by simpa using M⟩
  · have hjk : j = k := by omega
    subst hjk
    have e2 := filterB_make heq (by omega) hr fun i hi => hall i (by rw [List.take_of_length_le (by omega)]; exact hi)
    rw [e2]
    rw [List.take_of_length_le (by omega)] at hvs
    refine ⟨⟨o, k', d', rfl, ?_⟩, e0.trans H.ext⟩
    rw [← hvs]
    exact (H.row 0 rfl).ls encI_len (by decide)
end Go.Proofs.YtaccokhdmhomhaaDoor

/- The contracts of the document's answer for expressions: numbers, truths. -/
namespace Go.Proofs.YtaccokhdmhomhaaDoor
open Go Go.Vc Go.RowKit
set_option maxRecDepth 20000

theorem rtruth_ok (b : Bool) (w : World) : Calls Tryd.prog 53 #[.bool b] w fun e w' => e = .returned (truthV b).agg ∧ Ext w w' := by
  apply rtruth_vc
  unfold rtruth_T
  intro b1 w2 h1 b4 w5 h4
  have H5 := ((Hold.start (Ext.rfl (w := w))).new h1).new h4
  obtain ⟨q0, q1, q2⟩ := (H5.blk 0 rfl).c3
  refine ⟨⟨_, q0⟩, (H5.blk 0 rfl).frozen _, ⟨_, q1⟩, (H5.blk 0 rfl).frozen _, ⟨_, q2⟩, (H5.blk 0 rfl).frozen _, fun w10 h10 => ?_⟩
  have H10 := H5.put 0 rfl h10
  have B : Blk w10 b4 26 #[.int .i64 2, .int .i64 0, .string ⟨#[]⟩] := H10.blk 0 rfl
  obtain ⟨q0, q1, q2⟩ := B.c3
  refine ⟨fun hb => ⟨⟨_, q1⟩, B.frozen _, fun w14 h14 => ?_⟩, fun hb => ⟨_, q0, _, q1, _, q2, H10.ret3 1 rfl _ _ _ fun W' hx => ⟨by rw [hb]; rfl, hx⟩⟩⟩
  have H14 := H10.put 0 rfl h14
  have B : Blk w14 b4 26 #[.int .i64 2, .int .i64 1, .string ⟨#[]⟩] := H14.blk 0 rfl
  obtain ⟨q0, q1, q2⟩ := B.c3
  exact ⟨_, q0, _, q1, _, q2, H14.ret3 1 rfl _ _ _ fun W' hx => ⟨by rw [hb]; rfl, hx⟩⟩
theorem rnumber_ok (n : Int) (w : World) : Calls Tryd.prog 54 #[.int .i64 n] w fun e w' => e = .returned (numV n).agg ∧ Ext w w' := by
  apply rnumber_vc
  unfold rnumber_T
  intro b1 w2 h1
  have H := (Hold.start (Ext.rfl (w := w))).new h1
  exact H.ret3 0 rfl _ _ _ fun W' hx => ⟨rfl, hx⟩

theorem prod_test {a b : Int} (ha : fitI a) (hb : fitI b) (b0 : b ≠ 0) (h1 : ¬ (b = -1 ∧ a = -9223372036854775808)) : quoI .i64 (IntKind.i64.wrap (a * b)) b = a ↔ fitI (a * b) := by
  have ew : ∀ x, fitI x → IntKind.i64.wrap x = x := fun x hx => by unfold fitI at hx; exact i64_fit hx.1 hx.2
  constructor
  · intro h
    have hw := IntKind.wrap_i64 (a * b)
    have hp : fitI (IntKind.i64.wrap (a * b)) := by unfold fitI; omega
    unfold quoI at h
    by_cases hs : IntKind.i64.wrap (a * b) = -9223372036854775808 ∧ b = -1
    · obtain ⟨h2, rfl⟩ := hs
      exfalso
      rw [h2] at h
      have : IntKind.i64.wrap ((-9223372036854775808 : Int).tdiv (-1)) = -9223372036854775808 := by decide +kernel
      rw [this] at h
      exact h1 ⟨rfl, h.symm⟩
    · have hq := (tdiv_fit hp b0).2 hs
      rw [ew _ hq] at h
      have hdm := Int.mul_tdiv_add_tmod (IntKind.i64.wrap (a * b)) b
      have hm : ((IntKind.i64.wrap (a * b)).tmod b).natAbs = (IntKind.i64.wrap (a * b)).natAbs % b.natAbs := Int.natAbs_tmod _ _
      have hlt := Nat.mod_lt (IntKind.i64.wrap (a * b)).natAbs (y := b.natAbs) (by omega)
      rw [h, Int.mul_comm b a] at hdm
      generalize (IntKind.i64.wrap (a * b)).tmod b = r at *
      generalize IntKind.i64.wrap (a * b) = p at *
      generalize a * b = X at *
      unfold fitI at *
      generalize p.natAbs % b.natAbs = t at *
      omega
  · intro h
    rw [ew _ h]
    unfold quoI
    rw [Int.mul_tdiv_cancel _ b0, ew _ ha]
theorem rproduct_ok {a b : Int} (ha : fitI a) (hb : fitI b) (w : World) : Calls Tryd.prog 74 #[.int .i64 a, .int .i64 b] w fun e w' => ∃ n : Int, e = .returned (.tuple #[.int .i64 n, .bool (decide (fitI (a * b)))]) ∧ (fitI (a * b) → n = a * b) ∧ Ext w w' := by
  apply rproduct_vc
  unfold rproduct_T
  have ew : ∀ x, fitI x → IntKind.i64.wrap x = x := fun x hx => by unfold fitI at hx; exact i64_fit hx.1 hx.2
  refine ⟨fun hz => ⟨0, ?_, ?_, .rfl⟩, fun hz => ⟨fun h1 => ⟨0, ?_, ?_, .rfl⟩, fun h1 => ⟨fun h2 => ⟨0, ?_, ?_, .rfl⟩, fun h2 w7 h7 => ⟨hz.2, IntKind.i64.wrap (a * b), ?_, fun h => ew _ h, h7.ext⟩⟩⟩⟩
  · have : a * b = 0 := by rcases hz with h | h <;> simp [h]
    rw [this]; rfl
  · intro _; rcases hz with h | h <;> simp [h]
  · obtain ⟨rfl, rfl⟩ := h1; rfl
  · obtain ⟨rfl, rfl⟩ := h1; intro h; exact absurd h (by decide)
  · obtain ⟨rfl, rfl⟩ := h2; rfl
  · obtain ⟨rfl, rfl⟩ := h2; intro h; exact absurd h (by decide)
  · have : decide (quoI .i64 (IntKind.i64.wrap (a * b)) b = a) = decide (fitI (a * b)) := by
      rw [decide_eq_decide]
      exact prod_test ha hb hz.2 (by omega)
    rw [this]

theorem reckoned_ok {op a b : Int} (hop : 3 ≤ op ∧ op ≤ 7) (ha : fitI a) (hb : fitI b) (w : World) : Calls Tryd.prog 55 #[.int .i64 op, .int .i64 a, .int .i64 b] w fun e w' => e = .returned (.tuple #[.int .i64 (arithF op a b).1, .int .i64 (arithF op a b).2]) ∧ Ext w w' := by
  apply reckoned_vc
  unfold reckoned_T
  have ew : ∀ x, fitI x → IntKind.i64.wrap x = x := fun x hx => by unfold fitI at hx; exact i64_fit hx.1 hx.2
  have wa := IntKind.wrap_i64 (a + b)
  have ws := IntKind.wrap_i64 (a - b)
  have A3 : op = 3 → arithF op a b = overF (a + b) := fun h => by unfold arithF; rw [if_neg (by omega), if_pos h]
  have A4 : op = 4 → arithF op a b = overF (a - b) := fun h => by unfold arithF; rw [if_neg (by omega), if_neg (by omega), if_pos h]
  have A5 : op = 5 → arithF op a b = overF (a * b) := fun h => by unfold arithF; rw [if_neg (by omega), if_neg (by omega), if_neg (by omega), if_pos h]
  have A6 : op = 6 → b ≠ 0 → arithF op a b = overF (a.tdiv b) := fun h h0 => by unfold arithF; rw [if_neg (by omega), if_neg (by omega), if_neg (by omega), if_neg (by omega), if_pos h]
  have A7 : op = 7 → b ≠ 0 → arithF op a b = (a.tmod b, 0) := fun h h0 => by unfold arithF; rw [if_neg (by omega), if_neg (by omega), if_neg (by omega), if_neg (by omega), if_neg (by omega), if_pos h]
  have Az : op = 6 ∨ op = 7 → b = 0 → arithF op a b = (0, 101) := fun h h0 => by unfold arithF; rw [if_pos ⟨h, h0⟩]
  have yes : ∀ x, fitI x → overF x = (x, 0) := fun x h => by unfold overF; rw [if_pos h]
  have no : ∀ x, ¬ fitI x → overF x = (0, 100) := fun x h => by unfold overF; rw [if_neg h]
  have fa := ha
  have fb := hb
  unfold fitI at fa fb
  refine ⟨fun h3 => ⟨fun h => ⟨?_, .rfl⟩, fun h => ⟨fun h' => ⟨?_, .rfl⟩, fun h' => ⟨?_, .rfl⟩⟩⟩, fun h3 => ⟨fun h4 => ⟨fun h => ⟨?_, .rfl⟩, fun h => ⟨fun h' => ⟨?_, .rfl⟩, fun h' => ⟨?_, .rfl⟩⟩⟩, fun h4 => ⟨fun h5 => (rproduct_ok ha hb w).mono ?_, fun h5 => ⟨fun h6 => ⟨fun hz => ⟨?_, .rfl⟩, fun hz => ⟨fun hm => ⟨fun hmin => ⟨?_, .rfl⟩, fun hmin => ⟨?_, .rfl⟩⟩, fun hm => ⟨hz, ?_, .rfl⟩⟩⟩,
    fun h6 => ⟨fun hz => ⟨?_, .rfl⟩, fun hz => ⟨fun hm => ⟨hz, ?_, .rfl⟩, fun hm => ⟨?_, .rfl⟩⟩⟩⟩⟩⟩⟩
  · have : fitI (a + b) := by unfold fitI; omega
    rw [A3 h3, yes _ this, ew _ this]
  · have : ¬ fitI (a + b) := by unfold fitI; omega
    rw [A3 h3, no _ this]
  · have : fitI (a + b) := by unfold fitI; omega
    rw [A3 h3, yes _ this, ew _ this]
  · have : fitI (a - b) := by unfold fitI; omega
    rw [A4 h4, yes _ this, ew _ this]
  · have : ¬ fitI (a - b) := by unfold fitI; omega
    rw [A4 h4, no _ this]
  · have : fitI (a - b) := by unfold fitI; omega
    rw [A4 h4, yes _ this, ew _ this]
  · rintro e w15 ⟨n, rfl, hn, e15⟩
    refine ⟨_, _, rfl, fun hf => ⟨?_, e15⟩, fun hf => ⟨?_, e15⟩⟩
    · rw [A5 h5, no _ (of_decide_eq_false hf)]
    · rw [A5 h5, yes _ (of_decide_eq_true hf), hn (of_decide_eq_true hf)]
  · rw [Az (.inl h6) hz]
  · rw [A6 h6 hz, no _ (fun hf => (tdiv_fit ha hz).1 hf ⟨hmin, hm⟩)]
  · have : fitI (a.tdiv b) := (tdiv_fit ha hz).2 fun h => hmin h.1
    rw [A6 h6 hz, yes _ this, hm, Int.tdiv_neg, Int.tdiv_one]
    rw [i64_fit (by omega) (by omega)]
    show Ending.returned (.tuple #[.int .i64 (0 - a), .int .i64 0]) = _
    rw [Int.zero_sub]
  · have : fitI (a.tdiv b) := (tdiv_fit ha hz).2 fun h => hm h.2
    rw [A6 h6 hz, yes _ this]
    unfold quoI
    rw [ew _ this]
  · rw [Az (by omega) hz]
  · rw [A7 (by omega) hz]; rfl
  · rw [A7 (by omega) hz, hm, Int.tmod_neg, Int.tmod_one]
end Go.Proofs.YtaccokhdmhomhaaDoor

/- The contracts of the document's answer for expressions: a node of two kids. -/
namespace Go.Proofs.YtaccokhdmhomhaaDoor
open Go Go.Vc Go.RowKit
set_option maxRecDepth 20000

def bothF (a b : Val) (strong : Int) : Val :=
  if (a.k = 2 ∧ a.n = strong) ∨ (b.k = 2 ∧ b.n = strong) then truthV (decide (strong = 1)) else if a.k = 0 ∨ b.k = 0 then nullV else truthV (decide (strong = 0))
theorem good2_cases {a : Val} (h : GoodV 2 a) : (a.k = 0 ∧ thirdI a = 2) ∨ (a.k = 2 ∧ a.n = 0 ∧ thirdI a = 0) ∨ (a.k = 2 ∧ a.n = 1 ∧ thirdI a = 1) := by
  obtain ⟨ho, _, hk⟩ := h
  unfold Val.Ok at ho
  unfold thirdI
  rcases hk with hk | hk
  · rw [if_pos hk]; exact .inl ⟨hk, rfl⟩
  · rw [if_neg (by omega)]; omega
theorem bothF_and {a b : Val} (ha : GoodV 2 a) (hb : GoodV 2 b) : bothF a b 0 = answerV (andI (thirdI a) (thirdI b)) := by
  rcases good2_cases ha with h | h | h <;> rcases good2_cases hb with h' | h' | h' <;> (unfold bothF; simp [h, h', andI, answerV])
theorem bothF_or {a b : Val} (ha : GoodV 2 a) (hb : GoodV 2 b) : bothF a b 1 = answerV (orJ (thirdI a) (thirdI b)) := by
  rcases good2_cases ha with h | h | h <;> rcases good2_cases hb with h' | h' | h' <;> (unfold bothF; simp [h, h', orJ, answerV])

theorem rboth_ok (a b : Val) (s : Int) (w : World) : Calls Tryd.prog 72 #[a.agg, b.agg, .int .i64 s] w fun e w' => e = .returned (bothF a b s).agg ∧ Ext w w' := by
  apply rboth_vc
  unfold rboth_T
  intro ba w2 h1 bb w5 h4 br w8 h7
  have H8 := (((Hold.start (Ext.rfl (w := w))).new h1).new h4).new h7
  have Ba : Blk w8 ba 26 #[.int .i64 a.k, .int .i64 a.n, .string a.s] := H8.blk 2 rfl
  have Bb : Blk w8 bb 26 #[.int .i64 b.k, .int .i64 b.n, .string b.s] := H8.blk 1 rfl
  obtain ⟨a0, a1, a2⟩ := Ba.c3
  obtain ⟨b0, b1, b2⟩ := Bb.c3
  have Y : (a.k = 2 ∧ a.n = s) ∨ (b.k = 2 ∧ b.n = s) → bothF a b s = truthV (decide (s = 1)) := fun h => by unfold bothF; rw [if_pos h]
  have Z : ¬ ((a.k = 2 ∧ a.n = s) ∨ (b.k = 2 ∧ b.n = s)) → a.k = 0 ∨ b.k = 0 → bothF a b s = nullV := fun h h' => by unfold bothF; rw [if_neg h, if_pos h']
  have O : ¬ ((a.k = 2 ∧ a.n = s) ∨ (b.k = 2 ∧ b.n = s)) → ¬ (a.k = 0 ∨ b.k = 0) → bothF a b s = truthV (decide (s = 0)) := fun h h' => by unfold bothF; rw [if_neg h, if_neg h']
  refine ⟨_, a0, fun k2 => ⟨_, a1, fun hs => ?_, fun hs => ⟨_, b0, fun k2b => ⟨_, b1, fun hsb => ?_, fun hsb => ⟨_, a0, fun hz => ?_, fun hz => ⟨_, b0, fun hz' => ?_, fun hz' => ?_⟩⟩⟩, fun k2b => ⟨_, a0, fun hz => ?_, fun hz => ⟨_, b0, fun hz' => ?_, fun hz' => ?_⟩⟩⟩⟩,
    fun k2 => ⟨_, b0, fun k2b => ⟨_, b1, fun hsb => ?_, fun hsb => ⟨_, a0, fun hz => ?_, fun hz => ⟨_, b0, fun hz' => ?_, fun hz' => ?_⟩⟩⟩, fun k2b => ⟨_, a0, fun hz => ?_, fun hz => ⟨_, b0, fun hz' => ?_, fun hz' => ?_⟩⟩⟩⟩
  all_goals first
    | (refine H8.ret3 0 rfl _ _ _ fun W' hx => ⟨?_, hx⟩
       rw [Z (by omega) (by omega)]; rfl)
    | (refine (rtruth_ok _ w8).mono ?_
       rintro e w15 ⟨rfl, e15⟩
       refine ⟨_, _, _, rfl, (H8.step e15).ret3 0 rfl _ _ _ fun W' hx => ⟨?_, hx⟩⟩
       first
         | (rw [Y (by omega)]; rfl)
         | (rw [O (by omega) (by omega)]; rfl))

theorem rtwo_ok (op : Int) (a b : Val) (w : World) (hop : (3 ≤ op ∧ op ≤ 7) ∨ (9 ≤ op ∧ op ≤ 13)) (hao : a.Ok) (hbo : b.Ok) (ha : fitI a.n) (hb : fitI b.n) (ht : op = 12 ∨ op = 13 → GoodV 2 a ∧ GoodV 2 b) :
    Calls Tryd.prog 52 #[.int .i64 op, a.agg, b.agg] w fun e w' => e = .returned (.tuple #[(pairF op a b).1.agg, .int .i64 (pairF op a b).2]) ∧ Ext w w' := by
  apply rtwo_vc
  unfold rtwo_T
  intro ba w2 h1 bb w5 h4 br w8 h7
  have H8 := (((Hold.start (Ext.rfl (w := w))).new h1).new h4).new h7
  have Ba : Blk w8 ba 26 #[.int .i64 a.k, .int .i64 a.n, .string a.s] := H8.blk 2 rfl
  have Bb : Blk w8 bb 26 #[.int .i64 b.k, .int .i64 b.n, .string b.s] := H8.blk 1 rfl
  obtain ⟨a0, a1, a2⟩ := Ba.c3
  obtain ⟨b0, b1, b2⟩ := Bb.c3
  refine ⟨fun h12 => ⟨_, a0, _, a1, _, a2, _, b0, _, b1, _, b2, (rboth_ok a b 0 w8).mono ?_⟩, fun h12 => ⟨fun h13 => ⟨_, a0, _, a1, _, a2, _, b0, _, b1, _, b2, (rboth_ok a b 1 w8).mono ?_⟩, fun h13 => ?_⟩⟩
  · rintro e w18 ⟨rfl, e18⟩
    obtain ⟨g1, g2⟩ := ht (.inl h12)
    refine ⟨_, _, _, rfl, (H8.step e18).ret3 0 rfl _ _ _ fun W' hx => ⟨?_, hx⟩⟩
    unfold pairF; rw [if_pos h12, ← bothF_and g1 g2]; rfl
  · rintro e w18 ⟨rfl, e18⟩
    obtain ⟨g1, g2⟩ := ht (.inr h13)
    refine ⟨_, _, _, rfl, (H8.step e18).ret3 0 rfl _ _ _ fun W' hx => ⟨?_, hx⟩⟩
    unfold pairF; rw [if_neg h12, if_pos h13, ← bothF_or g1 g2]; rfl
  · refine ⟨_, a0, fun hz => H8.ret3 0 rfl _ _ _ fun W' hx => ⟨?_, hx⟩, fun hz => ⟨_, b0, fun hz' => H8.ret3 0 rfl _ _ _ fun W' hx => ⟨?_, hx⟩, fun hz' => ⟨_, a0, _, a1, _, a2, _, b0, _, b1, _, b2, (rvcompare_ok a b w8).mono ?_⟩⟩⟩
    · unfold pairF; rw [if_neg h12, if_neg h13, if_pos (.inl hz)]; rfl
    · unfold pairF; rw [if_neg h12, if_neg h13, if_pos (.inr hz')]; rfl
    rintro e w99 ⟨rfl, e99⟩
    rw [rcmpV_eq hao hbo]
    have H99 := H8.step e99
    have hz2 : ¬ (a.k = 0 ∨ b.k = 0) := by omega
    refine ⟨_, rfl, fun h9 => (rtruth_ok _ w99).mono ?_, fun h9 => ⟨fun h10 => (rtruth_ok _ w99).mono ?_, fun h10 => ⟨fun h11 => (rtruth_ok _ w99).mono ?_, fun h11 => ?_⟩⟩⟩
    · rintro e w103 ⟨rfl, e103⟩
      refine ⟨_, _, _, rfl, (H99.step e103).ret3 0 rfl _ _ _ fun W' hx => ⟨?_, hx⟩⟩
      unfold pairF; rw [if_neg h12, if_neg h13, if_neg hz2, if_pos h9]; rfl
    · rintro e w103 ⟨rfl, e103⟩
      refine ⟨_, _, _, rfl, (H99.step e103).ret3 0 rfl _ _ _ fun W' hx => ⟨?_, hx⟩⟩
      unfold pairF; rw [if_neg h12, if_neg h13, if_neg hz2, if_neg h9, if_pos h10]; rfl
    · rintro e w103 ⟨rfl, e103⟩
      refine ⟨_, _, _, rfl, (H99.step e103).ret3 0 rfl _ _ _ fun W' hx => ⟨?_, hx⟩⟩
      unfold pairF; rw [if_neg h12, if_neg h13, if_neg hz2, if_neg h9, if_neg h10, if_pos h11]; rfl
    · refine ⟨_, cell_ext a1 e99, _, cell_ext b1 e99, (reckoned_ok (by omega) ha hb w99).mono ?_⟩
      rintro e w149 ⟨rfl, e149⟩
      refine ⟨_, _, rfl, fun hne => (H99.step e149).ret3 0 rfl _ _ _ fun W' hx => ⟨?_, hx⟩, fun he => (rnumber_ok _ w149).mono ?_⟩
      · unfold pairF; rw [if_neg h12, if_neg h13, if_neg hz2, if_neg h9, if_neg h10, if_neg h11, if_pos hne]; rfl
      · rintro e w160 ⟨rfl, e160⟩
        refine ⟨_, _, _, rfl, ((H99.step e149).step e160).ret3 0 rfl _ _ _ fun W' hx => ⟨?_, hx⟩⟩
        unfold pairF; rw [if_neg h12, if_neg h13, if_neg hz2, if_neg h9, if_neg h10, if_neg h11, if_neg (by simpa using he)]; rfl
end Go.Proofs.YtaccokhdmhomhaaDoor

/- The contracts of the document's answer for expressions: values. -/
namespace Go.Proofs.YtaccokhdmhomhaaDoor
open Go Go.Vc Go.RowKit
set_option maxRecDepth 20000

theorem tyValue : tyOf Tryd.prog 26 = some { agg := true, ls := [.int .i64, .int .i64, .str], zero := .agg #[.int .i64 0, .int .i64 0, .string ⟨#[]⟩], bytes := 32, big := false, n := 3 } := by kernel_rfl
theorem ok_null {v : Val} (h : v.Ok) (hk : v.k = 0) : v = nullV := by
  unfold Val.Ok at h
  rcases h with h | h | h | h
  · exact Val.ext'.2 h
  · omega
  · omega
  · omega

set_option maxHeartbeats 4000000 in
theorem rvalue_ok : ∀ (N : Nat) (x : Ex) {w : World} {p rp : Option Addr} {n c rn rc : Nat} {cols : List Col} {row : List Val} {cs : List Value}, depthT x ≤ N → (∀ y ∈ nodesT x, NodeOk y ∧ fitI y.v.n) → (kindF cols x).2 = 0 → fitsL cols row = true → (∀ u ∈ row, fitI u.n) →
    Cols w p n c cols → Vs w rp rn rc row → ExAt w x cs →
    Calls Tryd.prog 25 #[.slice p n c, .slice rp rn rc, .agg cs.toArray] w fun e w' => e = .returned (.tuple #[(valueF cols row x).1.agg, .int .i64 (valueF cols row x).2]) ∧ Ext w w' := by
  intro N
  induction N with
  | zero => intro x w p rp n c rn rc cols row cs hd; cases x; unfold depthT at hd; omega
  | succ N ih =>
  intro x w p rp n c rn rc cols row cs hd hno hkind hfits hfit hc hr hx
  obtain ⟨xp, xn, xc, rfl, hkl, hxn, hkid⟩ := hx.six
  obtain ⟨hxo, hxf⟩ := hno x (self_node x)
  have h2m := many_le x.op
  have hmany := hxo.1
  have hop := many_range (op := x.op) (by omega)
  have hrl := hr.len
  obtain ⟨hk1, hk2⟩ := kids_kinds hkind
  have hgood : ∀ (i : Nat) k, x.kids[i]? = some k → Go.Vc.Good (kindF cols k).1 (valueF cols row k) := fun i k hi => typed hfits hfit _ k (Nat.le_refl _) (fun y hy => hno y (kid_node hi hy)) (runL_get hk1 hi).1
  apply rvalue_vc
  unfold rvalue_T
  intro b1 w2 h1 b4 w5 h4
  have H5 := (((Hold.start (Ext.rfl (w := w))).new h1).new h4).nilRow 26 3
  let fs : List (Nat × Obj) := [(b4, .cells #[.int .i64 0, .int .i64 0, .string ⟨#[]⟩] 26 (0, 0)), (b1, .cells #[.int .i64 x.op, .string x.name, .int .i64 x.v.k, .int .i64 x.v.n, .string x.v.s, .slice xp xn xc] 29 (0, 0))]
  have c5 : ∀ {W : World} {ms : List Row}, Hold w W fs ms → W.cell? ⟨b1, 5, none⟩ = some (.slice xp xn xc) := fun H => by rw [(H.blk 1 rfl).cell]; rfl
  refine ⟨fun q m d i W => ∃ j : Nat, i = (j : Int) ∧ m = j ∧ j ≤ xn ∧ (runL (valueF cols row) (x.kids.take j)).2 = 0 ∧ Hold w W fs [⟨26, 3, q, m, d, (runL (valueF cols row) (x.kids.take j)).1.flatMap Val.cs⟩], fun _ _ _ i _ => xn - i.toNat, ⟨0, rfl, rfl, Nat.zero_le _, rfl, H5⟩, ?_⟩
  rintro q m d i W ⟨j, rfl, rfl, hj, hrun, H⟩
  refine ⟨_, _, _, c5 H, fun hlt => ?_, fun hge => ?_⟩
  · have g : x.kids[m]? = some (x.kids[m]'(by omega)) := List.getElem?_eq_getElem _
    generalize x.kids[m]'(by omega) = k at g
    obtain ⟨kc, b, o, hk, hp, hcell⟩ := hkid H.ext g
    obtain ⟨kp, kn, kcap, hkc, _⟩ := hk.six
    simp only [Int.toNat_natCast]
    have e0 := hcell 0 _ (by rw [hkc]; rfl)
    have e1 := hcell 1 _ (by rw [hkc]; rfl)
    have e2 := hcell 2 _ (by rw [hkc]; rfl)
    have e3 := hcell 3 _ (by rw [hkc]; rfl)
    have e4 := hcell 4 _ (by rw [hkc]; rfl)
    have e5 := hcell 5 _ (by rw [hkc]; rfl)
    subst hkc
    refine ⟨_, _, _, c5 H, b, o, hp, by omega, by omega, _, e0, _, e1, _, e2, _, e3, _, e4, _, _, _, e5, (ih k (by have := kid_depth g; omega) (fun y hy => hno y (kid_node g hy)) (runL_get hk1 g).1 hfits hfit (hc.ext H.ext) (hr.ext H.ext) (hk.ext H.ext)).mono ?_⟩
    rintro e w33 ⟨rfl, e33⟩
    have H33 := H.step e33
    refine ⟨_, _, _, _, rfl, fun b38 w39 h38 => ?_⟩
    have H39 := H33.new h38
    obtain ⟨q0, q1, q2⟩ := (H39.blk 0 rfl).c3
    refine ⟨⟨_, q0⟩, (H39.blk 0 rfl).frozen _, ⟨_, q1⟩, (H39.blk 0 rfl).frozen _, ⟨_, q2⟩, (H39.blk 0 rfl).frozen _, fun w44 h44 => ?_⟩
    have H44 := H39.put 0 rfl h44
    have Bv : Blk w44 b38 26 #[.int .i64 (valueF cols row k).1.k, .int .i64 (valueF cols row k).1.n, .string (valueF cols row k).1.s] := H44.blk 0 rfl
    obtain ⟨v0, v1, v2⟩ := Bv.c3
    refine ⟨fun hne => H44.ret3 1 rfl _ _ _ fun W' hx => ⟨?_, hx⟩, fun he => ⟨_, v0, _, v1, _, v2, fun b59 w60 h59 => ?_⟩⟩
    · rw [valueF_eq cols row x, runL_stop g hrun hne, if_pos hne]; rfl
    · have hnx := runL_take (f := valueF cols row) g hrun
      rw [if_neg (by simpa using he)] at hnx
      have H60 := (H44.tail).step h59.ext
      obtain ⟨p', c', w65, hrn, H65⟩ := H60.append (ty := 31) (P := Tryd.prog) (q := some ⟨b59, 0, none⟩) (m := 1) (d' := 1) (news := (valueF cols row k).1.cs) 0 rfl undVals tyValue rfl (by decide) (Blk.new h59).at rfl (fun e => by cases e)
        (Val.cs_one _) (by show ((m + 1) + (m + 1) / 4 + 192) * 32 ≤ _; omega) (by show m + 1 ≤ 9223372036854775807; omega)
      refine ⟨p', m + 1, c', w65, hrn, ?_⟩
      rw [i64_next (by omega)]
      refine ⟨⟨m + 1, rfl, rfl, by omega, by rw [hnx], ?_⟩, by simp only [Int.toNat_natCast]; omega⟩
      rw [hnx]
      show Hold w w65 fs [⟨26, 3, p', m + 1, c', ((runL (valueF cols row) (x.kids.take m)).1 ++ [(valueF cols row k).1]).flatMap Val.cs⟩]
      rw [List.flatMap_append]
      have : [(valueF cols row k).1].flatMap Val.cs = (valueF cols row k).1.cs := by simp
      rw [this]
      exact H65
  · have hjn : m = xn := by omega
    subst hjn
    rw [List.take_of_length_le (by omega)] at hrun H
    have hlen := runL_len hrun
    have hlk := runL_len hk1
    have hrel : ∀ (i : Nat) g u, (runL (kindF cols) x.kids).1[i]? = some g → (runL (valueF cols row) x.kids).1[i]? = some u → GoodV g u := by
      intro i g u hg hu
      have hi : i < x.kids.length := by rw [← hlk]; exact (List.getElem?_eq_some_iff.1 hg).1
      have hki : x.kids[i]? = some x.kids[i] := List.getElem?_eq_getElem hi
      have e1 := runL_get hk1 hki
      have e2 := runL_get hrun hki
      rw [hg] at e1
      rw [hu] at e2
      have := hgood i _ hki
      cases e1.2
      cases e2.2
      rcases this with h | h
      · exact h.2
      · have := e2.1; omega
    obtain ⟨_, htrio, hcol⟩ := node_good (by rw [hlen]; exact hmany) (by omega) hxo.2.2.2 hxf hrel (by rw [← hk2]; exact hkind) hfits hfit
    have hfitL : ∀ (i : Nat) u, (runL (valueF cols row) x.kids).1[i]? = some u → u.Ok ∧ fitI u.n := by
      intro i u hu
      have hi : i < (runL (kindF cols) x.kids).1.length := by rw [hlk, ← hlen]; exact (List.getElem?_eq_some_iff.1 hu).1
      obtain ⟨a, b, _⟩ := hrel i _ u (List.getElem?_eq_getElem hi) hu
      exact ⟨a, b⟩
    generalize hL : (runL (valueF cols row) x.kids).1 = L at hlen H hfitL htrio
    have hvf : valueF cols row x = valueN cols row x.op x.name x.v L := by rw [valueF_eq, if_neg (by simpa using hrun), hL]
    have B1 : Blk W b1 29 #[.int .i64 x.op, .string x.name, .int .i64 x.v.k, .int .i64 x.v.n, .string x.v.s, .slice xp m xc] := H.blk 1 rfl
    obtain ⟨a0, a1, a2, a3, a4, a5⟩ := B1.c6
    have hvs : Vs W q m d L := (H.row 0 rfl).ls Val.cs_length (by decide)
    refine ⟨_, a0, fun h1 => ⟨_, a1, (r5find_ok (hc.ext H.ext) x.name).mono ?_⟩, fun h1 => ⟨_, a0, fun h2 => ⟨_, a2, _, a3, _, a4, H.ret3 0 rfl _ _ _ fun W' hx => ⟨?_, hx⟩⟩, fun h2 => ⟨fun htwo w102 h102 => ?_, fun htwo => ?_⟩⟩⟩
    · rintro e w71 ⟨rfl, e71⟩
      have H71 := H.step e71
      have hcol' := hcol h1
      have gu : row[(findC cols x.name).toNat]? = some (row[(findC cols x.name).toNat]'(by omega)) := List.getElem?_eq_getElem _
      generalize row[(findC cols x.name).toNat]'(by omega) = u at gu
      obtain ⟨b, o, hp, d0, d1, d2⟩ := (hr.ext H71.ext).val gu
      refine ⟨_, rfl, b, o, hp, hcol'.1, by omega, _, d0, _, d1, _, d2, H71.ret3 0 rfl _ _ _ fun W' hx => ⟨?_, hx⟩⟩
      rw [hvf]; unfold valueN; rw [if_pos h1, gu]; rfl
    · rw [hvf]; unfold valueN; rw [if_neg h1, if_pos h2]; rfl
    · have hl2 : L.length = 2 := by omega
      have H102 := H.step h102.ext
      have g0 : L[0]? = some (L.getD 0 nullV) := by rw [List.getD_eq_getElem?_getD, List.getElem?_eq_getElem (by omega : 0 < L.length)]; rfl
      have g1 : L[1]? = some (L.getD 1 nullV) := by rw [List.getD_eq_getElem?_getD, List.getElem?_eq_getElem (by omega : 1 < L.length)]; rfl
      obtain ⟨b, o, hp, d0, d1, d2⟩ := (hvs.ext h102.ext).val g0
      obtain ⟨b', o', hp', d0', d1', d2'⟩ := (hvs.ext h102.ext).val g1
      have hop2 : (3 ≤ x.op ∧ x.op ≤ 7) ∨ (9 ≤ x.op ∧ x.op ≤ 13) := by
        have hm2 : manyOf x.op = 2 := by omega
        unfold manyOf at hm2
        split at hm2
        · omega
        · split at hm2
          · omega
          · split at hm2 <;> omega
      refine ⟨_, cell_ext a0 h102.ext, b, o, hp, by omega, by omega, _, by simpa using d0, _, by simpa using d1, _, by simpa using d2, b', o', hp', by omega, by omega, _, by simpa using d0', _, by simpa using d1', _, by simpa using d2',
        (rtwo_ok x.op (L.getD 0 nullV) (L.getD 1 nullV) w102 hop2 (hfitL _ _ g0).1 (hfitL _ _ g1).1 (hfitL _ _ g0).2 (hfitL _ _ g1).2 (fun h => ⟨htrio h _ (List.mem_of_getElem? g0), htrio h _ (List.mem_of_getElem? g1)⟩)).mono ?_⟩
      rintro e w116 ⟨rfl, e116⟩
      refine ⟨_, _, _, _, rfl, (H102.step e116).ret3 0 rfl _ _ _ fun W' hx => ⟨?_, hx⟩⟩
      rw [hvf]; unfold valueN; rw [if_neg h1, if_neg h2, if_neg (by omega)]; rfl
    · have hl1 : L.length = 1 := by
        have : manyOf x.op ≠ 0 := by
          unfold manyOf; rw [if_neg (by omega)]
          split
          · omega
          · split <;> omega
        omega
      have hop1 : x.op = 8 ∨ x.op = 14 ∨ x.op = 15 ∨ x.op = 16 := by
        have hm1 : manyOf x.op = 1 := by omega
        unfold manyOf at hm1
        split at hm1
        · omega
        · split at hm1
          · assumption
          · split at hm1 <;> omega
      have g0 : L[0]? = some (L.getD 0 nullV) := by rw [List.getD_eq_getElem?_getD, List.getElem?_eq_getElem (by omega : 0 < L.length)]; rfl
      obtain ⟨hvok, hvfit⟩ := hfitL _ _ g0
      have hvf1 : valueF cols row x = singleF x.op (L.getD 0 nullV) := by rw [hvf]; unfold valueN; rw [if_neg h1, if_neg h2, if_pos hl1]
      obtain ⟨b, o, hp, d0, d1, d2⟩ := hvs.val g0
      generalize L.getD 0 nullV = v at hvok hvfit hvf1 d0 d1 d2
      refine ⟨_, a0, fun h15 => ⟨b, o, hp, by omega, by omega, _, by simpa using d0, (rtruth_ok _ W).mono ?_⟩, fun h15 => ⟨b, o, hp, by omega, by omega, _, by simpa using d0, fun hz => H.ret3 0 rfl _ _ _ fun W' hx => ⟨?_, hx⟩, fun hz => ⟨_, a0, fun h14 => ⟨b, o, hp, by omega, by omega, _, by simpa using d1, (rtruth_ok _ W).mono ?_⟩,
        fun h14 => ⟨_, a0, fun h16 => ⟨b, o, hp, by omega, by omega, _, by simpa using d2, (rnumber_ok _ W).mono ?_⟩, fun h16 => ⟨b, o, hp, by omega, by omega, _, by simpa using d1, (reckoned_ok (op := 4) (by omega) (by unfold fitI; decide) hvfit W).mono ?_⟩⟩⟩⟩⟩
      · rintro e w136 ⟨rfl, e136⟩
        refine ⟨_, _, _, rfl, (H.step e136).ret3 0 rfl _ _ _ fun W' hx => ⟨?_, hx⟩⟩
        rw [hvf1]; unfold singleF; rw [if_pos h15]; rfl
      · rw [hvf1]; unfold singleF; rw [if_neg h15, if_pos hz, ok_null hvok hz]; rfl
      · rintro e w136 ⟨rfl, e136⟩
        refine ⟨_, _, _, rfl, (H.step e136).ret3 0 rfl _ _ _ fun W' hx => ⟨?_, hx⟩⟩
        rw [hvf1]; unfold singleF; rw [if_neg h15, if_neg hz, if_pos h14]; rfl
      · rintro e w136 ⟨rfl, e136⟩
        refine ⟨_, _, _, rfl, (H.step e136).ret3 0 rfl _ _ _ fun W' hx => ⟨?_, hx⟩⟩
        rw [hvf1]; unfold singleF; rw [if_neg h15, if_neg hz, if_neg h14, if_pos h16]; rfl
      · rintro e w204 ⟨rfl, e204⟩
        have hsv : singleF x.op v = if (arithF 4 0 v.n).2 ≠ 0 then (nullV, (arithF 4 0 v.n).2) else (numV (arithF 4 0 v.n).1, 0) := by
          unfold singleF; rw [if_neg h15, if_neg hz, if_neg h14, if_neg h16]
          unfold pairF
          have hz' : ¬ ((numV 0).k = 0 ∨ v.k = 0) := by
            have : (numV 0).k = 1 := rfl
            omega
          rw [if_neg (by decide), if_neg (by decide), if_neg hz', if_neg (by decide), if_neg (by decide), if_neg (by decide)]; rfl
        refine ⟨_, _, rfl, fun hne => (H.step e204).ret3 0 rfl _ _ _ fun W' hx => ⟨?_, hx⟩, fun he => (rnumber_ok _ w204).mono ?_⟩
        · rw [hvf1, hsv, if_pos hne]; rfl
        · rintro e w218 ⟨rfl, e218⟩
          refine ⟨_, _, _, rfl, ((H.step e204).step e218).ret3 0 rfl _ _ _ fun W' hx => ⟨?_, hx⟩⟩
          rw [hvf1, hsv, if_neg (by simpa using he)]; rfl
end Go.Proofs.YtaccokhdmhomhaaDoor

/- The contract of the document's Eval. -/
namespace Go.Proofs.YtaccokhdmhomhaaDoor
open Go Go.Vc Go.RowKit
set_option maxRecDepth 20000
attribute [local irreducible] Calls Put Drew New

theorem tyErr : tyOf Tryd.prog 33 = some { agg := false, ls := [.int .i64], zero := .int .i64 0, bytes := 8, big := false, n := 1 } := by kernel_rfl
theorem undErrs : Tryd.prog.underlying 32 = some (.slice 33) := by kernel_rfl
theorem rowB_fit {B : List (List Val)} (hf : ∀ r ∈ B, FitR r) (i : Nat) : FitR (rowB B i) := by
  intro u hu
  obtain ⟨r, hr, rfl⟩ := List.mem_map.1 hu
  rcases Nat.lt_or_ge i r.length with h | h
  · rw [List.getElem?_eq_getElem h]; exact hf r hr _ (List.getElem_mem h)
  · rw [List.getElem?_eq_none h]; decide
set_option maxHeartbeats 4000000 in
theorem wEval_ok (x : Ex) {w : World} {p bp cp : Option Addr} {n c bn bc cn cc : Nat} {hs : List Sl} {B : List (List Val)} {cols : List Col} {ch : List Int} {cs : List Value} (hc : Cols w p n c cols) (hcs : ∀ y ∈ cols, y.name.size ≤ 9223372036854775807) (hB : Rws w bp bn bc hs B) (hch : Is w cp cn cc ch) (hx : ExAt w x cs) (hf : ∀ r ∈ B, FitR r) (hxf : FitX x) :
    Calls Tryd.prog 10 #[.slice p n c, .slice bp bn bc, .slice cp cn cc, .agg cs.toArray] w fun e w' => EvalAns cols B ch x e w' ∧ Ext w w' := by
  obtain ⟨xp, xn, xc, rfl, _⟩ := hx.six
  apply wEval_vc
  unfold wEval_T
  intro b1 w2 h1
  have H := (Hold.start (Ext.rfl (w := w))).new h1
  obtain ⟨a0, a1, a2, a3, a4, a5⟩ := Blk.c6 (H.blk 0 rfl)
  refine ⟨_, a0, _, a1, _, a2, _, a3, _, a4, _, _, _, a5, ?_⟩
  refine (rtype_ok x (hc.ext H.ext) hcs (hx.ext H.ext)).mono ?_
  rintro e W ⟨rfl, eX⟩
  replace H := H.step eX
  refine ⟨_, _, rfl, fun hne => ?_, fun heq => ?_⟩
  · have : evalB cols B ch x = ([], [], (typeF cols x).2) := by unfold evalB; rw [if_pos hne]
    unfold EvalAns
    rw [this]
    exact ⟨⟨none, 0, 0, none, 0, 0, rfl, Ls.nothing _ _, Ls.nothing _ _⟩, H.ext⟩
  obtain ⟨hright, hform, hkd⟩ := typeF_right heq
  have ht0 : (kindF cols x).2 = 0 := by rw [← hkd]; exact heq
  have hfp := (of_decide_eq_true hform : FormedP x).1
  refine (wright_ok (hc.ext H.ext) hcs hright (hB.ext H.ext) (hch.ext H.ext)).mono ?_
  rintro e W1 ⟨rfl, eX⟩
  replace H := H.step eX
  refine ⟨_, rfl, fun hr => ?_, fun hr => ?_⟩
  · have : evalB cols B ch x = ([], [], 2) := by unfold evalB; rw [if_neg (by simp [heq]), if_pos hr]
    unfold EvalAns
    rw [this]
    exact ⟨⟨none, 0, 0, none, 0, 0, rfl, Ls.nothing _ _, Ls.nothing _ _⟩, H.ext⟩
  have e1 : evalB cols B ch x = (ch.map fun i => (valAt cols B x i).1, ch.map fun i => (valAt cols B x i).2, 0) := by unfold evalB; rw [if_neg (by simp [heq]), if_neg (by simp [hr])]
  obtain ⟨hlen, hin⟩ := right_all hr
  obtain ⟨⟨r1, r2⟩, r3, _, _⟩ := rightB_iff.1 hr
  have hl := hB.len
  have hcl := hch.len
  obtain ⟨rl1, rl2⟩ := right_len hright
  let F : List (Nat × Obj) := [(b1, .cells #[.int .i64 x.op, .string x.name, .int .i64 x.v.k, .int .i64 x.v.n, .string x.v.s, .slice xp xn xc] 29 (0, 0))]
  refine ⟨fun q k d q2 k2 d2 i W => ∃ j : Nat, i = (j : Int) ∧ j ≤ cn ∧ k = j ∧ k2 = j ∧ Hold w W F [⟨26, 3, q, k, d, ((ch.take j).map fun i => (valAt cols B x i).1).flatMap Val.cs⟩, ⟨33, 1, q2, k2, d2, ((ch.take j).map fun i => (valAt cols B x i).2).flatMap encI⟩], fun _ _ _ _ _ _ i _ => cn - i.toNat, ⟨0, rfl, Nat.zero_le _, rfl, rfl, (H.nilRow _ _).nilRow _ _⟩, ?_⟩
  clear H
  rintro q k1 d q2 k2 d2 i W ⟨j, rfl, hj, h1k, h2k, H⟩
  subst k1
  subst k2
  refine ⟨fun hlt => ?_, fun hge => ?_⟩
  · have gz : ch[j]? = some (ch[j]'(by omega)) := List.getElem?_eq_getElem _
    generalize ch[j]'(by omega) = z at gz
    obtain ⟨z0, z1, z2, z3⟩ := hin z (List.mem_of_getElem? gz)
    rw [fitsC_iff hright] at z2
    have ez : z = ((z.toNat : Nat) : Int) := by omega
    intro w35 hD
    replace H := H.step (Drew.ext hD)
    obtain ⟨cb, co, hcp, f0⟩ := (hch.ext H.ext).int gz
    simp only [Int.toNat_natCast]
    obtain ⟨a0, a1, a2, a3, a4, a5⟩ := Blk.c6 (H.blk 0 rfl)
    rw [ez] at f0
    refine ⟨cb, co, hcp, by omega, hlt, _, f0, _, a0, _, a1, _, a2, _, a3, _, a4, _, _, _, a5, ?_⟩
    refine ⟨?_, fun b115 w116 hS => ?_⟩
    · refine (wrow_ok (i := z.toNat) (hB.ext H.ext) (by omega) z3).mono ?_
      rintro e W1 ⟨rq, rd, rfl, hv, eX⟩
      replace H := H.step eX
      refine ⟨_, _, _, rfl, eX.same, ?_⟩
      refine ⟨?_, fun b84 w85 hS => ?_⟩
      · have e2 : Ext W1 W1 := Ext.rfl
        refine (rvalue_ok _ x (Nat.le_refl _) (fun y hy => ⟨hfp y hy, hxf y hy⟩) ht0 z2 (rowB_fit hf _) (hc.ext H.ext) (hv.ext e2) (hx.ext H.ext)).mono ?_
        rintro e W2 ⟨rfl, eX⟩
        replace H := H.step eX
        refine ⟨_, _, _, _, rfl, ?_⟩
        intro b59 w60 hS
        have eX := hS.ext
        replace H := H.new hS
        refine ⟨eX.same, ?_⟩
        repeat (first
          | (intro _ _ hS; replace H := H.new hS; clear hS)
          | (intro _ hS; (first | replace H := H.put 0 rfl hS | replace H := H.put 1 rfl hS | replace H := H.put 2 rfl hS | replace H := H.put 3 rfl hS | replace H := H.put 4 rfl hS | replace H := H.put 5 rfl hS | replace H := H.put 6 rfl hS | replace H := H.put 7 rfl hS); clear hS; try simp only [setA, List.setIfInBounds_toArray, List.set_cons_zero, List.set_cons_succ, Nat.zero_add, Nat.reduceAdd] at H)
          | (intro _ hS; replace H := H.step (Drew.ext hS); clear hS)
          | (first | refine ⟨⟨_, H.get 0 rfl rfl⟩, ?_⟩ | refine ⟨⟨_, H.get 1 rfl rfl⟩, ?_⟩ | refine ⟨⟨_, H.get 2 rfl rfl⟩, ?_⟩ | refine ⟨⟨_, H.get 3 rfl rfl⟩, ?_⟩ | refine ⟨⟨_, H.get 4 rfl rfl⟩, ?_⟩ | refine ⟨⟨_, H.get 5 rfl rfl⟩, ?_⟩ | refine ⟨⟨_, H.get 6 rfl rfl⟩, ?_⟩ | refine ⟨⟨_, H.get 7 rfl rfl⟩, ?_⟩)
          | (first | refine ⟨H.frz 0 rfl, ?_⟩ | refine ⟨H.frz 1 rfl, ?_⟩ | refine ⟨H.frz 2 rfl, ?_⟩ | refine ⟨H.frz 3 rfl, ?_⟩ | refine ⟨H.frz 4 rfl, ?_⟩ | refine ⟨H.frz 5 rfl, ?_⟩ | refine ⟨H.frz 6 rfl, ?_⟩ | refine ⟨H.frz 7 rfl, ?_⟩)
          | (first | refine ⟨_, H.get 0 rfl rfl, ?_⟩ | refine ⟨_, H.get 1 rfl rfl, ?_⟩ | refine ⟨_, H.get 2 rfl rfl, ?_⟩ | refine ⟨_, H.get 3 rfl rfl, ?_⟩ | refine ⟨_, H.get 4 rfl rfl, ?_⟩ | refine ⟨_, H.get 5 rfl rfl, ?_⟩ | refine ⟨_, H.get 6 rfl rfl, ?_⟩ | refine ⟨_, H.get 7 rfl rfl, ?_⟩)
          | (first | refine ⟨_, _, _, H.get 0 rfl rfl, ?_⟩ | refine ⟨_, _, _, H.get 1 rfl rfl, ?_⟩ | refine ⟨_, _, _, H.get 2 rfl rfl, ?_⟩ | refine ⟨_, _, _, H.get 3 rfl rfl, ?_⟩ | refine ⟨_, _, _, H.get 4 rfl rfl, ?_⟩ | refine ⟨_, _, _, H.get 5 rfl rfl, ?_⟩ | refine ⟨_, _, _, H.get 6 rfl rfl, ?_⟩ | refine ⟨_, _, _, H.get 7 rfl rfl, ?_⟩))
        obtain ⟨p1, c1', w1', hrn1, H1⟩ := H.append (ty := 31) (P := Tryd.prog) (q := some ⟨_, 0, none⟩) (m := 1) (d' := 1) (news := (valAt cols B x z).1.cs) 0 rfl undVals tyVal rfl (by decide) (H.blk 0 rfl).at rfl (fun e => by cases e) (Val.cs_one _) (by dsimp only; omega) (by unfold maxLen; omega)
        refine ⟨p1, _, c1', w1', hrn1, ?_⟩
        replace H := H1
        repeat (first
          | (intro _ _ hS; replace H := H.new hS; clear hS)
          | (intro _ hS; (first | replace H := H.put 0 rfl hS | replace H := H.put 1 rfl hS | replace H := H.put 2 rfl hS | replace H := H.put 3 rfl hS | replace H := H.put 4 rfl hS | replace H := H.put 5 rfl hS | replace H := H.put 6 rfl hS | replace H := H.put 7 rfl hS); clear hS; try simp only [setA, List.setIfInBounds_toArray, List.set_cons_zero, List.set_cons_succ, Nat.zero_add, Nat.reduceAdd] at H)
          | (intro _ hS; replace H := H.step (Drew.ext hS); clear hS)
          | (first | refine ⟨⟨_, H.get 0 rfl rfl⟩, ?_⟩ | refine ⟨⟨_, H.get 1 rfl rfl⟩, ?_⟩ | refine ⟨⟨_, H.get 2 rfl rfl⟩, ?_⟩ | refine ⟨⟨_, H.get 3 rfl rfl⟩, ?_⟩ | refine ⟨⟨_, H.get 4 rfl rfl⟩, ?_⟩ | refine ⟨⟨_, H.get 5 rfl rfl⟩, ?_⟩ | refine ⟨⟨_, H.get 6 rfl rfl⟩, ?_⟩ | refine ⟨⟨_, H.get 7 rfl rfl⟩, ?_⟩)
          | (first | refine ⟨H.frz 0 rfl, ?_⟩ | refine ⟨H.frz 1 rfl, ?_⟩ | refine ⟨H.frz 2 rfl, ?_⟩ | refine ⟨H.frz 3 rfl, ?_⟩ | refine ⟨H.frz 4 rfl, ?_⟩ | refine ⟨H.frz 5 rfl, ?_⟩ | refine ⟨H.frz 6 rfl, ?_⟩ | refine ⟨H.frz 7 rfl, ?_⟩)
          | (first | refine ⟨_, H.get 0 rfl rfl, ?_⟩ | refine ⟨_, H.get 1 rfl rfl, ?_⟩ | refine ⟨_, H.get 2 rfl rfl, ?_⟩ | refine ⟨_, H.get 3 rfl rfl, ?_⟩ | refine ⟨_, H.get 4 rfl rfl, ?_⟩ | refine ⟨_, H.get 5 rfl rfl, ?_⟩ | refine ⟨_, H.get 6 rfl rfl, ?_⟩ | refine ⟨_, H.get 7 rfl rfl, ?_⟩)
          | (first | refine ⟨_, _, _, H.get 0 rfl rfl, ?_⟩ | refine ⟨_, _, _, H.get 1 rfl rfl, ?_⟩ | refine ⟨_, _, _, H.get 2 rfl rfl, ?_⟩ | refine ⟨_, _, _, H.get 3 rfl rfl, ?_⟩ | refine ⟨_, _, _, H.get 4 rfl rfl, ?_⟩ | refine ⟨_, _, _, H.get 5 rfl rfl, ?_⟩ | refine ⟨_, _, _, H.get 6 rfl rfl, ?_⟩ | refine ⟨_, _, _, H.get 7 rfl rfl, ?_⟩))
        obtain ⟨p2, c2', w2', hrn2, H2⟩ := H.append (ty := 32) (P := Tryd.prog) (q := some ⟨_, 0, none⟩) (m := 1) (d' := 1) (news := encI (valAt cols B x z).2) 1 rfl undErrs tyErr rfl (by decide) (H.blk 0 rfl).at rfl (fun e => by cases e) (encI_one _) (by dsimp only; omega) (by unfold maxLen; omega)
        refine ⟨p2, _, c2', w2', hrn2, ?_⟩
        rw [i64_next (by omega)]
        refine ⟨⟨j + 1, rfl, by omega, rfl, rfl, ?_⟩, by simp only [Int.toNat_natCast]; omega⟩
        rw [List.take_add_one, gz, List.map_append, List.map_append, List.flatMap_append, List.flatMap_append]
        have H3 := H2.drop F (fun i => i + 3) (fun i x h => by simpa using h) (fun i j e => by omega)
        simpa using H3
      · have eX := hS.ext
        replace H := H.new hS
        have e2 : Ext W1 w85 := eX
        refine ⟨eX.same, ?_⟩
        refine (rvalue_ok _ x (Nat.le_refl _) (fun y hy => ⟨hfp y hy, hxf y hy⟩) ht0 z2 (rowB_fit hf _) (hc.ext H.ext) (hv.ext e2) (hx.ext H.ext)).mono ?_
        rintro e W2 ⟨rfl, eX⟩
        replace H := H.step eX
        refine ⟨_, _, _, _, rfl, ?_⟩
        repeat (first
          | (intro _ _ hS; replace H := H.new hS; clear hS)
          | (intro _ hS; (first | replace H := H.put 0 rfl hS | replace H := H.put 1 rfl hS | replace H := H.put 2 rfl hS | replace H := H.put 3 rfl hS | replace H := H.put 4 rfl hS | replace H := H.put 5 rfl hS | replace H := H.put 6 rfl hS | replace H := H.put 7 rfl hS); clear hS; try simp only [setA, List.setIfInBounds_toArray, List.set_cons_zero, List.set_cons_succ, Nat.zero_add, Nat.reduceAdd] at H)
          | (intro _ hS; replace H := H.step (Drew.ext hS); clear hS)
          | (first | refine ⟨⟨_, H.get 0 rfl rfl⟩, ?_⟩ | refine ⟨⟨_, H.get 1 rfl rfl⟩, ?_⟩ | refine ⟨⟨_, H.get 2 rfl rfl⟩, ?_⟩ | refine ⟨⟨_, H.get 3 rfl rfl⟩, ?_⟩ | refine ⟨⟨_, H.get 4 rfl rfl⟩, ?_⟩ | refine ⟨⟨_, H.get 5 rfl rfl⟩, ?_⟩ | refine ⟨⟨_, H.get 6 rfl rfl⟩, ?_⟩ | refine ⟨⟨_, H.get 7 rfl rfl⟩, ?_⟩)
          | (first | refine ⟨H.frz 0 rfl, ?_⟩ | refine ⟨H.frz 1 rfl, ?_⟩ | refine ⟨H.frz 2 rfl, ?_⟩ | refine ⟨H.frz 3 rfl, ?_⟩ | refine ⟨H.frz 4 rfl, ?_⟩ | refine ⟨H.frz 5 rfl, ?_⟩ | refine ⟨H.frz 6 rfl, ?_⟩ | refine ⟨H.frz 7 rfl, ?_⟩)
          | (first | refine ⟨_, H.get 0 rfl rfl, ?_⟩ | refine ⟨_, H.get 1 rfl rfl, ?_⟩ | refine ⟨_, H.get 2 rfl rfl, ?_⟩ | refine ⟨_, H.get 3 rfl rfl, ?_⟩ | refine ⟨_, H.get 4 rfl rfl, ?_⟩ | refine ⟨_, H.get 5 rfl rfl, ?_⟩ | refine ⟨_, H.get 6 rfl rfl, ?_⟩ | refine ⟨_, H.get 7 rfl rfl, ?_⟩)
          | (first | refine ⟨_, _, _, H.get 0 rfl rfl, ?_⟩ | refine ⟨_, _, _, H.get 1 rfl rfl, ?_⟩ | refine ⟨_, _, _, H.get 2 rfl rfl, ?_⟩ | refine ⟨_, _, _, H.get 3 rfl rfl, ?_⟩ | refine ⟨_, _, _, H.get 4 rfl rfl, ?_⟩ | refine ⟨_, _, _, H.get 5 rfl rfl, ?_⟩ | refine ⟨_, _, _, H.get 6 rfl rfl, ?_⟩ | refine ⟨_, _, _, H.get 7 rfl rfl, ?_⟩))
        obtain ⟨p1, c1', w1', hrn1, H1⟩ := H.append (ty := 31) (P := Tryd.prog) (q := some ⟨_, 0, none⟩) (m := 1) (d' := 1) (news := (valAt cols B x z).1.cs) 0 rfl undVals tyVal rfl (by decide) (H.blk 0 rfl).at rfl (fun e => by cases e) (Val.cs_one _) (by dsimp only; omega) (by unfold maxLen; omega)
        refine ⟨p1, _, c1', w1', hrn1, ?_⟩
        replace H := H1
        repeat (first
          | (intro _ _ hS; replace H := H.new hS; clear hS)
          | (intro _ hS; (first | replace H := H.put 0 rfl hS | replace H := H.put 1 rfl hS | replace H := H.put 2 rfl hS | replace H := H.put 3 rfl hS | replace H := H.put 4 rfl hS | replace H := H.put 5 rfl hS | replace H := H.put 6 rfl hS | replace H := H.put 7 rfl hS); clear hS; try simp only [setA, List.setIfInBounds_toArray, List.set_cons_zero, List.set_cons_succ, Nat.zero_add, Nat.reduceAdd] at H)
          | (intro _ hS; replace H := H.step (Drew.ext hS); clear hS)
          | (first | refine ⟨⟨_, H.get 0 rfl rfl⟩, ?_⟩ | refine ⟨⟨_, H.get 1 rfl rfl⟩, ?_⟩ | refine ⟨⟨_, H.get 2 rfl rfl⟩, ?_⟩ | refine ⟨⟨_, H.get 3 rfl rfl⟩, ?_⟩ | refine ⟨⟨_, H.get 4 rfl rfl⟩, ?_⟩ | refine ⟨⟨_, H.get 5 rfl rfl⟩, ?_⟩ | refine ⟨⟨_, H.get 6 rfl rfl⟩, ?_⟩ | refine ⟨⟨_, H.get 7 rfl rfl⟩, ?_⟩)
          | (first | refine ⟨H.frz 0 rfl, ?_⟩ | refine ⟨H.frz 1 rfl, ?_⟩ | refine ⟨H.frz 2 rfl, ?_⟩ | refine ⟨H.frz 3 rfl, ?_⟩ | refine ⟨H.frz 4 rfl, ?_⟩ | refine ⟨H.frz 5 rfl, ?_⟩ | refine ⟨H.frz 6 rfl, ?_⟩ | refine ⟨H.frz 7 rfl, ?_⟩)
          | (first | refine ⟨_, H.get 0 rfl rfl, ?_⟩ | refine ⟨_, H.get 1 rfl rfl, ?_⟩ | refine ⟨_, H.get 2 rfl rfl, ?_⟩ | refine ⟨_, H.get 3 rfl rfl, ?_⟩ | refine ⟨_, H.get 4 rfl rfl, ?_⟩ | refine ⟨_, H.get 5 rfl rfl, ?_⟩ | refine ⟨_, H.get 6 rfl rfl, ?_⟩ | refine ⟨_, H.get 7 rfl rfl, ?_⟩)
          | (first | refine ⟨_, _, _, H.get 0 rfl rfl, ?_⟩ | refine ⟨_, _, _, H.get 1 rfl rfl, ?_⟩ | refine ⟨_, _, _, H.get 2 rfl rfl, ?_⟩ | refine ⟨_, _, _, H.get 3 rfl rfl, ?_⟩ | refine ⟨_, _, _, H.get 4 rfl rfl, ?_⟩ | refine ⟨_, _, _, H.get 5 rfl rfl, ?_⟩ | refine ⟨_, _, _, H.get 6 rfl rfl, ?_⟩ | refine ⟨_, _, _, H.get 7 rfl rfl, ?_⟩))
        obtain ⟨p2, c2', w2', hrn2, H2⟩ := H.append (ty := 32) (P := Tryd.prog) (q := some ⟨_, 0, none⟩) (m := 1) (d' := 1) (news := encI (valAt cols B x z).2) 1 rfl undErrs tyErr rfl (by decide) (H.blk 0 rfl).at rfl (fun e => by cases e) (encI_one _) (by dsimp only; omega) (by unfold maxLen; omega)
        refine ⟨p2, _, c2', w2', hrn2, ?_⟩
        rw [i64_next (by omega)]
        refine ⟨⟨j + 1, rfl, by omega, rfl, rfl, ?_⟩, by simp only [Int.toNat_natCast]; omega⟩
        rw [List.take_add_one, gz, List.map_append, List.map_append, List.flatMap_append, List.flatMap_append]
        have H3 := H2.drop F (fun i => i + 3) (fun i x h => by simpa using h) (fun i j e => by omega)
        simpa using H3
    · have eX := hS.ext
      replace H := H.new hS
      refine ⟨eX.same, ?_⟩
      refine (wrow_ok (i := z.toNat) (hB.ext H.ext) (by omega) z3).mono ?_
      rintro e W1 ⟨rq, rd, rfl, hv, eX⟩
      replace H := H.step eX
      refine ⟨_, _, _, rfl, eX.same, ?_⟩
      have e2 : Ext W1 W1 := Ext.rfl
      refine (rvalue_ok _ x (Nat.le_refl _) (fun y hy => ⟨hfp y hy, hxf y hy⟩) ht0 z2 (rowB_fit hf _) (hc.ext H.ext) (hv.ext e2) (hx.ext H.ext)).mono ?_
      rintro e W2 ⟨rfl, eX⟩
      replace H := H.step eX
      refine ⟨_, _, _, _, rfl, ?_⟩
      repeat (first
        | (intro _ _ hS; replace H := H.new hS; clear hS)
        | (intro _ hS; (first | replace H := H.put 0 rfl hS | replace H := H.put 1 rfl hS | replace H := H.put 2 rfl hS | replace H := H.put 3 rfl hS | replace H := H.put 4 rfl hS | replace H := H.put 5 rfl hS | replace H := H.put 6 rfl hS | replace H := H.put 7 rfl hS); clear hS; try simp only [setA, List.setIfInBounds_toArray, List.set_cons_zero, List.set_cons_succ, Nat.zero_add, Nat.reduceAdd] at H)
        | (intro _ hS; replace H := H.step (Drew.ext hS); clear hS)
        | (first | refine ⟨⟨_, H.get 0 rfl rfl⟩, ?_⟩ | refine ⟨⟨_, H.get 1 rfl rfl⟩, ?_⟩ | refine ⟨⟨_, H.get 2 rfl rfl⟩, ?_⟩ | refine ⟨⟨_, H.get 3 rfl rfl⟩, ?_⟩ | refine ⟨⟨_, H.get 4 rfl rfl⟩, ?_⟩ | refine ⟨⟨_, H.get 5 rfl rfl⟩, ?_⟩ | refine ⟨⟨_, H.get 6 rfl rfl⟩, ?_⟩ | refine ⟨⟨_, H.get 7 rfl rfl⟩, ?_⟩)
        | (first | refine ⟨H.frz 0 rfl, ?_⟩ | refine ⟨H.frz 1 rfl, ?_⟩ | refine ⟨H.frz 2 rfl, ?_⟩ | refine ⟨H.frz 3 rfl, ?_⟩ | refine ⟨H.frz 4 rfl, ?_⟩ | refine ⟨H.frz 5 rfl, ?_⟩ | refine ⟨H.frz 6 rfl, ?_⟩ | refine ⟨H.frz 7 rfl, ?_⟩)
        | (first | refine ⟨_, H.get 0 rfl rfl, ?_⟩ | refine ⟨_, H.get 1 rfl rfl, ?_⟩ | refine ⟨_, H.get 2 rfl rfl, ?_⟩ | refine ⟨_, H.get 3 rfl rfl, ?_⟩ | refine ⟨_, H.get 4 rfl rfl, ?_⟩ | refine ⟨_, H.get 5 rfl rfl, ?_⟩ | refine ⟨_, H.get 6 rfl rfl, ?_⟩ | refine ⟨_, H.get 7 rfl rfl, ?_⟩)
        | (first | refine ⟨_, _, _, H.get 0 rfl rfl, ?_⟩ | refine ⟨_, _, _, H.get 1 rfl rfl, ?_⟩ | refine ⟨_, _, _, H.get 2 rfl rfl, ?_⟩ | refine ⟨_, _, _, H.get 3 rfl rfl, ?_⟩ | refine ⟨_, _, _, H.get 4 rfl rfl, ?_⟩ | refine ⟨_, _, _, H.get 5 rfl rfl, ?_⟩ | refine ⟨_, _, _, H.get 6 rfl rfl, ?_⟩ | refine ⟨_, _, _, H.get 7 rfl rfl, ?_⟩))
      obtain ⟨p1, c1', w1', hrn1, H1⟩ := H.append (ty := 31) (P := Tryd.prog) (q := some ⟨_, 0, none⟩) (m := 1) (d' := 1) (news := (valAt cols B x z).1.cs) 0 rfl undVals tyVal rfl (by decide) (H.blk 0 rfl).at rfl (fun e => by cases e) (Val.cs_one _) (by dsimp only; omega) (by unfold maxLen; omega)
      refine ⟨p1, _, c1', w1', hrn1, ?_⟩
      replace H := H1
      repeat (first
        | (intro _ _ hS; replace H := H.new hS; clear hS)
        | (intro _ hS; (first | replace H := H.put 0 rfl hS | replace H := H.put 1 rfl hS | replace H := H.put 2 rfl hS | replace H := H.put 3 rfl hS | replace H := H.put 4 rfl hS | replace H := H.put 5 rfl hS | replace H := H.put 6 rfl hS | replace H := H.put 7 rfl hS); clear hS; try simp only [setA, List.setIfInBounds_toArray, List.set_cons_zero, List.set_cons_succ, Nat.zero_add, Nat.reduceAdd] at H)
        | (intro _ hS; replace H := H.step (Drew.ext hS); clear hS)
        | (first | refine ⟨⟨_, H.get 0 rfl rfl⟩, ?_⟩ | refine ⟨⟨_, H.get 1 rfl rfl⟩, ?_⟩ | refine ⟨⟨_, H.get 2 rfl rfl⟩, ?_⟩ | refine ⟨⟨_, H.get 3 rfl rfl⟩, ?_⟩ | refine ⟨⟨_, H.get 4 rfl rfl⟩, ?_⟩ | refine ⟨⟨_, H.get 5 rfl rfl⟩, ?_⟩ | refine ⟨⟨_, H.get 6 rfl rfl⟩, ?_⟩ | refine ⟨⟨_, H.get 7 rfl rfl⟩, ?_⟩)
        | (first | refine ⟨H.frz 0 rfl, ?_⟩ | refine ⟨H.frz 1 rfl, ?_⟩ | refine ⟨H.frz 2 rfl, ?_⟩ | refine ⟨H.frz 3 rfl, ?_⟩ | refine ⟨H.frz 4 rfl, ?_⟩ | refine ⟨H.frz 5 rfl, ?_⟩ | refine ⟨H.frz 6 rfl, ?_⟩ | refine ⟨H.frz 7 rfl, ?_⟩)
        | (first | refine ⟨_, H.get 0 rfl rfl, ?_⟩ | refine ⟨_, H.get 1 rfl rfl, ?_⟩ | refine ⟨_, H.get 2 rfl rfl, ?_⟩ | refine ⟨_, H.get 3 rfl rfl, ?_⟩ | refine ⟨_, H.get 4 rfl rfl, ?_⟩ | refine ⟨_, H.get 5 rfl rfl, ?_⟩ | refine ⟨_, H.get 6 rfl rfl, ?_⟩ | refine ⟨_, H.get 7 rfl rfl, ?_⟩)
        | (first | refine ⟨_, _, _, H.get 0 rfl rfl, ?_⟩ | refine ⟨_, _, _, H.get 1 rfl rfl, ?_⟩ | refine ⟨_, _, _, H.get 2 rfl rfl, ?_⟩ | refine ⟨_, _, _, H.get 3 rfl rfl, ?_⟩ | refine ⟨_, _, _, H.get 4 rfl rfl, ?_⟩ | refine ⟨_, _, _, H.get 5 rfl rfl, ?_⟩ | refine ⟨_, _, _, H.get 6 rfl rfl, ?_⟩ | refine ⟨_, _, _, H.get 7 rfl rfl, ?_⟩))
      obtain ⟨p2, c2', w2', hrn2, H2⟩ := H.append (ty := 32) (P := Tryd.prog) (q := some ⟨_, 0, none⟩) (m := 1) (d' := 1) (news := encI (valAt cols B x z).2) 1 rfl undErrs tyErr rfl (by decide) (H.blk 0 rfl).at rfl (fun e => by cases e) (encI_one _) (by dsimp only; omega) (by unfold maxLen; omega)
      refine ⟨p2, _, c2', w2', hrn2, ?_⟩
      rw [i64_next (by omega)]
      refine ⟨⟨j + 1, rfl, by omega, rfl, rfl, ?_⟩, by simp only [Int.toNat_natCast]; omega⟩
      rw [List.take_add_one, gz, List.map_append, List.map_append, List.flatMap_append, List.flatMap_append]
      have H3 := H2.drop F (fun i => i + 3) (fun i x h => by simpa using h) (fun i j e => by omega)
      simpa using H3
  · have hjn : j = cn := by omega
    subst hjn
    rw [List.take_of_length_le (by omega)] at H
    unfold EvalAns
    rw [e1]
    exact ⟨⟨q, j, d, q2, j, d2, rfl, (H.row 0 rfl).ls Val.cs_length (by decide), (H.row 1 rfl).ls encI_len (by decide)⟩, H.ext⟩
end Go.Proofs.YtaccokhdmhomhaaDoor

/- The contract of vector.Eval. -/
namespace Go.Proofs.YtaccokhdmhomhaaDoor
open Go Go.Vc Go.RowKit
set_option maxRecDepth 20000
attribute [local irreducible] Calls Put Drew New

theorem encs_len (l : List Int) : (l.flatMap encI).length = l.length := by
  induction l with
  | nil => rfl
  | cons x l ih => rw [List.flatMap_cons, List.length_append, ih, encI_len, List.length_cons]; omega
theorem vals_len (l : List Val) : (l.flatMap Val.cs).length = l.length * 3 := by
  induction l with
  | nil => rfl
  | cons x l ih => rw [List.flatMap_cons, List.length_append, ih, Val.cs_length, List.length_cons]; omega
/-- Element k is written behind those that were written. -/
theorem row_next {A Z us : List Value} {k s : Nat} (hA : A.length = k * s) (hu : us.length = s) : (A ++ Z.drop (k * s)).take (k * s) ++ us ++ (A ++ Z.drop (k * s)).drop (k * s + s) = A ++ us ++ Z.drop ((k + 1) * s) := by
  rw [List.take_left' hA, List.drop_append, List.drop_of_length_le (by omega), hA, List.nil_append, List.drop_drop, show k * s + (k * s + s - k * s) = (k + 1) * s by rw [Nat.add_mul]; omega]
theorem made_ints (n : Nat) : (madeCells #[Value.int .i64 0] n).toList = List.replicate n (Value.int .i64 0) := by
  apply List.ext_getElem
  · rw [Array.length_toList, size_madeCells]; simp
  · intro i h1 h2
    simp [madeCells, Nat.mod_one]
theorem none_bad {ch : List Int} {f : Int → Int} (h : ∀ i ∈ ch, f i = 0) : (ch.map f).flatMap encI = List.replicate ch.length (Value.int .i64 0) := by
  induction ch with
  | nil => rfl
  | cons x l ih =>
    rw [List.map_cons, List.flatMap_cons, ih fun i hi => h i (by simp [hi]), h x (by simp), List.length_cons, List.replicate_succ]; rfl
theorem no_loop {w : World} {l k o : Nat} {r : Nat → Loop} {v : Value} (h : Rec r l k w) (hc : w.cell? ⟨l, o, none⟩ = some v) : False := by
  unfold World.cell? at hc
  unfold Rec at h
  dsimp only at hc
  rw [h] at hc
  cases hc
set_option maxHeartbeats 4000000 in
theorem vEval_ok (x : Ex) {w : World} {p bp cp : Option Addr} {n c bn bc cn cc : Nat} {hs : List Sl} {B : List (List Val)} {cols : List Col} {ch : List Int} {cs : List Value} (hT : Tab w) (hT2 : Tab2 w) (hc : Cols w p n c cols) (hB : Rws w bp bn bc hs B) (hch : Is w cp cn cc ch) (hx : ExAt w x cs) (hf : ∀ r ∈ B, FitR r) (hxf : FitX x) :
    Calls Tryd.prog 9 #[.slice p n c, .slice bp bn bc, .slice cp cn cc, .agg cs.toArray] w fun e w' => EvalAns cols B ch x e w' ∧ Ext w w' := by
  obtain ⟨xp, xn, xc, rfl, _⟩ := hx.six
  apply vEval_vc
  unfold vEval_T
  intro b1 w2 h1
  have H := (Hold.start (Ext.rfl (w := w))).new h1
  intro b4 w5 h4
  replace H := H.new h4
  obtain ⟨a0, a1, a2, a3, a4, a5⟩ := Blk.c6 (H.blk 0 rfl)
  refine ⟨_, _, _, H.get 1 rfl rfl, _, a0, _, a1, _, a2, _, a3, _, a4, _, _, _, a5, ?_⟩
  refine (xtype_ok x (hT.ext H.ext) (hc.ext H.ext) (hx.ext H.ext)).mono ?_
  rintro e W ⟨rfl, eX⟩
  replace H := H.step eX
  refine ⟨_, _, rfl, fun hne => ?_, fun heq => ?_⟩
  · have : evalB cols B ch x = ([], [], (typeF cols x).2) := by unfold evalB; rw [if_pos hne]
    unfold EvalAns
    rw [this]
    exact ⟨⟨none, 0, 0, none, 0, 0, rfl, Ls.nothing _ _, Ls.nothing _ _⟩, H.ext⟩
  obtain ⟨hright, hform, hkd⟩ := typeF_right heq
  refine ⟨_, _, _, H.get 1 rfl rfl, ?_⟩
  refine (vbright_ok (hc.ext H.ext) hright (hB.ext H.ext) (hch.ext H.ext)).mono ?_
  rintro e W1 ⟨rfl, eX⟩
  replace H := H.step eX
  refine ⟨_, rfl, fun hr => ?_, fun hr => ?_⟩
  · have : evalB cols B ch x = ([], [], 2) := by unfold evalB; rw [if_neg (by simp [heq]), if_pos hr]
    unfold EvalAns
    rw [this]
    exact ⟨⟨none, 0, 0, none, 0, 0, rfl, Ls.nothing _ _, Ls.nothing _ _⟩, H.ext⟩
  have e1 : evalB cols B ch x = (ch.map fun i => (valAt cols B x i).1, ch.map fun i => (valAt cols B x i).2, 0) := by unfold evalB; rw [if_neg (by simp [heq]), if_neg (by simp [hr])]
  obtain ⟨hlen, hin⟩ := right_all hr
  obtain ⟨⟨r1, r2⟩, r3, r4, _⟩ := rightB_iff.1 hr
  have hl := hB.len
  have hcl := hch.len
  obtain ⟨rl1, rl2⟩ := right_len hright
  refine ⟨by omega, by omega, by omega, by omega, ?_⟩
  intro b32 w33 h32
  replace H := H.litRow (s := 1) (cap := cn) h32 (by unfold maxLen; omega) (by rw [size_madeCells]; simp)
  rw [made_ints] at H
  intro b35 w36 h35
  replace H := H.new h35
  refine ⟨⟨_, H.get 0 rfl rfl⟩, H.frz 0 rfl, ?_⟩
  intro w39 hS
  replace H := H.put 0 rfl hS
  try simp only [setA, List.setIfInBounds_toArray, List.set_cons_zero, List.set_cons_succ, Nat.zero_add, Nat.reduceAdd] at H
  obtain ⟨a0, a1, a2, a3, a4, a5⟩ := Blk.c6 (H.blk 1 rfl)
  refine ⟨_, _, _, H.get 2 rfl rfl, _, a0, _, a1, _, a2, _, a3, _, a4, _, _, _, a5, ?_⟩
  refine (vplain_ok x (hc.ext H.ext) (hB.ext H.ext) (hch.ext H.ext) (hx.ext H.ext) heq hr).mono ?_
  rintro e W3 ⟨hans, eX⟩
  replace H := H.step eX
  rcases hans with ⟨q, d, rfl, hv, hz⟩ | rfl
  · refine ⟨_, _, _, _, rfl, fun _ => ?_, fun h => (by cases h)⟩
    intro w59 hD
    have eD := Drew.ext hD
    replace H := H.step eD
    refine ⟨_, _, _, H.get 0 rfl rfl, ?_⟩
    have hb := H.row 0 rfl
    rw [← hcl, ← none_bad hz] at hb
    unfold EvalAns
    rw [e1]
    rw [hcl] at hb
    exact ⟨⟨q, cn, d, _, cn, cn, rfl, hv.ext eD, hb.ls encI_len (by decide)⟩, H.ext⟩
  · refine ⟨_, _, _, _, rfl, fun h => (by cases h), fun _ => ?_⟩
    refine ⟨by omega, by omega, by omega, by omega, ?_⟩
    intro b65 w66 h65
    replace H := H.litRow (s := 3) (cap := cn) h65 (by unfold maxLen; omega) (by rw [size_madeCells])
    generalize hZ : (madeCells #[Value.int .i64 0, .int .i64 0, .string ⟨#[]⟩] (cn * 3)).toList = Z at H
    have hZl : Z.length = cn * 3 := by rw [← hZ, Array.length_toList, size_madeCells]
    intro b68 w69 h68
    replace H := H.new h68
    refine ⟨⟨_, H.get 0 rfl rfl⟩, H.frz 0 rfl, ?_⟩
    intro w72 hS
    replace H := H.put 0 rfl hS
    try simp only [setA, List.setIfInBounds_toArray, List.set_cons_zero, List.set_cons_succ, Nat.zero_add, Nat.reduceAdd] at H
    refine (chosen_ok .nilFunc).mono ?_
    rintro e w75 ⟨c1, c4, w2', rfl, hn1, hn4⟩
    replace H := H.new hn1
    replace H := H.new hn4
    refine ⟨_, rfl, _, _, rfl, by kernel_rfl, ?_⟩
    intro r79 d80 l81 w182 hBeg
    replace H := H.began hBeg
    let F : List (Nat × Obj) := [(l81, .loop (r79 0)), (d80, .deferred (some [])), (c4, .cells #[.slice cp cn cc] 24 (0, 0)), (c1, .cells #[.slice bp bn bc] 23 (0, 0)), (b68, .cells #[.slice (some ⟨b65, 0, none⟩) cn cn] 31 (0, 0)),
      (b35, .cells #[.slice (some ⟨b32, 0, none⟩) cn cn] 32 (0, 0)), (b4, .cells #[.int .i64 x.op, .string x.name, .int .i64 x.v.k, .int .i64 x.v.n, .string x.v.s, .slice xp xn xc] 29 (0, 0)), (b1, .cells #[.slice p n c] 22 (0, 0))]
    let M : Nat → List Row := fun k => [⟨26, 3, some ⟨b65, 0, none⟩, cn, cn, ((ch.take k).map fun i => (valAt cols B x i).1).flatMap Val.cs ++ Z.drop (k * 3)⟩,
      ⟨33, 1, some ⟨b32, 0, none⟩, cn, cn, ((ch.take k).map fun i => (valAt cols B x i).2).flatMap encI ++ (List.replicate cn (Value.int .i64 0)).drop (k * 1)⟩]
    have H0 : Hold w w182 F (M 0) := by
      have := H
      simp only [Nat.zero_mul, List.drop_zero, List.take_zero, List.map_nil, List.flatMap_nil, List.nil_append, M, F]
      exact this
    clear H
    intro hround
    refine (chosen1_ok (wc := w) hB (by omega) hch (fun i hi => by obtain ⟨i0, _, _, i3⟩ := hin i hi; exact ⟨i0, i3⟩) (fun k W => Hold w W F (M k)) ?_ ?_ ?_ H0).mono ?_
    · rintro k W HW
      exact ⟨HW.ext, HW.get 2 rfl rfl, HW.get 3 rfl rfl⟩
    · rintro k W W' HW eX
      exact HW.step eX
    · rintro k i W q d R hk HW hrow hnext
      refine hround _ _ _ _ W R (HW.loop 0 rfl) ⟨HW.loop 0 rfl, ?_⟩
      rintro Wb rfl
      have H := HW.turn 0 1 rfl
      intro w93 hD
      replace H := H.step (Drew.ext hD)
      obtain ⟨a0, a1, a2, a3, a4, a5⟩ := Blk.c6 (H.blk 6 rfl)
      refine ⟨_, _, _, H.get 4 rfl rfl, _, _, _, H.get 5 rfl rfl, _, _, _, H.get 7 rfl rfl, _, a0, _, a1, _, a2, _, a3, _, a4, _, _, _, a5, ?_⟩
      obtain ⟨i0, i1, i2, i3⟩ := hin i (List.mem_of_getElem? hk)
      have hkn : k < cn := by have := (List.getElem?_eq_some_iff.1 hk).1; omega
      have ev : valAt cols B x i = evalF cols (rowB B i.toNat) x := valueF_eval heq i2
      have hrow' : Vs w93 q bn d (rowB B i.toNat) := hrow.kept fun b o hb hlt => by
        rw [(Drew.ext hD).block b (by rw [turn_but.2]; exact hlt)]
        refine turn_but.1.block b hlt fun e => ?_
        subst e
        have h0 : 0 < (rowB B i.toNat).length := by unfold rowB; rw [List.length_map]; omega
        obtain ⟨vb, vo, hvp, c0, _⟩ := hrow.val (List.getElem?_eq_getElem h0)
        rw [hb] at hvp
        cases hvp
        exact no_loop (HW.loop 0 rfl) c0
      refine (xEval_ok x (hT.ext H.ext) (hT2.ext H.ext) (hc.ext H.ext) hrow' (hx.ext H.ext) (rowB_fit hf _) hxf).mono ?_
      rintro e W5 ⟨rfl, eX⟩
      rw [← ev]
      replace H := H.step eX
      refine ⟨_, _, _, _, rfl, eX.same, ?_⟩
      have ht : (ch.take k).length = k := by rw [List.length_take]; omega
      obtain ⟨gb, gp, gc, gput⟩ := H.putRow (us := (valAt cols B x i).1.cs) 0 rfl hkn (Val.cs_length _)
      cases gp
      simp only [Int.toNat_natCast]
      have u0 := gc 0 (by omega)
      have u1 := gc 1 (by omega)
      have u2 := gc 2 (by omega)
      rw [Nat.add_zero] at u0
      refine ⟨_, _, rfl, by omega, by omega, ?_⟩
      simp only [Nat.zero_add]
      refine ⟨u0.1, u0.2, u1.1, u1.2, u2.1, u2.2, ?_⟩
      intro w123 hS
      have hne : ∀ y ∈ [b4, b1, b35, b68], y ≠ b65 := by
        intro y hy
        simp only [List.mem_cons, List.not_mem_nil, or_false] at hy
        rcases hy with rfl | rfl | rfl | rfl
        · exact H.apart 6 0 _ _ rfl rfl _ _ rfl
        · exact H.apart 7 0 _ _ rfl rfl _ _ rfl
        · exact H.apart 5 0 _ _ rfl rfl _ _ rfl
        · exact H.apart 4 0 _ _ rfl rfl _ _ rfl
      refine ⟨hS.but.sameIn fun hm => hne _ hm rfl, ?_⟩
      replace H := gput _ hS
      obtain ⟨gb, gp, gc, gput⟩ := H.putRow (us := encI (valAt cols B x i).2) 1 rfl hkn (encI_len _)
      cases gp
      have u0 := gc 0 (by omega)
      rw [Nat.add_zero, Nat.mul_one] at u0
      refine ⟨_, _, rfl, by omega, by omega, ?_⟩
      simp only [Nat.zero_add]
      refine ⟨u0.1, u0.2, ?_⟩
      intro w128 hS2
      replace H := gput _ (by rw [Nat.mul_one]; exact hS2)
      refine ⟨H.loop 0 rfl, hnext _ ?_⟩
      have H2 := H.turn 0 0 rfl
      have g1 := row_next (A := ((ch.take k).map fun i => (valAt cols B x i).1).flatMap Val.cs) (Z := Z) (k := k) (s := 3) (by rw [vals_len, List.length_map, ht]) (Val.cs_length (valAt cols B x i).1)
      have g2 := row_next (A := ((ch.take k).map fun i => (valAt cols B x i).2).flatMap encI) (Z := List.replicate cn (Value.int .i64 0)) (k := k) (s := 1) (by rw [encs_len, List.length_map, ht]; omega) (encI_len (valAt cols B x i).2)
      have e1 : ((ch.take (k + 1)).map fun i => (valAt cols B x i).1).flatMap Val.cs = ((ch.take k).map fun i => (valAt cols B x i).1).flatMap Val.cs ++ (valAt cols B x i).1.cs := by
        rw [List.take_add_one, hk, List.map_append, List.flatMap_append]; simp
      have e2 : ((ch.take (k + 1)).map fun i => (valAt cols B x i).2).flatMap encI = ((ch.take k).map fun i => (valAt cols B x i).2).flatMap encI ++ encI (valAt cols B x i).2 := by
        rw [List.take_add_one, hk, List.map_append, List.flatMap_append]; simp
      have : M (k + 1) = _ := rfl
      rw [show M (k + 1) = [⟨26, 3, some ⟨b65, 0, none⟩, cn, cn, ((ch.take (k + 1)).map fun i => (valAt cols B x i).1).flatMap Val.cs ++ Z.drop ((k + 1) * 3)⟩,
      ⟨33, 1, some ⟨b32, 0, none⟩, cn, cn, ((ch.take (k + 1)).map fun i => (valAt cols B x i).2).flatMap encI ++ (List.replicate cn (Value.int .i64 0)).drop ((k + 1) * 1)⟩] from rfl, e1, e2, ← g1, ← g2]
      exact H2
    · rintro e W4 ⟨rfl, HW⟩
      refine ⟨⟨_, rfl⟩, .inl ⟨HW.loop 0 rfl, ?_⟩⟩
      have H2 := HW.turn 0 2 rfl
      intro w137 hD
      replace H2 := H2.step (Drew.ext hD)
      refine ⟨_, _, _, H2.get 4 rfl rfl, _, _, _, H2.get 5 rfl rfl, H2.dfr 1 rfl, ?_⟩
      have H3 := H2.shut 1 rfl
      have hk0 := H3.row 0 rfl
      have hk1 := H3.row 1 rfl
      rw [List.take_of_length_le (by omega), List.drop_of_length_le (by omega), List.append_nil] at hk0
      rw [List.take_of_length_le (by omega), List.drop_of_length_le (by simp; omega), List.append_nil] at hk1
      unfold EvalAns
      rw [e1]
      exact ⟨⟨_, cn, cn, _, cn, cn, rfl, hk0.ls Val.cs_length (by decide), hk1.ls encI_len (by decide)⟩, H3.ext⟩
end Go.Proofs.YtaccokhdmhomhaaDoor

/- The contracts of the words that hold rows against one another. -/
namespace Go.Proofs.YtaccokhdmhomhaaDoor
open Go Go.Vc Go.RowKit
set_option maxRecDepth 20000

end Go.Proofs.YtaccokhdmhomhaaDoor

/- The contracts of law13's shown, VectorEvals, VectorFilters. -/
namespace Go.Proofs.YtaccokhdmhomhaaDoor
open Go Go.Vc Go.RowKit
set_option maxRecDepth 20000
attribute [local irreducible] Calls Put Drew New

def shC : List Col := [⟨⟨#[97]⟩, 1, true⟩]
def shB : List (List Val) := [[numV 1, nullV, numV 3]]
def shCh : List Int := [0, 1, 2]
def shX : Ex := .mk 10 ⟨#[]⟩ nullV [.mk 2 ⟨#[]⟩ (numV 1) [], .mk 1 ⟨#[97]⟩ nullV []]
theorem sh_val : filterB shC shB shCh shX = ([2], 0, 0) := by decide +kernel
section
variable {w : World} {p bp cp : Option Addr} {n c bn bc cn cc : Nat} {hs : List Sl} {B : List (List Val)} {cols : List Col} {ch : List Int}
theorem vFilter_all (x : Ex) {cs : List Value} (hT : Tab w) (hT2 : Tab2 w) (hc : Cols w p n c cols) (hB : Rws w bp bn bc hs B) (hch : Is w cp cn cc ch) (hx : ExAt w x cs) (hf : ∀ r ∈ B, FitR r) (hxf : FitX x) :
    Calls Tryd.prog 13 #[.slice p n c, .slice bp bn bc, .slice cp cn cc, .agg cs.toArray] w fun e w' => (∃ (q : Option Addr) (k d : Nat), e = .returned (.tuple #[.slice q k d, .int .i64 (filterB cols B ch x).2.1, .int .i64 (filterB cols B ch x).2.2]) ∧ Is w' q k d (filterB cols B ch x).1) ∧ Ext w w' :=
  vFilter_ok x hT hc hch hx fun e => vEval_ok x (hT.ext e) (hT2.ext e) (hc.ext e) (hB.ext e) (hch.ext e) (hx.ext e) hf hxf
theorem shown13_ok (hT : Tab w) (hT2 : Tab2 w) : Calls Tryd.prog 8 #[] w fun e w' => e = .returned (.bool true) ∧ Ext w w' := by
  apply shown13_vc
  unfold shown13_T
  intro b1 w2 h1
  have H := (Hold.start (Ext.rfl (w := w))).new h1
  intro b4 w5 h4
  replace H := H.new h4
  intro b7 w8 h7
  replace H := H.new h7
  intro b10 w11 h10
  replace H := H.new h10
  intro b13 w14 h13
  replace H := H.new h13
  have hc : Cols w14 (some ⟨b1, 0, none⟩) 1 1 shC := ⟨rfl, ⟨Nat.le_refl _, by decide⟩, (H.blk 4 rfl).at, fun h => by cases h⟩
  have hr : Vs w14 (some ⟨b4, 0, none⟩) 3 3 [numV 1, nullV, numV 3] := ⟨rfl, ⟨Nat.le_refl _, by decide⟩, (H.blk 3 rfl).at, fun h => by cases h⟩
  have hh : Ls Sl.cs w14 (some ⟨b7, 0, none⟩) 1 1 [⟨some ⟨b4, 0, none⟩, 3, 3⟩] := ⟨rfl, ⟨Nat.le_refl _, by decide⟩, (H.blk 2 rfl).at, fun h => by cases h⟩
  have hB : Rws w14 (some ⟨b7, 0, none⟩) 1 1 [⟨some ⟨b4, 0, none⟩, 3, 3⟩] shB := by
    refine ⟨hh, fun i x r hx hr' => ?_, rfl⟩
    cases i with
    | zero => cases hx; cases hr'; exact hr
    | succ i => simp at hx
  have hch : Is w14 (some ⟨b10, 0, none⟩) 3 3 shCh := ⟨rfl, ⟨Nat.le_refl _, by decide⟩, (H.blk 1 rfl).at, fun h => by cases h⟩
  have hx : ExAt w14 shX [.int .i64 10, .string ⟨#[]⟩, .int .i64 0, .int .i64 0, .string ⟨#[]⟩, .slice (some ⟨b13, 0, none⟩) 2 2] := by
    unfold shX ExAt
    refine ⟨some ⟨b13, 0, none⟩, 2, 2, [[.int .i64 2, .string ⟨#[]⟩, .int .i64 1, .int .i64 1, .string ⟨#[]⟩, .slice none 0 0], [.int .i64 1, .string ⟨#[97]⟩, .int .i64 0, .int .i64 0, .string ⟨#[]⟩, .slice none 0 0]], rfl, ⟨Nat.le_refl _, by decide⟩, fun h => (by cases h), rfl, ?_, (H.blk 0 rfl).at, ?_⟩
    · intro x hx
      simp only [List.mem_cons, List.not_mem_nil, or_false] at hx
      rcases hx with rfl | rfl <;> rfl
    · unfold ExsAt
      refine ⟨?_, ?_⟩
      · unfold ExAt
        exact ⟨none, 0, 0, [], rfl, ⟨Nat.le_refl _, Nat.zero_le _⟩, fun _ => ⟨rfl, rfl⟩, rfl, by simp, .inl rfl, by unfold ExsAt; trivial⟩
      · unfold ExsAt
        refine ⟨?_, by unfold ExsAt; trivial⟩
        unfold ExAt
        exact ⟨none, 0, 0, [], rfl, ⟨Nat.le_refl _, Nat.zero_le _⟩, fun _ => ⟨rfl, rfl⟩, rfl, by simp, .inl rfl, by unfold ExsAt; trivial⟩
  refine (vFilter_all shX (hT.ext H.ext) (hT2.ext H.ext) hc hB hch hx (by unfold FitR; decide) (by unfold FitX; decide)).mono ?_
  rw [sh_val]
  rintro e W ⟨⟨q, k, d, rfl, hi⟩, eX⟩
  obtain rfl : (1 : Nat) = k := hi.len
  refine ⟨_, _, _, _, _, rfl, fun _ => ?_, fun h => ?_⟩
  · obtain ⟨b, o, hp, c0⟩ := hi.int (i := 0) (z := 2) rfl
    refine ⟨b, o, hp, by decide, by decide, _, c0, ?_, (H.step eX).ext⟩
    simp
  · rcases h with h | h
    · exact absurd rfl h
    · exact absurd rfl h
theorem lawFilters_ok (x : Ex) {cs : List Value} (hT : Tab w) (hT2 : Tab2 w) (hc : Cols w p n c cols) (hcs : ∀ y ∈ cols, y.name.size ≤ 9223372036854775807) (hB : Rws w bp bn bc hs B) (hch : Is w cp cn cc ch) (hx : ExAt w x cs) (hf : ∀ r ∈ B, FitR r) (hxf : FitX x) :
    Calls Tryd.prog 4 #[.slice p n c, .slice bp bn bc, .slice cp cn cc, .agg cs.toArray] w fun e w' => e = .returned (.bool true) ∧ Ext w w' := by
  obtain ⟨xp, xn, xc, rfl, _⟩ := hx.six
  apply lawFilters_vc
  unfold lawFilters_T
  intro b1 w2 h1
  have H := (Hold.start (Ext.rfl (w := w))).new h1
  refine (shown13_ok (hT.ext H.ext) (hT2.ext H.ext)).mono ?_
  rintro e W ⟨rfl, eX⟩
  replace H := H.step eX
  obtain ⟨a0, a1, a2, a3, a4, a5⟩ := Blk.c6 (H.blk 0 rfl)
  refine ⟨_, rfl, _, a0, _, a1, _, a2, _, a3, _, a4, _, _, _, a5, ?_⟩
  refine (vFilter_all x (hT.ext H.ext) (hT2.ext H.ext) (hc.ext H.ext) (hB.ext H.ext) (hch.ext H.ext) (hx.ext H.ext) hf hxf).mono ?_
  rintro e W1 ⟨⟨q, k, d, rfl, hv⟩, eX⟩
  replace H := H.step eX
  obtain ⟨a0, a1, a2, a3, a4, a5⟩ := Blk.c6 (H.blk 0 rfl)
  refine ⟨_, _, _, _, _, rfl, _, a0, _, a1, _, a2, _, a3, _, a4, _, _, _, a5, ?_⟩
  refine (wFilter_ok x (hc.ext H.ext) hcs (hch.ext H.ext) (hx.ext H.ext) fun e => wEval_ok x (hc.ext (H.ext.trans e)) hcs (hB.ext (H.ext.trans e)) (hch.ext (H.ext.trans e)) (hx.ext (H.ext.trans e)) hf hxf).mono ?_
  rintro e W2 ⟨⟨q', k', d', rfl, hv'⟩, eX⟩
  replace H := H.step eX
  refine ⟨_, _, _, _, _, rfl, fun _ => ?_, fun h => (by cases h)⟩
  refine (sameints_ok (hv.ext eX) hv').mono ?_
  rintro e W3 ⟨rfl, eY⟩
  exact ⟨_, rfl, by simp, (H.step eY).ext⟩
end
end Go.Proofs.YtaccokhdmhomhaaDoor

/- The contracts of law13's VectorRows, VectorBoth, VectorLess. -/
namespace Go.Proofs.YtaccokhdmhomhaaDoor
open Go Go.Vc Go.RowKit
set_option maxRecDepth 20000
attribute [local irreducible] Calls Put Drew New

section
variable {cols : List Col} {L : List (List Val)} {ch : List Int} {x : Ex}
/-- The columns of rows. -/
def colsOf (cols : List Col) (L : List (List Val)) : List (List Val) := (List.range cols.length).map fun c => L.map fun r : List Val => (r[c]?).getD nullV
end
section
variable {w : World} {p rp : Option Addr} {n c rn rc : Nat} {hs : List Sl} {L : List (List Val)} {cols : List Col} {ch : List Int}
end
end Go.Proofs.YtaccokhdmhomhaaDoor

/- An argument that is an expression, opened. -/
namespace Go.Vc
open Go Go.RowKit

theorem ArgF.fields {n : Nat} {P : Program} {w : World} {t : TypeId} {cs : List Value} {l : List (TypeId × Nat)} (hu : structOf P t = some l) (h : ArgF (n + 1) P w t cs) :
    cs.length = P.cellsOf t ∧ ∀ x ∈ l, ArgF n P w x.1 ((cs.drop x.2).take (P.cellsOf x.1)) := by
  unfold structOf at hu
  split at hu
  · rename_i fs hfs
    cases hu
    obtain ⟨h1, h2⟩ := ArgF.struct hfs h
    refine ⟨h1, fun x hx => ?_⟩
    obtain ⟨f, hf, rfl⟩ := List.mem_map.1 hx
    exact h2 f hf
  · cases hu
theorem ExsAt.all {w : World} : ∀ (css : List (List Value)), (∀ c ∈ css, ∃ x, ExAt w x c ∧ ∀ y ∈ nodesT x, fitI y.v.n) → ∃ xs, ExsAt w xs css ∧ ∀ y ∈ nodesTs xs, fitI y.v.n
  | [], _ => ⟨[], by unfold ExsAt; trivial, fun y hy => by unfold nodesTs at hy; cases hy⟩
  | c :: r, h => by
    obtain ⟨x, h1, h2⟩ := h c (by simp)
    obtain ⟨xs, h3, h4⟩ := ExsAt.all r fun q hq => h q (by simp [hq])
    refine ⟨x :: xs, by unfold ExsAt; exact ⟨h1, h3⟩, fun y hy => ?_⟩
    unfold nodesTs at hy
    rcases List.mem_append.1 hy with hy | hy
    · exact h2 y hy
    · exact h4 y hy
theorem arg_ex {P : Program} {w : World} {t ti ts tv tk : TypeId} (hu : structOf P t = some [(ti, 0), (ts, 1), (tv, 2), (tk, 5)]) (hc : P.cellsOf t = 6) (h1 : P.cellsOf ti = 1) (h2 : P.cellsOf ts = 1) (h3 : P.cellsOf tv = 3) (h4 : P.cellsOf tk = 1)
    (u1 : P.underlying ti = some (.int .i64)) (u2 : P.underlying ts = some .string) (u4 : P.underlying tk = some (.slice t)) (hv : ∀ cs, Arg P w tv cs → ∃ v : Val, cs = v.cs ∧ v.fit) :
    ∀ (f : Nat) (cs : List Value), ArgF f P w t cs → ∃ x, ExAt w x cs ∧ ∀ y ∈ nodesT x, fitI y.v.n := by
  intro f
  induction f using Nat.strongRecOn with
  | ind f ih =>
  intro cs h
  obtain ⟨n, rfl⟩ := h.pos
  obtain ⟨hl, hf⟩ := h.fields hu
  rw [hc] at hl
  obtain ⟨a, b, c, d, e, g, rfl⟩ : ∃ a b c d e g, cs = [a, b, c, d, e, g] := by
    match cs, hl with
    | [a, b, c, d, e, g], _ => exact ⟨a, b, c, d, e, g, rfl⟩
  have f1 := hf (ti, 0) (by simp)
  have f2 := hf (ts, 1) (by simp)
  have f3 := hf (tv, 2) (by simp)
  have f4 := hf (tk, 5) (by simp)
  simp only [h1, h2, h3, h4] at f1 f2 f3 f4
  obtain ⟨op, e1, _⟩ := Arg.int u1 f1.arg
  obtain ⟨nm, e2, _⟩ := Arg.string u2 f2.arg
  obtain ⟨v, e3, hvf⟩ := hv _ f3.arg
  obtain ⟨m, rfl⟩ := f4.pos
  obtain ⟨p, k, cap, css, e4, hkc, hcm, _, hcl, hall, hat, hnil⟩ := ArgF.slice u4 (by omega) f4
  simp [Val.cs] at e1 e2 e3 e4
  obtain ⟨rfl, rfl, rfl⟩ := e3
  subst e1 e2 e4
  obtain ⟨xs, hxs, hxf⟩ := ExsAt.all (w := w) (css.take k) fun q hq => ih m (by omega) q (hall q (List.mem_of_mem_take hq)).2
  refine ⟨.mk op nm v xs, ?_, fun y hy => ?_⟩
  · unfold ExAt
    refine ⟨p, k, cap, css.take k, rfl, ⟨hkc, hcm⟩, hnil, by rw [List.length_take]; omega, fun q hq => by rw [(hall q (List.mem_of_mem_take hq)).1, hc], ?_, hxs⟩
    have hsplit : css.flatten = (css.take k).flatten ++ (css.drop k).flatten := by rw [← List.flatten_append, List.take_append_drop]
    have := hat.take ((css.take k).flatten.length)
    rw [hsplit, List.take_left] at this
    exact this
  · unfold nodesT at hy
    rcases List.mem_cons.1 hy with rfl | hy
    · exact hvf.2
    · exact hxf y hy
end Go.Vc

/- Tables of tables: what a row's list says of their cells. -/
namespace Go.Vc
open Go

theorem cells_of_arr {H α : Type} {enc : TypeId × Value → H} {P : Program} {w : World} {base : Nat} {sp : Nat → Bool} {held : Bool} {fuel : Nat} {t e : TypeId} {n s : Nat} {cs : List Value} {zs : List α} {p : List MemPlace} {D : α → DataW H} {C : α → List Value}
    (ht : P.underlying t = some (.array n e)) (hce : P.cellsOf e = s) (hct : P.cellsOf t = n * s) (hs : ∀ z, (C z).length = s) (h0 : 0 < s)
    (inner : ∀ fuel cs z p, cs.length = s → DataW.trod enc P w base sp held fuel e cs = some (D z, p) → cs = C z)
    (h : DataW.trod enc P w base sp held fuel t cs = some (.agg (zs.map D), p)) : cs = zs.flatMap C := by
  cases fuel with
  | zero => simp [DataW.trod] at h
  | succ fuel =>
    simp only [DataW.trod, ht, hce, hct] at h
    split at h
    · rename_i hl
      obtain ⟨xs, hm, hx⟩ := Option.map_eq_some_iff.1 h
      have hxs : xs.map (·.1) = zs.map D := by
        have := congrArg Prod.fst hx
        simpa using this
      have hxl : xs.length = n := by simpa using Lib.mapM_length hm
      have hzl : zs.length = n := by
        have := congrArg List.length hxs
        simp at this
        omega
      have key : ∀ i, i < n → ∃ z, zs[i]? = some z ∧ (cs.drop (i * s)).take s = C z := by
        intro i hi
        obtain ⟨b, hb, hf⟩ := Lib.mapM_at hm i i (by simp [hi])
        have h2 : (xs.map (·.1))[i]? = some b.1 := by simp [hb]
        rw [hxs, List.getElem?_map] at h2
        obtain ⟨z, hz, he⟩ := Option.map_eq_some_iff.1 h2
        refine ⟨z, hz, inner fuel _ z b.2 ?_ ?_⟩
        · have hmul : (i + 1) * s ≤ n * s := Nat.mul_le_mul_right _ (by omega)
          have e1 : (i + 1) * s = i * s + s := Nat.succ_mul i s
          simp only [List.length_take, List.length_drop]
          omega
        · rw [hf, he]
      -- both lists, piece by piece
      have go : ∀ (m : Nat) (zs : List α) (cs : List Value), zs.length = m → cs.length = m * s → (∀ i, i < m → ∃ z, zs[i]? = some z ∧ (cs.drop (i * s)).take s = C z) → cs = zs.flatMap C := by
        intro m
        induction m with
        | zero =>
          intro zs cs hz hc _
          rw [List.length_eq_zero_iff] at hz
          rw [Nat.zero_mul, List.length_eq_zero_iff] at hc
          rw [hz, hc]; rfl
        | succ m ih =>
          intro zs cs hz hc hk
          match zs, hz with
          | z :: r, hz =>
            have hcm : (m + 1) * s = m * s + s := Nat.succ_mul m s
            obtain ⟨z', hz', h1⟩ := hk 0 (by omega)
            cases hz'
            rw [Nat.zero_mul, List.drop_zero] at h1
            have := ih r (cs.drop s) (by simpa using hz) (by rw [List.length_drop]; omega) (fun i hi => by
              obtain ⟨y, hy, h2⟩ := hk (i + 1) (by omega)
              refine ⟨y, by simpa using hy, ?_⟩
              rw [List.drop_drop, ← h2]
              congr 2
              rw [Nat.succ_mul]; omega)
            rw [List.flatMap_cons, ← h1, ← this, List.take_append_drop]
      exact go n zs cs hzl (by simpa using hl) key
    · cases h
end Go.Vc

/- A row's list of tables, looked up by name; rows of three numbers. -/
namespace Go.Vc
open Go

theorem laid_get {P : Program} {w : World} : ∀ {laid : List (String × DataW Unit)} {ps : List MemPlace}, DataW.LaidVars P w laid ps → ∀ {n : String} {d : DataW Unit}, (n, d) ∈ laid →
    ∃ g t cs fuel p, P.globalNamed n = some g ∧ (P.globals[g]?).map (·.type) = some t ∧ w.var? P n = some cs ∧ DataW.trod (fun _ => ()) P w 0 (fun _ => true) false fuel t cs.toList = some (d, p)
  | [], _, _, n, d, hm => by cases hm
  | (m, e) :: r, ps, h, n, d, hm => by
    obtain ⟨g, t, cs, fuel, p, q, h1, h2, h3, h4, h5, _⟩ := h
    rcases List.mem_cons.1 hm with hm | hm
    · cases hm; exact ⟨g, t, cs, fuel, p, h1, h2, h3, h4⟩
    · exact laid_get h5 hm
theorem trod_three {H : Type} {enc : TypeId × Value → H} {P : Program} {w : World} {base : Nat} {sp : Nat → Bool} {held : Bool} {fuel : Nat} {e ti : TypeId} {k : IntKind} {cs : List Value} {a b c : Int} {p : List MemPlace}
    (hu : structOf P e = some [(ti, 0), (ti, 1), (ti, 2)]) (hi : P.underlying ti = some (.int k)) (h1 : P.cellsOf ti = 1) (hl : cs.length = 3)
    (h : DataW.trod enc P w base sp held fuel e cs = some (.agg [.lit (.int k a), .lit (.int k b), .lit (.int k c)], p)) : cs = [.int k a, .int k b, .int k c] := by
  cases fuel with
  | zero => simp [DataW.trod] at h
  | succ fuel =>
    unfold structOf at hu
    split at hu
    · rename_i fs hfs
      simp only [DataW.trod, hfs] at h
      split at h
      · cases hm : fs.toList.mapM fun f => DataW.trod enc P w base sp held fuel f.type ((cs.drop f.offset).take (P.cellsOf f.type)) with
        | none => rw [hm] at h; cases h
        | some xs =>
          rw [hm] at h
          simp only [Option.map_some, Option.some.injEq, Prod.mk.injEq] at h hu
          obtain ⟨hx, _⟩ := h
          replace hx : xs.map (·.1) = [.lit (.int k a), .lit (.int k b), .lit (.int k c)] := by first | exact hx | (injection hx)
          have hlen : fs.toList.length = 3 := by have := congrArg List.length hu; simpa using this
          have key : ∀ (i : Nat) (z : Int), i < 3 → (xs.map (·.1))[i]? = some (.lit (.int k z)) → cs[i]? = some (.int k z) := by
            intro i z hi3 hz
            have hf : fs.toList[i]? = some (fs.toList[i]'(by omega)) := List.getElem?_eq_getElem _
            generalize fs.toList[i]'(by omega) = f at hf
            obtain ⟨y, hy, hfy⟩ := Lib.mapM_at hm i f hf
            have hto : f.type = ti ∧ f.offset = i := by
              have := congrArg (·[i]?) hu
              simp only [List.getElem?_map, hf, Option.map_some] at this
              rcases (by omega : i = 0 ∨ i = 1 ∨ i = 2) with rfl | rfl | rfl <;> simpa using this
            rw [hto.1, hto.2, h1] at hfy
            obtain ⟨z', hc, rfl, _⟩ := DataW.trod_int hi hfy
            simp only [List.getElem?_map, hy, Option.map_some, Option.some.injEq, DataW.lit.injEq, Lit.int.injEq, true_and] at hz
            subst hz
            have := congrArg (·[0]?) hc
            simpa [List.getElem?_take, List.getElem?_drop] using this
          have c0 := key 0 a (by decide) (by rw [hx]; rfl)
          have c1 := key 1 b (by decide) (by rw [hx]; rfl)
          have c2 := key 2 c (by decide) (by rw [hx]; rfl)
          obtain ⟨x, y, z, rfl⟩ : ∃ x y z, cs = [x, y, z] := by
            match cs, hl with
            | [x, y, z], _ => exact ⟨x, y, z, rfl⟩
          cases c0
          cases c1
          cases c2
          rfl
      · cases h
    · cases hu
end Go.Vc

/- The tables, the arguments as they are handed in, the walks of law13. -/
namespace Go.Proofs.YtaccokhdmhomhaaDoor
open Go Go.Vc Go.RowKit
set_option maxRecDepth 20000

theorem kind3 : structOf Tryd.prog 90 = some [(3, 0), (3, 1), (3, 2)] := by kernel_rfl
def shapeD (i : Nat) : DataW Unit := .agg [.lit (.int .i64 (manyOf i)), .lit (.int .i64 (wantOf i)), .lit (.int .i64 (kindOf i))]
theorem laid_shapes : Rows.laid_stackyard_expr_shapes (H := Unit) = .agg ((List.range 17).map shapeD) := by kernel_rfl
def rowsD (l : List (List Int)) : DataW Unit := .agg (l.map (Lib.tabData .i64))
theorem laid_ands : Rows.laid_stackyard_expr_ands (H := Unit) = rowsD [[0, 0, 0], [0, 1, 2], [0, 2, 2]] := by kernel_rfl
theorem laid_ors : Rows.laid_stackyard_expr_ors (H := Unit) = rowsD [[0, 1, 2], [1, 1, 1], [2, 1, 2]] := by kernel_rfl
theorem u65 : Tryd.prog.underlying 91 = some (.array 17 90) := by kernel_rfl
theorem u104 : Tryd.prog.underlying 112 = some (.array 3 111) := by kernel_rfl
theorem u103 : Tryd.prog.underlying 111 = some (.array 3 3) := by kernel_rfl
theorem uInt : Tryd.prog.underlying 3 = some (.int .i64) := by kernel_rfl
theorem cInt : Tryd.prog.cellsOf 3 = 1 := by kernel_rfl
theorem rows_cells {W : World} {fuel : Nat} {cs : List Value} {l : List (List Int)} {p : List MemPlace} (hl : ∀ r ∈ l, r.length = 3) (h : DataW.trod (fun _ => ()) Tryd.prog W 0 (fun _ => true) false fuel 112 cs = some (rowsD l, p)) :
    cs = l.flatMap fun r => (r ++ [0, 0, 0]).take 3 |>.map fun z => Value.int .i64 z := by
  have e : l.map (Lib.tabData (H := Unit) .i64) = l.map fun r => Lib.tabData .i64 ((r ++ [0, 0, 0]).take 3) := by
    apply List.map_congr_left
    intro r hr
    rw [List.take_append_of_le_length (by rw [hl r hr]; decide), List.take_of_length_le (by rw [hl r hr]; decide)]
  unfold rowsD at h
  rw [e] at h
  exact cells_of_arr (C := fun r => ((r ++ [0, 0, 0]).take 3).map fun z => Value.int .i64 z) (s := 3) u104 (by kernel_rfl) (by kernel_rfl) (fun z => by simp) (by decide)
    (fun fuel cs z p _ h => Lib.cells_of_tab u103 uInt cInt (by kernel_rfl) h) h
theorem tab_of {L : List (String × DataW Unit)} {W : World} (hm : ("stackyard/expr.shapes", Rows.laid_stackyard_expr_shapes) ∈ L) (h : laidMet Tryd.prog L W) : Tab W := by
  obtain ⟨ps, hl, _⟩ := h
  obtain ⟨g, t, cs, fuel, p, hg, ht, hv, hd⟩ := laid_get hl (n := "stackyard/expr.shapes") (d := Rows.laid_stackyard_expr_shapes) hm
  obtain rfl : g = 0 := Option.some.inj (hg.symm.trans (by kernel_rfl))
  obtain rfl : t = 91 := Option.some.inj (ht.symm.trans (by kernel_rfl))
  rw [laid_shapes] at hd
  have hc := cells_of_arr (C := shapeC) (s := 3) u65 (by kernel_rfl) (by kernel_rfl) (fun _ => rfl) (by decide) (fun fuel cs z p hl h => trod_three kind3 uInt cInt hl h) hd
  have hcs : cs = shapesA := by apply Array.ext'; rw [hc]; rfl
  intro k v hk
  rw [World.var?_cell hg hv, hcs, Nat.zero_add]; exact hk
theorem tab2_of {L : List (String × DataW Unit)} {W : World} (h1 : ("stackyard/expr.ands", Rows.laid_stackyard_expr_ands) ∈ L) (h2 : ("stackyard/expr.ors", Rows.laid_stackyard_expr_ors) ∈ L) (h : laidMet Tryd.prog L W) : Tab2 W := by
  obtain ⟨ps, hl, _⟩ := h
  constructor
  · obtain ⟨g, t, cs, fuel, p, hg, ht, hv, hd⟩ := laid_get hl (n := "stackyard/expr.ands") (d := Rows.laid_stackyard_expr_ands) h1
    obtain rfl : g = 1 := Option.some.inj (hg.symm.trans (by kernel_rfl))
    obtain rfl : t = 112 := Option.some.inj (ht.symm.trans (by kernel_rfl))
    rw [laid_ands] at hd
    have hc := rows_cells (by decide) hd
    have hcs : cs = tabA andI := by apply Array.ext'; rw [hc]; rfl
    intro k v hk
    rw [World.var?_cell hg hv, hcs, Nat.zero_add]; exact hk
  · obtain ⟨g, t, cs, fuel, p, hg, ht, hv, hd⟩ := laid_get hl (n := "stackyard/expr.ors") (d := Rows.laid_stackyard_expr_ors) h2
    obtain rfl : g = 2 := Option.some.inj (hg.symm.trans (by kernel_rfl))
    obtain rfl : t = 112 := Option.some.inj (ht.symm.trans (by kernel_rfl))
    rw [laid_ors] at hd
    have hc := rows_cells (by decide) hd
    have hcs : cs = tabA orJ := by apply Array.ext'; rw [hc]; rfl
    intro k v hk
    rw [World.var?_cell hg hv, hcs, Nat.zero_add]; exact hk
theorem list3 {cs : List Value} (h : cs.length = 3) : ∃ a b d, cs = [a, b, d] := by
  match cs, h with
  | [a, b, d], _ => exact ⟨a, b, d, rfl⟩
theorem arg_value {w : World} {cs : List Value} (h : Arg Tryd.prog w 26 cs) : ∃ v : Val, cs = v.cs ∧ v.fit :=
  arg_val (ti := 3) (tn := 2) (ts := 9) (by kernel_rfl) (by kernel_rfl) (by kernel_rfl) (by kernel_rfl) (by kernel_rfl) (by kernel_rfl) (by kernel_rfl) (by kernel_rfl) h
theorem arg_col {w : World} {cs : List Value} (h : Arg Tryd.prog w 55 cs) : ∃ c : Col, cs = c.cs ∧ c.name.size ≤ 140737488351232 := by
  obtain ⟨hl, hf⟩ := Arg.fields (l := [(9, 0), (3, 1), (4, 2)]) (by kernel_rfl) h
  have h3 : Tryd.prog.cellsOf 55 = 3 := by kernel_rfl
  rw [h3] at hl
  obtain ⟨a, b, d, rfl⟩ := list3 hl
  have f1 := hf (9, 0) (by simp)
  have f2 := hf (3, 1) (by simp)
  have f3 := hf (4, 2) (by simp)
  have c1 : Tryd.prog.cellsOf 9 = 1 := by kernel_rfl
  have c2 : Tryd.prog.cellsOf 3 = 1 := by kernel_rfl
  have c3 : Tryd.prog.cellsOf 4 = 1 := by kernel_rfl
  simp only [c1, c2, c3] at f1 f2 f3
  obtain ⟨s, e1, hs⟩ := Arg.string (by kernel_rfl) f1
  obtain ⟨n, e2, _⟩ := Arg.int (k := .i64) (by kernel_rfl) f2
  obtain ⟨v, e3⟩ := Arg.bool (by kernel_rfl) f3
  simp at e1 e2 e3
  subst e1 e2 e3
  exact ⟨⟨s, n, v⟩, rfl, hs⟩
theorem arg_cols {w : World} {v : Value} (h : Arg Tryd.prog w 22 [v]) : ∃ p n c cols, v = .slice p n c ∧ Cols w p n c cols ∧ ∀ x ∈ cols, x.name.size ≤ 140737488351232 := by
  obtain ⟨p, n, c, l, e, h1, h2, _⟩ := arg_ls (e := 55) (enc := Col.cs) (Q := fun x => x.name.size ≤ 140737488351232) (by kernel_rfl) (by decide +kernel) (fun x hx => arg_col hx) (fun _ => by kernel_rfl) h
  exact ⟨p, n, c, l, e, h1, h2⟩
theorem arg_expr {w : World} {cs : List Value} (h : Arg Tryd.prog w 29 cs) : ∃ x, ExAt w x cs ∧ ∀ y ∈ nodesT x, fitI y.v.n := by
  obtain ⟨f, h⟩ := h.told
  exact arg_ex (ti := 3) (ts := 9) (tv := 26) (tk := 27) (by kernel_rfl) (by kernel_rfl) (by kernel_rfl) (by kernel_rfl) (by kernel_rfl) (by kernel_rfl) (by kernel_rfl) (by kernel_rfl) (by kernel_rfl) (fun cs h => arg_value h) f cs h

theorem list_pick {α β : Type} {Q : α → β → Prop} : ∀ {hs : List α}, (∀ x ∈ hs, ∃ r, Q x r) → ∃ L : List β, L.length = hs.length ∧ ∀ (i : Nat) x r, hs[i]? = some x → L[i]? = some r → Q x r
  | [], _ => ⟨[], rfl, fun i x r h => by simp at h⟩
  | x :: hs, h => by
    obtain ⟨r, hr⟩ := h x (by simp)
    obtain ⟨L, hlen, hL⟩ := list_pick (hs := hs) fun y hy => h y (by simp [hy])
    refine ⟨r :: L, by simp [hlen], fun i y s hy hs' => ?_⟩
    cases i with
    | zero => cases hy; cases hs'; exact hr
    | succ i => exact hL i y s (by simpa using hy) (by simpa using hs')
theorem fit_val {v : Val} (h : v.fit) : fitI v.n := by
  have := h.2; unfold i64F at this; unfold fitI; omega
theorem arg_vals {w : World} {v : Value} (h : Arg Tryd.prog w 31 [v]) : ∃ p n c row, v = .slice p n c ∧ Vs w p n c row ∧ ∀ x ∈ row, x.fit := by
  obtain ⟨p, n, c, l, e, h1, h2, _⟩ := arg_ls (e := 26) (enc := Val.cs) (Q := Val.fit) (by kernel_rfl) (by decide +kernel) (fun x hx => arg_value hx) (fun _ => by kernel_rfl) h
  exact ⟨p, n, c, l, e, h1, h2⟩
theorem arg_batch {w : World} {v : Value} (h : Arg Tryd.prog w 23 [v]) : ∃ p n c hs L, v = .slice p n c ∧ Rws w p n c hs L ∧ (∀ r ∈ L, FitR r) := by
  obtain ⟨p, n, c, l, rfl, hl, hf, _⟩ := arg_ls (e := 31) (enc := Sl.cs) (Q := fun x => ∃ r, Vs w x.p x.n x.c r ∧ ∀ v ∈ r, v.fit) (by kernel_rfl) (by decide +kernel)
    (fun x hx => by
      obtain ⟨p, n, c, css, he, _⟩ := Arg.slice (e := 26) (by kernel_rfl) (by decide +kernel) hx
      subst he
      obtain ⟨p', n', c', r, he, h1, h2⟩ := arg_vals hx
      cases he
      exact ⟨⟨p, n, c⟩, rfl, r, h1, h2⟩) (fun a => by rw [Sl.cs_length]; kernel_rfl) h
  obtain ⟨L, hL, hq⟩ := list_pick hf
  refine ⟨p, n, c, l, L, rfl, ⟨hl, fun i x r hx hr => (hq i x r hx hr).1, by rw [hL, hl.len]⟩, fun r hr u hu => ?_⟩
  obtain ⟨i, hi⟩ := List.mem_iff_getElem?.1 hr
  have hlt := (List.getElem?_eq_some_iff.1 hi).1
  exact fit_val ((hq i _ r (List.getElem?_eq_getElem (by omega)) hi).2 u hu)
theorem arg_int1 {w : World} {cs : List Value} (h : Arg Tryd.prog w 3 cs) : ∃ i : Int, cs = encI i ∧ True := by
  obtain ⟨i, e, _⟩ := Arg.int (k := .i64) (by kernel_rfl) h
  exact ⟨i, e, trivial⟩
theorem arg_choice {w : World} {v : Value} (h : Arg Tryd.prog w 24 [v]) : ∃ p n c ch, v = .slice p n c ∧ Is w p n c ch := by
  obtain ⟨p, n, c, l, e, h1, _, _⟩ := arg_ls (e := 3) (enc := encI) (Q := fun _ => True) (by kernel_rfl) (by decide +kernel) (fun x hx => arg_int1 hx) (fun _ => by kernel_rfl) h
  exact ⟨p, n, c, l, e, h1⟩
theorem filters_walk (W : World) (hT : Tab W ∧ Tab2 W) (v0 v1 v2 : Value) (cs3 : Array Value) (a0 : Arg Tryd.prog W 22 [v0]) (a1 : Arg Tryd.prog W 23 [v1]) (a2 : Arg Tryd.prog W 24 [v2]) (a3 : Arg Tryd.prog W 29 cs3.toList) :
    Calls Tryd.prog 4 #[v0, v1, v2, .agg cs3] W fun e w' => e = .returned (.bool true) ∧ Ext W w' := by
  obtain ⟨p, n, c, cols, rfl, hc, hs⟩ := arg_cols a0
  obtain ⟨bp, bn, bc, heads, B, rfl, hB, hf⟩ := arg_batch a1
  obtain ⟨cp, cn, cc, ch, rfl, hch⟩ := arg_choice a2
  obtain ⟨x, hx, hxf⟩ := arg_expr a3
  exact lawFilters_ok x hT.1 hT.2 hc (fun y hy => by have := hs y hy; omega) hB hch hx hf hxf
theorem tabs_filters {W : World} (h : laidMetH Tryd.prog Rows.vectorFiltersRow.laid W) : Tab W ∧ Tab2 W := ⟨tab_of (L := Rows.vectorFiltersRow.laid) (by simp [Rows.vectorFiltersRow]) h, tab2_of (L := Rows.vectorFiltersRow.laid) (by simp [Rows.vectorFiltersRow]) (by simp [Rows.vectorFiltersRow]) h⟩
end Go.Proofs.YtaccokhdmhomhaaDoor

/- Three closed facts of the seat's program, asked once: they want much memory. -/
namespace Go.Proofs.YtaccokhdmhomhaaDoor
set_option maxRecDepth 100000 in
theorem Tryd.entersB : (Tryd.prog.mayEnter && (false == Tryd.prog.liftsFinal) && (Tryd.prog.make == some .cut)) = true := by kernel_rfl
theorem Tryd.enters : Tryd.prog.mayEnter = true ∧ Tryd.prog.liftsFinal = false ∧ Tryd.prog.make = some .cut := by
  have h := Tryd.entersB
  simp only [Bool.and_eq_true, beq_iff_eq] at h
  exact ⟨h.1.1, h.1.2.symm, h.2⟩
end Go.Proofs.YtaccokhdmhomhaaDoor
