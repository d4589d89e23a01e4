/- Texts of the proof, one behind the other. -/
import Derived.Test.YtdephmdfdgclpaaDoorMd
set_option linter.unusedVariables false
set_option linter.unusedSimpArgs false
/- The contracts of package expr: kinds. -/
namespace Go.Proofs.YtdephmdfdgclpaaDoor
open Go Go.Vc Go.RowKit

theorem many_le (op : Int) : manyOf op ≤ 2 := by
  unfold manyOf
  split
  · omega
  · split
    · omega
    · split <;> omega
theorem alike_ok (a b : Int) (w : World) : Calls Tryd.prog 44 #[.int .i64 a, .int .i64 b] w fun e w' => e = .returned (.bool (alikeB a b)) ∧ Ext w w' := by
  apply alike_vc
  unfold alike_T
  exact ⟨rfl, .rfl⟩

set_option maxHeartbeats 4000000 in
theorem xkind_ok : ∀ (N : Nat) (x : Ex) {w : World} {p : Option Addr} {n c : Nat} {cols : List Col} {cs : List Value}, depthT x ≤ N → (∀ y ∈ nodesT x, NodeOk y) → Tab w → Cols w p n c cols → ExAt w x cs →
    Calls Tryd.prog 28 #[.slice p n c, .agg cs.toArray] w fun e w' => e = .returned (.tuple #[.int .i64 (kindF cols x).1, .int .i64 (kindF cols x).2]) ∧ Ext w w' := by
  intro N
  induction N with
  | zero => intro x w p n c cols cs hd; cases x; unfold depthT at hd; omega
  | succ N ih =>
  intro x w p n c cols cs hd hno hT hc hx
  obtain ⟨xp, xn, xc, rfl, hkl, hxn, hkid⟩ := hx.six
  obtain ⟨hmany, _⟩ := hno x (self_node x)
  have h2 := many_le x.op
  have hop := many_range (op := x.op) (by omega)
  have hl := hc.len
  apply xkind_vc
  unfold xkind_T
  intro b1 w2 h1
  have H2 := (Hold.start (Ext.rfl (w := w))).new h1
  have B1 : Blk w2 b1 29 #[.int .i64 x.op, .string x.name, .int .i64 x.v.k, .int .i64 x.v.n, .string x.v.s, .slice xp xn xc] := H2.blk 0 rfl
  obtain ⟨a0, a1, a2, a3, a4, a5⟩ := B1.c6
  obtain ⟨t0, t1, t2⟩ := (hT.ext H2.ext).at (op := x.op) (by omega) (by omega)
  refine ⟨_, a0, by omega, by omega, _, t0, _, t1, _, t2, fun b8 w9 h8 => ?_⟩
  have H9 := H2.new h8
  obtain ⟨q0, q1, q2⟩ := (H9.blk 0 rfl).c3
  refine ⟨⟨_, q0⟩, (H9.blk 0 rfl).frozen _, ⟨_, q1⟩, (H9.blk 0 rfl).frozen _, ⟨_, q2⟩, (H9.blk 0 rfl).frozen _, fun w14 h14 b16 w17 h16 => ?_⟩
  have H17 := (H9.put 0 rfl h14).new h16
  let fs : List Int → List (Nat × Obj) := fun L => [(b16, .cells #[.int .i64 (L.getD 0 0), .int .i64 (L.getD 1 0)] 66 (0, 0)), (b8, .cells #[.int .i64 (manyOf x.op), .int .i64 (wantOf x.op), .int .i64 (kindOf x.op)] 64 (0, 0)),
    (b1, .cells #[.int .i64 x.op, .string x.name, .int .i64 x.v.k, .int .i64 x.v.n, .string x.v.s, .slice xp xn xc] 29 (0, 0))]
  have H17 : Hold w w17 (fs []) [] := H17
  have c5 : ∀ {L : List Int} {W : World}, Hold w W (fs L) [] → W.cell? ⟨b1, 5, none⟩ = some (.slice xp xn xc) := fun H => by rw [(H.blk 2 rfl).cell]; rfl
  refine ⟨_, _, _, c5 H17, fun i W => ∃ j : Nat, i = (j : Int) ∧ j ≤ xn ∧ (runL (kindF cols) (x.kids.take j)).2 = 0 ∧ Hold w W (fs (runL (kindF cols) (x.kids.take j)).1) [], fun i _ => xn - i.toNat, ⟨0, rfl, Nat.zero_le _, rfl, H17⟩, ?_⟩
  rintro i W ⟨j, rfl, hj, hrun, H⟩
  refine ⟨fun hlt => ?_, fun hge => ?_⟩
  · have g : x.kids[j]? = some (x.kids[j]'(by omega)) := List.getElem?_eq_getElem _
    generalize x.kids[j]'(by omega) = k at g
    obtain ⟨kc, b, o, hk, hp, hcell⟩ := hkid H.ext g
    obtain ⟨kp, kn, kcap, hkc, _⟩ := hk.six
    simp only [Int.toNat_natCast]
    have e0 := hcell 0 _ (by rw [hkc]; rfl)
    have e1 := hcell 1 _ (by rw [hkc]; rfl)
    have e2 := hcell 2 _ (by rw [hkc]; rfl)
    have e3 := hcell 3 _ (by rw [hkc]; rfl)
    have e4 := hcell 4 _ (by rw [hkc]; rfl)
    have e5 := hcell 5 _ (by rw [hkc]; rfl)
    refine ⟨b, o, hp, by omega, by omega, _, e0, _, e1, _, e2, _, e3, _, e4, _, _, _, e5, fun b38 w39 h38 => ?_⟩
    have H39 := H.new h38
    refine (H39.blk 0 rfl).w6 fun w47 h47 => ?_
    have H47 := H39.put 0 rfl h47
    have Bk : Blk w47 b38 29 #[.int .i64 k.op, .string k.name, .int .i64 k.v.k, .int .i64 k.v.n, .string k.v.s, .slice kp kn kcap] := H47.blk 0 rfl
    obtain ⟨a0, a1, a2, a3, a4, a5⟩ := Bk.c6
    subst hkc
    refine ⟨_, a0, _, a1, _, a2, _, a3, _, a4, _, _, _, a5, (ih k (by have := kid_depth g; omega) (fun y hy => hno y (kid_node g hy)) (hT.ext H47.ext) (hc.ext H47.ext) (hk.ext H47.ext)).mono ?_⟩
    rintro e w58 ⟨rfl, e58⟩
    have H58 := H47.step e58
    refine ⟨_, _, rfl, fun hne => ⟨?_, H58.ext⟩, fun he => ⟨by omega, by omega, ?_⟩⟩
    · rw [kindF_eq cols x, runL_stop g hrun hne, if_pos hne]
    · have H58 : Hold w w58 ((b38, _) :: fs (runL (kindF cols) (x.kids.take j)).1) [] := H58
      have hnx := runL_take (f := kindF cols) g hrun
      rw [if_neg (by simpa using he)] at hnx
      have hlen := runL_len hrun
      rw [List.length_take, Nat.min_eq_left (by omega)] at hlen
      have Bq := H58.blk 1 rfl
      have hcellj : ∃ u, w58.cell? ⟨b16, 0 + j, none⟩ = some u := by
        rcases (by omega : j = 0 ∨ j = 1) with rfl | rfl
        · exact ⟨_, by rw [Bq.cell]; rfl⟩
        · exact ⟨_, by rw [Bq.cell]; rfl⟩
      refine ⟨hcellj, Bq.frozen _, fun w64 h64 => ?_⟩
      have H64 := (H58.put 1 rfl h64).tail
      rw [i64_next (by omega)]
      refine ⟨⟨j + 1, rfl, by omega, by rw [hnx], ?_⟩, by simp only [Int.toNat_natCast]; omega⟩
      rw [hnx]
      generalize (runL (kindF cols) (x.kids.take j)).1 = L at hlen H64 ⊢
      rcases (by omega : j = 0 ∨ j = 1) with rfl | rfl
      · rw [List.length_eq_zero_iff] at hlen
        subst hlen
        exact H64
      · obtain ⟨g0, rfl⟩ := List.length_eq_one_iff.1 hlen
        exact H64
  · have hjn : j = xn := by omega
    subst hjn
    rw [List.take_of_length_le (by omega)] at hrun H
    have hlen := runL_len hrun
    generalize hL : (runL (kindF cols) x.kids).1 = L at hlen H
    have hkf : kindF cols x = kindN cols x.op x.name x.v L := by rw [kindF_eq, if_neg (by simpa using hrun), hL]
    refine ⟨_, _, _, c5 H, fun i W => ∃ k : Nat, i = (k : Int) ∧ k ≤ j ∧ (wantOf x.op ≠ 0 → ∀ g ∈ L.take k, alikeB g (wantOf x.op) = true) ∧ Hold w W (fs L) [], fun i _ => j - i.toNat, ⟨0, rfl, Nat.zero_le _, by simp, H⟩, ?_⟩
    clear H
    rintro i W ⟨k, rfl, hk, hal, H⟩
    refine ⟨fun hlt w76 h76 => ?_, fun hge => ?_⟩
    · have H76 := H.step h76.ext
      have Bs : Blk w76 b8 64 #[.int .i64 (manyOf x.op), .int .i64 (wantOf x.op), .int .i64 (kindOf x.op)] := H76.blk 1 rfl
      obtain ⟨s0, s1, s2⟩ := Bs.c3
      have g : L[k]? = some (L[k]'(by omega)) := List.getElem?_eq_getElem _
      generalize L[k]'(by omega) = gk at g
      have hck : w76.cell? ⟨b16, 0 + k, none⟩ = some (.int .i64 gk) := by
        have Bq := H76.blk 0 rfl
        rw [Bq.cell]
        rcases (by omega : k = 0 ∨ k = 1) with rfl | rfl
        · show some (Value.int .i64 (L.getD 0 0)) = _
          rw [List.getD_eq_getElem?_getD, g]; rfl
        · show some (Value.int .i64 (L.getD 1 0)) = _
          rw [List.getD_eq_getElem?_getD, g]; rfl
      have nxt : ∀ W', Ext w76 W' → (wantOf x.op ≠ 0 → alikeB gk (wantOf x.op) = true) → (∃ k' : Nat, IntKind.i64.wrap ((k : Int) + 1) = (k' : Int) ∧ k' ≤ j ∧ (wantOf x.op ≠ 0 → ∀ g ∈ L.take k', alikeB g (wantOf x.op) = true) ∧ Hold w W' (fs L) []) ∧
          j - (IntKind.i64.wrap ((k : Int) + 1)).toNat < j - k := by
        intro W' e hb
        rw [i64_next (by omega)]
        refine ⟨⟨k + 1, rfl, by omega, fun hw y hy => ?_, H76.step e⟩, by simp only [Int.toNat_natCast]; omega⟩
        rw [List.take_add_one, g] at hy
        rcases List.mem_append.1 hy with hy | hy
        · exact hal hw y hy
        · simp at hy; subst hy; exact hb hw
      simp only [Int.toNat_natCast]
      refine ⟨_, s1, fun hw => ⟨by omega, by omega, _, hck, _, s1, (alike_ok gk (wantOf x.op) w76).mono ?_⟩, fun hw => nxt w76 .rfl fun h => absurd hw h⟩
      rintro e w83 ⟨rfl, e83⟩
      refine ⟨_, rfl, fun hb => ⟨?_, (H76.step e83).ext⟩, fun hb => nxt w83 e83 fun _ => hb⟩
      rw [hkf]
      unfold kindN
      rw [if_pos ⟨hw, fun hall => by rw [hall gk (List.mem_of_getElem? g)] at hb; cases hb⟩]
    · have hkj : k = j := by omega
      rw [hkj, List.take_of_length_le (by omega)] at hal
      have hwant : ¬ (wantOf x.op ≠ 0 ∧ ¬ (∀ g ∈ L, alikeB g (wantOf x.op) = true)) := fun h => h.2 (hal h.1)
      have B1 : Blk W b1 29 #[.int .i64 x.op, .string x.name, .int .i64 x.v.k, .int .i64 x.v.n, .string x.v.s, .slice xp j xc] := H.blk 2 rfl
      obtain ⟨a0, a1, a2, a3, a4, a5⟩ := B1.c6
      have Bs : Blk W b8 64 #[.int .i64 (manyOf x.op), .int .i64 (wantOf x.op), .int .i64 (kindOf x.op)] := H.blk 1 rfl
      obtain ⟨s0, s1, s2⟩ := Bs.c3
      have Bq := H.blk 0 rfl
      have k0 : W.cell? ⟨b16, 0, none⟩ = some (.int .i64 (L.getD 0 0)) := by rw [Bq.cell]; rfl
      have k1 : W.cell? ⟨b16, 1, none⟩ = some (.int .i64 (L.getD 1 0)) := by rw [Bq.cell]; rfl
      have plain : x.op ≠ 1 → x.op ≠ 2 → ¬ ((x.op = 9 ∨ x.op = 10 ∨ x.op = 11) ∧ alikeB (L.getD 0 0) (L.getD 1 0) = false) → kindF cols x = (kindOf x.op, 0) := fun h1 h2 h9 => by
        rw [hkf]; unfold kindN; rw [if_neg hwant, if_neg h1, if_neg h2, if_neg h9]
      refine ⟨_, a0, fun h1 => ⟨_, a1, (sfind_ok (hc.ext H.ext) x.name).mono ?_⟩, fun h1 => ⟨fun h2 => ⟨_, a2, ?_, H.ext⟩, fun h2 => ?_⟩⟩
      · rintro e w93 ⟨rfl, e93⟩
        have hx93 := H.ext.trans e93
        refine ⟨_, rfl, fun hneg => ⟨?_, hx93⟩, fun hpos => ?_⟩
        · rw [hkf]; unfold kindN; rw [if_neg hwant, if_pos h1, if_pos hneg]
        · obtain ⟨y, hy, hyn⟩ := findC_get hpos
          obtain ⟨b, o, hp, d0, d1, d2⟩ := (hc.ext hx93).col hy
          have hrg := findC_range cols x.name
          refine ⟨b, o, hp, hpos, by omega, _, d1, ?_, hx93⟩
          rw [hkf]; unfold kindN; rw [if_neg hwant, if_pos h1, if_neg (by omega), hy]; rfl
      · rw [hkf]; unfold kindN; rw [if_neg hwant, if_neg h1, if_pos h2]
      · refine ⟨fun h9 => ⟨fun _ => ?_, fun h => absurd h9 h⟩, fun h9 => ⟨fun h10 => ⟨fun _ => ?_, fun h => absurd h10 h⟩, fun h10 => ⟨fun h11 => ?_, fun h11 => ⟨_, s2, ?_, H.ext⟩⟩⟩⟩
        rotate_left 3
        · rw [plain h1 h2 (by omega)]
        all_goals
          refine ⟨by omega, by omega, _, k0, by omega, by omega, _, k1, (alike_ok _ _ W).mono ?_⟩
          rintro e w109 ⟨rfl, e109⟩
          refine ⟨_, rfl, fun hb => ⟨?_, H.ext.trans e109⟩, fun hb => ⟨_, cell_ext s2 e109, ?_, H.ext.trans e109⟩⟩
          · rw [hkf]; unfold kindN; rw [if_neg hwant, if_neg h1, if_neg h2, if_pos ⟨by omega, hb⟩]
          · rw [plain h1 h2 (fun h => by rw [h.2] at hb; cases hb)]

theorem xtype_ok (x : Ex) {w : World} {p : Option Addr} {n c : Nat} {cols : List Col} {cs : List Value} (hT : Tab w) (hc : Cols w p n c cols) (hx : ExAt w x cs) :
    Calls Tryd.prog 12 #[.slice p n c, .agg cs.toArray] w fun e w' => e = .returned (.tuple #[.int .i64 (typeF cols x).1, .int .i64 (typeF cols x).2]) ∧ Ext w w' := by
  obtain ⟨xp, xn, xc, hcs, _⟩ := hx.six
  have hcs' := hcs
  subst hcs
  apply xtype_vc
  unfold xtype_T
  intro b1 w2 h1
  have H2 := (Hold.start (Ext.rfl (w := w))).new h1
  refine (sright_ok (hc.ext H2.ext)).mono ?_
  rintro e w5 ⟨rfl, e5⟩
  have H5 := H2.step e5
  refine ⟨_, rfl, fun hb => ⟨by unfold typeF; rw [if_pos hb], H5.ext⟩, fun hb => ?_⟩
  have B1 : Blk w5 b1 29 #[.int .i64 x.op, .string x.name, .int .i64 x.v.k, .int .i64 x.v.n, .string x.v.s, .slice xp xn xc] := H5.blk 0 rfl
  obtain ⟨a0, a1, a2, a3, a4, a5⟩ := B1.c6
  refine ⟨_, a0, _, a1, _, a2, _, a3, _, a4, _, _, _, a5, (xformed_ok (hT.ext H5.ext) x (hx.ext H5.ext)).mono ?_⟩
  rintro e w18 ⟨rfl, e18⟩
  have H18 := H5.step e18
  refine ⟨_, rfl, fun hf => ⟨by unfold typeF; rw [if_neg (by simp [hb]), if_pos hf], H18.ext⟩, fun hf => ?_⟩
  have hfp : FormedP x := of_decide_eq_true hf
  refine ⟨_, cell_ext a0 e18, _, cell_ext a1 e18, _, cell_ext a2 e18, _, cell_ext a3 e18, _, cell_ext a4 e18, _, _, _, cell_ext a5 e18, (xkind_ok _ x (Nat.le_refl _) hfp.1 (hT.ext H18.ext) (hc.ext H18.ext) (hx.ext H18.ext)).mono ?_⟩
  rintro e w31 ⟨rfl, e31⟩
  exact ⟨_, _, rfl, by unfold typeF; rw [if_neg (by simp [hb]), if_neg (by simp [hf])], (H18.step e31).ext⟩
end Go.Proofs.YtdephmdfdgclpaaDoor

/- The contracts of package expr: values. -/
namespace Go.Proofs.YtdephmdfdgclpaaDoor
open Go Go.Vc Go.RowKit

theorem GoodV.trio' {v : Val} (h : GoodV 2 v) : trio (thirdI v) := Go.Vc.GoodV.trio h
set_option maxHeartbeats 4000000 in
theorem xeval_ok : ∀ (N : Nat) (x : Ex) {w : World} {p rp : Option Addr} {n c rn rc : Nat} {cols : List Col} {row : List Val} {cs : List Value}, depthT x ≤ N → (∀ y ∈ nodesT x, NodeOk y ∧ fitI y.v.n) → (kindF cols x).2 = 0 → fitsL cols row = true → (∀ u ∈ row, fitI u.n) →
    Tab2 w → Cols w p n c cols → Vs w rp rn rc row → ExAt w x cs →
    Calls Tryd.prog 35 #[.slice p n c, .slice rp rn rc, .agg cs.toArray] w fun e w' => e = .returned (.tuple #[(valueF cols row x).1.agg, .int .i64 (valueF cols row x).2]) ∧ Ext w w' := by
  intro N
  induction N with
  | zero => intro x w p rp n c rn rc cols row cs hd; cases x; unfold depthT at hd; omega
  | succ N ih =>
  intro x w p rp n c rn rc cols row cs hd hno hkind hfits hfit hT hc hr hx
  obtain ⟨xp, xn, xc, rfl, hkl, hxn, hkid⟩ := hx.six
  obtain ⟨hxo, hxf⟩ := hno x (self_node x)
  have h2 := many_le x.op
  have hmany := hxo.1
  have hrl := hr.len
  obtain ⟨hk1, hk2⟩ := kids_kinds hkind
  have hgood : ∀ (i : Nat) k, x.kids[i]? = some k → Go.Vc.Good (kindF cols k).1 (valueF cols row k) := fun i k hi => typed hfits hfit _ k (Nat.le_refl _) (fun y hy => hno y (kid_node hi hy)) (runL_get hk1 hi).1
  apply xeval_vc
  unfold xeval_T
  intro b1 w2 h1 b4 w5 h4 b7 w8 h7
  have H8 := (((Hold.start (Ext.rfl (w := w))).new h1).new h4).new h7
  let fs : List Val → List (Nat × Obj) := fun L => [(b7, .cells #[.int .i64 (L.getD 0 nullV).k, .int .i64 (L.getD 0 nullV).n, .string (L.getD 0 nullV).s, .int .i64 (L.getD 1 nullV).k, .int .i64 (L.getD 1 nullV).n, .string (L.getD 1 nullV).s] 72 (0, 0)),
    (b4, .cells #[.int .i64 0, .int .i64 0, .string ⟨#[]⟩] 26 (0, 0)), (b1, .cells #[.int .i64 x.op, .string x.name, .int .i64 x.v.k, .int .i64 x.v.n, .string x.v.s, .slice xp xn xc] 29 (0, 0))]
  have H8 : Hold w w8 (fs []) [] := H8
  have c5 : ∀ {L : List Val} {W : World}, Hold w W (fs L) [] → W.cell? ⟨b1, 5, none⟩ = some (.slice xp xn xc) := fun H => by rw [(H.blk 2 rfl).cell]; rfl
  refine ⟨_, _, _, c5 H8, fun i W => ∃ j : Nat, i = (j : Int) ∧ j ≤ xn ∧ (runL (valueF cols row) (x.kids.take j)).2 = 0 ∧ Hold w W (fs (runL (valueF cols row) (x.kids.take j)).1) [], fun i _ => xn - i.toNat, ⟨0, rfl, Nat.zero_le _, rfl, H8⟩, ?_⟩
  rintro i W ⟨j, rfl, hj, hrun, H⟩
  refine ⟨fun hlt => ?_, fun hge => ?_⟩
  · have g : x.kids[j]? = some (x.kids[j]'(by omega)) := List.getElem?_eq_getElem _
    generalize x.kids[j]'(by omega) = k at g
    obtain ⟨kc, b, o, hk, hp, hcell⟩ := hkid H.ext g
    obtain ⟨kp, kn, kcap, hkc, _⟩ := hk.six
    simp only [Int.toNat_natCast]
    have e0 := hcell 0 _ (by rw [hkc]; rfl)
    have e1 := hcell 1 _ (by rw [hkc]; rfl)
    have e2 := hcell 2 _ (by rw [hkc]; rfl)
    have e3 := hcell 3 _ (by rw [hkc]; rfl)
    have e4 := hcell 4 _ (by rw [hkc]; rfl)
    have e5 := hcell 5 _ (by rw [hkc]; rfl)
    refine ⟨b, o, hp, by omega, by omega, _, e0, _, e1, _, e2, _, e3, _, e4, _, _, _, e5, fun b29 w30 h29 => ?_⟩
    have H30 := H.new h29
    refine (H30.blk 0 rfl).w6 fun w38 h38 => ?_
    have H38 := H30.put 0 rfl h38
    have Bk : Blk w38 b29 29 #[.int .i64 k.op, .string k.name, .int .i64 k.v.k, .int .i64 k.v.n, .string k.v.s, .slice kp kn kcap] := H38.blk 0 rfl
    obtain ⟨a0, a1, a2, a3, a4, a5⟩ := Bk.c6
    subst hkc
    refine ⟨_, a0, _, a1, _, a2, _, a3, _, a4, _, _, _, a5, (ih k (by have := kid_depth g; omega) (fun y hy => hno y (kid_node g hy)) (runL_get hk1 g).1 hfits hfit (hT.ext H38.ext) (hc.ext H38.ext) (hr.ext H38.ext) (hk.ext H38.ext)).mono ?_⟩
    rintro e w49 ⟨rfl, e49⟩
    have H49 := (H38.step e49).tail
    refine ⟨_, _, _, _, rfl, fun b54 w55 h54 => ?_⟩
    have H55 := H49.new h54
    obtain ⟨q0, q1, q2⟩ := (H55.blk 0 rfl).c3
    refine ⟨⟨_, q0⟩, (H55.blk 0 rfl).frozen _, ⟨_, q1⟩, (H55.blk 0 rfl).frozen _, ⟨_, q2⟩, (H55.blk 0 rfl).frozen _, fun w60 h60 => ?_⟩
    have H60 := H55.put 0 rfl h60
    have Bv : Blk w60 b54 26 #[.int .i64 (valueF cols row k).1.k, .int .i64 (valueF cols row k).1.n, .string (valueF cols row k).1.s] := H60.blk 0 rfl
    obtain ⟨v0, v1, v2⟩ := Bv.c3
    refine ⟨fun hne => H60.ret3 2 rfl _ _ _ fun W' hx => ⟨?_, hx⟩, fun he => ⟨_, v0, _, v1, _, v2, by omega, by omega, ?_⟩⟩
    · rw [valueF_eq cols row x, runL_stop g hrun hne, if_pos hne]; rfl
    · have H60 : Hold w w60 ((b54, _) :: fs (runL (valueF cols row) (x.kids.take j)).1) [] := H60
      have hnx := runL_take (f := valueF cols row) g hrun
      rw [if_neg (by simpa using he)] at hnx
      have hlen := runL_len hrun
      rw [List.length_take, Nat.min_eq_left (by omega)] at hlen
      have Bq := H60.blk 1 rfl
      have hcells : ∀ i, i < 3 → ∃ u, w60.cell? ⟨b7, 0 + j * 3 + i, none⟩ = some u := by
        intro i hi
        rw [Bq.cell]
        exact ⟨_, Array.getElem?_eq_getElem (by simp; omega)⟩
      refine ⟨hcells 0 (by decide), Bq.frozen _, hcells 1 (by decide), Bq.frozen _, hcells 2 (by decide), Bq.frozen _, fun w78 h78 => ?_⟩
      have H78 := (H60.put 1 rfl h78).tail
      rw [i64_next (by omega)]
      refine ⟨⟨j + 1, rfl, by omega, by rw [hnx], ?_⟩, by simp only [Int.toNat_natCast]; omega⟩
      rw [hnx]
      generalize (runL (valueF cols row) (x.kids.take j)).1 = L at hlen H78 ⊢
      rcases (by omega : j = 0 ∨ j = 1) with rfl | rfl
      · rw [List.length_eq_zero_iff] at hlen
        subst hlen
        exact H78
      · obtain ⟨g0, rfl⟩ := List.length_eq_one_iff.1 hlen
        exact H78
  · have hjn : j = xn := by omega
    subst hjn
    rw [List.take_of_length_le (by omega)] at hrun H
    have hlen := runL_len hrun
    have hlk := runL_len hk1
    have hrel : ∀ (i : Nat) g u, (runL (kindF cols) x.kids).1[i]? = some g → (runL (valueF cols row) x.kids).1[i]? = some u → GoodV g u := by
      intro i g u hg hu
      have hi : i < x.kids.length := by rw [← hlk]; exact (List.getElem?_eq_some_iff.1 hg).1
      have hki : x.kids[i]? = some x.kids[i] := List.getElem?_eq_getElem hi
      have e1 := runL_get hk1 hki
      have e2 := runL_get hrun hki
      rw [hg] at e1
      rw [hu] at e2
      have := hgood i _ hki
      cases e1.2
      cases e2.2
      rcases this with h | h
      · exact h.2
      · have := e2.1; omega
    obtain ⟨_, htrio, hcol⟩ := node_good (by rw [hlen]; exact hmany) (by omega) hxo.2.2.2 hxf hrel (by rw [← hk2]; exact hkind) hfits hfit
    have hfitL : ∀ (i : Nat) u, (runL (valueF cols row) x.kids).1[i]? = some u → GoodV u.k u := by
      intro i u hu
      have hi : i < (runL (kindF cols) x.kids).1.length := by rw [hlk, ← hlen]; exact (List.getElem?_eq_some_iff.1 hu).1
      obtain ⟨a, b, _⟩ := hrel i _ u (List.getElem?_eq_getElem hi) hu
      exact ⟨a, b, .inr rfl⟩
    generalize hL : (runL (valueF cols row) x.kids).1 = L at hlen H hfitL htrio
    have hvf : valueF cols row x = valueN cols row x.op x.name x.v L := by rw [valueF_eq, if_neg (by simpa using hrun), hL]
    have B1 : Blk W b1 29 #[.int .i64 x.op, .string x.name, .int .i64 x.v.k, .int .i64 x.v.n, .string x.v.s, .slice xp j xc] := H.blk 2 rfl
    obtain ⟨a0, a1, a2, a3, a4, a5⟩ := B1.c6
    have Bq : Blk W b7 72 #[.int .i64 (L.getD 0 nullV).k, .int .i64 (L.getD 0 nullV).n, .string (L.getD 0 nullV).s, .int .i64 (L.getD 1 nullV).k, .int .i64 (L.getD 1 nullV).n, .string (L.getD 1 nullV).s] := H.blk 0 rfl
    obtain ⟨s0, s1, s2, s3, s4, s5⟩ := Bq.c6
    refine ⟨_, a0, fun h1 => ⟨_, a1, (sfind_ok (hc.ext H.ext) x.name).mono ?_⟩, fun h1 => ⟨_, a0, fun h2 => ⟨_, a2, _, a3, _, a4, H.ret3 1 rfl _ _ _ fun W' hx => ⟨?_, hx⟩⟩, fun h2 => ⟨_, _, _, a5, fun hone => ?_, fun hone => ?_⟩⟩⟩
    · rintro e w85 ⟨rfl, e85⟩
      have H85 := H.step e85
      have hcol' := hcol h1
      have gu : row[(findC cols x.name).toNat]? = some (row[(findC cols x.name).toNat]'(by omega)) := List.getElem?_eq_getElem _
      generalize row[(findC cols x.name).toNat]'(by omega) = u at gu
      obtain ⟨b, o, hp, d0, d1, d2⟩ := (hr.ext H85.ext).val gu
      refine ⟨_, rfl, b, o, hp, hcol'.1, by omega, _, d0, _, d1, _, d2, H85.ret3 1 rfl _ _ _ fun W' hx => ⟨?_, hx⟩⟩
      rw [hvf]; unfold valueN; rw [if_pos h1, gu]; rfl
    · rw [hvf]; unfold valueN; rw [if_neg h1, if_pos h2]; rfl
    · have hl1 : L.length = 1 := by omega
      have g0 : L[0]? = some (L.getD 0 nullV) := by rw [List.getD_eq_getElem?_getD, List.getElem?_eq_getElem (by omega : 0 < L.length)]; rfl
      refine ⟨_, a0, by omega, by omega, _, s0, _, s1, _, s2, (xsingle_ok x.op (L.getD 0 nullV) W (hT.ext H.ext) (hfitL _ _ g0).2.1).mono ?_⟩
      rintro e w124 ⟨rfl, e124⟩
      refine ⟨_, _, _, _, rfl, (H.step e124).ret3 1 rfl _ _ _ fun W' hx => ⟨?_, hx⟩⟩
      rw [hvf]; unfold valueN; rw [if_neg h1, if_neg h2, if_pos hl1]; rfl
    · have hl2 : L.length = 2 := by
        have : manyOf x.op ≠ 0 := by unfold manyOf; rw [if_neg (by omega)]; split
                                     · omega
                                     · split <;> omega
        omega
      have g0 : L[0]? = some (L.getD 0 nullV) := by rw [List.getD_eq_getElem?_getD, List.getElem?_eq_getElem (by omega : 0 < L.length)]; rfl
      have g1 : L[1]? = some (L.getD 1 nullV) := by rw [List.getD_eq_getElem?_getD, List.getElem?_eq_getElem (by omega : 1 < L.length)]; rfl
      refine ⟨_, a0, by omega, by omega, _, s0, _, s1, _, s2, by omega, by omega, _, s3, _, s4, _, s5, (xpair_ok x.op (L.getD 0 nullV) (L.getD 1 nullV) W (hT.ext H.ext) (hfitL _ _ g0).2.1 (hfitL _ _ g1).2.1 (fun h => ⟨GoodV.trio' (htrio h _ (List.mem_of_getElem? g0)), GoodV.trio' (htrio h _ (List.mem_of_getElem? g1))⟩)).mono ?_⟩
      rintro e w146 ⟨rfl, e146⟩
      refine ⟨_, _, _, _, rfl, (H.step e146).ret3 1 rfl _ _ _ fun W' hx => ⟨?_, hx⟩⟩
      rw [hvf]; unfold valueN; rw [if_neg h1, if_neg h2, if_neg (by omega)]; rfl

theorem xEval_ok (x : Ex) {w : World} {p rp : Option Addr} {n c rn rc : Nat} {cols : List Col} {row : List Val} {cs : List Value} (hT : Tab w) (hT2 : Tab2 w) (hc : Cols w p n c cols) (hr : Vs w rp rn rc row) (hx : ExAt w x cs) (hfit : ∀ u ∈ row, fitI u.n) (hxf : ∀ y ∈ nodesT x, fitI y.v.n) :
    Calls Tryd.prog 16 #[.slice p n c, .slice rp rn rc, .agg cs.toArray] w fun e w' => e = .returned (.tuple #[(evalF cols row x).1.agg, .int .i64 (evalF cols row x).2]) ∧ Ext w w' := by
  obtain ⟨xp, xn, xc, hcs, _⟩ := hx.six
  subst hcs
  apply xEval_vc
  unfold xEval_T
  intro b1 w2 h1 b4 w5 h4
  have H5 := ((Hold.start (Ext.rfl (w := w))).new h1).new h4
  have B1 : Blk w5 b1 29 #[.int .i64 x.op, .string x.name, .int .i64 x.v.k, .int .i64 x.v.n, .string x.v.s, .slice xp xn xc] := H5.blk 1 rfl
  obtain ⟨a0, a1, a2, a3, a4, a5⟩ := B1.c6
  refine ⟨_, a0, _, a1, _, a2, _, a3, _, a4, _, _, _, a5, (xtype_ok x (hT.ext H5.ext) (hc.ext H5.ext) (hx.ext H5.ext)).mono ?_⟩
  rintro e w16 ⟨rfl, e16⟩
  have H16 := H5.step e16
  refine ⟨_, _, rfl, fun hne => H16.ret3 0 rfl _ _ _ fun W' hx => ⟨?_, hx⟩, fun he => (sfits_ok (hc.ext H16.ext) (hr.ext H16.ext)).mono ?_⟩
  · unfold evalF; rw [if_pos hne]; rfl
  · rintro e w30 ⟨rfl, e30⟩
    have H30 := H16.step e30
    have e130 := e16.trans e30
    refine ⟨_, rfl, fun hb => H30.ret3 0 rfl _ _ _ fun W' hx => ⟨?_, hx⟩, fun hb => ?_⟩
    · unfold evalF; rw [if_neg (by simpa using he), if_pos hb]; rfl
    · have hform : formedB x = true := by
        unfold typeF at he
        split at he
        · exact absurd he (by decide)
        · split at he
          · exact absurd he (by decide)
          · simpa using ‹¬ formedB x = false›
      have hk : (kindF cols x).2 = 0 := by
        unfold typeF at he
        split at he
        · exact absurd he (by decide)
        · rwa [if_neg (by simp [hform])] at he
      have hfits : fitsL cols row = true := by
        unfold fitsC at hb
        rw [Bool.and_eq_true] at hb
        exact hb.2
      have hfp : FormedP x := of_decide_eq_true hform
      refine ⟨_, cell_ext a0 e130, _, cell_ext a1 e130, _, cell_ext a2 e130, _, cell_ext a3 e130, _, cell_ext a4 e130, _, _, _, cell_ext a5 e130,
        (xeval_ok _ x (Nat.le_refl _) (fun y hy => ⟨hfp.1 y hy, hxf y hy⟩) hk hfits hfit (hT2.ext H30.ext) (hc.ext H30.ext) (hr.ext H30.ext) (hx.ext H30.ext)).mono ?_⟩
      rintro e w51 ⟨rfl, e51⟩
      refine ⟨_, _, _, _, rfl, (H30.step e51).ret3 0 rfl _ _ _ fun W' hx => ⟨?_, hx⟩⟩
      unfold evalF; rw [if_neg (by simpa using he), if_neg (by simp [hb])]; rfl
end Go.Proofs.YtdephmdfdgclpaaDoor

/- The contracts of the document's answer for expressions: which are well formed. -/
namespace Go.Proofs.YtdephmdfdgclpaaDoor
open Go Go.Vc Go.RowKit

theorem many_ok (op : Int) (w : World) : Calls Tryd.prog 81 #[.int .i64 op] w fun e w' => e = .returned (.int .i64 (manyOf op)) ∧ Ext w w' := by
  apply many_vc
  unfold many_T
  have m0 : op = 1 ∨ op = 2 → manyOf op = 0 := fun h => by unfold manyOf; rw [if_pos h]
  have m1 : op = 8 ∨ op = 14 ∨ op = 15 ∨ op = 16 → manyOf op = 1 := fun h => by unfold manyOf; rw [if_neg (by omega), if_pos h]
  have m2 : 3 ≤ op ∧ op ≤ 7 ∨ 9 ≤ op ∧ op ≤ 13 → manyOf op = 2 := fun h => by unfold manyOf; rw [if_neg (by omega), if_neg (by omega), if_pos (by omega)]
  have m3 : ¬ (1 ≤ op ∧ op ≤ 16) → manyOf op = -1 := fun h => by unfold manyOf; rw [if_neg (by omega), if_neg (by omega), if_neg (by omega)]
  have good : ∀ v : Int, v = manyOf op → Ending.returned (.int .i64 v) = Ending.returned (.int .i64 (manyOf op)) ∧ Ext w w := fun v h => ⟨by rw [h], .rfl⟩
  generalize manyOf op = m at m0 m1 m2 m3 good ⊢
  repeat' first
    | exact good _ (by omega)
    | omega
    | intro _
    | refine And.intro ?_ ?_
theorem wants_ok (op : Int) (w : World) : Calls Tryd.prog 55 #[.int .i64 op] w fun e w' => e = .returned (.int .i64 (wantOf op)) ∧ Ext w w' := by
  apply wants_vc
  unfold wants_T
  have m0 : 3 ≤ op ∧ op ≤ 8 → wantOf op = 1 := fun h => by unfold wantOf; rw [if_pos h]
  have m1 : 12 ≤ op ∧ op ≤ 14 → wantOf op = 2 := fun h => by unfold wantOf; rw [if_neg (by omega), if_pos h]
  have m2 : op = 16 → wantOf op = 3 := fun h => by unfold wantOf; rw [if_neg (by omega), if_neg (by omega), if_pos h]
  have m3 : ¬ (3 ≤ op ∧ op ≤ 8 ∨ 12 ≤ op ∧ op ≤ 14 ∨ op = 16) → wantOf op = 0 := fun h => by unfold wantOf; rw [if_neg (by omega), if_neg (by omega), if_neg (by omega)]
  have good : ∀ v : Int, v = wantOf op → Ending.returned (.int .i64 v) = Ending.returned (.int .i64 (wantOf op)) ∧ Ext w w := fun v h => ⟨by rw [h], .rfl⟩
  generalize wantOf op = m at m0 m1 m2 m3 good ⊢
  repeat' first
    | exact good _ (by omega)
    | omega
    | intro _
    | refine And.intro ?_ ?_

theorem refFs_neg {l : List Ex} {d left : Int} (h : left < 0) : refFs l d left = left := by
  cases l with
  | nil => rw [refFs]
  | cons k r => rw [refFs, if_pos h]
set_option maxHeartbeats 4000000 in
theorem rformed_ok : ∀ (N : Nat) (x : Ex) {w : World} {cs : List Value} (d left : Int), depthT x ≤ N → -100 ≤ d → d ≤ 100 → 0 ≤ left → left ≤ 400 → ExAt w x cs →
    Calls Tryd.prog 53 #[.agg cs.toArray, .int .i64 d, .int .i64 left] w fun e w' => e = .returned (.int .i64 (refF x d left)) ∧ Ext w w' := by
  intro N
  induction N with
  | zero => intro x w cs d left hd; cases x; unfold depthT at hd; omega
  | succ N ih =>
  intro x w cs d left hdep hd0 hd1 hl0 hl1 hx
  obtain ⟨xp, xn, xc, rfl, hkl, hxn, hkid⟩ := hx.six
  apply rformed_vc
  unfold rformed_T
  intro b1 w2 h1
  have H2 := (Hold.start (Ext.rfl (w := w))).new h1
  have B1 : Blk w2 b1 29 #[.int .i64 x.op, .string x.name, .int .i64 x.v.k, .int .i64 x.v.n, .string x.v.s, .slice xp xn xc] := H2.blk 0 rfl
  obtain ⟨a0, a1, a2, a3, a4, a5⟩ := B1.c6
  have hrf : refF x d left = if d < 1 ∨ left < 1 ∨ ¬ NodeOk x then -1 else refFs x.kids (d - 1) (left - 1) := by cases x; rw [refF]; rfl
  refine ⟨_, a2, _, a3, _, a4, (rvright_ok x.v w2).mono ?_⟩
  rintro e w8 ⟨rfl, e8⟩
  refine ⟨_, rfl, fun w10 h10 => ?_⟩
  have H10 := (H2.step e8).step h10.ext
  have B1 : Blk w10 b1 29 #[.int .i64 x.op, .string x.name, .int .i64 x.v.k, .int .i64 x.v.n, .string x.v.s, .slice xp xn xc] := H10.blk 0 rfl
  obtain ⟨a0, a1, a2, a3, a4, a5⟩ := B1.c6
  refine ⟨fun hb => ⟨Same.refl _, ?_, H10.ext⟩, fun hg => ⟨_, _, _, a5, _, a0, (many_ok x.op w10).mono ?_⟩⟩
  · rw [hrf, if_pos (by omega)]
  rintro e w19 ⟨rfl, e19⟩
  have H19 := H10.step e19
  have bad : ¬ NodeOk x → Ending.returned (Value.int .i64 (-1)) = Ending.returned (Value.int .i64 (refF x d left)) ∧ Ext w w19 := fun h => ⟨by rw [hrf, if_pos (.inr (.inr h))], H19.ext⟩
  have nullI : x.v = nullV ↔ x.v.k = 0 ∧ x.v.n = 0 ∧ x.v.s = ⟨#[]⟩ := Val.ext'
  have b0 := cell_ext a0 e19
  have b1' := cell_ext a1 e19
  have b2 := cell_ext a2 e19
  have b3 := cell_ext a3 e19
  have b4 := cell_ext a4 e19
  refine ⟨_, rfl, e19.same, fun hb => bad ?_, fun ⟨hm, hv⟩ => ?_⟩
  · rintro ⟨h, _, _, ho⟩
    rcases hb with hb | hb
    · omega
    · exact absurd ho (of_decide_eq_false hb)
  have hvo : x.v.Ok := of_decide_eq_true hv
  have I0 : ∀ (hok : NodeOk x), ∃ j : Nat, (0 : Int) = (j : Int) ∧ j ≤ xn ∧ refFs (x.kids.drop j) (d - 1) (IntKind.i64.wrap (left - 1)) = refF x d left ∧ IntKind.i64.wrap (left - 1) ≤ 400 ∧
      Hold w w19 [(b1, .cells #[.int .i64 x.op, .string x.name, .int .i64 x.v.k, .int .i64 x.v.n, .string x.v.s, .slice xp xn xc] 29 (0, 0))] [] := by
    intro hok
    rw [i64_fit (by omega) (by omega)]
    refine ⟨0, rfl, Nat.zero_le _, ?_, by omega, H19⟩
    rw [hrf, if_neg]
    · rfl
    · rintro (h | h | h)
      · omega
      · omega
      · exact h hok
  refine ⟨_, b0, fun h1 => ⟨_, b1', fun hn => bad ?_, fun hn => ⟨_, b0, fun h2 => ⟨_, b2, _, b3, _, b4, fun hz => bad ?_, fun hz => ?_⟩, fun h2 => ?_⟩⟩, fun h1 => ⟨_, b0, fun h2 => ⟨_, b2, _, b3, _, b4, fun hz => bad ?_, fun hz => ?_⟩, fun h2 => ?_⟩⟩
  · rintro ⟨_, h, _⟩
    rcases h with h | h
    · exact h1 h
    · exact hn h
  · rintro ⟨_, _, h, _⟩
    rcases h with h | h
    · exact h2 h
    · have := nullI.1 h
      rcases hz with hz | hz | hz
      · exact hz this.1
      · exact hz this.2.1
      · exact hz this.2.2
  rotate_left 2
  · rintro ⟨_, _, h, _⟩
    rcases h with h | h
    · exact h2 h
    · have := nullI.1 h
      rcases hz with hz | hz | hz
      · exact hz this.1
      · exact hz this.2.1
      · exact hz this.2.2
  all_goals
    have hok : NodeOk x := ⟨by omega, by first | exact .inl h1 | exact .inr hn, by first | exact .inl h2 | exact .inr (nullI.2 hz), hvo⟩
    refine ⟨fun lf i W => ∃ j : Nat, i = (j : Int) ∧ j ≤ xn ∧ refFs (x.kids.drop j) (d - 1) lf = refF x d left ∧ lf ≤ 400 ∧ Hold w W [(b1, .cells #[.int .i64 x.op, .string x.name, .int .i64 x.v.k, .int .i64 x.v.n, .string x.v.s, .slice xp xn xc] 29 (0, 0))] [],
      fun _ i _ => xn - i.toNat, I0 hok, ?_⟩
    rintro lf i W ⟨j, rfl, hj, hrun, hlf, H⟩
    have B1 : Blk W b1 29 #[.int .i64 x.op, .string x.name, .int .i64 x.v.k, .int .i64 x.v.n, .string x.v.s, .slice xp xn xc] := H.blk 0 rfl
    obtain ⟨_, _, _, _, _, a5⟩ := B1.c6
    refine ⟨_, _, _, a5, fun ⟨hlt, hpos⟩ => ?_, fun hex => ⟨?_, H.ext⟩⟩
    · have g : x.kids[j]? = some (x.kids[j]'(by omega)) := List.getElem?_eq_getElem _
      have hdrop : x.kids.drop j = x.kids[j]'(by omega) :: x.kids.drop (j + 1) := List.drop_eq_getElem_cons _
      generalize x.kids[j]'(by omega) = k at g hdrop
      obtain ⟨kc, b, o, hk, hp, hcell⟩ := hkid H.ext g
      obtain ⟨kp, kn, kcap, hkc, _⟩ := hk.six
      simp only [Int.toNat_natCast]
      have e0 := hcell 0 _ (by rw [hkc]; rfl)
      have e1 := hcell 1 _ (by rw [hkc]; rfl)
      have e2 := hcell 2 _ (by rw [hkc]; rfl)
      have e3 := hcell 3 _ (by rw [hkc]; rfl)
      have e4 := hcell 4 _ (by rw [hkc]; rfl)
      have e5 := hcell 5 _ (by rw [hkc]; rfl)
      subst hkc
      rw [i64_fit (n := d - 1) (by omega) (by omega)]
      refine ⟨_, _, _, a5, b, o, hp, by omega, by omega, _, e0, _, e1, _, e2, _, e3, _, e4, _, _, _, e5, (ih k (d - 1) lf (by have := kid_depth g; omega) (by omega) (by omega) hpos hlf (hk.ext H.ext)).mono ?_⟩
      rintro e w59 ⟨rfl, e59⟩
      rw [i64_next (by omega)]
      refine ⟨_, rfl, ⟨j + 1, rfl, by omega, ?_, ?_, H.step e59⟩, by simp only [Int.toNat_natCast]; omega⟩
      · rw [← hrun, hdrop, refFs, if_neg (by omega)]
      · have := (refF_spec k (d - 1) lf).2
        omega
    · rcases (by omega : j = xn ∨ lf < 0) with h | h
      · rw [← hrun, List.drop_eq_nil_of_le (by omega), refFs]
      · rw [← hrun, refFs_neg h]
theorem rFormed_ok (x : Ex) {w : World} {cs : List Value} (hx : ExAt w x cs) : Calls Tryd.prog 36 #[.agg cs.toArray] w fun e w' => e = .returned (.bool (formedB x)) ∧ Ext w w' := by
  obtain ⟨xp, xn, xc, hcs, _⟩ := hx.six
  subst hcs
  apply rFormed_vc
  unfold rFormed_T
  intro b1 w2 h1
  have H2 := (Hold.start (Ext.rfl (w := w))).new h1
  have B1 : Blk w2 b1 29 #[.int .i64 x.op, .string x.name, .int .i64 x.v.k, .int .i64 x.v.n, .string x.v.s, .slice xp xn xc] := H2.blk 0 rfl
  obtain ⟨a0, a1, a2, a3, a4, a5⟩ := B1.c6
  refine ⟨_, a0, _, a1, _, a2, _, a3, _, a4, _, _, _, a5, (rformed_ok _ x 40 400 (Nat.le_refl _) (by omega) (by omega) (by omega) (by omega) (hx.ext H2.ext)).mono ?_⟩
  rintro e w5 ⟨rfl, e5⟩
  exact ⟨_, rfl, by rw [← refF_formed], (H2.step e5).ext⟩
end Go.Proofs.YtdephmdfdgclpaaDoor

/- The contracts of the document's answer for expressions: kinds. -/
namespace Go.Proofs.YtdephmdfdgclpaaDoor
open Go Go.Vc Go.RowKit

theorem undInts : Tryd.prog.underlying 48 = some (.slice 3) := by kernel_rfl
theorem tyInt : tyOf Tryd.prog 3 = some { agg := false, ls := [.int .i64], zero := .int .i64 0, bytes := 8, big := false, n := 1 } := by kernel_rfl

set_option maxHeartbeats 4000000 in
theorem rkind_ok : ∀ (N : Nat) (x : Ex) {w : World} {p : Option Addr} {n c : Nat} {cols : List Col} {cs : List Value}, depthT x ≤ N → (∀ y ∈ nodesT x, NodeOk y) → Cols w p n c cols → ExAt w x cs →
    Calls Tryd.prog 40 #[.slice p n c, .agg cs.toArray] w fun e w' => e = .returned (.tuple #[.int .i64 (kindF cols x).1, .int .i64 (kindF cols x).2]) ∧ Ext w w' := by
  intro N
  induction N with
  | zero => intro x w p n c cols cs hd; cases x; unfold depthT at hd; omega
  | succ N ih =>
  intro x w p n c cols cs hd hno hc hx
  obtain ⟨xp, xn, xc, rfl, hkl, hxn, hkid⟩ := hx.six
  obtain ⟨hmany, _⟩ := hno x (self_node x)
  have h2m := many_le x.op
  have hop := many_range (op := x.op) (by omega)
  have hl := hc.len
  apply rkind_vc
  unfold rkind_T
  intro b1 w2 h1
  have H2 := ((Hold.start (Ext.rfl (w := w))).new h1).nilRow 3 1
  let fs : List (Nat × Obj) := [(b1, .cells #[.int .i64 x.op, .string x.name, .int .i64 x.v.k, .int .i64 x.v.n, .string x.v.s, .slice xp xn xc] 29 (0, 0))]
  have c5 : ∀ {W : World} {ms : List Row}, Hold w W fs ms → W.cell? ⟨b1, 5, none⟩ = some (.slice xp xn xc) := fun H => by rw [(H.blk 0 rfl).cell]; rfl
  refine ⟨fun q m d i W => ∃ j : Nat, i = (j : Int) ∧ m = j ∧ j ≤ xn ∧ (runL (kindF cols) (x.kids.take j)).2 = 0 ∧ Hold w W fs [⟨3, 1, q, m, d, vI .i64 (runL (kindF cols) (x.kids.take j)).1⟩], fun _ _ _ i _ => xn - i.toNat, ⟨0, rfl, rfl, Nat.zero_le _, rfl, H2⟩, ?_⟩
  rintro q m d i W ⟨j, rfl, rfl, hj, hrun, H⟩
  refine ⟨_, _, _, c5 H, fun hlt => ?_, fun hge => ?_⟩
  · have g : x.kids[m]? = some (x.kids[m]'(by omega)) := List.getElem?_eq_getElem _
    generalize x.kids[m]'(by omega) = k at g
    obtain ⟨kc, b, o, hk, hp, hcell⟩ := hkid H.ext g
    obtain ⟨kp, kn, kcap, hkc, _⟩ := hk.six
    simp only [Int.toNat_natCast]
    have e0 := hcell 0 _ (by rw [hkc]; rfl)
    have e1 := hcell 1 _ (by rw [hkc]; rfl)
    have e2 := hcell 2 _ (by rw [hkc]; rfl)
    have e3 := hcell 3 _ (by rw [hkc]; rfl)
    have e4 := hcell 4 _ (by rw [hkc]; rfl)
    have e5 := hcell 5 _ (by rw [hkc]; rfl)
    subst hkc
    refine ⟨_, _, _, c5 H, b, o, hp, by omega, by omega, _, e0, _, e1, _, e2, _, e3, _, e4, _, _, _, e5, (ih k (by have := kid_depth g; omega) (fun y hy => hno y (kid_node g hy)) (hc.ext H.ext) (hk.ext H.ext)).mono ?_⟩
    rintro e w30 ⟨rfl, e30⟩
    have H30 := H.step e30
    refine ⟨_, _, rfl, fun hne => ⟨?_, H30.ext⟩, fun he b35 w36 h35 => ?_⟩
    · rw [kindF_eq cols x, runL_stop g hrun hne, if_pos hne]
    · have hnx := runL_take (f := kindF cols) g hrun
      rw [if_neg (by simpa using he)] at hnx
      have H36 := H30.step h35.ext
      obtain ⟨p', c', w41, hrn, H41⟩ := H36.append (ty := 48) (P := Tryd.prog) (q := some ⟨b35, 0, none⟩) (m := 1) (d' := 1) (news := [.int .i64 (kindF cols k).1]) 0 rfl undInts tyInt rfl (by decide) (Blk.new h35).at rfl (fun e => by cases e)
        (fun u hu => by simp at hu; subst hu; rfl) (by show ((m + 1) + (m + 1) / 4 + 192) * 8 ≤ _; omega) (by show m + 1 ≤ 9223372036854775807; omega)
      refine ⟨p', m + 1, c', w41, hrn, ?_⟩
      rw [i64_next (by omega)]
      refine ⟨⟨m + 1, rfl, rfl, by omega, by rw [hnx], ?_⟩, by simp only [Int.toNat_natCast]; omega⟩
      rw [hnx]
      have : vI .i64 ((runL (kindF cols) (x.kids.take m)).1 ++ [(kindF cols k).1]) = vI .i64 (runL (kindF cols) (x.kids.take m)).1 ++ [.int .i64 (kindF cols k).1] := by simp [vI]
      show Hold w w41 fs [⟨3, 1, p', m + 1, c', vI .i64 ((runL (kindF cols) (x.kids.take m)).1 ++ [(kindF cols k).1])⟩]
      rw [this]
      exact H41
  · have hjn : m = xn := by omega
    subst hjn
    rw [List.take_of_length_le (by omega)] at hrun H
    have hlen := runL_len hrun
    generalize hL : (runL (kindF cols) x.kids).1 = L at hlen H
    have hkf : kindF cols x = kindN cols x.op x.name x.v L := by rw [kindF_eq, if_neg (by simpa using hrun), hL]
    have B1 : Blk W b1 29 #[.int .i64 x.op, .string x.name, .int .i64 x.v.k, .int .i64 x.v.n, .string x.v.s, .slice xp m xc] := H.blk 0 rfl
    obtain ⟨a0, a1, a2, a3, a4, a5⟩ := B1.c6
    refine ⟨_, a0, (wants_ok x.op W).mono ?_⟩
    rintro e w45 ⟨rfl, e45⟩
    have H45 := H.step e45
    refine ⟨_, rfl, fun i W => ∃ k : Nat, i = (k : Int) ∧ k ≤ m ∧ (wantOf x.op ≠ 0 → ∀ g ∈ L.take k, alikeB g (wantOf x.op) = true) ∧ Hold w W fs [⟨3, 1, q, m, d, vI .i64 L⟩], fun i _ => m - i.toNat, ⟨0, rfl, Nat.zero_le _, by simp, H45⟩, ?_⟩
    clear H45 H B1 a0 a1 a2 a3 a4 a5
    rintro i W ⟨k, rfl, hk, hal, H⟩
    have hat := (H.row 0 rfl).at
    refine ⟨fun hlt => ?_, fun hge => ?_⟩
    · obtain ⟨b, o, hp, hcl⟩ := hat.getI (i := k) (by omega)
      have g : L[k]? = some (L[k]'(by omega)) := List.getElem?_eq_getElem _
      generalize L[k]'(by omega) = gk at g hcl
      have nxt : (wantOf x.op ≠ 0 → alikeB gk (wantOf x.op) = true) → (∃ k' : Nat, IntKind.i64.wrap ((k : Int) + 1) = (k' : Int) ∧ k' ≤ m ∧ (wantOf x.op ≠ 0 → ∀ g ∈ L.take k', alikeB g (wantOf x.op) = true) ∧ Hold w W fs [⟨3, 1, q, m, d, vI .i64 L⟩]) ∧
          m - (IntKind.i64.wrap ((k : Int) + 1)).toNat < m - k := by
        intro hb
        rw [i64_next (by omega)]
        refine ⟨⟨k + 1, rfl, by omega, fun hw y hy => ?_, H⟩, by simp only [Int.toNat_natCast]; omega⟩
        rw [List.take_add_one, g] at hy
        rcases List.mem_append.1 hy with hy | hy
        · exact hal hw y hy
        · simp at hy; subst hy; exact hb hw
      simp only [Int.toNat_natCast]
      refine ⟨fun hw => ⟨b, o, hp, by omega, by omega, _, hcl, fun hne => ⟨b, o, hp, by omega, by omega, _, hcl, fun hz => ⟨?_, H.ext⟩, fun hz => nxt fun _ => ?_⟩, fun he => nxt fun _ => ?_⟩, fun hw => nxt fun h => absurd hw h⟩
      · rw [hkf]
        unfold kindN
        rw [if_pos ⟨hw, fun hall => by
          have := alike_want (hall gk (List.mem_of_getElem? g)) hw
          omega⟩]
      · unfold alikeB; simp [hz]
      · unfold alikeB; simp [he]
    · have hkj : k = m := by omega
      rw [hkj, List.take_of_length_le (by omega)] at hal
      have hwant : ¬ (wantOf x.op ≠ 0 ∧ ¬ (∀ g ∈ L, alikeB g (wantOf x.op) = true)) := fun h => h.2 (hal h.1)
      have B1 : Blk W b1 29 #[.int .i64 x.op, .string x.name, .int .i64 x.v.k, .int .i64 x.v.n, .string x.v.s, .slice xp m xc] := H.blk 0 rfl
      obtain ⟨a0, a1, a2, a3, a4, a5⟩ := B1.c6
      have plain : x.op ≠ 1 → x.op ≠ 2 → ¬ ((x.op = 9 ∨ x.op = 10 ∨ x.op = 11) ∧ alikeB (L.getD 0 0) (L.getD 1 0) = false) → kindF cols x = (kindOf x.op, 0) := fun h1 h2 h9 => by
        rw [hkf]; unfold kindN; rw [if_neg hwant, if_neg h1, if_neg h2, if_neg h9]
      refine ⟨_, a0, fun h1 => ⟨_, a1, (r5find_ok (hc.ext H.ext) x.name).mono ?_⟩, fun h1 => ⟨fun h2 => ⟨_, a2, ?_, H.ext⟩, fun h2 => ?_⟩⟩
      · rintro e w93 ⟨rfl, e93⟩
        have hx93 := H.ext.trans e93
        refine ⟨_, rfl, fun hneg => ⟨?_, hx93⟩, fun hpos => ?_⟩
        · rw [hkf]; unfold kindN; rw [if_neg hwant, if_pos h1, if_pos hneg]
        · obtain ⟨y, hy, hyn⟩ := findC_get hpos
          obtain ⟨b, o, hp, d0, d1, d2⟩ := (hc.ext hx93).col hy
          have hrg := findC_range cols x.name
          refine ⟨b, o, hp, hpos, by omega, _, d1, ?_, hx93⟩
          rw [hkf]; unfold kindN; rw [if_neg hwant, if_pos h1, if_neg (by omega), hy]; rfl
      · rw [hkf]; unfold kindN; rw [if_neg hwant, if_neg h1, if_pos h2]
      · refine ⟨fun h9 => ⟨fun _ => ?_, fun h => absurd h9 h⟩, fun h9 => ⟨fun h10 => ⟨fun _ => ?_, fun h => absurd h10 h⟩, fun h10 => ⟨fun h11 => ?_, fun h11 => ?_⟩⟩⟩
        rotate_left 3
        · have hp := plain h1 h2 (by omega)
          have k2 : 12 ≤ x.op ∧ x.op ≤ 15 → kindOf x.op = 2 := fun h => by unfold kindOf; rw [if_neg (by omega), if_pos (by omega)]
          have k1 : 3 ≤ x.op ∧ x.op ≤ 8 ∨ x.op = 16 → kindOf x.op = 1 := fun h => by unfold kindOf; rw [if_pos h]
          have good : ∀ v : Int, v = kindOf x.op → Ending.returned (.tuple #[.int .i64 v, .int .i64 0]) = Ending.returned (.tuple #[.int .i64 (kindF cols x).1, .int .i64 (kindF cols x).2]) ∧ Ext w W := fun v h => ⟨by rw [hp, h], H.ext⟩
          generalize x.op = op at *
          generalize kindOf op = kk at *
          repeat' first
            | exact good _ (by omega)
            | omega
            | intro _
            | refine And.intro ?_ ?_
        all_goals
          intro w83 h83
          have hm2 : m = 2 := by
            have : manyOf x.op = 2 := by unfold manyOf; rw [if_neg (by omega), if_neg (by omega), if_pos (by omega)]
            omega
          have hat' := hat.ext h83.ext
          obtain ⟨b, o, hp, c0⟩ := hat'.getI (i := 0) (by omega)
          obtain ⟨b', o', hp', c1⟩ := hat'.getI (i := 1) (by omega)
          have g0 : L.getD 0 0 = L[0]'(by omega) := by rw [List.getD_eq_getElem?_getD, List.getElem?_eq_getElem (by omega : 0 < L.length)]; rfl
          have g1 : L.getD 1 0 = L[1]'(by omega) := by rw [List.getD_eq_getElem?_getD, List.getElem?_eq_getElem (by omega : 1 < L.length)]; rfl
          have hk2 : kindOf x.op = 2 := by unfold kindOf; rw [if_neg (by omega), if_pos (by omega)]
          have hx83 := H.ext.trans h83.ext
          generalize L[0]'(by omega) = ga at c0 g0
          generalize L[1]'(by omega) = gb at c1 g1
          have ok : alikeB ga gb = true → Ending.returned (.tuple #[.int .i64 2, .int .i64 0]) = Ending.returned (.tuple #[.int .i64 (kindF cols x).1, .int .i64 (kindF cols x).2]) ∧ Ext w w83 := fun h => ⟨by
            rw [plain h1 h2 (fun h' => by rw [g0, g1, h] at h'; cases h'.2), hk2], hx83⟩
          have no : alikeB ga gb = false → Ending.returned (.tuple #[.int .i64 0, .int .i64 121]) = Ending.returned (.tuple #[.int .i64 (kindF cols x).1, .int .i64 (kindF cols x).2]) ∧ Ext w w83 := fun h => ⟨by
            rw [hkf]; unfold kindN; rw [if_neg hwant, if_neg h1, if_neg h2, if_pos ⟨by omega, by rw [g0, g1]; exact h⟩], hx83⟩
          refine ⟨b, o, hp, by omega, by omega, _, c0, b', o', hp', by omega, by omega, _, c1, fun hne => ⟨b, o, hp, by omega, by omega, _, c0, fun hz => ⟨b', o', hp', by omega, by omega, _, c1, fun hz' => no ?_, fun hz' => ok ?_⟩, fun hz => ok ?_⟩, fun he => ok ?_⟩
          · unfold alikeB; simp [hne, hz, hz']
          · unfold alikeB; simp [hz']
          · unfold alikeB; simp [hz]
          · unfold alikeB; simp [he]

theorem rtype_ok (x : Ex) {w : World} {p : Option Addr} {n c : Nat} {cols : List Col} {cs : List Value} (hc : Cols w p n c cols) (hs : ∀ y ∈ cols, y.name.size ≤ 9223372036854775807) (hx : ExAt w x cs) :
    Calls Tryd.prog 21 #[.slice p n c, .agg cs.toArray] w fun e w' => e = .returned (.tuple #[.int .i64 (typeF cols x).1, .int .i64 (typeF cols x).2]) ∧ Ext w w' := by
  obtain ⟨xp, xn, xc, hcs, _⟩ := hx.six
  subst hcs
  apply rtype_vc
  unfold rtype_T
  intro b1 w2 h1
  have H2 := (Hold.start (Ext.rfl (w := w))).new h1
  refine (r5right_ok (hc.ext H2.ext) hs).mono ?_
  rintro e w5 ⟨rfl, e5⟩
  have H5 := H2.step e5
  refine ⟨_, rfl, fun hb => ⟨by unfold typeF; rw [if_pos hb], H5.ext⟩, fun hb => ?_⟩
  have B1 : Blk w5 b1 29 #[.int .i64 x.op, .string x.name, .int .i64 x.v.k, .int .i64 x.v.n, .string x.v.s, .slice xp xn xc] := H5.blk 0 rfl
  obtain ⟨a0, a1, a2, a3, a4, a5⟩ := B1.c6
  refine ⟨_, a0, _, a1, _, a2, _, a3, _, a4, _, _, _, a5, (rFormed_ok x (hx.ext H5.ext)).mono ?_⟩
  rintro e w18 ⟨rfl, e18⟩
  have H18 := H5.step e18
  refine ⟨_, rfl, fun hf => ⟨by unfold typeF; rw [if_neg (by simp [hb]), if_pos hf], H18.ext⟩, fun hf => ?_⟩
  have hfp : FormedP x := of_decide_eq_true hf
  refine ⟨_, cell_ext a0 e18, _, cell_ext a1 e18, _, cell_ext a2 e18, _, cell_ext a3 e18, _, cell_ext a4 e18, _, _, _, cell_ext a5 e18, (rkind_ok _ x (Nat.le_refl _) hfp.1 (hc.ext H18.ext) (hx.ext H18.ext)).mono ?_⟩
  rintro e w31 ⟨rfl, e31⟩
  exact ⟨_, _, rfl, by unfold typeF; rw [if_neg (by simp [hb]), if_neg (by simp [hf])], (H18.step e31).ext⟩
end Go.Proofs.YtdephmdfdgclpaaDoor

/- The contracts of the document's answer for expressions: numbers, truths. -/
namespace Go.Proofs.YtdephmdfdgclpaaDoor
open Go Go.Vc Go.RowKit

theorem rtruth_ok (b : Bool) (w : World) : Calls Tryd.prog 57 #[.bool b] w fun e w' => e = .returned (truthV b).agg ∧ Ext w w' := by
  apply rtruth_vc
  unfold rtruth_T
  intro b1 w2 h1 b4 w5 h4
  have H5 := ((Hold.start (Ext.rfl (w := w))).new h1).new h4
  obtain ⟨q0, q1, q2⟩ := (H5.blk 0 rfl).c3
  refine ⟨⟨_, q0⟩, (H5.blk 0 rfl).frozen _, ⟨_, q1⟩, (H5.blk 0 rfl).frozen _, ⟨_, q2⟩, (H5.blk 0 rfl).frozen _, fun w10 h10 => ?_⟩
  have H10 := H5.put 0 rfl h10
  have B : Blk w10 b4 26 #[.int .i64 2, .int .i64 0, .string ⟨#[]⟩] := H10.blk 0 rfl
  obtain ⟨q0, q1, q2⟩ := B.c3
  refine ⟨fun hb => ⟨⟨_, q1⟩, B.frozen _, fun w14 h14 => ?_⟩, fun hb => ⟨_, q0, _, q1, _, q2, H10.ret3 1 rfl _ _ _ fun W' hx => ⟨by rw [hb]; rfl, hx⟩⟩⟩
  have H14 := H10.put 0 rfl h14
  have B : Blk w14 b4 26 #[.int .i64 2, .int .i64 1, .string ⟨#[]⟩] := H14.blk 0 rfl
  obtain ⟨q0, q1, q2⟩ := B.c3
  exact ⟨_, q0, _, q1, _, q2, H14.ret3 1 rfl _ _ _ fun W' hx => ⟨by rw [hb]; rfl, hx⟩⟩
theorem rnumber_ok (n : Int) (w : World) : Calls Tryd.prog 58 #[.int .i64 n] w fun e w' => e = .returned (numV n).agg ∧ Ext w w' := by
  apply rnumber_vc
  unfold rnumber_T
  intro b1 w2 h1
  have H := (Hold.start (Ext.rfl (w := w))).new h1
  exact H.ret3 0 rfl _ _ _ fun W' hx => ⟨rfl, hx⟩

theorem prod_test {a b : Int} (ha : fitI a) (hb : fitI b) (b0 : b ≠ 0) (h1 : ¬ (b = -1 ∧ a = -9223372036854775808)) : quoI .i64 (IntKind.i64.wrap (a * b)) b = a ↔ fitI (a * b) := by
  have ew : ∀ x, fitI x → IntKind.i64.wrap x = x := fun x hx => by unfold fitI at hx; exact i64_fit hx.1 hx.2
  constructor
  · intro h
    have hw := IntKind.wrap_i64 (a * b)
    have hp : fitI (IntKind.i64.wrap (a * b)) := by unfold fitI; omega
    unfold quoI at h
    by_cases hs : IntKind.i64.wrap (a * b) = -9223372036854775808 ∧ b = -1
    · obtain ⟨h2, rfl⟩ := hs
      exfalso
      rw [h2] at h
      have : IntKind.i64.wrap ((-9223372036854775808 : Int).tdiv (-1)) = -9223372036854775808 := by decide +kernel
      rw [this] at h
      exact h1 ⟨rfl, h.symm⟩
    · have hq := (tdiv_fit hp b0).2 hs
      rw [ew _ hq] at h
      have hdm := Int.mul_tdiv_add_tmod (IntKind.i64.wrap (a * b)) b
      have hm : ((IntKind.i64.wrap (a * b)).tmod b).natAbs = (IntKind.i64.wrap (a * b)).natAbs % b.natAbs := Int.natAbs_tmod _ _
      have hlt := Nat.mod_lt (IntKind.i64.wrap (a * b)).natAbs (y := b.natAbs) (by omega)
      rw [h, Int.mul_comm b a] at hdm
      generalize (IntKind.i64.wrap (a * b)).tmod b = r at *
      generalize IntKind.i64.wrap (a * b) = p at *
      generalize a * b = X at *
      unfold fitI at *
      generalize p.natAbs % b.natAbs = t at *
      omega
  · intro h
    rw [ew _ h]
    unfold quoI
    rw [Int.mul_tdiv_cancel _ b0, ew _ ha]
theorem rproduct_ok {a b : Int} (ha : fitI a) (hb : fitI b) (w : World) : Calls Tryd.prog 84 #[.int .i64 a, .int .i64 b] w fun e w' => ∃ n : Int, e = .returned (.tuple #[.int .i64 n, .bool (decide (fitI (a * b)))]) ∧ (fitI (a * b) → n = a * b) ∧ Ext w w' := by
  apply rproduct_vc
  unfold rproduct_T
  have ew : ∀ x, fitI x → IntKind.i64.wrap x = x := fun x hx => by unfold fitI at hx; exact i64_fit hx.1 hx.2
  refine ⟨fun hz => ⟨0, ?_, ?_, .rfl⟩, fun hz => ⟨fun h1 => ⟨0, ?_, ?_, .rfl⟩, fun h1 => ⟨fun h2 => ⟨0, ?_, ?_, .rfl⟩, fun h2 w7 h7 => ⟨hz.2, IntKind.i64.wrap (a * b), ?_, fun h => ew _ h, h7.ext⟩⟩⟩⟩
  · have : a * b = 0 := by rcases hz with h | h <;> simp [h]
    rw [this]; rfl
  · intro _; rcases hz with h | h <;> simp [h]
  · obtain ⟨rfl, rfl⟩ := h1; rfl
  · obtain ⟨rfl, rfl⟩ := h1; intro h; exact absurd h (by decide)
  · obtain ⟨rfl, rfl⟩ := h2; rfl
  · obtain ⟨rfl, rfl⟩ := h2; intro h; exact absurd h (by decide)
  · have : decide (quoI .i64 (IntKind.i64.wrap (a * b)) b = a) = decide (fitI (a * b)) := by
      rw [decide_eq_decide]
      exact prod_test ha hb hz.2 (by omega)
    rw [this]

theorem reckoned_ok {op a b : Int} (hop : 3 ≤ op ∧ op ≤ 7) (ha : fitI a) (hb : fitI b) (w : World) : Calls Tryd.prog 59 #[.int .i64 op, .int .i64 a, .int .i64 b] w fun e w' => e = .returned (.tuple #[.int .i64 (arithF op a b).1, .int .i64 (arithF op a b).2]) ∧ Ext w w' := by
  apply reckoned_vc
  unfold reckoned_T
  have ew : ∀ x, fitI x → IntKind.i64.wrap x = x := fun x hx => by unfold fitI at hx; exact i64_fit hx.1 hx.2
  have wa := IntKind.wrap_i64 (a + b)
  have ws := IntKind.wrap_i64 (a - b)
  have A3 : op = 3 → arithF op a b = overF (a + b) := fun h => by unfold arithF; rw [if_neg (by omega), if_pos h]
  have A4 : op = 4 → arithF op a b = overF (a - b) := fun h => by unfold arithF; rw [if_neg (by omega), if_neg (by omega), if_pos h]
  have A5 : op = 5 → arithF op a b = overF (a * b) := fun h => by unfold arithF; rw [if_neg (by omega), if_neg (by omega), if_neg (by omega), if_pos h]
  have A6 : op = 6 → b ≠ 0 → arithF op a b = overF (a.tdiv b) := fun h h0 => by unfold arithF; rw [if_neg (by omega), if_neg (by omega), if_neg (by omega), if_neg (by omega), if_pos h]
  have A7 : op = 7 → b ≠ 0 → arithF op a b = (a.tmod b, 0) := fun h h0 => by unfold arithF; rw [if_neg (by omega), if_neg (by omega), if_neg (by omega), if_neg (by omega), if_neg (by omega), if_pos h]
  have Az : op = 6 ∨ op = 7 → b = 0 → arithF op a b = (0, 101) := fun h h0 => by unfold arithF; rw [if_pos ⟨h, h0⟩]
  have yes : ∀ x, fitI x → overF x = (x, 0) := fun x h => by unfold overF; rw [if_pos h]
  have no : ∀ x, ¬ fitI x → overF x = (0, 100) := fun x h => by unfold overF; rw [if_neg h]
  have fa := ha
  have fb := hb
  unfold fitI at fa fb
  refine ⟨fun h3 => ⟨fun h => ⟨?_, .rfl⟩, fun h => ⟨fun h' => ⟨?_, .rfl⟩, fun h' => ⟨?_, .rfl⟩⟩⟩, fun h3 => ⟨fun h4 => ⟨fun h => ⟨?_, .rfl⟩, fun h => ⟨fun h' => ⟨?_, .rfl⟩, fun h' => ⟨?_, .rfl⟩⟩⟩, fun h4 => ⟨fun h5 => (rproduct_ok ha hb w).mono ?_, fun h5 => ⟨fun h6 => ⟨fun hz => ⟨?_, .rfl⟩, fun hz => ⟨fun hm => ⟨fun hmin => ⟨?_, .rfl⟩, fun hmin => ⟨?_, .rfl⟩⟩, fun hm => ⟨hz, ?_, .rfl⟩⟩⟩,
    fun h6 => ⟨fun hz => ⟨?_, .rfl⟩, fun hz => ⟨fun hm => ⟨hz, ?_, .rfl⟩, fun hm => ⟨?_, .rfl⟩⟩⟩⟩⟩⟩⟩
  · have : fitI (a + b) := by unfold fitI; omega
    rw [A3 h3, yes _ this, ew _ this]
  · have : ¬ fitI (a + b) := by unfold fitI; omega
    rw [A3 h3, no _ this]
  · have : fitI (a + b) := by unfold fitI; omega
    rw [A3 h3, yes _ this, ew _ this]
  · have : fitI (a - b) := by unfold fitI; omega
    rw [A4 h4, yes _ this, ew _ this]
  · have : ¬ fitI (a - b) := by unfold fitI; omega
    rw [A4 h4, no _ this]
  · have : fitI (a - b) := by unfold fitI; omega
    rw [A4 h4, yes _ this, ew _ this]
  · rintro e w15 ⟨n, rfl, hn, e15⟩
    refine ⟨_, _, rfl, fun hf => ⟨?_, e15⟩, fun hf => ⟨?_, e15⟩⟩
    · rw [A5 h5, no _ (of_decide_eq_false hf)]
    · rw [A5 h5, yes _ (of_decide_eq_true hf), hn (of_decide_eq_true hf)]
  · rw [Az (.inl h6) hz]
  · rw [A6 h6 hz, no _ (fun hf => (tdiv_fit ha hz).1 hf ⟨hmin, hm⟩)]
  · have : fitI (a.tdiv b) := (tdiv_fit ha hz).2 fun h => hmin h.1
    rw [A6 h6 hz, yes _ this, hm, Int.tdiv_neg, Int.tdiv_one]
    rw [i64_fit (by omega) (by omega)]
    show Ending.returned (.tuple #[.int .i64 (0 - a), .int .i64 0]) = _
    rw [Int.zero_sub]
  · have : fitI (a.tdiv b) := (tdiv_fit ha hz).2 fun h => hm h.2
    rw [A6 h6 hz, yes _ this]
    unfold quoI
    rw [ew _ this]
  · rw [Az (by omega) hz]
  · rw [A7 (by omega) hz]; rfl
  · rw [A7 (by omega) hz, hm, Int.tmod_neg, Int.tmod_one]
end Go.Proofs.YtdephmdfdgclpaaDoor

/- The contracts of the document's answer for expressions: a node of two kids. -/
namespace Go.Proofs.YtdephmdfdgclpaaDoor
open Go Go.Vc Go.RowKit

def bothF (a b : Val) (strong : Int) : Val :=
  if (a.k = 2 ∧ a.n = strong) ∨ (b.k = 2 ∧ b.n = strong) then truthV (decide (strong = 1)) else if a.k = 0 ∨ b.k = 0 then nullV else truthV (decide (strong = 0))
theorem good2_cases {a : Val} (h : GoodV 2 a) : (a.k = 0 ∧ thirdI a = 2) ∨ (a.k = 2 ∧ a.n = 0 ∧ thirdI a = 0) ∨ (a.k = 2 ∧ a.n = 1 ∧ thirdI a = 1) := by
  obtain ⟨ho, _, hk⟩ := h
  unfold Val.Ok at ho
  unfold thirdI
  rcases hk with hk | hk
  · rw [if_pos hk]; exact .inl ⟨hk, rfl⟩
  · rw [if_neg (by omega)]; omega
theorem bothF_and {a b : Val} (ha : GoodV 2 a) (hb : GoodV 2 b) : bothF a b 0 = answerV (andI (thirdI a) (thirdI b)) := by
  rcases good2_cases ha with h | h | h <;> rcases good2_cases hb with h' | h' | h' <;> (unfold bothF; simp [h, h', andI, answerV])
theorem bothF_or {a b : Val} (ha : GoodV 2 a) (hb : GoodV 2 b) : bothF a b 1 = answerV (orJ (thirdI a) (thirdI b)) := by
  rcases good2_cases ha with h | h | h <;> rcases good2_cases hb with h' | h' | h' <;> (unfold bothF; simp [h, h', orJ, answerV])

theorem rboth_ok (a b : Val) (s : Int) (w : World) : Calls Tryd.prog 82 #[a.agg, b.agg, .int .i64 s] w fun e w' => e = .returned (bothF a b s).agg ∧ Ext w w' := by
  apply rboth_vc
  unfold rboth_T
  intro ba w2 h1 bb w5 h4 br w8 h7
  have H8 := (((Hold.start (Ext.rfl (w := w))).new h1).new h4).new h7
  have Ba : Blk w8 ba 26 #[.int .i64 a.k, .int .i64 a.n, .string a.s] := H8.blk 2 rfl
  have Bb : Blk w8 bb 26 #[.int .i64 b.k, .int .i64 b.n, .string b.s] := H8.blk 1 rfl
  obtain ⟨a0, a1, a2⟩ := Ba.c3
  obtain ⟨b0, b1, b2⟩ := Bb.c3
  have Y : (a.k = 2 ∧ a.n = s) ∨ (b.k = 2 ∧ b.n = s) → bothF a b s = truthV (decide (s = 1)) := fun h => by unfold bothF; rw [if_pos h]
  have Z : ¬ ((a.k = 2 ∧ a.n = s) ∨ (b.k = 2 ∧ b.n = s)) → a.k = 0 ∨ b.k = 0 → bothF a b s = nullV := fun h h' => by unfold bothF; rw [if_neg h, if_pos h']
  have O : ¬ ((a.k = 2 ∧ a.n = s) ∨ (b.k = 2 ∧ b.n = s)) → ¬ (a.k = 0 ∨ b.k = 0) → bothF a b s = truthV (decide (s = 0)) := fun h h' => by unfold bothF; rw [if_neg h, if_neg h']
  refine ⟨_, a0, fun k2 => ⟨_, a1, fun hs => ?_, fun hs => ⟨_, b0, fun k2b => ⟨_, b1, fun hsb => ?_, fun hsb => ⟨_, a0, fun hz => ?_, fun hz => ⟨_, b0, fun hz' => ?_, fun hz' => ?_⟩⟩⟩, fun k2b => ⟨_, a0, fun hz => ?_, fun hz => ⟨_, b0, fun hz' => ?_, fun hz' => ?_⟩⟩⟩⟩,
    fun k2 => ⟨_, b0, fun k2b => ⟨_, b1, fun hsb => ?_, fun hsb => ⟨_, a0, fun hz => ?_, fun hz => ⟨_, b0, fun hz' => ?_, fun hz' => ?_⟩⟩⟩, fun k2b => ⟨_, a0, fun hz => ?_, fun hz => ⟨_, b0, fun hz' => ?_, fun hz' => ?_⟩⟩⟩⟩
  all_goals first
    | (refine H8.ret3 0 rfl _ _ _ fun W' hx => ⟨?_, hx⟩
       rw [Z (by omega) (by omega)]; rfl)
    | (refine (rtruth_ok _ w8).mono ?_
       rintro e w15 ⟨rfl, e15⟩
       refine ⟨_, _, _, rfl, (H8.step e15).ret3 0 rfl _ _ _ fun W' hx => ⟨?_, hx⟩⟩
       first
         | (rw [Y (by omega)]; rfl)
         | (rw [O (by omega) (by omega)]; rfl))

theorem rtwo_ok (op : Int) (a b : Val) (w : World) (hop : (3 ≤ op ∧ op ≤ 7) ∨ (9 ≤ op ∧ op ≤ 13)) (hao : a.Ok) (hbo : b.Ok) (ha : fitI a.n) (hb : fitI b.n) (ht : op = 12 ∨ op = 13 → GoodV 2 a ∧ GoodV 2 b) :
    Calls Tryd.prog 56 #[.int .i64 op, a.agg, b.agg] w fun e w' => e = .returned (.tuple #[(pairF op a b).1.agg, .int .i64 (pairF op a b).2]) ∧ Ext w w' := by
  apply rtwo_vc
  unfold rtwo_T
  intro ba w2 h1 bb w5 h4 br w8 h7
  have H8 := (((Hold.start (Ext.rfl (w := w))).new h1).new h4).new h7
  have Ba : Blk w8 ba 26 #[.int .i64 a.k, .int .i64 a.n, .string a.s] := H8.blk 2 rfl
  have Bb : Blk w8 bb 26 #[.int .i64 b.k, .int .i64 b.n, .string b.s] := H8.blk 1 rfl
  obtain ⟨a0, a1, a2⟩ := Ba.c3
  obtain ⟨b0, b1, b2⟩ := Bb.c3
  refine ⟨fun h12 => ⟨_, a0, _, a1, _, a2, _, b0, _, b1, _, b2, (rboth_ok a b 0 w8).mono ?_⟩, fun h12 => ⟨fun h13 => ⟨_, a0, _, a1, _, a2, _, b0, _, b1, _, b2, (rboth_ok a b 1 w8).mono ?_⟩, fun h13 => ?_⟩⟩
  · rintro e w18 ⟨rfl, e18⟩
    obtain ⟨g1, g2⟩ := ht (.inl h12)
    refine ⟨_, _, _, rfl, (H8.step e18).ret3 0 rfl _ _ _ fun W' hx => ⟨?_, hx⟩⟩
    unfold pairF; rw [if_pos h12, ← bothF_and g1 g2]; rfl
  · rintro e w18 ⟨rfl, e18⟩
    obtain ⟨g1, g2⟩ := ht (.inr h13)
    refine ⟨_, _, _, rfl, (H8.step e18).ret3 0 rfl _ _ _ fun W' hx => ⟨?_, hx⟩⟩
    unfold pairF; rw [if_neg h12, if_pos h13, ← bothF_or g1 g2]; rfl
  · refine ⟨_, a0, fun hz => H8.ret3 0 rfl _ _ _ fun W' hx => ⟨?_, hx⟩, fun hz => ⟨_, b0, fun hz' => H8.ret3 0 rfl _ _ _ fun W' hx => ⟨?_, hx⟩, fun hz' => ⟨_, a0, _, a1, _, a2, _, b0, _, b1, _, b2, (rvcompare_ok a b w8).mono ?_⟩⟩⟩
    · unfold pairF; rw [if_neg h12, if_neg h13, if_pos (.inl hz)]; rfl
    · unfold pairF; rw [if_neg h12, if_neg h13, if_pos (.inr hz')]; rfl
    rintro e w99 ⟨rfl, e99⟩
    rw [rcmpV_eq hao hbo]
    have H99 := H8.step e99
    have hz2 : ¬ (a.k = 0 ∨ b.k = 0) := by omega
    refine ⟨_, rfl, fun h9 => (rtruth_ok _ w99).mono ?_, fun h9 => ⟨fun h10 => (rtruth_ok _ w99).mono ?_, fun h10 => ⟨fun h11 => (rtruth_ok _ w99).mono ?_, fun h11 => ?_⟩⟩⟩
    · rintro e w103 ⟨rfl, e103⟩
      refine ⟨_, _, _, rfl, (H99.step e103).ret3 0 rfl _ _ _ fun W' hx => ⟨?_, hx⟩⟩
      unfold pairF; rw [if_neg h12, if_neg h13, if_neg hz2, if_pos h9]; rfl
    · rintro e w103 ⟨rfl, e103⟩
      refine ⟨_, _, _, rfl, (H99.step e103).ret3 0 rfl _ _ _ fun W' hx => ⟨?_, hx⟩⟩
      unfold pairF; rw [if_neg h12, if_neg h13, if_neg hz2, if_neg h9, if_pos h10]; rfl
    · rintro e w103 ⟨rfl, e103⟩
      refine ⟨_, _, _, rfl, (H99.step e103).ret3 0 rfl _ _ _ fun W' hx => ⟨?_, hx⟩⟩
      unfold pairF; rw [if_neg h12, if_neg h13, if_neg hz2, if_neg h9, if_neg h10, if_pos h11]; rfl
    · refine ⟨_, cell_ext a1 e99, _, cell_ext b1 e99, (reckoned_ok (by omega) ha hb w99).mono ?_⟩
      rintro e w149 ⟨rfl, e149⟩
      refine ⟨_, _, rfl, fun hne => (H99.step e149).ret3 0 rfl _ _ _ fun W' hx => ⟨?_, hx⟩, fun he => (rnumber_ok _ w149).mono ?_⟩
      · unfold pairF; rw [if_neg h12, if_neg h13, if_neg hz2, if_neg h9, if_neg h10, if_neg h11, if_pos hne]; rfl
      · rintro e w160 ⟨rfl, e160⟩
        refine ⟨_, _, _, rfl, ((H99.step e149).step e160).ret3 0 rfl _ _ _ fun W' hx => ⟨?_, hx⟩⟩
        unfold pairF; rw [if_neg h12, if_neg h13, if_neg hz2, if_neg h9, if_neg h10, if_neg h11, if_neg (by simpa using he)]; rfl
end Go.Proofs.YtdephmdfdgclpaaDoor

/- The contracts of the document's answer for expressions: values. -/
namespace Go.Proofs.YtdephmdfdgclpaaDoor
open Go Go.Vc Go.RowKit

theorem undVals : Tryd.prog.underlying 23 = some (.slice 26) := by kernel_rfl
theorem tyValue : tyOf Tryd.prog 26 = some { agg := true, ls := [.int .i64, .int .i64, .str], zero := .agg #[.int .i64 0, .int .i64 0, .string ⟨#[]⟩], bytes := 32, big := false, n := 3 } := by kernel_rfl
theorem ok_null {v : Val} (h : v.Ok) (hk : v.k = 0) : v = nullV := by
  unfold Val.Ok at h
  rcases h with h | h | h | h
  · exact Val.ext'.2 h
  · omega
  · omega
  · omega

set_option maxHeartbeats 4000000 in
theorem rvalue_ok : ∀ (N : Nat) (x : Ex) {w : World} {p rp : Option Addr} {n c rn rc : Nat} {cols : List Col} {row : List Val} {cs : List Value}, depthT x ≤ N → (∀ y ∈ nodesT x, NodeOk y ∧ fitI y.v.n) → (kindF cols x).2 = 0 → fitsL cols row = true → (∀ u ∈ row, fitI u.n) →
    Cols w p n c cols → Vs w rp rn rc row → ExAt w x cs →
    Calls Tryd.prog 41 #[.slice p n c, .slice rp rn rc, .agg cs.toArray] w fun e w' => e = .returned (.tuple #[(valueF cols row x).1.agg, .int .i64 (valueF cols row x).2]) ∧ Ext w w' := by
  intro N
  induction N with
  | zero => intro x w p rp n c rn rc cols row cs hd; cases x; unfold depthT at hd; omega
  | succ N ih =>
  intro x w p rp n c rn rc cols row cs hd hno hkind hfits hfit hc hr hx
  obtain ⟨xp, xn, xc, rfl, hkl, hxn, hkid⟩ := hx.six
  obtain ⟨hxo, hxf⟩ := hno x (self_node x)
  have h2m := many_le x.op
  have hmany := hxo.1
  have hop := many_range (op := x.op) (by omega)
  have hrl := hr.len
  obtain ⟨hk1, hk2⟩ := kids_kinds hkind
  have hgood : ∀ (i : Nat) k, x.kids[i]? = some k → Go.Vc.Good (kindF cols k).1 (valueF cols row k) := fun i k hi => typed hfits hfit _ k (Nat.le_refl _) (fun y hy => hno y (kid_node hi hy)) (runL_get hk1 hi).1
  apply rvalue_vc
  unfold rvalue_T
  intro b1 w2 h1 b4 w5 h4
  have H5 := (((Hold.start (Ext.rfl (w := w))).new h1).new h4).nilRow 26 3
  let fs : List (Nat × Obj) := [(b4, .cells #[.int .i64 0, .int .i64 0, .string ⟨#[]⟩] 26 (0, 0)), (b1, .cells #[.int .i64 x.op, .string x.name, .int .i64 x.v.k, .int .i64 x.v.n, .string x.v.s, .slice xp xn xc] 29 (0, 0))]
  have c5 : ∀ {W : World} {ms : List Row}, Hold w W fs ms → W.cell? ⟨b1, 5, none⟩ = some (.slice xp xn xc) := fun H => by rw [(H.blk 1 rfl).cell]; rfl
  refine ⟨fun q m d i W => ∃ j : Nat, i = (j : Int) ∧ m = j ∧ j ≤ xn ∧ (runL (valueF cols row) (x.kids.take j)).2 = 0 ∧ Hold w W fs [⟨26, 3, q, m, d, (runL (valueF cols row) (x.kids.take j)).1.flatMap Val.cs⟩], fun _ _ _ i _ => xn - i.toNat, ⟨0, rfl, rfl, Nat.zero_le _, rfl, H5⟩, ?_⟩
  rintro q m d i W ⟨j, rfl, rfl, hj, hrun, H⟩
  refine ⟨_, _, _, c5 H, fun hlt => ?_, fun hge => ?_⟩
  · have g : x.kids[m]? = some (x.kids[m]'(by omega)) := List.getElem?_eq_getElem _
    generalize x.kids[m]'(by omega) = k at g
    obtain ⟨kc, b, o, hk, hp, hcell⟩ := hkid H.ext g
    obtain ⟨kp, kn, kcap, hkc, _⟩ := hk.six
    simp only [Int.toNat_natCast]
    have e0 := hcell 0 _ (by rw [hkc]; rfl)
    have e1 := hcell 1 _ (by rw [hkc]; rfl)
    have e2 := hcell 2 _ (by rw [hkc]; rfl)
    have e3 := hcell 3 _ (by rw [hkc]; rfl)
    have e4 := hcell 4 _ (by rw [hkc]; rfl)
    have e5 := hcell 5 _ (by rw [hkc]; rfl)
    subst hkc
    refine ⟨_, _, _, c5 H, b, o, hp, by omega, by omega, _, e0, _, e1, _, e2, _, e3, _, e4, _, _, _, e5, (ih k (by have := kid_depth g; omega) (fun y hy => hno y (kid_node g hy)) (runL_get hk1 g).1 hfits hfit (hc.ext H.ext) (hr.ext H.ext) (hk.ext H.ext)).mono ?_⟩
    rintro e w33 ⟨rfl, e33⟩
    have H33 := H.step e33
    refine ⟨_, _, _, _, rfl, fun b38 w39 h38 => ?_⟩
    have H39 := H33.new h38
    obtain ⟨q0, q1, q2⟩ := (H39.blk 0 rfl).c3
    refine ⟨⟨_, q0⟩, (H39.blk 0 rfl).frozen _, ⟨_, q1⟩, (H39.blk 0 rfl).frozen _, ⟨_, q2⟩, (H39.blk 0 rfl).frozen _, fun w44 h44 => ?_⟩
    have H44 := H39.put 0 rfl h44
    have Bv : Blk w44 b38 26 #[.int .i64 (valueF cols row k).1.k, .int .i64 (valueF cols row k).1.n, .string (valueF cols row k).1.s] := H44.blk 0 rfl
    obtain ⟨v0, v1, v2⟩ := Bv.c3
    refine ⟨fun hne => H44.ret3 1 rfl _ _ _ fun W' hx => ⟨?_, hx⟩, fun he => ⟨_, v0, _, v1, _, v2, fun b59 w60 h59 => ?_⟩⟩
    · rw [valueF_eq cols row x, runL_stop g hrun hne, if_pos hne]; rfl
    · have hnx := runL_take (f := valueF cols row) g hrun
      rw [if_neg (by simpa using he)] at hnx
      have H60 := (H44.tail).step h59.ext
      obtain ⟨p', c', w65, hrn, H65⟩ := H60.append (ty := 23) (P := Tryd.prog) (q := some ⟨b59, 0, none⟩) (m := 1) (d' := 1) (news := (valueF cols row k).1.cs) 0 rfl undVals tyValue rfl (by decide) (Blk.new h59).at rfl (fun e => by cases e)
        (Val.cs_one _) (by show ((m + 1) + (m + 1) / 4 + 192) * 32 ≤ _; omega) (by show m + 1 ≤ 9223372036854775807; omega)
      refine ⟨p', m + 1, c', w65, hrn, ?_⟩
      rw [i64_next (by omega)]
      refine ⟨⟨m + 1, rfl, rfl, by omega, by rw [hnx], ?_⟩, by simp only [Int.toNat_natCast]; omega⟩
      rw [hnx]
      show Hold w w65 fs [⟨26, 3, p', m + 1, c', ((runL (valueF cols row) (x.kids.take m)).1 ++ [(valueF cols row k).1]).flatMap Val.cs⟩]
      rw [List.flatMap_append]
      have : [(valueF cols row k).1].flatMap Val.cs = (valueF cols row k).1.cs := by simp
      rw [this]
      exact H65
  · have hjn : m = xn := by omega
    subst hjn
    rw [List.take_of_length_le (by omega)] at hrun H
    have hlen := runL_len hrun
    have hlk := runL_len hk1
    have hrel : ∀ (i : Nat) g u, (runL (kindF cols) x.kids).1[i]? = some g → (runL (valueF cols row) x.kids).1[i]? = some u → GoodV g u := by
      intro i g u hg hu
      have hi : i < x.kids.length := by rw [← hlk]; exact (List.getElem?_eq_some_iff.1 hg).1
      have hki : x.kids[i]? = some x.kids[i] := List.getElem?_eq_getElem hi
      have e1 := runL_get hk1 hki
      have e2 := runL_get hrun hki
      rw [hg] at e1
      rw [hu] at e2
      have := hgood i _ hki
      cases e1.2
      cases e2.2
      rcases this with h | h
      · exact h.2
      · have := e2.1; omega
    obtain ⟨_, htrio, hcol⟩ := node_good (by rw [hlen]; exact hmany) (by omega) hxo.2.2.2 hxf hrel (by rw [← hk2]; exact hkind) hfits hfit
    have hfitL : ∀ (i : Nat) u, (runL (valueF cols row) x.kids).1[i]? = some u → u.Ok ∧ fitI u.n := by
      intro i u hu
      have hi : i < (runL (kindF cols) x.kids).1.length := by rw [hlk, ← hlen]; exact (List.getElem?_eq_some_iff.1 hu).1
      obtain ⟨a, b, _⟩ := hrel i _ u (List.getElem?_eq_getElem hi) hu
      exact ⟨a, b⟩
    generalize hL : (runL (valueF cols row) x.kids).1 = L at hlen H hfitL htrio
    have hvf : valueF cols row x = valueN cols row x.op x.name x.v L := by rw [valueF_eq, if_neg (by simpa using hrun), hL]
    have B1 : Blk W b1 29 #[.int .i64 x.op, .string x.name, .int .i64 x.v.k, .int .i64 x.v.n, .string x.v.s, .slice xp m xc] := H.blk 1 rfl
    obtain ⟨a0, a1, a2, a3, a4, a5⟩ := B1.c6
    have hvs : Vs W q m d L := (H.row 0 rfl).ls Val.cs_length (by decide)
    refine ⟨_, a0, fun h1 => ⟨_, a1, (r5find_ok (hc.ext H.ext) x.name).mono ?_⟩, fun h1 => ⟨_, a0, fun h2 => ⟨_, a2, _, a3, _, a4, H.ret3 0 rfl _ _ _ fun W' hx => ⟨?_, hx⟩⟩, fun h2 => ⟨fun htwo w102 h102 => ?_, fun htwo => ?_⟩⟩⟩
    · rintro e w71 ⟨rfl, e71⟩
      have H71 := H.step e71
      have hcol' := hcol h1
      have gu : row[(findC cols x.name).toNat]? = some (row[(findC cols x.name).toNat]'(by omega)) := List.getElem?_eq_getElem _
      generalize row[(findC cols x.name).toNat]'(by omega) = u at gu
      obtain ⟨b, o, hp, d0, d1, d2⟩ := (hr.ext H71.ext).val gu
      refine ⟨_, rfl, b, o, hp, hcol'.1, by omega, _, d0, _, d1, _, d2, H71.ret3 0 rfl _ _ _ fun W' hx => ⟨?_, hx⟩⟩
      rw [hvf]; unfold valueN; rw [if_pos h1, gu]; rfl
    · rw [hvf]; unfold valueN; rw [if_neg h1, if_pos h2]; rfl
    · have hl2 : L.length = 2 := by omega
      have H102 := H.step h102.ext
      have g0 : L[0]? = some (L.getD 0 nullV) := by rw [List.getD_eq_getElem?_getD, List.getElem?_eq_getElem (by omega : 0 < L.length)]; rfl
      have g1 : L[1]? = some (L.getD 1 nullV) := by rw [List.getD_eq_getElem?_getD, List.getElem?_eq_getElem (by omega : 1 < L.length)]; rfl
      obtain ⟨b, o, hp, d0, d1, d2⟩ := (hvs.ext h102.ext).val g0
      obtain ⟨b', o', hp', d0', d1', d2'⟩ := (hvs.ext h102.ext).val g1
      have hop2 : (3 ≤ x.op ∧ x.op ≤ 7) ∨ (9 ≤ x.op ∧ x.op ≤ 13) := by
        have hm2 : manyOf x.op = 2 := by omega
        unfold manyOf at hm2
        split at hm2
        · omega
        · split at hm2
          · omega
          · split at hm2 <;> omega
      refine ⟨_, cell_ext a0 h102.ext, b, o, hp, by omega, by omega, _, by simpa using d0, _, by simpa using d1, _, by simpa using d2, b', o', hp', by omega, by omega, _, by simpa using d0', _, by simpa using d1', _, by simpa using d2',
        (rtwo_ok x.op (L.getD 0 nullV) (L.getD 1 nullV) w102 hop2 (hfitL _ _ g0).1 (hfitL _ _ g1).1 (hfitL _ _ g0).2 (hfitL _ _ g1).2 (fun h => ⟨htrio h _ (List.mem_of_getElem? g0), htrio h _ (List.mem_of_getElem? g1)⟩)).mono ?_⟩
      rintro e w116 ⟨rfl, e116⟩
      refine ⟨_, _, _, _, rfl, (H102.step e116).ret3 0 rfl _ _ _ fun W' hx => ⟨?_, hx⟩⟩
      rw [hvf]; unfold valueN; rw [if_neg h1, if_neg h2, if_neg (by omega)]; rfl
    · have hl1 : L.length = 1 := by
        have : manyOf x.op ≠ 0 := by
          unfold manyOf; rw [if_neg (by omega)]
          split
          · omega
          · split <;> omega
        omega
      have hop1 : x.op = 8 ∨ x.op = 14 ∨ x.op = 15 ∨ x.op = 16 := by
        have hm1 : manyOf x.op = 1 := by omega
        unfold manyOf at hm1
        split at hm1
        · omega
        · split at hm1
          · assumption
          · split at hm1 <;> omega
      have g0 : L[0]? = some (L.getD 0 nullV) := by rw [List.getD_eq_getElem?_getD, List.getElem?_eq_getElem (by omega : 0 < L.length)]; rfl
      obtain ⟨hvok, hvfit⟩ := hfitL _ _ g0
      have hvf1 : valueF cols row x = singleF x.op (L.getD 0 nullV) := by rw [hvf]; unfold valueN; rw [if_neg h1, if_neg h2, if_pos hl1]
      obtain ⟨b, o, hp, d0, d1, d2⟩ := hvs.val g0
      generalize L.getD 0 nullV = v at hvok hvfit hvf1 d0 d1 d2
      refine ⟨_, a0, fun h15 => ⟨b, o, hp, by omega, by omega, _, by simpa using d0, (rtruth_ok _ W).mono ?_⟩, fun h15 => ⟨b, o, hp, by omega, by omega, _, by simpa using d0, fun hz => H.ret3 0 rfl _ _ _ fun W' hx => ⟨?_, hx⟩, fun hz => ⟨_, a0, fun h14 => ⟨b, o, hp, by omega, by omega, _, by simpa using d1, (rtruth_ok _ W).mono ?_⟩,
        fun h14 => ⟨_, a0, fun h16 => ⟨b, o, hp, by omega, by omega, _, by simpa using d2, (rnumber_ok _ W).mono ?_⟩, fun h16 => ⟨b, o, hp, by omega, by omega, _, by simpa using d1, (reckoned_ok (op := 4) (by omega) (by unfold fitI; decide) hvfit W).mono ?_⟩⟩⟩⟩⟩
      · rintro e w136 ⟨rfl, e136⟩
        refine ⟨_, _, _, rfl, (H.step e136).ret3 0 rfl _ _ _ fun W' hx => ⟨?_, hx⟩⟩
        rw [hvf1]; unfold singleF; rw [if_pos h15]; rfl
      · rw [hvf1]; unfold singleF; rw [if_neg h15, if_pos hz, ok_null hvok hz]; rfl
      · rintro e w136 ⟨rfl, e136⟩
        refine ⟨_, _, _, rfl, (H.step e136).ret3 0 rfl _ _ _ fun W' hx => ⟨?_, hx⟩⟩
        rw [hvf1]; unfold singleF; rw [if_neg h15, if_neg hz, if_pos h14]; rfl
      · rintro e w136 ⟨rfl, e136⟩
        refine ⟨_, _, _, rfl, (H.step e136).ret3 0 rfl _ _ _ fun W' hx => ⟨?_, hx⟩⟩
        rw [hvf1]; unfold singleF; rw [if_neg h15, if_neg hz, if_neg h14, if_pos h16]; rfl
      · rintro e w204 ⟨rfl, e204⟩
        have hsv : singleF x.op v = if (arithF 4 0 v.n).2 ≠ 0 then (nullV, (arithF 4 0 v.n).2) else (numV (arithF 4 0 v.n).1, 0) := by
          unfold singleF; rw [if_neg h15, if_neg hz, if_neg h14, if_neg h16]
          unfold pairF
          have hz' : ¬ ((numV 0).k = 0 ∨ v.k = 0) := by
            have : (numV 0).k = 1 := rfl
            omega
          rw [if_neg (by decide), if_neg (by decide), if_neg hz', if_neg (by decide), if_neg (by decide), if_neg (by decide)]; rfl
        refine ⟨_, _, rfl, fun hne => (H.step e204).ret3 0 rfl _ _ _ fun W' hx => ⟨?_, hx⟩, fun he => (rnumber_ok _ w204).mono ?_⟩
        · rw [hvf1, hsv, if_pos hne]; rfl
        · rintro e w218 ⟨rfl, e218⟩
          refine ⟨_, _, _, rfl, ((H.step e204).step e218).ret3 0 rfl _ _ _ fun W' hx => ⟨?_, hx⟩⟩
          rw [hvf1, hsv, if_neg (by simpa using he)]; rfl
end Go.Proofs.YtdephmdfdgclpaaDoor

/- The contract of the document's Eval. -/
namespace Go.Proofs.YtdephmdfdgclpaaDoor
open Go Go.Vc Go.RowKit

theorem reval_ok (x : Ex) {w : World} {p rp : Option Addr} {n c rn rc : Nat} {cols : List Col} {row : List Val} {cs : List Value} (hc : Cols w p n c cols) (hs : ∀ y ∈ cols, y.name.size ≤ 9223372036854775807) (hr : Vs w rp rn rc row) (hx : ExAt w x cs) (hfit : ∀ u ∈ row, fitI u.n) (hxf : ∀ y ∈ nodesT x, fitI y.v.n) :
    Calls Tryd.prog 22 #[.slice p n c, .slice rp rn rc, .agg cs.toArray] w fun e w' => e = .returned (.tuple #[(evalF cols row x).1.agg, .int .i64 (evalF cols row x).2]) ∧ Ext w w' := by
  obtain ⟨xp, xn, xc, hcs, _⟩ := hx.six
  subst hcs
  apply reval_vc
  unfold reval_T
  intro b1 w2 h1 b4 w5 h4
  have H5 := ((Hold.start (Ext.rfl (w := w))).new h1).new h4
  have B1 : Blk w5 b1 29 #[.int .i64 x.op, .string x.name, .int .i64 x.v.k, .int .i64 x.v.n, .string x.v.s, .slice xp xn xc] := H5.blk 1 rfl
  obtain ⟨a0, a1, a2, a3, a4, a5⟩ := B1.c6
  refine ⟨_, a0, _, a1, _, a2, _, a3, _, a4, _, _, _, a5, (rtype_ok x (hc.ext H5.ext) hs (hx.ext H5.ext)).mono ?_⟩
  rintro e w16 ⟨rfl, e16⟩
  have H16 := H5.step e16
  refine ⟨_, _, rfl, fun hne => H16.ret3 0 rfl _ _ _ fun W' hx => ⟨?_, hx⟩, fun he => (r5fits_ok (hc.ext H16.ext) hs (hr.ext H16.ext)).mono ?_⟩
  · unfold evalF; rw [if_pos hne]; rfl
  · rintro e w30 ⟨rfl, e30⟩
    have H30 := H16.step e30
    have e130 := e16.trans e30
    refine ⟨_, rfl, fun hb => H30.ret3 0 rfl _ _ _ fun W' hx => ⟨?_, hx⟩, fun hb => ?_⟩
    · unfold evalF; rw [if_neg (by simpa using he), if_pos hb]; rfl
    · have hform : formedB x = true := by
        unfold typeF at he
        split at he
        · exact absurd he (by decide)
        · split at he
          · exact absurd he (by decide)
          · simpa using ‹¬ formedB x = false›
      have hk : (kindF cols x).2 = 0 := by
        unfold typeF at he
        split at he
        · exact absurd he (by decide)
        · rwa [if_neg (by simp [hform])] at he
      have hfits : fitsL cols row = true := by
        unfold fitsC at hb
        rw [Bool.and_eq_true] at hb
        exact hb.2
      have hfp : FormedP x := of_decide_eq_true hform
      refine ⟨_, cell_ext a0 e130, _, cell_ext a1 e130, _, cell_ext a2 e130, _, cell_ext a3 e130, _, cell_ext a4 e130, _, _, _, cell_ext a5 e130,
        (rvalue_ok _ x (Nat.le_refl _) (fun y hy => ⟨hfp.1 y hy, hxf y hy⟩) hk hfits hfit (hc.ext H30.ext) (hr.ext H30.ext) (hx.ext H30.ext)).mono ?_⟩
      rintro e w51 ⟨rfl, e51⟩
      refine ⟨_, _, _, _, rfl, (H30.step e51).ret3 0 rfl _ _ _ fun W' hx => ⟨?_, hx⟩⟩
      unfold evalF; rw [if_neg (by simpa using he), if_neg (by simp [hb])]; rfl
end Go.Proofs.YtdephmdfdgclpaaDoor
