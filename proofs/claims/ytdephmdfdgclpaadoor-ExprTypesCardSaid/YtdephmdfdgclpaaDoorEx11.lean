/- The contracts of the document's answer for expressions: values. -/
import Derived.Test.YtdephmdfdgclpaaDoorEx10
namespace Go.Proofs.YtdephmdfdgclpaaDoor
open Go Go.Vc Go.RowKit

theorem undVals : Tryd.prog.underlying 23 = some (.slice 26) := by kernel_rfl
theorem tyValue : tyOf Tryd.prog 26 = some { agg := true, ls := [.int .i64, .int .i64, .str], zero := .agg #[.int .i64 0, .int .i64 0, .string ⟨#[]⟩], bytes := 32, big := false, n := 3 } := by kernel_rfl
theorem ok_null {v : Val} (h : v.Ok) (hk : v.k = 0) : v = nullV := by
  unfold Val.Ok at h
  rcases h with h | h | h | h
  · exact Val.ext'.2 h
  · omega
  · omega
  · omega

set_option maxHeartbeats 4000000 in
theorem rvalue_ok : ∀ (N : Nat) (x : Ex) {w : World} {p rp : Option Addr} {n c rn rc : Nat} {cols : List Col} {row : List Val} {cs : List Value}, depthT x ≤ N → (∀ y ∈ nodesT x, NodeOk y ∧ fitI y.v.n) → (kindF cols x).2 = 0 → fitsL cols row = true → (∀ u ∈ row, fitI u.n) →
    Cols w p n c cols → Vs w rp rn rc row → ExAt w x cs →
    Calls Tryd.prog 41 #[.slice p n c, .slice rp rn rc, .agg cs.toArray] w fun e w' => e = .returned (.tuple #[(valueF cols row x).1.agg, .int .i64 (valueF cols row x).2]) ∧ Ext w w' := by
  intro N
  induction N with
  | zero => intro x w p rp n c rn rc cols row cs hd; cases x; unfold depthT at hd; omega
  | succ N ih =>
  intro x w p rp n c rn rc cols row cs hd hno hkind hfits hfit hc hr hx
  obtain ⟨xp, xn, xc, rfl, hkl, hxn, hkid⟩ := hx.six
  obtain ⟨hxo, hxf⟩ := hno x (self_node x)
  have h2m := many_le x.op
  have hmany := hxo.1
  have hop := many_range (op := x.op) (by omega)
  have hrl := hr.len
  obtain ⟨hk1, hk2⟩ := kids_kinds hkind
  have hgood : ∀ (i : Nat) k, x.kids[i]? = some k → Go.Vc.Good (kindF cols k).1 (valueF cols row k) := fun i k hi => typed hfits hfit _ k (Nat.le_refl _) (fun y hy => hno y (kid_node hi hy)) (runL_get hk1 hi).1
  apply rvalue_vc
  unfold rvalue_T
  intro b1 w2 h1 b4 w5 h4
  have H5 := (((Hold.start (Ext.rfl (w := w))).new h1).new h4).nilRow 26 3
  let fs : List (Nat × Obj) := [(b4, .cells #[.int .i64 0, .int .i64 0, .string ⟨#[]⟩] 26 (0, 0)), (b1, .cells #[.int .i64 x.op, .string x.name, .int .i64 x.v.k, .int .i64 x.v.n, .string x.v.s, .slice xp xn xc] 29 (0, 0))]
  have c5 : ∀ {W : World} {ms : List Row}, Hold w W fs ms → W.cell? ⟨b1, 5, none⟩ = some (.slice xp xn xc) := fun H => by rw [(H.blk 1 rfl).cell]; rfl
  refine ⟨fun q m d i W => ∃ j : Nat, i = (j : Int) ∧ m = j ∧ j ≤ xn ∧ (runL (valueF cols row) (x.kids.take j)).2 = 0 ∧ Hold w W fs [⟨26, 3, q, m, d, (runL (valueF cols row) (x.kids.take j)).1.flatMap Val.cs⟩], fun _ _ _ i _ => xn - i.toNat, ⟨0, rfl, rfl, Nat.zero_le _, rfl, H5⟩, ?_⟩
  rintro q m d i W ⟨j, rfl, rfl, hj, hrun, H⟩
  refine ⟨_, _, _, c5 H, fun hlt => ?_, fun hge => ?_⟩
  · have g : x.kids[m]? = some (x.kids[m]'(by omega)) := List.getElem?_eq_getElem _
    generalize x.kids[m]'(by omega) = k at g
    obtain ⟨kc, b, o, hk, hp, hcell⟩ := hkid H.ext g
    obtain ⟨kp, kn, kcap, hkc, _⟩ := hk.six
    simp only [Int.toNat_natCast]
    have e0 := hcell 0 _ (by rw [hkc]; rfl)
    have e1 := hcell 1 _ (by rw [hkc]; rfl)
    have e2 := hcell 2 _ (by rw [hkc]; rfl)
    have e3 := hcell 3 _ (by rw [hkc]; rfl)
    have e4 := hcell 4 _ (by rw [hkc]; rfl)
    have e5 := hcell 5 _ (by rw [hkc]; rfl)
    subst hkc
    refine ⟨_, _, _, c5 H, b, o, hp, by omega, by omega, _, e0, _, e1, _, e2, _, e3, _, e4, _, _, _, e5, (ih k (by have := kid_depth g; omega) (fun y hy => hno y (kid_node g hy)) (runL_get hk1 g).1 hfits hfit (hc.ext H.ext) (hr.ext H.ext) (hk.ext H.ext)).mono ?_⟩
    rintro e w33 ⟨rfl, e33⟩
    have H33 := H.step e33
    refine ⟨_, _, _, _, rfl, fun b38 w39 h38 => ?_⟩
    have H39 := H33.new h38
    obtain ⟨q0, q1, q2⟩ := (H39.blk 0 rfl).c3
    refine ⟨⟨_, q0⟩, (H39.blk 0 rfl).frozen _, ⟨_, q1⟩, (H39.blk 0 rfl).frozen _, ⟨_, q2⟩, (H39.blk 0 rfl).frozen _, fun w44 h44 => ?_⟩
    have H44 := H39.put 0 rfl h44
    have Bv : Blk w44 b38 26 #[.int .i64 (valueF cols row k).1.k, .int .i64 (valueF cols row k).1.n, .string (valueF cols row k).1.s] := H44.blk 0 rfl
    obtain ⟨v0, v1, v2⟩ := Bv.c3
    refine ⟨fun hne => H44.ret3 1 rfl _ _ _ fun W' hx => ⟨?_, hx⟩, fun he => ⟨_, v0, _, v1, _, v2, fun b59 w60 h59 => ?_⟩⟩
    · rw [valueF_eq cols row x, runL_stop g hrun hne, if_pos hne]; rfl
    · have hnx := runL_take (f := valueF cols row) g hrun
      rw [if_neg (by simpa using he)] at hnx
      have H60 := (H44.tail).step h59.ext
      obtain ⟨p', c', w65, hrn, H65⟩ := H60.append (ty := 23) (P := Tryd.prog) (q := some ⟨b59, 0, none⟩) (m := 1) (d' := 1) (news := (valueF cols row k).1.cs) 0 rfl undVals tyValue rfl (by decide) (Blk.new h59).at rfl (fun e => by cases e)
        (Val.cs_one _) (by show ((m + 1) + (m + 1) / 4 + 192) * 32 ≤ _; omega) (by show m + 1 ≤ 9223372036854775807; omega)
      refine ⟨p', m + 1, c', w65, hrn, ?_⟩
      rw [i64_next (by omega)]
      refine ⟨⟨m + 1, rfl, rfl, by omega, by rw [hnx], ?_⟩, by simp only [Int.toNat_natCast]; omega⟩
      rw [hnx]
      show Hold w w65 fs [⟨26, 3, p', m + 1, c', ((runL (valueF cols row) (x.kids.take m)).1 ++ [(valueF cols row k).1]).flatMap Val.cs⟩]
      rw [List.flatMap_append]
      have : [(valueF cols row k).1].flatMap Val.cs = (valueF cols row k).1.cs := by simp
      rw [this]
      exact H65
  · have hjn : m = xn := by omega
    subst hjn
    rw [List.take_of_length_le (by omega)] at hrun H
    have hlen := runL_len hrun
    have hlk := runL_len hk1
    have hrel : ∀ (i : Nat) g u, (runL (kindF cols) x.kids).1[i]? = some g → (runL (valueF cols row) x.kids).1[i]? = some u → GoodV g u := by
      intro i g u hg hu
      have hi : i < x.kids.length := by rw [← hlk]; exact (List.getElem?_eq_some_iff.1 hg).1
      have hki : x.kids[i]? = some x.kids[i] := List.getElem?_eq_getElem hi
      have e1 := runL_get hk1 hki
      have e2 := runL_get hrun hki
      rw [hg] at e1
      rw [hu] at e2
      have := hgood i _ hki
      cases e1.2
      cases e2.2
      rcases this with h | h
      · exact h.2
      · have := e2.1; omega
    obtain ⟨_, htrio, hcol⟩ := node_good (by rw [hlen]; exact hmany) (by omega) hxo.2.2.2 hxf hrel (by rw [← hk2]; exact hkind) hfits hfit
    have hfitL : ∀ (i : Nat) u, (runL (valueF cols row) x.kids).1[i]? = some u → u.Ok ∧ fitI u.n := by
      intro i u hu
      have hi : i < (runL (kindF cols) x.kids).1.length := by rw [hlk, ← hlen]; exact (List.getElem?_eq_some_iff.1 hu).1
      obtain ⟨a, b, _⟩ := hrel i _ u (List.getElem?_eq_getElem hi) hu
      exact ⟨a, b⟩
    generalize hL : (runL (valueF cols row) x.kids).1 = L at hlen H hfitL htrio
    have hvf : valueF cols row x = valueN cols row x.op x.name x.v L := by rw [valueF_eq, if_neg (by simpa using hrun), hL]
    have B1 : Blk W b1 29 #[.int .i64 x.op, .string x.name, .int .i64 x.v.k, .int .i64 x.v.n, .string x.v.s, .slice xp m xc] := H.blk 1 rfl
    obtain ⟨a0, a1, a2, a3, a4, a5⟩ := B1.c6
    have hvs : Vs W q m d L := (H.row 0 rfl).ls Val.cs_length (by decide)
    refine ⟨_, a0, fun h1 => ⟨_, a1, (r5find_ok (hc.ext H.ext) x.name).mono ?_⟩, fun h1 => ⟨_, a0, fun h2 => ⟨_, a2, _, a3, _, a4, H.ret3 0 rfl _ _ _ fun W' hx => ⟨?_, hx⟩⟩, fun h2 => ⟨fun htwo w102 h102 => ?_, fun htwo => ?_⟩⟩⟩
    · rintro e w71 ⟨rfl, e71⟩
      have H71 := H.step e71
      have hcol' := hcol h1
      have gu : row[(findC cols x.name).toNat]? = some (row[(findC cols x.name).toNat]'(by omega)) := List.getElem?_eq_getElem _
      generalize row[(findC cols x.name).toNat]'(by omega) = u at gu
      obtain ⟨b, o, hp, d0, d1, d2⟩ := (hr.ext H71.ext).val gu
      refine ⟨_, rfl, b, o, hp, hcol'.1, by omega, _, d0, _, d1, _, d2, H71.ret3 0 rfl _ _ _ fun W' hx => ⟨?_, hx⟩⟩
      rw [hvf]; unfold valueN; rw [if_pos h1, gu]; rfl
    · rw [hvf]; unfold valueN; rw [if_neg h1, if_pos h2]; rfl
    · have hl2 : L.length = 2 := by omega
      have H102 := H.step h102.ext
      have g0 : L[0]? = some (L.getD 0 nullV) := by rw [List.getD_eq_getElem?_getD, List.getElem?_eq_getElem (by omega : 0 < L.length)]; rfl
      have g1 : L[1]? = some (L.getD 1 nullV) := by rw [List.getD_eq_getElem?_getD, List.getElem?_eq_getElem (by omega : 1 < L.length)]; rfl
      obtain ⟨b, o, hp, d0, d1, d2⟩ := (hvs.ext h102.ext).val g0
      obtain ⟨b', o', hp', d0', d1', d2'⟩ := (hvs.ext h102.ext).val g1
      have hop2 : (3 ≤ x.op ∧ x.op ≤ 7) ∨ (9 ≤ x.op ∧ x.op ≤ 13) := by
        have hm2 : manyOf x.op = 2 := by omega
        unfold manyOf at hm2
        split at hm2
        · omega
        · split at hm2
          · omega
          · split at hm2 <;> omega
      refine ⟨_, cell_ext a0 h102.ext, b, o, hp, by omega, by omega, _, by simpa using d0, _, by simpa using d1, _, by simpa using d2, b', o', hp', by omega, by omega, _, by simpa using d0', _, by simpa using d1', _, by simpa using d2',
        (rtwo_ok x.op (L.getD 0 nullV) (L.getD 1 nullV) w102 hop2 (hfitL _ _ g0).1 (hfitL _ _ g1).1 (hfitL _ _ g0).2 (hfitL _ _ g1).2 (fun h => ⟨htrio h _ (List.mem_of_getElem? g0), htrio h _ (List.mem_of_getElem? g1)⟩)).mono ?_⟩
      rintro e w116 ⟨rfl, e116⟩
      refine ⟨_, _, _, _, rfl, (H102.step e116).ret3 0 rfl _ _ _ fun W' hx => ⟨?_, hx⟩⟩
      rw [hvf]; unfold valueN; rw [if_neg h1, if_neg h2, if_neg (by omega)]; rfl
    · have hl1 : L.length = 1 := by
        have : manyOf x.op ≠ 0 := by
          unfold manyOf; rw [if_neg (by omega)]
          split
          · omega
          · split <;> omega
        omega
      have hop1 : x.op = 8 ∨ x.op = 14 ∨ x.op = 15 ∨ x.op = 16 := by
        have hm1 : manyOf x.op = 1 := by omega
        unfold manyOf at hm1
        split at hm1
        · omega
        · split at hm1
          · assumption
          · split at hm1 <;> omega
      have g0 : L[0]? = some (L.getD 0 nullV) := by rw [List.getD_eq_getElem?_getD, List.getElem?_eq_getElem (by omega : 0 < L.length)]; rfl
      obtain ⟨hvok, hvfit⟩ := hfitL _ _ g0
      have hvf1 : valueF cols row x = singleF x.op (L.getD 0 nullV) := by rw [hvf]; unfold valueN; rw [if_neg h1, if_neg h2, if_pos hl1]
      obtain ⟨b, o, hp, d0, d1, d2⟩ := hvs.val g0
      generalize L.getD 0 nullV = v at hvok hvfit hvf1 d0 d1 d2
      refine ⟨_, a0, fun h15 => ⟨b, o, hp, by omega, by omega, _, by simpa using d0, (rtruth_ok _ W).mono ?_⟩, fun h15 => ⟨b, o, hp, by omega, by omega, _, by simpa using d0, fun hz => H.ret3 0 rfl _ _ _ fun W' hx => ⟨?_, hx⟩, fun hz => ⟨_, a0, fun h14 => ⟨b, o, hp, by omega, by omega, _, by simpa using d1, (rtruth_ok _ W).mono ?_⟩,
        fun h14 => ⟨_, a0, fun h16 => ⟨b, o, hp, by omega, by omega, _, by simpa using d2, (rnumber_ok _ W).mono ?_⟩, fun h16 => ⟨b, o, hp, by omega, by omega, _, by simpa using d1, (reckoned_ok (op := 4) (by omega) (by unfold fitI; decide) hvfit W).mono ?_⟩⟩⟩⟩⟩
      · rintro e w136 ⟨rfl, e136⟩
        refine ⟨_, _, _, rfl, (H.step e136).ret3 0 rfl _ _ _ fun W' hx => ⟨?_, hx⟩⟩
        rw [hvf1]; unfold singleF; rw [if_pos h15]; rfl
      · rw [hvf1]; unfold singleF; rw [if_neg h15, if_pos hz, ok_null hvok hz]; rfl
      · rintro e w136 ⟨rfl, e136⟩
        refine ⟨_, _, _, rfl, (H.step e136).ret3 0 rfl _ _ _ fun W' hx => ⟨?_, hx⟩⟩
        rw [hvf1]; unfold singleF; rw [if_neg h15, if_neg hz, if_pos h14]; rfl
      · rintro e w136 ⟨rfl, e136⟩
        refine ⟨_, _, _, rfl, (H.step e136).ret3 0 rfl _ _ _ fun W' hx => ⟨?_, hx⟩⟩
        rw [hvf1]; unfold singleF; rw [if_neg h15, if_neg hz, if_neg h14, if_pos h16]; rfl
      · rintro e w204 ⟨rfl, e204⟩
        have hsv : singleF x.op v = if (arithF 4 0 v.n).2 ≠ 0 then (nullV, (arithF 4 0 v.n).2) else (numV (arithF 4 0 v.n).1, 0) := by
          unfold singleF; rw [if_neg h15, if_neg hz, if_neg h14, if_neg h16]
          unfold pairF
          have hz' : ¬ ((numV 0).k = 0 ∨ v.k = 0) := by
            have : (numV 0).k = 1 := rfl
            omega
          rw [if_neg (by decide), if_neg (by decide), if_neg hz', if_neg (by decide), if_neg (by decide), if_neg (by decide)]; rfl
        refine ⟨_, _, rfl, fun hne => (H.step e204).ret3 0 rfl _ _ _ fun W' hx => ⟨?_, hx⟩, fun he => (rnumber_ok _ w204).mono ?_⟩
        · rw [hvf1, hsv, if_pos hne]; rfl
        · rintro e w218 ⟨rfl, e218⟩
          refine ⟨_, _, _, rfl, ((H.step e204).step e218).ret3 0 rfl _ _ _ fun W' hx => ⟨?_, hx⟩⟩
          rw [hvf1, hsv, if_neg (by simpa using he)]; rfl
end Go.Proofs.YtdephmdfdgclpaaDoor
