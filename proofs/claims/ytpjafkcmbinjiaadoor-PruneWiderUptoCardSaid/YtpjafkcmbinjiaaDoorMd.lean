/- Texts of the proof, one behind the other. -/
import Derived.Test.YtpjafkcmbinjiaaDoorMc
set_option linter.unusedVariables false
set_option linter.unusedSimpArgs false
/- The contracts of package prune: the answers. -/
namespace Go.Proofs.YtpjafkcmbinjiaaDoor
open Go Go.Vc Go.RowKit
set_option maxRecDepth 20000
attribute [local irreducible] Calls Put Drew New

theorem s3_make2 (a b c : Bool) : bits .or .i64 (bits .or .i64 (if a then 4 else 0) (if b then 1 else 0)) (if c then 2 else 0) = S3.i ⟨b, c, a⟩ := by
  cases a <;> cases b <;> cases c <;> decide +kernel
theorem s3_make3 (a b : Bool) : bits .or .i64 (if a then 2 else 0) (if b then 1 else 0) = S3.i ⟨b, a, false⟩ := by
  cases a <;> cases b <;> decide +kernel
theorem s3_own {v : Val} (hv : v.Ok) (hk : v.k = 2 ∨ v.k = 0) : bits .or .i64 (if decide (v.k = 0) = true then 4 else 0) (if decide (v.k = 2) = true then shlI .i64 1 v.n.toNat else 0) = (ownS v).i := by
  have hg : GoodV 2 v := ⟨hv, by unfold Val.Ok at hv; unfold fitI; omega, by omega⟩
  rcases three_truths hg with rfl | rfl | rfl <;> decide +kernel
set_option maxHeartbeats 8000000 in
theorem panswers_ok {cols : List Col} {zones : List Zn} {m : Int} (hzo : zonesL cols zones m = true) : ∀ (N : Nat) (x : Ex) {w : World} {p zp : Option Addr} {n c zn zc : Nat} {cs : List Value}, depthT x ≤ N → (∀ y ∈ nodesT x, NodeOk y) → (kindF cols x).2 = 0 → ((kindF cols x).1 = 2 ∨ (kindF cols x).1 = 0) →
    Cols w p n c cols → Zns w zp zn zc zones → ExAt w x cs →
    Calls Tryd.prog 23 #[.agg #[.slice p n c, .slice zp zn zc, .int .i64 m], .agg cs.toArray] w fun e w' => e = .returned (.int .i64 (ansF cols zones m x).i) ∧ Ext w w' := by
  intro N
  induction N with
  | zero => intro x w p zp n c zn zc cs hd; cases x; unfold depthT at hd; omega
  | succ N ih =>
  intro x w p zp n c zn zc cs hd hno hkind hkk hc hz hx
  have ho := hno x (self_node x)
  obtain ⟨hk1, hk2⟩ := kids_kinds hkind
  obtain ⟨xp, xn, xc, rfl, hkl, _⟩ := hx.six
  have hmany := ho.1
  have hsub : ∀ (i : Nat) k, x.kids[i]? = some k → (kindF cols k).2 = 0 ∧ depthT k ≤ N ∧ (∀ y ∈ nodesT k, NodeOk y) := fun i k hi => ⟨(runL_get hk1 hi).1, by have := kid_depth hi; omega, fun y hy => hno y (kid_node hi hy)⟩
  apply panswers_vc
  unfold panswers_T
  have H := Hold.start (Ext.rfl (w := w))
  repeat (first
    | (intro _ _ hS; replace H := H.new hS; clear hS)
    | (intro _ hS; (first | replace H := H.put 0 rfl hS | replace H := H.put 1 rfl hS | replace H := H.put 2 rfl hS | replace H := H.put 3 rfl hS | replace H := H.put 4 rfl hS | replace H := H.put 5 rfl hS | replace H := H.put 6 rfl hS | replace H := H.put 7 rfl hS); clear hS; try simp only [setA, List.setIfInBounds_toArray, List.set_cons_zero, List.set_cons_succ, Nat.zero_add, Nat.reduceAdd] at H)
    | (intro _ hS; replace H := H.step (Drew.ext hS); clear hS)
    | (first | refine ⟨⟨_, H.get 0 rfl rfl⟩, ?_⟩ | refine ⟨⟨_, H.get 1 rfl rfl⟩, ?_⟩ | refine ⟨⟨_, H.get 2 rfl rfl⟩, ?_⟩ | refine ⟨⟨_, H.get 3 rfl rfl⟩, ?_⟩ | refine ⟨⟨_, H.get 4 rfl rfl⟩, ?_⟩ | refine ⟨⟨_, H.get 5 rfl rfl⟩, ?_⟩ | refine ⟨⟨_, H.get 6 rfl rfl⟩, ?_⟩ | refine ⟨⟨_, H.get 7 rfl rfl⟩, ?_⟩)
    | (first | refine ⟨H.frz 0 rfl, ?_⟩ | refine ⟨H.frz 1 rfl, ?_⟩ | refine ⟨H.frz 2 rfl, ?_⟩ | refine ⟨H.frz 3 rfl, ?_⟩ | refine ⟨H.frz 4 rfl, ?_⟩ | refine ⟨H.frz 5 rfl, ?_⟩ | refine ⟨H.frz 6 rfl, ?_⟩ | refine ⟨H.frz 7 rfl, ?_⟩)
    | (first | refine ⟨_, H.get 0 rfl rfl, ?_⟩ | refine ⟨_, H.get 1 rfl rfl, ?_⟩ | refine ⟨_, H.get 2 rfl rfl, ?_⟩ | refine ⟨_, H.get 3 rfl rfl, ?_⟩ | refine ⟨_, H.get 4 rfl rfl, ?_⟩ | refine ⟨_, H.get 5 rfl rfl, ?_⟩ | refine ⟨_, H.get 6 rfl rfl, ?_⟩ | refine ⟨_, H.get 7 rfl rfl, ?_⟩)
    | (first | refine ⟨_, _, _, H.get 0 rfl rfl, ?_⟩ | refine ⟨_, _, _, H.get 1 rfl rfl, ?_⟩ | refine ⟨_, _, _, H.get 2 rfl rfl, ?_⟩ | refine ⟨_, _, _, H.get 3 rfl rfl, ?_⟩ | refine ⟨_, _, _, H.get 4 rfl rfl, ?_⟩ | refine ⟨_, _, _, H.get 5 rfl rfl, ?_⟩ | refine ⟨_, _, _, H.get 6 rfl rfl, ?_⟩ | refine ⟨_, _, _, H.get 7 rfl rfl, ?_⟩))
  rw [ansF_eq]
  unfold nodeS
  refine ⟨fun h2 => ?_, fun h2 => ?_⟩
  · have hvk : x.v.k = 2 ∨ x.v.k = 0 := by
      have : kindF cols x = (x.v.k, 0) := by
        rw [hk2]; unfold kindN
        rw [show wantOf x.op = 0 by rw [h2]; rfl, if_neg (by simp), if_neg (by omega), if_pos h2]
      rw [this] at hkk; exact hkk
    have hvn : 0 ≤ x.v.n := by have := ho.2.2.2; unfold Val.Ok at this; omega
    rw [if_pos h2]
    repeat (first
      | (intro _ _ hS; replace H := H.new hS; clear hS)
      | (intro _ hS; (first | replace H := H.put 0 rfl hS | replace H := H.put 1 rfl hS | replace H := H.put 2 rfl hS | replace H := H.put 3 rfl hS | replace H := H.put 4 rfl hS | replace H := H.put 5 rfl hS | replace H := H.put 6 rfl hS | replace H := H.put 7 rfl hS); clear hS; try simp only [setA, List.setIfInBounds_toArray, List.set_cons_zero, List.set_cons_succ, Nat.zero_add, Nat.reduceAdd] at H)
      | (intro _ hS; replace H := H.step (Drew.ext hS); clear hS)
      | (first | refine ⟨⟨_, H.get 0 rfl rfl⟩, ?_⟩ | refine ⟨⟨_, H.get 1 rfl rfl⟩, ?_⟩ | refine ⟨⟨_, H.get 2 rfl rfl⟩, ?_⟩ | refine ⟨⟨_, H.get 3 rfl rfl⟩, ?_⟩ | refine ⟨⟨_, H.get 4 rfl rfl⟩, ?_⟩ | refine ⟨⟨_, H.get 5 rfl rfl⟩, ?_⟩ | refine ⟨⟨_, H.get 6 rfl rfl⟩, ?_⟩ | refine ⟨⟨_, H.get 7 rfl rfl⟩, ?_⟩)
      | (first | refine ⟨H.frz 0 rfl, ?_⟩ | refine ⟨H.frz 1 rfl, ?_⟩ | refine ⟨H.frz 2 rfl, ?_⟩ | refine ⟨H.frz 3 rfl, ?_⟩ | refine ⟨H.frz 4 rfl, ?_⟩ | refine ⟨H.frz 5 rfl, ?_⟩ | refine ⟨H.frz 6 rfl, ?_⟩ | refine ⟨H.frz 7 rfl, ?_⟩)
      | (first | refine ⟨_, H.get 0 rfl rfl, ?_⟩ | refine ⟨_, H.get 1 rfl rfl, ?_⟩ | refine ⟨_, H.get 2 rfl rfl, ?_⟩ | refine ⟨_, H.get 3 rfl rfl, ?_⟩ | refine ⟨_, H.get 4 rfl rfl, ?_⟩ | refine ⟨_, H.get 5 rfl rfl, ?_⟩ | refine ⟨_, H.get 6 rfl rfl, ?_⟩ | refine ⟨_, H.get 7 rfl rfl, ?_⟩)
      | (first | refine ⟨_, _, _, H.get 0 rfl rfl, ?_⟩ | refine ⟨_, _, _, H.get 1 rfl rfl, ?_⟩ | refine ⟨_, _, _, H.get 2 rfl rfl, ?_⟩ | refine ⟨_, _, _, H.get 3 rfl rfl, ?_⟩ | refine ⟨_, _, _, H.get 4 rfl rfl, ?_⟩ | refine ⟨_, _, _, H.get 5 rfl rfl, ?_⟩ | refine ⟨_, _, _, H.get 6 rfl rfl, ?_⟩ | refine ⟨_, _, _, H.get 7 rfl rfl, ?_⟩))
    refine ⟨hvn, (pwhen_ok _ _ _).mono ?_⟩
    rintro e W ⟨rfl, eX⟩
    replace H := H.step eX
    refine ⟨_, rfl, eX.same, (pwhen_ok _ _ _).mono ?_⟩
    rintro e W ⟨rfl, eX⟩
    replace H := H.step eX
    exact ⟨_, rfl, by rw [← s3_own ho.2.2.2 hvk]; rfl, H.ext⟩
  rw [if_neg h2]
  refine ⟨fun h1 => ?_, fun h1 => ?_⟩
  · rw [if_pos h1]
    obtain ⟨col, hcol, _⟩ := col_node h1 ho hkind
    obtain ⟨z, hzi, hzok⟩ := zone_get hzo hcol
    rw [hzi]
    have hs : sideF cols zones m x = some ⟨decide (0 < z.nulls), decide (z.nulls < m), z.lo, z.hi⟩ := by unfold sideF; rw [if_neg h2, if_pos h1, hzi]; rfl
    repeat (first
      | (intro _ _ hS; replace H := H.new hS; clear hS)
      | (intro _ hS; (first | replace H := H.put 0 rfl hS | replace H := H.put 1 rfl hS | replace H := H.put 2 rfl hS | replace H := H.put 3 rfl hS | replace H := H.put 4 rfl hS | replace H := H.put 5 rfl hS | replace H := H.put 6 rfl hS | replace H := H.put 7 rfl hS); clear hS; try simp only [setA, List.setIfInBounds_toArray, List.set_cons_zero, List.set_cons_succ, Nat.zero_add, Nat.reduceAdd] at H)
      | (intro _ hS; replace H := H.step (Drew.ext hS); clear hS)
      | (first | refine ⟨⟨_, H.get 0 rfl rfl⟩, ?_⟩ | refine ⟨⟨_, H.get 1 rfl rfl⟩, ?_⟩ | refine ⟨⟨_, H.get 2 rfl rfl⟩, ?_⟩ | refine ⟨⟨_, H.get 3 rfl rfl⟩, ?_⟩ | refine ⟨⟨_, H.get 4 rfl rfl⟩, ?_⟩ | refine ⟨⟨_, H.get 5 rfl rfl⟩, ?_⟩ | refine ⟨⟨_, H.get 6 rfl rfl⟩, ?_⟩ | refine ⟨⟨_, H.get 7 rfl rfl⟩, ?_⟩)
      | (first | refine ⟨H.frz 0 rfl, ?_⟩ | refine ⟨H.frz 1 rfl, ?_⟩ | refine ⟨H.frz 2 rfl, ?_⟩ | refine ⟨H.frz 3 rfl, ?_⟩ | refine ⟨H.frz 4 rfl, ?_⟩ | refine ⟨H.frz 5 rfl, ?_⟩ | refine ⟨H.frz 6 rfl, ?_⟩ | refine ⟨H.frz 7 rfl, ?_⟩)
      | (first | refine ⟨_, H.get 0 rfl rfl, ?_⟩ | refine ⟨_, H.get 1 rfl rfl, ?_⟩ | refine ⟨_, H.get 2 rfl rfl, ?_⟩ | refine ⟨_, H.get 3 rfl rfl, ?_⟩ | refine ⟨_, H.get 4 rfl rfl, ?_⟩ | refine ⟨_, H.get 5 rfl rfl, ?_⟩ | refine ⟨_, H.get 6 rfl rfl, ?_⟩ | refine ⟨_, H.get 7 rfl rfl, ?_⟩)
      | (first | refine ⟨_, _, _, H.get 0 rfl rfl, ?_⟩ | refine ⟨_, _, _, H.get 1 rfl rfl, ?_⟩ | refine ⟨_, _, _, H.get 2 rfl rfl, ?_⟩ | refine ⟨_, _, _, H.get 3 rfl rfl, ?_⟩ | refine ⟨_, _, _, H.get 4 rfl rfl, ?_⟩ | refine ⟨_, _, _, H.get 5 rfl rfl, ?_⟩ | refine ⟨_, _, _, H.get 6 rfl rfl, ?_⟩ | refine ⟨_, _, _, H.get 7 rfl rfl, ?_⟩))
    refine (pside_ok (hc.ext H.ext) (hz.ext H.ext) hzo (hx.ext H.ext) ho hkind).mono ?_
    rintro e W ⟨lo, hi, nulls, k, rfl, hsd, eX⟩
    replace H := H.step eX
    obtain ⟨rfl, rfl, hn, hf, hle⟩ := hsd _ hs
    have hlt : nulls < k ↔ z.nulls < m := by
      have : decide (z.nulls < m) = decide (nulls ≠ k) := hf
      rw [decide_eq_decide] at this
      omega
    have hnn : decide (0 < nulls) = decide (0 < z.nulls) := hn.symm
    refine ⟨_, _, _, _, _, _, _, _, _, rfl, ?_⟩
    repeat (first
      | (intro _ _ hS; replace H := H.new hS; clear hS)
      | (intro _ hS; (first | replace H := H.put 0 rfl hS | replace H := H.put 1 rfl hS | replace H := H.put 2 rfl hS | replace H := H.put 3 rfl hS | replace H := H.put 4 rfl hS | replace H := H.put 5 rfl hS | replace H := H.put 6 rfl hS | replace H := H.put 7 rfl hS); clear hS; try simp only [setA, List.setIfInBounds_toArray, List.set_cons_zero, List.set_cons_succ, Nat.zero_add, Nat.reduceAdd] at H)
      | (intro _ hS; replace H := H.step (Drew.ext hS); clear hS)
      | (first | refine ⟨⟨_, H.get 0 rfl rfl⟩, ?_⟩ | refine ⟨⟨_, H.get 1 rfl rfl⟩, ?_⟩ | refine ⟨⟨_, H.get 2 rfl rfl⟩, ?_⟩ | refine ⟨⟨_, H.get 3 rfl rfl⟩, ?_⟩ | refine ⟨⟨_, H.get 4 rfl rfl⟩, ?_⟩ | refine ⟨⟨_, H.get 5 rfl rfl⟩, ?_⟩ | refine ⟨⟨_, H.get 6 rfl rfl⟩, ?_⟩ | refine ⟨⟨_, H.get 7 rfl rfl⟩, ?_⟩)
      | (first | refine ⟨H.frz 0 rfl, ?_⟩ | refine ⟨H.frz 1 rfl, ?_⟩ | refine ⟨H.frz 2 rfl, ?_⟩ | refine ⟨H.frz 3 rfl, ?_⟩ | refine ⟨H.frz 4 rfl, ?_⟩ | refine ⟨H.frz 5 rfl, ?_⟩ | refine ⟨H.frz 6 rfl, ?_⟩ | refine ⟨H.frz 7 rfl, ?_⟩)
      | (first | refine ⟨_, H.get 0 rfl rfl, ?_⟩ | refine ⟨_, H.get 1 rfl rfl, ?_⟩ | refine ⟨_, H.get 2 rfl rfl, ?_⟩ | refine ⟨_, H.get 3 rfl rfl, ?_⟩ | refine ⟨_, H.get 4 rfl rfl, ?_⟩ | refine ⟨_, H.get 5 rfl rfl, ?_⟩ | refine ⟨_, H.get 6 rfl rfl, ?_⟩ | refine ⟨_, H.get 7 rfl rfl, ?_⟩)
      | (first | refine ⟨_, _, _, H.get 0 rfl rfl, ?_⟩ | refine ⟨_, _, _, H.get 1 rfl rfl, ?_⟩ | refine ⟨_, _, _, H.get 2 rfl rfl, ?_⟩ | refine ⟨_, _, _, H.get 3 rfl rfl, ?_⟩ | refine ⟨_, _, _, H.get 4 rfl rfl, ?_⟩ | refine ⟨_, _, _, H.get 5 rfl rfl, ?_⟩ | refine ⟨_, _, _, H.get 6 rfl rfl, ?_⟩ | refine ⟨_, _, _, H.get 7 rfl rfl, ?_⟩))
    refine (pwhen_ok _ _ _).mono ?_
    rintro e W ⟨rfl, eX⟩
    replace H := H.step eX
    refine ⟨_, rfl, eX.same, ?_⟩
    repeat' (first
      | refine And.intro (fun hq => ?_) (fun hq => ?_)
      | (first | refine ⟨_, H.get 0 rfl rfl, ?_⟩)
      | (refine (pwhen_ok _ _ _).mono ?_
         rintro e W ⟨rfl, eX⟩
         replace H := H.step eX
         refine ⟨_, rfl, ?_⟩
         try refine And.intro eX.same ?_)
      | (refine And.intro ?_ H.ext))
    all_goals (first
      | (exfalso; omega)
      | (apply congrArg Ending.returned; apply congrArg (Value.int .i64)
         have e := s3_make2 (decide (0 < z.nulls)) (decide (z.nulls < m ∧ z.lo.n = 0)) (decide (z.nulls < m ∧ z.hi.n = 1))
         unfold colS
         rw [← e, ← hnn]
         by_cases hq1 : z.nulls < m
         · have := hlt.2 hq1
           first | (exfalso; omega) | simp [hq1]
         · have : ¬ nulls < k := fun h => hq1 (hlt.1 h)
           first | (exfalso; omega) | simp [hq1]))
  rw [if_neg h1]
  refine ⟨fun h14 => ?_, fun h14 => ?_⟩
  · rw [if_pos h14]
    have hlen : x.kids.length = 1 := by have : manyOf x.op = 1 := by rw [h14]; rfl
                                        omega
    have g0 : x.kids[0]? = some (x.kids[0]'(by omega)) := List.getElem?_eq_getElem _
    generalize x.kids[0]'(by omega) = k0 at g0
    obtain ⟨s1, s2, s3⟩ := hsub 0 k0 g0
    have e0 : (x.kids.map (ansF cols zones m)).getD 0 .all = ansF cols zones m k0 := by rw [List.getD_eq_getElem?_getD, List.getElem?_map, g0]; rfl
    rw [e0]
    repeat (first
      | (intro _ _ hS; replace H := H.new hS; clear hS)
      | (intro _ hS; (first | replace H := H.put 0 rfl hS | replace H := H.put 1 rfl hS | replace H := H.put 2 rfl hS | replace H := H.put 3 rfl hS | replace H := H.put 4 rfl hS | replace H := H.put 5 rfl hS | replace H := H.put 6 rfl hS | replace H := H.put 7 rfl hS); clear hS; try simp only [setA, List.setIfInBounds_toArray, List.set_cons_zero, List.set_cons_succ, Nat.zero_add, Nat.reduceAdd] at H)
      | (intro _ hS; replace H := H.step (Drew.ext hS); clear hS)
      | (first | refine ⟨⟨_, H.get 0 rfl rfl⟩, ?_⟩ | refine ⟨⟨_, H.get 1 rfl rfl⟩, ?_⟩ | refine ⟨⟨_, H.get 2 rfl rfl⟩, ?_⟩ | refine ⟨⟨_, H.get 3 rfl rfl⟩, ?_⟩ | refine ⟨⟨_, H.get 4 rfl rfl⟩, ?_⟩ | refine ⟨⟨_, H.get 5 rfl rfl⟩, ?_⟩ | refine ⟨⟨_, H.get 6 rfl rfl⟩, ?_⟩ | refine ⟨⟨_, H.get 7 rfl rfl⟩, ?_⟩)
      | (first | refine ⟨H.frz 0 rfl, ?_⟩ | refine ⟨H.frz 1 rfl, ?_⟩ | refine ⟨H.frz 2 rfl, ?_⟩ | refine ⟨H.frz 3 rfl, ?_⟩ | refine ⟨H.frz 4 rfl, ?_⟩ | refine ⟨H.frz 5 rfl, ?_⟩ | refine ⟨H.frz 6 rfl, ?_⟩ | refine ⟨H.frz 7 rfl, ?_⟩)
      | (first | refine ⟨_, H.get 0 rfl rfl, ?_⟩ | refine ⟨_, H.get 1 rfl rfl, ?_⟩ | refine ⟨_, H.get 2 rfl rfl, ?_⟩ | refine ⟨_, H.get 3 rfl rfl, ?_⟩ | refine ⟨_, H.get 4 rfl rfl, ?_⟩ | refine ⟨_, H.get 5 rfl rfl, ?_⟩ | refine ⟨_, H.get 6 rfl rfl, ?_⟩ | refine ⟨_, H.get 7 rfl rfl, ?_⟩)
      | (first | refine ⟨_, _, _, H.get 0 rfl rfl, ?_⟩ | refine ⟨_, _, _, H.get 1 rfl rfl, ?_⟩ | refine ⟨_, _, _, H.get 2 rfl rfl, ?_⟩ | refine ⟨_, _, _, H.get 3 rfl rfl, ?_⟩ | refine ⟨_, _, _, H.get 4 rfl rfl, ?_⟩ | refine ⟨_, _, _, H.get 5 rfl rfl, ?_⟩ | refine ⟨_, _, _, H.get 6 rfl rfl, ?_⟩ | refine ⟨_, _, _, H.get 7 rfl rfl, ?_⟩))
    obtain ⟨b, o, kp, kn, kc, hp, hi, hk, hcell⟩ := (hx.ext H.ext).kid g0
    obtain ⟨c0, c1, c2, c3, c4, c5⟩ := hcell Ext.rfl
    refine ⟨b, o, hp, by omega, by omega, _, by simpa using c0, _, by simpa using c1, _, by simpa using c2, _, by simpa using c3, _, by simpa using c4, _, _, _, by simpa using c5, ?_⟩
    refine (ih k0 s2 s3 s1 (kid_kind (by omega) hkind g0) (hc.ext H.ext) (hz.ext H.ext) hk).mono ?_
    rintro e W ⟨rfl, eX⟩
    replace H := H.step eX
    refine ⟨_, rfl, (pnot_ok _ _).mono ?_⟩
    rintro e W ⟨rfl, eX⟩
    exact ⟨_, rfl, rfl, (H.step eX).ext⟩
  rw [if_neg h14]
  have htwo : x.op = 12 ∨ x.op = 13 ∨ x.op = 9 ∨ x.op = 10 ∨ x.op = 11 → x.kids.length = 2 := by
    intro h
    have : manyOf x.op = 2 := by unfold manyOf; rw [if_neg (by omega), if_neg (by omega), if_pos (by omega)]
    omega
  refine ⟨fun h12 => ?_, fun h12 => ?_⟩
  · rw [if_pos h12]
    have hlen := htwo (by omega)
    have g0 : x.kids[0]? = some (x.kids[0]'(by omega)) := List.getElem?_eq_getElem _
    have g1 : x.kids[1]? = some (x.kids[1]'(by omega)) := List.getElem?_eq_getElem _
    generalize x.kids[0]'(by omega) = k0 at g0
    generalize x.kids[1]'(by omega) = k1 at g1
    obtain ⟨s1, s2, s3⟩ := hsub 0 k0 g0
    obtain ⟨t1, t2, t3⟩ := hsub 1 k1 g1
    have e0 : (x.kids.map (ansF cols zones m)).getD 0 .all = ansF cols zones m k0 := by rw [List.getD_eq_getElem?_getD, List.getElem?_map, g0]; rfl
    have e1 : (x.kids.map (ansF cols zones m)).getD 1 .all = ansF cols zones m k1 := by rw [List.getD_eq_getElem?_getD, List.getElem?_map, g1]; rfl
    rw [e0, e1]
    repeat (first
      | (intro _ _ hS; replace H := H.new hS; clear hS)
      | (intro _ hS; (first | replace H := H.put 0 rfl hS | replace H := H.put 1 rfl hS | replace H := H.put 2 rfl hS | replace H := H.put 3 rfl hS | replace H := H.put 4 rfl hS | replace H := H.put 5 rfl hS | replace H := H.put 6 rfl hS | replace H := H.put 7 rfl hS); clear hS; try simp only [setA, List.setIfInBounds_toArray, List.set_cons_zero, List.set_cons_succ, Nat.zero_add, Nat.reduceAdd] at H)
      | (intro _ hS; replace H := H.step (Drew.ext hS); clear hS)
      | (first | refine ⟨⟨_, H.get 0 rfl rfl⟩, ?_⟩ | refine ⟨⟨_, H.get 1 rfl rfl⟩, ?_⟩ | refine ⟨⟨_, H.get 2 rfl rfl⟩, ?_⟩ | refine ⟨⟨_, H.get 3 rfl rfl⟩, ?_⟩ | refine ⟨⟨_, H.get 4 rfl rfl⟩, ?_⟩ | refine ⟨⟨_, H.get 5 rfl rfl⟩, ?_⟩ | refine ⟨⟨_, H.get 6 rfl rfl⟩, ?_⟩ | refine ⟨⟨_, H.get 7 rfl rfl⟩, ?_⟩)
      | (first | refine ⟨H.frz 0 rfl, ?_⟩ | refine ⟨H.frz 1 rfl, ?_⟩ | refine ⟨H.frz 2 rfl, ?_⟩ | refine ⟨H.frz 3 rfl, ?_⟩ | refine ⟨H.frz 4 rfl, ?_⟩ | refine ⟨H.frz 5 rfl, ?_⟩ | refine ⟨H.frz 6 rfl, ?_⟩ | refine ⟨H.frz 7 rfl, ?_⟩)
      | (first | refine ⟨_, H.get 0 rfl rfl, ?_⟩ | refine ⟨_, H.get 1 rfl rfl, ?_⟩ | refine ⟨_, H.get 2 rfl rfl, ?_⟩ | refine ⟨_, H.get 3 rfl rfl, ?_⟩ | refine ⟨_, H.get 4 rfl rfl, ?_⟩ | refine ⟨_, H.get 5 rfl rfl, ?_⟩ | refine ⟨_, H.get 6 rfl rfl, ?_⟩ | refine ⟨_, H.get 7 rfl rfl, ?_⟩)
      | (first | refine ⟨_, _, _, H.get 0 rfl rfl, ?_⟩ | refine ⟨_, _, _, H.get 1 rfl rfl, ?_⟩ | refine ⟨_, _, _, H.get 2 rfl rfl, ?_⟩ | refine ⟨_, _, _, H.get 3 rfl rfl, ?_⟩ | refine ⟨_, _, _, H.get 4 rfl rfl, ?_⟩ | refine ⟨_, _, _, H.get 5 rfl rfl, ?_⟩ | refine ⟨_, _, _, H.get 6 rfl rfl, ?_⟩ | refine ⟨_, _, _, H.get 7 rfl rfl, ?_⟩))
    obtain ⟨b, o, kp, kn, kc, hp, hi, hk, hcell⟩ := (hx.ext H.ext).kid g0
    obtain ⟨c0, c1, c2, c3, c4, c5⟩ := hcell Ext.rfl
    refine ⟨b, o, hp, by omega, by omega, _, by simpa using c0, _, by simpa using c1, _, by simpa using c2, _, by simpa using c3, _, by simpa using c4, _, _, _, by simpa using c5, ?_⟩
    repeat (first
      | (intro _ _ hS; replace H := H.new hS; clear hS)
      | (intro _ hS; (first | replace H := H.put 0 rfl hS | replace H := H.put 1 rfl hS | replace H := H.put 2 rfl hS | replace H := H.put 3 rfl hS | replace H := H.put 4 rfl hS | replace H := H.put 5 rfl hS | replace H := H.put 6 rfl hS | replace H := H.put 7 rfl hS); clear hS; try simp only [setA, List.setIfInBounds_toArray, List.set_cons_zero, List.set_cons_succ, Nat.zero_add, Nat.reduceAdd] at H)
      | (intro _ hS; replace H := H.step (Drew.ext hS); clear hS)
      | (first | refine ⟨⟨_, H.get 0 rfl rfl⟩, ?_⟩ | refine ⟨⟨_, H.get 1 rfl rfl⟩, ?_⟩ | refine ⟨⟨_, H.get 2 rfl rfl⟩, ?_⟩ | refine ⟨⟨_, H.get 3 rfl rfl⟩, ?_⟩ | refine ⟨⟨_, H.get 4 rfl rfl⟩, ?_⟩ | refine ⟨⟨_, H.get 5 rfl rfl⟩, ?_⟩ | refine ⟨⟨_, H.get 6 rfl rfl⟩, ?_⟩ | refine ⟨⟨_, H.get 7 rfl rfl⟩, ?_⟩)
      | (first | refine ⟨H.frz 0 rfl, ?_⟩ | refine ⟨H.frz 1 rfl, ?_⟩ | refine ⟨H.frz 2 rfl, ?_⟩ | refine ⟨H.frz 3 rfl, ?_⟩ | refine ⟨H.frz 4 rfl, ?_⟩ | refine ⟨H.frz 5 rfl, ?_⟩ | refine ⟨H.frz 6 rfl, ?_⟩ | refine ⟨H.frz 7 rfl, ?_⟩)
      | (first | refine ⟨_, H.get 0 rfl rfl, ?_⟩ | refine ⟨_, H.get 1 rfl rfl, ?_⟩ | refine ⟨_, H.get 2 rfl rfl, ?_⟩ | refine ⟨_, H.get 3 rfl rfl, ?_⟩ | refine ⟨_, H.get 4 rfl rfl, ?_⟩ | refine ⟨_, H.get 5 rfl rfl, ?_⟩ | refine ⟨_, H.get 6 rfl rfl, ?_⟩ | refine ⟨_, H.get 7 rfl rfl, ?_⟩)
      | (first | refine ⟨_, _, _, H.get 0 rfl rfl, ?_⟩ | refine ⟨_, _, _, H.get 1 rfl rfl, ?_⟩ | refine ⟨_, _, _, H.get 2 rfl rfl, ?_⟩ | refine ⟨_, _, _, H.get 3 rfl rfl, ?_⟩ | refine ⟨_, _, _, H.get 4 rfl rfl, ?_⟩ | refine ⟨_, _, _, H.get 5 rfl rfl, ?_⟩ | refine ⟨_, _, _, H.get 6 rfl rfl, ?_⟩ | refine ⟨_, _, _, H.get 7 rfl rfl, ?_⟩))
    obtain ⟨b', o', lp, ln, lc, hp', hi', hl, hcell'⟩ := (hx.ext H.ext).kid g1
    obtain ⟨d0, d1, d2, d3, d4, d5⟩ := hcell' Ext.rfl
    refine ⟨b', o', hp', by omega, by omega, _, by simpa using d0, _, by simpa using d1, _, by simpa using d2, _, by simpa using d3, _, by simpa using d4, _, _, _, by simpa using d5, ?_⟩
    refine (ih k0 s2 s3 s1 (kid_kind (by omega) hkind g0) (hc.ext H.ext) (hz.ext H.ext) hk).mono ?_
    rintro e W ⟨rfl, eX⟩
    replace H := H.step eX
    refine ⟨_, rfl, eX.same, (ih k1 t2 t3 t1 (kid_kind (by omega) hkind g1) (hc.ext H.ext) (hz.ext H.ext) (hl.ext eX)).mono ?_⟩
    rintro e W ⟨rfl, eX⟩
    replace H := H.step eX
    refine ⟨_, rfl, (pboth_ok _ _ _).mono ?_⟩
    rintro e W ⟨rfl, eX⟩
    exact ⟨_, rfl, rfl, (H.step eX).ext⟩
  rw [if_neg h12]
  refine ⟨fun h13 => ?_, fun h13 => ?_⟩
  · rw [if_pos h13]
    have hlen := htwo (by omega)
    have g0 : x.kids[0]? = some (x.kids[0]'(by omega)) := List.getElem?_eq_getElem _
    have g1 : x.kids[1]? = some (x.kids[1]'(by omega)) := List.getElem?_eq_getElem _
    generalize x.kids[0]'(by omega) = k0 at g0
    generalize x.kids[1]'(by omega) = k1 at g1
    obtain ⟨s1, s2, s3⟩ := hsub 0 k0 g0
    obtain ⟨t1, t2, t3⟩ := hsub 1 k1 g1
    have e0 : (x.kids.map (ansF cols zones m)).getD 0 .all = ansF cols zones m k0 := by rw [List.getD_eq_getElem?_getD, List.getElem?_map, g0]; rfl
    have e1 : (x.kids.map (ansF cols zones m)).getD 1 .all = ansF cols zones m k1 := by rw [List.getD_eq_getElem?_getD, List.getElem?_map, g1]; rfl
    rw [e0, e1]
    repeat (first
      | (intro _ _ hS; replace H := H.new hS; clear hS)
      | (intro _ hS; (first | replace H := H.put 0 rfl hS | replace H := H.put 1 rfl hS | replace H := H.put 2 rfl hS | replace H := H.put 3 rfl hS | replace H := H.put 4 rfl hS | replace H := H.put 5 rfl hS | replace H := H.put 6 rfl hS | replace H := H.put 7 rfl hS); clear hS; try simp only [setA, List.setIfInBounds_toArray, List.set_cons_zero, List.set_cons_succ, Nat.zero_add, Nat.reduceAdd] at H)
      | (intro _ hS; replace H := H.step (Drew.ext hS); clear hS)
      | (first | refine ⟨⟨_, H.get 0 rfl rfl⟩, ?_⟩ | refine ⟨⟨_, H.get 1 rfl rfl⟩, ?_⟩ | refine ⟨⟨_, H.get 2 rfl rfl⟩, ?_⟩ | refine ⟨⟨_, H.get 3 rfl rfl⟩, ?_⟩ | refine ⟨⟨_, H.get 4 rfl rfl⟩, ?_⟩ | refine ⟨⟨_, H.get 5 rfl rfl⟩, ?_⟩ | refine ⟨⟨_, H.get 6 rfl rfl⟩, ?_⟩ | refine ⟨⟨_, H.get 7 rfl rfl⟩, ?_⟩)
      | (first | refine ⟨H.frz 0 rfl, ?_⟩ | refine ⟨H.frz 1 rfl, ?_⟩ | refine ⟨H.frz 2 rfl, ?_⟩ | refine ⟨H.frz 3 rfl, ?_⟩ | refine ⟨H.frz 4 rfl, ?_⟩ | refine ⟨H.frz 5 rfl, ?_⟩ | refine ⟨H.frz 6 rfl, ?_⟩ | refine ⟨H.frz 7 rfl, ?_⟩)
      | (first | refine ⟨_, H.get 0 rfl rfl, ?_⟩ | refine ⟨_, H.get 1 rfl rfl, ?_⟩ | refine ⟨_, H.get 2 rfl rfl, ?_⟩ | refine ⟨_, H.get 3 rfl rfl, ?_⟩ | refine ⟨_, H.get 4 rfl rfl, ?_⟩ | refine ⟨_, H.get 5 rfl rfl, ?_⟩ | refine ⟨_, H.get 6 rfl rfl, ?_⟩ | refine ⟨_, H.get 7 rfl rfl, ?_⟩)
      | (first | refine ⟨_, _, _, H.get 0 rfl rfl, ?_⟩ | refine ⟨_, _, _, H.get 1 rfl rfl, ?_⟩ | refine ⟨_, _, _, H.get 2 rfl rfl, ?_⟩ | refine ⟨_, _, _, H.get 3 rfl rfl, ?_⟩ | refine ⟨_, _, _, H.get 4 rfl rfl, ?_⟩ | refine ⟨_, _, _, H.get 5 rfl rfl, ?_⟩ | refine ⟨_, _, _, H.get 6 rfl rfl, ?_⟩ | refine ⟨_, _, _, H.get 7 rfl rfl, ?_⟩))
    obtain ⟨b, o, kp, kn, kc, hp, hi, hk, hcell⟩ := (hx.ext H.ext).kid g0
    obtain ⟨c0, c1, c2, c3, c4, c5⟩ := hcell Ext.rfl
    refine ⟨b, o, hp, by omega, by omega, _, by simpa using c0, _, by simpa using c1, _, by simpa using c2, _, by simpa using c3, _, by simpa using c4, _, _, _, by simpa using c5, ?_⟩
    repeat (first
      | (intro _ _ hS; replace H := H.new hS; clear hS)
      | (intro _ hS; (first | replace H := H.put 0 rfl hS | replace H := H.put 1 rfl hS | replace H := H.put 2 rfl hS | replace H := H.put 3 rfl hS | replace H := H.put 4 rfl hS | replace H := H.put 5 rfl hS | replace H := H.put 6 rfl hS | replace H := H.put 7 rfl hS); clear hS; try simp only [setA, List.setIfInBounds_toArray, List.set_cons_zero, List.set_cons_succ, Nat.zero_add, Nat.reduceAdd] at H)
      | (intro _ hS; replace H := H.step (Drew.ext hS); clear hS)
      | (first | refine ⟨⟨_, H.get 0 rfl rfl⟩, ?_⟩ | refine ⟨⟨_, H.get 1 rfl rfl⟩, ?_⟩ | refine ⟨⟨_, H.get 2 rfl rfl⟩, ?_⟩ | refine ⟨⟨_, H.get 3 rfl rfl⟩, ?_⟩ | refine ⟨⟨_, H.get 4 rfl rfl⟩, ?_⟩ | refine ⟨⟨_, H.get 5 rfl rfl⟩, ?_⟩ | refine ⟨⟨_, H.get 6 rfl rfl⟩, ?_⟩ | refine ⟨⟨_, H.get 7 rfl rfl⟩, ?_⟩)
      | (first | refine ⟨H.frz 0 rfl, ?_⟩ | refine ⟨H.frz 1 rfl, ?_⟩ | refine ⟨H.frz 2 rfl, ?_⟩ | refine ⟨H.frz 3 rfl, ?_⟩ | refine ⟨H.frz 4 rfl, ?_⟩ | refine ⟨H.frz 5 rfl, ?_⟩ | refine ⟨H.frz 6 rfl, ?_⟩ | refine ⟨H.frz 7 rfl, ?_⟩)
      | (first | refine ⟨_, H.get 0 rfl rfl, ?_⟩ | refine ⟨_, H.get 1 rfl rfl, ?_⟩ | refine ⟨_, H.get 2 rfl rfl, ?_⟩ | refine ⟨_, H.get 3 rfl rfl, ?_⟩ | refine ⟨_, H.get 4 rfl rfl, ?_⟩ | refine ⟨_, H.get 5 rfl rfl, ?_⟩ | refine ⟨_, H.get 6 rfl rfl, ?_⟩ | refine ⟨_, H.get 7 rfl rfl, ?_⟩)
      | (first | refine ⟨_, _, _, H.get 0 rfl rfl, ?_⟩ | refine ⟨_, _, _, H.get 1 rfl rfl, ?_⟩ | refine ⟨_, _, _, H.get 2 rfl rfl, ?_⟩ | refine ⟨_, _, _, H.get 3 rfl rfl, ?_⟩ | refine ⟨_, _, _, H.get 4 rfl rfl, ?_⟩ | refine ⟨_, _, _, H.get 5 rfl rfl, ?_⟩ | refine ⟨_, _, _, H.get 6 rfl rfl, ?_⟩ | refine ⟨_, _, _, H.get 7 rfl rfl, ?_⟩))
    obtain ⟨b', o', lp, ln, lc, hp', hi', hl, hcell'⟩ := (hx.ext H.ext).kid g1
    obtain ⟨d0, d1, d2, d3, d4, d5⟩ := hcell' Ext.rfl
    refine ⟨b', o', hp', by omega, by omega, _, by simpa using d0, _, by simpa using d1, _, by simpa using d2, _, by simpa using d3, _, by simpa using d4, _, _, _, by simpa using d5, ?_⟩
    refine (ih k0 s2 s3 s1 (kid_kind (by omega) hkind g0) (hc.ext H.ext) (hz.ext H.ext) hk).mono ?_
    rintro e W ⟨rfl, eX⟩
    replace H := H.step eX
    have hl := hl.ext eX
    refine ⟨_, rfl, eX.same, (pnot_ok _ _).mono ?_⟩
    rintro e W ⟨rfl, eX⟩
    replace H := H.step eX
    refine ⟨_, rfl, eX.same, (ih k1 t2 t3 t1 (kid_kind (by omega) hkind g1) (hc.ext H.ext) (hz.ext H.ext) (hl.ext eX)).mono ?_⟩
    rintro e W ⟨rfl, eX⟩
    replace H := H.step eX
    refine ⟨_, rfl, (pnot_ok _ _).mono ?_⟩
    rintro e W ⟨rfl, eX⟩
    replace H := H.step eX
    refine ⟨_, rfl, (pboth_ok _ _ _).mono ?_⟩
    rintro e W ⟨rfl, eX⟩
    replace H := H.step eX
    refine ⟨_, rfl, (pnot_ok _ _).mono ?_⟩
    rintro e W ⟨rfl, eX⟩
    exact ⟨_, rfl, rfl, (H.step eX).ext⟩
  rw [if_neg h13]
  refine ⟨fun h15 => ?_, fun h15 => ?_⟩
  · rw [if_pos h15]
    have hlen : x.kids.length = 1 := by have : manyOf x.op = 1 := by rw [h15]; rfl
                                        omega
    have g0 : x.kids[0]? = some (x.kids[0]'(by omega)) := List.getElem?_eq_getElem _
    generalize x.kids[0]'(by omega) = k0 at g0
    obtain ⟨b0, o0, kp0, kn0, kc0, hp0, hi0, hx0, hcell0⟩ := hx.kid g0
    rw [g0, Option.bind_some]
    repeat' (first
    | (refine And.intro ?_ (fun _ _ hS => ?_)
       rotate_left
       have eX := hS.ext; replace H := H.new hS
       (try refine And.intro eX.same ?_)
       rotate_left)
    | (refine And.intro (fun hq => ?_) (fun hq => ?_) <;> (try (exfalso; omega)))
    | (intro _ _ hS
       have eX := hS.ext; replace H := H.new hS
       (try refine And.intro eX.same ?_))
    | (intro _ hS
       (first | replace H := H.put 0 rfl hS | replace H := H.put 1 rfl hS | replace H := H.put 2 rfl hS)
       clear hS
       try simp only [setA, List.setIfInBounds_toArray, List.set_cons_zero, List.set_cons_succ, Nat.zero_add, Nat.reduceAdd] at H)
    | (intro _ hS; replace H := H.step (Drew.ext hS); clear hS)
    | (first | refine ⟨⟨_, H.get 0 rfl rfl⟩, ?_⟩ | refine ⟨⟨_, H.get 1 rfl rfl⟩, ?_⟩)
    | (first | refine ⟨H.frz 0 rfl, ?_⟩ | refine ⟨H.frz 1 rfl, ?_⟩)
    | (first | refine ⟨_, H.get 0 rfl rfl, ?_⟩ | refine ⟨_, H.get 1 rfl rfl, ?_⟩ | refine ⟨_, H.get 2 rfl rfl, ?_⟩ | refine ⟨_, H.get 3 rfl rfl, ?_⟩)
    | (first | refine ⟨_, _, _, H.get 0 rfl rfl, ?_⟩ | refine ⟨_, _, _, H.get 1 rfl rfl, ?_⟩ | refine ⟨_, _, _, H.get 2 rfl rfl, ?_⟩ | refine ⟨_, _, _, H.get 3 rfl rfl, ?_⟩)
    | (obtain ⟨c0, c1, c2, c3, c4, c5⟩ := hcell0 H.ext
       refine ⟨b0, o0, hp0, by omega, by omega, _, by simpa using c0, _, by simpa using c1, _, by simpa using c2, _, by simpa using c3, _, by simpa using c4, _, _, _, by simpa using c5, ?_⟩)
    | (refine (pside_ok (x := k0) (hc.ext H.ext) (hz.ext H.ext) hzo (hx0.ext H.ext) (hno k0 (kid_node g0 (self_node k0))) (hsub 0 k0 g0).1).mono ?_
       rintro e W ⟨lo0, hi0, nu0, m0, rfl, hsd0, eX⟩
       replace H := H.step eX
       refine ⟨_, _, _, _, _, _, _, _, _, rfl, ?_⟩
       (try refine And.intro eX.same ?_))
    | (refine (pwhen_ok _ _ _).mono ?_
       rintro e W ⟨rfl, eX⟩
       replace H := H.step eX
       refine ⟨_, rfl, ?_⟩
       try refine And.intro eX.same ?_)
    | (refine And.intro ?_ H.ext))
    all_goals (first
      | (obtain ⟨s, hs⟩ := Option.isSome_iff_exists.1 hq
         obtain ⟨rfl, rfl, hn, hf, hle⟩ := hsd0 s hs
         apply congrArg Ending.returned; apply congrArg (Value.int .i64)
         rw [hs]
         show _ = S3.i ⟨s.full, s.null, false⟩
         rw [← s3_make3, hn, hf]
         have : decide (nu0 < m0) = decide (nu0 ≠ m0) := by rw [decide_eq_decide]; omega
         rw [this]; rfl)
      | (have hs : sideF cols zones m k0 = none := by
           cases h : sideF cols zones m k0 with
           | none => rfl
           | some s => rw [h] at hq; cases hq
         rw [hs]; rfl))
  rw [if_neg h15]
  by_cases hcmp : x.op = 9 ∨ x.op = 10 ∨ x.op = 11
  · rw [if_pos hcmp]
    have hlen := htwo (by omega)
    have g0 : x.kids[0]? = some (x.kids[0]'(by omega)) := List.getElem?_eq_getElem _
    have g1 : x.kids[1]? = some (x.kids[1]'(by omega)) := List.getElem?_eq_getElem _
    generalize x.kids[0]'(by omega) = k0 at g0
    generalize x.kids[1]'(by omega) = k1 at g1
    obtain ⟨b0, o0, kp0, kn0, kc0, hp0, hi0, hx0, hcell0⟩ := hx.kid g0
    obtain ⟨b1, o1, kp1, kn1, kc1, hp1, hi1, hx1, hcell1⟩ := hx.kid g1
    rw [g0, g1, Option.bind_some, Option.bind_some]
    repeat' (first
    | (refine And.intro ?_ (fun _ _ hS => ?_)
       rotate_left
       have eX := hS.ext; replace H := H.new hS
       (try refine And.intro eX.same ?_)
       rotate_left)
    | (refine And.intro (fun hq => ?_) (fun hq => ?_) <;> (try (exfalso; omega)))
    | (intro _ _ hS
       have eX := hS.ext; replace H := H.new hS
       (try refine And.intro eX.same ?_))
    | (intro _ hS
       (first | replace H := H.put 0 rfl hS | replace H := H.put 1 rfl hS | replace H := H.put 2 rfl hS)
       clear hS
       try simp only [setA, List.setIfInBounds_toArray, List.set_cons_zero, List.set_cons_succ, Nat.zero_add, Nat.reduceAdd] at H)
    | (intro _ hS; replace H := H.step (Drew.ext hS); clear hS)
    | (first | refine ⟨⟨_, H.get 0 rfl rfl⟩, ?_⟩ | refine ⟨⟨_, H.get 1 rfl rfl⟩, ?_⟩)
    | (first | refine ⟨H.frz 0 rfl, ?_⟩ | refine ⟨H.frz 1 rfl, ?_⟩)
    | (first | refine ⟨_, H.get 0 rfl rfl, ?_⟩ | refine ⟨_, H.get 1 rfl rfl, ?_⟩ | refine ⟨_, H.get 2 rfl rfl, ?_⟩ | refine ⟨_, H.get 3 rfl rfl, ?_⟩)
    | (first | refine ⟨_, _, _, H.get 0 rfl rfl, ?_⟩ | refine ⟨_, _, _, H.get 1 rfl rfl, ?_⟩ | refine ⟨_, _, _, H.get 2 rfl rfl, ?_⟩ | refine ⟨_, _, _, H.get 3 rfl rfl, ?_⟩)
    | (obtain ⟨c0, c1, c2, c3, c4, c5⟩ := hcell0 H.ext
       refine ⟨b0, o0, hp0, by omega, by omega, _, by simpa using c0, _, by simpa using c1, _, by simpa using c2, _, by simpa using c3, _, by simpa using c4, _, _, _, by simpa using c5, ?_⟩)
    | (obtain ⟨c0, c1, c2, c3, c4, c5⟩ := hcell1 H.ext
       refine ⟨b1, o1, hp1, by omega, by omega, _, by simpa using c0, _, by simpa using c1, _, by simpa using c2, _, by simpa using c3, _, by simpa using c4, _, _, _, by simpa using c5, ?_⟩)
    | (refine (pside_ok (x := k0) (hc.ext H.ext) (hz.ext H.ext) hzo (hx0.ext H.ext) (hno k0 (kid_node g0 (self_node k0))) (hsub 0 k0 g0).1).mono ?_
       rintro e W ⟨lo0, hi0, nu0, m0, rfl, hsd0, eX⟩
       replace H := H.step eX
       refine ⟨_, _, _, _, _, _, _, _, _, rfl, ?_⟩
       (try refine And.intro eX.same ?_))
    | (refine (pside_ok (x := k1) (hc.ext H.ext) (hz.ext H.ext) hzo (hx1.ext H.ext) (hno k1 (kid_node g1 (self_node k1))) (hsub 1 k1 g1).1).mono ?_
       rintro e W ⟨lo1, hi1, nu1, m1, rfl, hsd1, eX⟩
       replace H := H.step eX
       refine ⟨_, _, _, _, _, _, _, _, _, rfl, ?_⟩
       (try refine And.intro eX.same ?_))
    | (obtain ⟨s0, hs0⟩ := Option.isSome_iff_exists.1 hq.1
       obtain ⟨s1, hs1⟩ := Option.isSome_iff_exists.1 hq.2
       refine (pcompared_ok (op := x.op) (hsd0 s0 hs0) (hsd1 s1 hs1) _).mono ?_
       rintro e W ⟨rfl, eX⟩
       replace H := H.step eX
       refine ⟨_, rfl, ?_, H.ext⟩
       rw [hs0, hs1])
    | (refine And.intro ?_ H.ext))
    all_goals (
      cases h0 : sideF cols zones m k0 with
      | none => rfl
      | some s0 =>
        cases h1 : sideF cols zones m k1 with
        | none => rfl
        | some s1 => rw [h0, h1] at hq; simp at hq)
  · rw [if_neg hcmp]
    repeat' (first
    | (refine And.intro (fun hq => ?_) (fun hq => ?_) <;> (try (exfalso; omega)))
    | (refine And.intro ?_ H.ext))
    all_goals rfl
end Go.Proofs.YtpjafkcmbinjiaaDoor

/- The verification conditions of the functions, evaluated: printed by program. -/
namespace Go.Proofs.YtpjafkcmbinjiaaDoor
open Go Go.Vc
set_option maxRecDepth 20000

end Go.Proofs.YtpjafkcmbinjiaaDoor

/- The verification conditions of the functions, evaluated: printed by program. -/
namespace Go.Proofs.YtpjafkcmbinjiaaDoor
open Go Go.Vc
set_option maxRecDepth 20000

set_option maxRecDepth 100000 in
def nodes_T (x0 : Int) (x1 : ByteArray) (x2 : Int) (x3 : Int) (x4 : ByteArray) (x5_p : Option Addr) (x5_n : Nat) (x5_c : Nat) (depth : Int) (w : World) (R : Ending → World → Prop) : Prop :=
  ∀ b1 w'2, New w (Obj.cells #[.int .i64 x0, .string x1, .int .i64 x2, .int .i64 x3, .string x4, .slice x5_p x5_n x5_c] 28) b1
 w'2 → ∀ b4 w'5, New w'2 (Obj.cells #[.int .i64 depth] 3) b4 w'5 → R (.returned (.func (Fn.func 80) #[] #[.pointer (some ⟨b4, 0, none⟩), .pointer (some ⟨b1, 0, none⟩)])) w'5

set_option maxRecDepth 100000 in
theorem nodes_eq (x0 : Int) (x1 : ByteArray) (x2 : Int) (x3 : Int) (x4 : ByteArray) (x5_p : Option Addr) (x5_n : Nat) (x5_c : Nat) (depth : Int) (w : World) (R : Ending → World → Prop) : nodes_T x0 x1 x2 x3 x4 x5_p x5_n x5_c depth w R = vcFn Tryd.prog [] [] Tryd.f59 [Value.agg
 #[.int .i64 x0, .string x1, .int .i64 x2, .int .i64 x3, .string x4, .slice x5_p x5_n x5_c], .int .i64 depth] w R := by kernel_rfl

set_option maxRecDepth 100000 in
theorem nodes_vc (x0 : Int) (x1 : ByteArray) (x2 : Int) (x3 : Int) (x4 : ByteArray) (x5_p : Option Addr) (x5_n : Nat) (x5_c : Nat) (depth : Int) (w : World) (R : Ending → World → Prop) (h : nodes_T x0 x1 x2 x3 x4 x5_p x5_n x5_c depth w R) : Calls Tryd.prog 59 #[Value.agg
 #[.int .i64 x0, .string x1, .int .i64 x2, .int .i64 x3, .string x4, .slice x5_p x5_n x5_c], .int .i64 depth] w R :=
  calls_of_vc (args := [Value.agg
 #[.int .i64 x0, .string x1, .int .i64 x2, .int .i64 x3, .string x4, .slice x5_p x5_n x5_c], .int .i64 depth]) [] [] Tryd.mixed Tryd.func59 (cast (nodes_eq _ _ _ _ _ _ _ _ _ w R) h)

set_option maxRecDepth 100000 in
def nodes1_T (l0 : Nat) (fv0 : Nat) (fv1 : Nat) (w : World) (R : Ending → World → Prop) : Prop :=
  ∀ b1 w'2, New w (Obj.cells #[.func (Fn.yield l0) #[] #[]] 123) b1 w'2 → ∃ v4, w'2.cell? ⟨b1, 0, none⟩ = some v4 ∧ ∃ n5, w'2.cell? ⟨fv0, 0, none⟩ = some (.int .i64 n5) ∧ ∃ n6, w'2.cell? ⟨fv1, 0, none⟩ = some (.int .i64 n6) ∧ ∃ s7, w'2.cell? ⟨fv1, 1, none⟩ = some (.string s7) ∧ ∃ n8, w'2.cell? ⟨fv1, 2, none⟩ = some (.int .i64 n8) ∧ ∃ n9, w'2.cell? ⟨fv1, 3, none⟩ = some (.int .i64 n9) ∧ ∃ s10, w'2.cell? ⟨fv1, 4, none⟩ = some (.string s10) ∧ ∃ p11 n12 c13, w'2.cell? ⟨fv1, 5, none⟩ = some (.slice p11 n12 c13) ∧ ∃ l14, v4 = .func (Fn.yield l14) #[] #[] ∧ Yield Tryd.prog l14
 #[.int .i64 n5, .agg #[.int .i64 n6, .string s7, .int .i64 n8, .int .i64 n9, .string s10, .slice p11 n12 c13]]
 w'2 fun (b15 : Bool) (w16 : World) ↦
 (b15 = false → R (.returned (.tuple #[])) w16) ∧ (b15 = true → ∃ n19, w16.cell? ⟨fv0, 0, none⟩ = some (.int .i64 n19) ∧ (40 < n19 → R (.returned (.tuple #[])) w16) ∧ (n19 ≤ 40 → ∃ p22 n23 c24, w16.cell? ⟨fv1, 5, none⟩ = some (.slice p22 n23 c24) ∧ ∃ (I25 : Int → World → Prop), ∃ (M26 : Int → World → Nat), ∃ B27, I25 0 w16 ∧ Vc.Open B27 [] w16 ∧ ∀ (n28 : Int) (w'29 : World), I25 n28 w'29 → ∀ (ds'31 : List Nat), Vc.Open B27 ds'31 w'29 → (n28 < (↑n23 : Int) → ∃ b34, ∃ o35, p22 = some ⟨b34, o35, none⟩ ∧ 0 ≤ n28 ∧ n28 < (↑n23 : Int) ∧ ∃ n36, w'29.cell? ⟨b34, (o35 + n28.toNat * 6), none⟩ = some (.int .i64 n36) ∧ ∃ s37, w'29.cell? ⟨b34, (o35 + n28.toNat * 6 + 1), none⟩ = some (.string s37) ∧ ∃ n38, w'29.cell? ⟨b34, (o35 + n28.toNat * 6 + 2), none⟩ = some (.int .i64 n38) ∧ ∃ n39, w'29.cell? ⟨b34, (o35 + n28.toNat * 6 + 3), none⟩ = some (.int .i64 n39) ∧ ∃ s40, w'29.cell? ⟨b34, (o35 + n28.toNat * 6 + 4), none⟩ = some (.string s40) ∧ ∃ p41 n42 c43, w'29.cell? ⟨b34, (o35 + n28.toNat * 6 + 5), none⟩ = some (.slice p41 n42 c43) ∧ ∀ b44 w'45, New w'29
 (Obj.cells
 #[.int .i64 0, .string ⟨#[]⟩, .int .i64 0, .int .i64 0, .string ⟨#[]⟩, .slice none 0 0] 28)
 b44 w'45 → (∃ u47, w'45.cell? ⟨b44, 0, none⟩ = some u47) ∧ w'45.frozen? ⟨b44, 0, none⟩ = false ∧ (∃ u48, w'45.cell? ⟨b44, 1, none⟩ = some u48) ∧ w'45.frozen? ⟨b44, 1, none⟩ = false ∧ (∃ u49, w'45.cell? ⟨b44, 2, none⟩ = some u49) ∧ w'45.frozen? ⟨b44, 2, none⟩ = false ∧ (∃ u50, w'45.cell? ⟨b44, 3, none⟩ = some u50) ∧ w'45.frozen? ⟨b44, 3, none⟩ = false ∧ (∃ u51, w'45.cell? ⟨b44, 4, none⟩ = some u51) ∧ w'45.frozen? ⟨b44, 4, none⟩ = false ∧ (∃ u52, w'45.cell? ⟨b44, 5, none⟩ = some u52) ∧ w'45.frozen? ⟨b44, 5, none⟩ = false ∧ ∀ w'53, Put w'45 b44 0 [.int .i64 n36, .string s37, .int .i64 n38, .int .i64 n39, .string s40, .slice p41 n42 c43] w'53 → ∃ n55, w'53.cell? ⟨b44, 0, none⟩ = some (.int .i64 n55) ∧ ∃ s56, w'53.cell? ⟨b44, 1, none⟩ = some (.string s56) ∧ ∃ n57, w'53.cell? ⟨b44, 2, none⟩ = some (.int .i64 n57) ∧ ∃ n58, w'53.cell? ⟨b44, 3, none⟩ = some (.int .i64 n58) ∧ ∃ s59, w'53.cell? ⟨b44, 4, none⟩ = some (.string s59) ∧ ∃ p60 n61 c62, w'53.cell? ⟨b44, 5, none⟩ = some (.slice p60 n61 c62) ∧ ∃ n63, w'53.cell? ⟨fv0, 0, none⟩ = some (.int .i64 n63) ∧ Calls Tryd.prog 59
 #[.agg #[.int .i64 n55, .string s56, .int .i64 n57, .int .i64 n58, .string s59, .slice p60 n61 c62], .int .i64 (IntKind.i64.wrap (n63 + 1))]
 w'53 fun e64 w65 ↦
 ∃ v66, e64 = .returned v66 ∧ ∃ (g67 : FuncId), ∃ (lb68 : Array Value), v66 = .func (Fn.func g67) #[] lb68 ∧ enterable Tryd.prog g67 = true ∧ ∀ (r69 : Nat → Loop) (d70 l71 : Nat) (w172 : World), Began w65 r69 d70 l71 w172 → (∀ (n74 n75 : Int) (s76 : ByteArray) (n77 n78 : Int) (s79 : ByteArray) (p80 : Option Addr) (n81 c82 : Nat) (W83 : World) (R84 : Bool → World → Prop), Rec r69 l71 0 W83 → (∀ b86 w'87, New W83
 (Obj.cells
 #[.int .i64 0, .string ⟨#[]⟩, .int .i64 0, .int .i64 0, .string ⟨#[]⟩, .slice none 0 0] 28)
 b86 w'87 → (∃ u89, w'87.cell? ⟨b86, 0, none⟩ = some u89) ∧ w'87.frozen? ⟨b86, 0, none⟩ = false ∧ (∃ u90, w'87.cell? ⟨b86, 1, none⟩ = some u90) ∧ w'87.frozen? ⟨b86, 1, none⟩ = false ∧ (∃ u91, w'87.cell? ⟨b86, 2, none⟩ = some u91) ∧ w'87.frozen? ⟨b86, 2, none⟩ = false ∧ (∃ u92, w'87.cell? ⟨b86, 3, none⟩ = some u92) ∧ w'87.frozen? ⟨b86, 3, none⟩ = false ∧ (∃ u93, w'87.cell? ⟨b86, 4, none⟩ = some u93) ∧ w'87.frozen? ⟨b86, 4, none⟩ = false ∧ (∃ u94, w'87.cell? ⟨b86, 5, none⟩ = some u94) ∧ w'87.frozen? ⟨b86, 5, none⟩ = false ∧ ∀ w'95, Put w'87 b86 0 [.int .i64 n75, .string s76, .int .i64 n77, .int .i64 n78, .string s79, .slice p80 n81 c82] w'95 → Rec r69 l71 0 w'95 ∧ ∀ (Wb97 : World), Wb97 = turn r69 l71 1 w'95 → ∃ v99, Wb97.cell? ⟨b1, 0, none⟩ = some v99 ∧ ∃ n100, Wb97.cell? ⟨b86, 0, none⟩ = some (.int .i64 n100) ∧ ∃ s101, Wb97.cell? ⟨b86, 1, none⟩ = some (.string s101) ∧ ∃ n102, Wb97.cell? ⟨b86, 2, none⟩ = some (.int .i64 n102) ∧ ∃ n103, Wb97.cell? ⟨b86, 3, none⟩ = some (.int .i64 n103) ∧ ∃ s104, Wb97.cell? ⟨b86, 4, none⟩ = some (.string s104) ∧ ∃ p105 n106 c107, Wb97.cell? ⟨b86, 5, none⟩ = some (.slice p105 n106 c107) ∧ ∃ l108, v99 = .func (Fn.yield l108) #[] #[] ∧ Yield Tryd.prog l108
 #[.int .i64 n74, .agg #[.int .i64 n100, .string s101, .int .i64 n102, .int .i64 n103, .string s104, .slice p105 n106 c107]]
 Wb97 fun (b109 : Bool) (w110 : World) ↦
 (b109 = false → Rec r69 l71 1 w110 ∧ R84 false (turn r69 l71 3 w110)) ∧ (b109 = true → Rec r69 l71 1 w110 ∧ R84 true (turn r69 l71 0 w110))) → Yield Tryd.prog l71
 #[.int .i64 n74, .agg #[.int .i64 n75, .string s76, .int .i64 n77, .int .i64 n78, .string s79, .slice p80 n81 c82]]
 W83 fun (b114 : Bool) (w115 : World) ↦ R84 b114 w115) → Calls Tryd.prog g67 (.func (Fn.yield l71) #[] #[] :: lb68.1).toArray w172 fun e117 w118 ↦
 (∃ v119, e117 = .returned v119) ∧ (Rec r69 l71 0 w118 ∧ Vc.Open B27 (d70 :: ds'31) (turn r69 l71 2 w118) ∧ I25 (IntKind.i64.wrap (n28 + 1)) (turn r69 l71 2 w118) ∧ M26 (IntKind.i64.wrap (n28 + 1)) (turn r69 l71 2 w118) < M26 n28 w'29 ∨
 (Rec r69 l71 3 w118 ∧ (turn r69 l71 4 w118).heap[d70]? = some (Obj.deferred (some [])) ∧ unD ds'31 ((turn r69 l71 4 w118).putObj d70 (Obj.deferred none)) fun (w122 : World) ↦ R (.returned (.tuple #[])) w122) ∨
 False)) ∧ ((↑n23 : Int) ≤ n28 → unD ds'31 w'29 fun (w124 : World) ↦ R (.returned (.tuple #[])) w124)))

set_option maxRecDepth 100000 in
theorem nodes1_eq (l0 : Nat) (fv0 : Nat) (fv1 : Nat) (w : World) (R : Ending → World → Prop) : nodes1_T l0 fv0 fv1 w R = vcFn Tryd.prog [] [] Tryd.f80 [.func (Fn.yield l0) #[] #[], .pointer (some ⟨fv0, 0, none⟩), .pointer (some ⟨fv1, 0, none⟩)] w R := by kernel_rfl

set_option maxRecDepth 100000 in
theorem nodes1_vc (l0 : Nat) (fv0 : Nat) (fv1 : Nat) (w : World) (R : Ending → World → Prop) (h : nodes1_T l0 fv0 fv1 w R) : Calls Tryd.prog 80 #[.func (Fn.yield l0) #[] #[], .pointer (some ⟨fv0, 0, none⟩), .pointer (some ⟨fv1, 0, none⟩)] w R :=
  calls_of_vc (args := [.func (Fn.yield l0) #[] #[], .pointer (some ⟨fv0, 0, none⟩), .pointer (some ⟨fv1, 0, none⟩)]) [] [] Tryd.mixed Tryd.func80 (cast (nodes1_eq _ _ _ w R) h)

set_option maxRecDepth 100000 in
def xformed_T (x0 : Int) (x1 : ByteArray) (x2 : Int) (x3 : Int) (x4 : ByteArray) (x5_p : Option Addr) (x5_n : Nat) (x5_c : Nat) (w : World) (R : Ending → World → Prop) : Prop :=
  ∀ b1 w'2, New w (Obj.cells #[.int .i64 x0, .string x1, .int .i64 x2, .int .i64 x3, .string x4, .slice x5_p x5_n x5_c] 28) b1
 w'2 → ∀ b4 w'5, New w'2 (Obj.cells #[.bool false] 4) b4 w'5 → ∀ b7 w'8, New w'5 (Obj.cells #[.int .i64 0] 3) b7 w'8 → (∃ u10, w'8.cell? ⟨b7, 0, none⟩ = some u10) ∧ w'8.frozen? ⟨b7, 0, none⟩ = false ∧ ∀ w'11, Put w'8 b7 0 [.int .i64 0] w'11 → ∃ n13, w'11.cell? ⟨b1, 0, none⟩ = some (.int .i64 n13) ∧ ∃ s14, w'11.cell? ⟨b1, 1, none⟩ = some (.string s14) ∧ ∃ n15, w'11.cell? ⟨b1, 2, none⟩ = some (.int .i64 n15) ∧ ∃ n16, w'11.cell? ⟨b1, 3, none⟩ = some (.int .i64 n16) ∧ ∃ s17, w'11.cell? ⟨b1, 4, none⟩ = some (.string s17) ∧ ∃ p18 n19 c20, w'11.cell? ⟨b1, 5, none⟩ = some (.slice p18 n19 c20) ∧ Calls Tryd.prog 59
 #[.agg #[.int .i64 n13, .string s14, .int .i64 n15, .int .i64 n16, .string s17, .slice p18 n19 c20], .int .i64 1]
 w'11 fun e21 w22 ↦
 ∃ v23, e21 = .returned v23 ∧ ∃ (g24 : FuncId), ∃ (lb25 : Array Value), v23 = .func (Fn.func g24) #[] lb25 ∧ enterable Tryd.prog g24 = true ∧ ∀ (r26 : Nat → Loop) (d27 l28 : Nat) (w129 : World), Began w22 r26 d27 l28 w129 → (∀ (n31 n32 : Int) (s33 : ByteArray) (n34 n35 : Int) (s36 : ByteArray) (p37 : Option Addr) (n38 c39 : Nat) (W40 : World) (R41 : Bool → World → Prop), Rec r26 l28 0 W40 → (∀ b43 w'44, New W40
 (Obj.cells
 #[.int .i64 0, .string ⟨#[]⟩, .int .i64 0, .int .i64 0, .string ⟨#[]⟩, .slice none 0 0] 28)
 b43 w'44 → (∃ u46, w'44.cell? ⟨b43, 0, none⟩ = some u46) ∧ w'44.frozen? ⟨b43, 0, none⟩ = false ∧ (∃ u47, w'44.cell? ⟨b43, 1, none⟩ = some u47) ∧ w'44.frozen? ⟨b43, 1, none⟩ = false ∧ (∃ u48, w'44.cell? ⟨b43, 2, none⟩ = some u48) ∧ w'44.frozen? ⟨b43, 2, none⟩ = false ∧ (∃ u49, w'44.cell? ⟨b43, 3, none⟩ = some u49) ∧ w'44.frozen? ⟨b43, 3, none⟩ = false ∧ (∃ u50, w'44.cell? ⟨b43, 4, none⟩ = some u50) ∧ w'44.frozen? ⟨b43, 4, none⟩ = false ∧ (∃ u51, w'44.cell? ⟨b43, 5, none⟩ = some u51) ∧ w'44.frozen? ⟨b43, 5, none⟩ = false ∧ ∀ w'52, Put w'44 b43 0 [.int .i64 n32, .string s33, .int .i64 n34, .int .i64 n35, .string s36, .slice p37 n38 c39] w'52 → Rec r26 l28 0 w'52 ∧ ∀ (Wb54 : World), Wb54 = turn r26 l28 1 w'52 → ∃ n56, Wb54.cell? ⟨b7, 0, none⟩ = some (.int .i64 n56) ∧ (∃ u57, Wb54.cell? ⟨b7, 0, none⟩ = some u57) ∧ Wb54.frozen? ⟨b7, 0, none⟩ = false ∧ ∀ w'58, Put Wb54 b7 0 [.int .i64 (IntKind.i64.wrap (n56 + 1))] w'58 → ∀ w'60, Drew w'58 w'60 → (40 < n31 → (∃ u63, w'60.cell? ⟨b4, 0, none⟩ = some u63) ∧ w'60.frozen? ⟨b4, 0, none⟩ = false ∧ ∀ w'64, Put w'60 b4 0 [.bool false] w'64 → Rec r26 l28 1 w'64 ∧ R41 false (turn r26 l28 3 w'64)) ∧ (n31 ≤ 40 → ∃ n67, w'60.cell? ⟨b7, 0, none⟩ = some (.int .i64 n67) ∧ (400 < n67 → (∃ u69, w'60.cell? ⟨b4, 0, none⟩ = some u69) ∧ w'60.frozen? ⟨b4, 0, none⟩ = false ∧ ∀ w'70, Put w'60 b4 0 [.bool false] w'70 → Rec r26 l28 1 w'70 ∧ R41 false (turn r26 l28 3 w'70)) ∧ (n67 ≤ 400 → ∃ n73, w'60.cell? ⟨b43, 0, none⟩ = some (.int .i64 n73) ∧ (n73 < 1 → (∃ u75, w'60.cell? ⟨b4, 0, none⟩ = some u75) ∧ w'60.frozen? ⟨b4, 0, none⟩ = false ∧ ∀ w'76, Put w'60 b4 0 [.bool false] w'76 → Rec r26 l28 1 w'76 ∧ R41 false (turn r26 l28 3 w'76)) ∧ (1 ≤ n73 → ∃ n79, w'60.cell? ⟨b43, 0, none⟩ = some (.int .i64 n79) ∧ (17 ≤ n79 → (∃ u81, w'60.cell? ⟨b4, 0, none⟩ = some u81) ∧ w'60.frozen? ⟨b4, 0, none⟩ = false ∧ ∀ w'82, Put w'60 b4 0 [.bool false] w'82 → Rec r26 l28 1 w'82 ∧ R41 false (turn r26 l28 3 w'82)) ∧ (n79 < 17 → ∃ p85 n86 c87, w'60.cell? ⟨b43, 5, none⟩ = some (.slice p85 n86 c87) ∧ ∃ n88, w'60.cell? ⟨b43, 0, none⟩ = some (.int .i64 n88) ∧ 0 ≤ n88 ∧ n88 < 17 ∧ ∃ n89, w'60.cell? ⟨0, (0 + n88.toNat * 3), none⟩ = some (.int .i64 n89) ∧ ((↑n86 : Int) ≠ n89 → (∃ u91, w'60.cell? ⟨b4, 0, none⟩ = some u91) ∧ w'60.frozen? ⟨b4, 0, none⟩ = false ∧ ∀ w'92, Put w'60 b4 0 [.bool false] w'92 → Rec r26 l28 1 w'92 ∧ R41 false (turn r26 l28 3 w'92)) ∧ ((↑n86 : Int) = n89 → ∃ n95, w'60.cell? ⟨b43, 0, none⟩ = some (.int .i64 n95) ∧ (n95 ≠ 1 → ∃ s97, w'60.cell? ⟨b43, 1, none⟩ = some (.string s97) ∧ (s97 ≠ ByteArray.mk #[] → (∃ u99, w'60.cell? ⟨b4, 0, none⟩ = some u99) ∧ w'60.frozen? ⟨b4, 0, none⟩ = false ∧ ∀ w'100, Put w'60 b4 0 [.bool false] w'100 → Rec r26 l28 1 w'100 ∧ R41 false (turn r26 l28 3 w'100)) ∧ (s97 = ByteArray.mk #[] → ∃ n103, w'60.cell? ⟨b43, 0, none⟩ = some (.int .i64 n103) ∧ (n103 ≠ 2 → ∃ n105, w'60.cell? ⟨b43, 2, none⟩ = some (.int .i64 n105) ∧ ∃ n106, w'60.cell? ⟨b43, 3, none⟩ = some (.int .i64 n106) ∧ ∃ s107, w'60.cell? ⟨b43, 4, none⟩ = some (.string s107) ∧ (n105 ≠ 0 ∨ n106 ≠ 0 ∨ s107 ≠ ByteArray.mk #[] → (∃ u109, w'60.cell? ⟨b4, 0, none⟩ = some u109) ∧ w'60.frozen? ⟨b4, 0, none⟩ = false ∧ ∀ w'110, Put w'60 b4 0 [.bool false] w'110 → Rec r26 l28 1 w'110 ∧ R41 false (turn r26 l28 3 w'110)) ∧ (n105 = 0 ∧ n106 = 0 ∧ s107 = ByteArray.mk #[] → ∃ n113, w'60.cell? ⟨b43, 2, none⟩ = some (.int .i64 n113) ∧ ∃ n114, w'60.cell? ⟨b43, 3, none⟩ = some (.int .i64 n114) ∧ ∃ s115, w'60.cell? ⟨b43, 4, none⟩ = some (.string s115) ∧ Calls Tryd.prog 38 #[.agg #[.int .i64 n113, .int .i64 n114, .string s115]] w'60 fun e116 w117 ↦
 ∃ b118, e116 = .returned (.bool b118) ∧ (b118 = false → (∃ u120, w117.cell? ⟨b4, 0, none⟩ = some u120) ∧ w117.frozen? ⟨b4, 0, none⟩ = false ∧ ∀ w'121, Put w117 b4 0 [.bool false] w'121 → Rec r26 l28 1 w'121 ∧ R41 false (turn r26 l28 3 w'121)) ∧ (b118 = true → Rec r26 l28 1 w117 ∧ R41 true (turn r26 l28 0 w117)))) ∧ (n103 = 2 → ∃ n125, w'60.cell? ⟨b43, 2, none⟩ = some (.int .i64 n125) ∧ ∃ n126, w'60.cell? ⟨b43, 3, none⟩ = some (.int .i64 n126) ∧ ∃ s127, w'60.cell? ⟨b43, 4, none⟩ = some (.string s127) ∧ Calls Tryd.prog 38 #[.agg #[.int .i64 n125, .int .i64 n126, .string s127]] w'60 fun e128 w129 ↦
 ∃ b130, e128 = .returned (.bool b130) ∧ (b130 = false → (∃ u132, w129.cell? ⟨b4, 0, none⟩ = some u132) ∧ w129.frozen? ⟨b4, 0, none⟩ = false ∧ ∀ w'133, Put w129 b4 0 [.bool false] w'133 → Rec r26 l28 1 w'133 ∧ R41 false (turn r26 l28 3 w'133)) ∧ (b130 = true → Rec r26 l28 1 w129 ∧ R41 true (turn r26 l28 0 w129))))) ∧ (n95 = 1 → ∃ n137, w'60.cell? ⟨b43, 0, none⟩ = some (.int .i64 n137) ∧ (n137 ≠ 2 → ∃ n139, w'60.cell? ⟨b43, 2, none⟩ = some (.int .i64 n139) ∧ ∃ n140, w'60.cell? ⟨b43, 3, none⟩ = some (.int .i64 n140) ∧ ∃ s141, w'60.cell? ⟨b43, 4, none⟩ = some (.string s141) ∧ (n139 ≠ 0 ∨ n140 ≠ 0 ∨ s141 ≠ ByteArray.mk #[] → (∃ u143, w'60.cell? ⟨b4, 0, none⟩ = some u143) ∧ w'60.frozen? ⟨b4, 0, none⟩ = false ∧ ∀ w'144, Put w'60 b4 0 [.bool false] w'144 → Rec r26 l28 1 w'144 ∧ R41 false (turn r26 l28 3 w'144)) ∧ (n139 = 0 ∧ n140 = 0 ∧ s141 = ByteArray.mk #[] → ∃ n147, w'60.cell? ⟨b43, 2, none⟩ = some (.int .i64 n147) ∧ ∃ n148, w'60.cell? ⟨b43, 3, none⟩ = some (.int .i64 n148) ∧ ∃ s149, w'60.cell? ⟨b43, 4, none⟩ = some (.string s149) ∧ Calls Tryd.prog 38 #[.agg #[.int .i64 n147, .int .i64 n148, .string s149]] w'60 fun e150 w151 ↦
 ∃ b152, e150 = .returned (.bool b152) ∧ (b152 = false → (∃ u154, w151.cell? ⟨b4, 0, none⟩ = some u154) ∧ w151.frozen? ⟨b4, 0, none⟩ = false ∧ ∀ w'155, Put w151 b4 0 [.bool false] w'155 → Rec r26 l28 1 w'155 ∧ R41 false (turn r26 l28 3 w'155)) ∧ (b152 = true → Rec r26 l28 1 w151 ∧ R41 true (turn r26 l28 0 w151)))) ∧ (n137 = 2 → ∃ n159, w'60.cell? ⟨b43, 2, none⟩ = some (.int .i64 n159) ∧ ∃ n160, w'60.cell? ⟨b43, 3, none⟩ = some (.int .i64 n160) ∧ ∃ s161, w'60.cell? ⟨b43, 4, none⟩ = some (.string s161) ∧ Calls Tryd.prog 38 #[.agg #[.int .i64 n159, .int .i64 n160, .string s161]] w'60 fun e162 w163 ↦
 ∃ b164, e162 = .returned (.bool b164) ∧ (b164 = false → (∃ u166, w163.cell? ⟨b4, 0, none⟩ = some u166) ∧ w163.frozen? ⟨b4, 0, none⟩ = false ∧ ∀ w'167, Put w163 b4 0 [.bool false] w'167 → Rec r26 l28 1 w'167 ∧ R41 false (turn r26 l28 3 w'167)) ∧ (b164 = true → Rec r26 l28 1 w163 ∧ R41 true (turn r26 l28 0 w163)))))))))) → Yield Tryd.prog l28
 #[.int .i64 n31, .agg #[.int .i64 n32, .string s33, .int .i64 n34, .int .i64 n35, .string s36, .slice p37 n38 c39]]
 W40 fun (b171 : Bool) (w172 : World) ↦ R41 b171 w172) → Calls Tryd.prog g24 (.func (Fn.yield l28) #[] #[] :: lb25.1).toArray w129 fun e174 w175 ↦
 (∃ v176, e174 = .returned v176) ∧ ((Rec r26 l28 0 w175 ∧ (∃ u177, (turn r26 l28 2 w175).cell? ⟨b4, 0, none⟩ = some u177) ∧ (turn r26 l28 2 w175).frozen? ⟨b4, 0, none⟩ = false ∧ ∀ w'178, Put (turn r26 l28 2 w175) b4 0 [.bool true] w'178 → w'178.heap[d27]? = some (Obj.deferred (some [])) ∧ ∃ b182, (w'178.putObj d27 (Obj.deferred none)).cell? ⟨b4, 0, none⟩ = some (.bool b182) ∧ R (.returned (.bool b182)) (w'178.putObj d27 (Obj.deferred none))) ∨
 (Rec r26 l28 3 w175 ∧ (turn r26 l28 4 w175).heap[d27]? = some (Obj.deferred (some [])) ∧ ∃ b185, ((turn r26 l28 4 w175).putObj d27 (Obj.deferred none)).cell? ⟨b4, 0, none⟩ = some (.bool b185) ∧ R (.returned (.bool b185)) ((turn r26 l28 4 w175).putObj d27 (Obj.deferred none))) ∨
 False)

set_option maxRecDepth 100000 in
theorem xformed_eq (x0 : Int) (x1 : ByteArray) (x2 : Int) (x3 : Int) (x4 : ByteArray) (x5_p : Option Addr) (x5_n : Nat) (x5_c : Nat) (w : World) (R : Ending → World → Prop) : xformed_T x0 x1 x2 x3 x4 x5_p x5_n x5_c w R = vcFn Tryd.prog [] [(6, [2, 4, 6, 8, 10, 12, 14, 16, 18, 20, 22, 24, 26, 28, 30, 32, 34, 36, 38, 40, 42, 44, 46, 48, 50, 52, 54, 0])] Tryd.f36 [Value.agg
 #[.int .i64 x0, .string x1, .int .i64 x2, .int .i64 x3, .string x4, .slice x5_p x5_n x5_c]] w R := by kernel_rfl

set_option maxRecDepth 100000 in
theorem xformed_vc (x0 : Int) (x1 : ByteArray) (x2 : Int) (x3 : Int) (x4 : ByteArray) (x5_p : Option Addr) (x5_n : Nat) (x5_c : Nat) (w : World) (R : Ending → World → Prop) (h : xformed_T x0 x1 x2 x3 x4 x5_p x5_n x5_c w R) : Calls Tryd.prog 36 #[Value.agg
 #[.int .i64 x0, .string x1, .int .i64 x2, .int .i64 x3, .string x4, .slice x5_p x5_n x5_c]] w R :=
  calls_of_vc (args := [Value.agg
 #[.int .i64 x0, .string x1, .int .i64 x2, .int .i64 x3, .string x4, .slice x5_p x5_n x5_c]]) [] [(6, [2, 4, 6, 8, 10, 12, 14, 16, 18, 20, 22, 24, 26, 28, 30, 32, 34, 36, 38, 40, 42, 44, 46, 48, 50, 52, 54, 0])] Tryd.mixed Tryd.func36 (cast (xformed_eq _ _ _ _ _ _ _ _ w R) h)

set_option maxRecDepth 100000 in
def alike_T (a : Int) (b : Int) (w : World) (R : Ending → World → Prop) : Prop :=
  R (.returned (.bool (decide (a = b) || decide (a = 0) || decide (b = 0)))) w

set_option maxRecDepth 100000 in
theorem alike_eq (a : Int) (b : Int) (w : World) (R : Ending → World → Prop) : alike_T a b w R = vcFn Tryd.prog [] [] Tryd.f60 [.int .i64 a, .int .i64 b] w R := by kernel_rfl

set_option maxRecDepth 100000 in
theorem alike_vc (a : Int) (b : Int) (w : World) (R : Ending → World → Prop) (h : alike_T a b w R) : Calls Tryd.prog 60 #[.int .i64 a, .int .i64 b] w R :=
  calls_of_vc (args := [.int .i64 a, .int .i64 b]) [] [] Tryd.mixed Tryd.func60 (cast (alike_eq _ _ w R) h)

set_option maxRecDepth 100000 in
def xkind_T (cols_p : Option Addr) (cols_n : Nat) (cols_c : Nat) (x0 : Int) (x1 : ByteArray) (x2 : Int) (x3 : Int) (x4 : ByteArray) (x5_p : Option Addr) (x5_n : Nat) (x5_c : Nat) (w : World) (R : Ending → World → Prop) : Prop :=
  ∀ b1 w'2, New w (Obj.cells #[.int .i64 x0, .string x1, .int .i64 x2, .int .i64 x3, .string x4, .slice x5_p x5_n x5_c] 28) b1
 w'2 → ∃ n4, w'2.cell? ⟨b1, 0, none⟩ = some (.int .i64 n4) ∧ 0 ≤ n4 ∧ n4 < 17 ∧ ∃ n5, w'2.cell? ⟨0, (0 + n4.toNat * 3), none⟩ = some (.int .i64 n5) ∧ ∃ n6, w'2.cell? ⟨0, (0 + n4.toNat * 3 + 1), none⟩ = some (.int .i64 n6) ∧ ∃ n7, w'2.cell? ⟨0, (0 + n4.toNat * 3 + 2), none⟩ = some (.int .i64 n7) ∧ ∀ b8 w'9, New w'2 (Obj.cells #[.int .i64 0, .int .i64 0, .int .i64 0] 96) b8 w'9 → (∃ u11, w'9.cell? ⟨b8, 0, none⟩ = some u11) ∧ w'9.frozen? ⟨b8, 0, none⟩ = false ∧ (∃ u12, w'9.cell? ⟨b8, 1, none⟩ = some u12) ∧ w'9.frozen? ⟨b8, 1, none⟩ = false ∧ (∃ u13, w'9.cell? ⟨b8, 2, none⟩ = some u13) ∧ w'9.frozen? ⟨b8, 2, none⟩ = false ∧ ∀ w'14, Put w'9 b8 0 [.int .i64 n5, .int .i64 n6, .int .i64 n7] w'14 → ∀ b16 w'17, New w'14 (Obj.cells #[.int .i64 0, .int .i64 0] 98) b16 w'17 → ∃ p19 n20 c21, w'17.cell? ⟨b1, 5, none⟩ = some (.slice p19 n20 c21) ∧ ∃ (I22 : Int → World → Prop), ∃ (M23 : Int → World → Nat), I22 0 w'17 ∧ ∀ (n24 : Int) (w'25 : World), I22 n24 w'25 → (n24 < (↑n20 : Int) → ∃ b28, ∃ o29, p19 = some ⟨b28, o29, none⟩ ∧ 0 ≤ n24 ∧ n24 < (↑n20 : Int) ∧ ∃ n30, w'25.cell? ⟨b28, (o29 + n24.toNat * 6), none⟩ = some (.int .i64 n30) ∧ ∃ s31, w'25.cell? ⟨b28, (o29 + n24.toNat * 6 + 1), none⟩ = some (.string s31) ∧ ∃ n32, w'25.cell? ⟨b28, (o29 + n24.toNat * 6 + 2), none⟩ = some (.int .i64 n32) ∧ ∃ n33, w'25.cell? ⟨b28, (o29 + n24.toNat * 6 + 3), none⟩ = some (.int .i64 n33) ∧ ∃ s34, w'25.cell? ⟨b28, (o29 + n24.toNat * 6 + 4), none⟩ = some (.string s34) ∧ ∃ p35 n36 c37, w'25.cell? ⟨b28, (o29 + n24.toNat * 6 + 5), none⟩ = some (.slice p35 n36 c37) ∧ ∀ b38 w'39, New w'25
 (Obj.cells
 #[.int .i64 0, .string ⟨#[]⟩, .int .i64 0, .int .i64 0, .string ⟨#[]⟩, .slice none 0 0] 28)
 b38 w'39 → (∃ u41, w'39.cell? ⟨b38, 0, none⟩ = some u41) ∧ w'39.frozen? ⟨b38, 0, none⟩ = false ∧ (∃ u42, w'39.cell? ⟨b38, 1, none⟩ = some u42) ∧ w'39.frozen? ⟨b38, 1, none⟩ = false ∧ (∃ u43, w'39.cell? ⟨b38, 2, none⟩ = some u43) ∧ w'39.frozen? ⟨b38, 2, none⟩ = false ∧ (∃ u44, w'39.cell? ⟨b38, 3, none⟩ = some u44) ∧ w'39.frozen? ⟨b38, 3, none⟩ = false ∧ (∃ u45, w'39.cell? ⟨b38, 4, none⟩ = some u45) ∧ w'39.frozen? ⟨b38, 4, none⟩ = false ∧ (∃ u46, w'39.cell? ⟨b38, 5, none⟩ = some u46) ∧ w'39.frozen? ⟨b38, 5, none⟩ = false ∧ ∀ w'47, Put w'39 b38 0 [.int .i64 n30, .string s31, .int .i64 n32, .int .i64 n33, .string s34, .slice p35 n36 c37] w'47 → ∃ n49, w'47.cell? ⟨b38, 0, none⟩ = some (.int .i64 n49) ∧ ∃ s50, w'47.cell? ⟨b38, 1, none⟩ = some (.string s50) ∧ ∃ n51, w'47.cell? ⟨b38, 2, none⟩ = some (.int .i64 n51) ∧ ∃ n52, w'47.cell? ⟨b38, 3, none⟩ = some (.int .i64 n52) ∧ ∃ s53, w'47.cell? ⟨b38, 4, none⟩ = some (.string s53) ∧ ∃ p54 n55 c56, w'47.cell? ⟨b38, 5, none⟩ = some (.slice p54 n55 c56) ∧ Calls Tryd.prog 37
 #[.slice cols_p cols_n cols_c, .agg #[.int .i64 n49, .string s50, .int .i64 n51, .int .i64 n52, .string s53, .slice p54 n55 c56]]
 w'47 fun e57 w58 ↦
 ∃ n59, ∃ n60, e57 = .returned (.tuple #[.int .i64 n59, .int .i64 n60]) ∧ (n60 ≠ 0 → R (.returned (.tuple #[.int .i64 0, .int .i64 n60])) w58) ∧ (n60 = 0 → 0 ≤ n24 ∧ n24 < 2 ∧ (∃ u63, w58.cell? ⟨b16, (0 + n24.toNat), none⟩ = some u63) ∧ w58.frozen? ⟨b16, (0 + n24.toNat), none⟩ = false ∧ ∀ w'64, Put w58 b16 (0 + n24.toNat) [.int .i64 n59] w'64 → I22 (IntKind.i64.wrap (n24 + 1)) w'64 ∧ M23 (IntKind.i64.wrap (n24 + 1)) w'64 < M23 n24 w'25)) ∧ ((↑n20 : Int) ≤ n24 → ∃ p67 n68 c69, w'25.cell? ⟨b1, 5, none⟩ = some (.slice p67 n68 c69) ∧ ∃ (I70 : Int → World → Prop), ∃ (M71 : Int → World → Nat), I70 0 w'25 ∧ ∀ (n72 : Int) (w'73 : World), I70 n72 w'73 → (n72 < (↑n68 : Int) → ∀ w'76, Drew w'73 w'76 → ∃ n78, w'76.cell? ⟨b8, 1, none⟩ = some (.int .i64 n78) ∧ (n78 ≠ 0 → 0 ≤ n72 ∧ n72 < 2 ∧ ∃ n80, w'76.cell? ⟨b16, (0 + n72.toNat), none⟩ = some (.int .i64 n80) ∧ ∃ n81, w'76.cell? ⟨b8, 1, none⟩ = some (.int .i64 n81) ∧ Calls Tryd.prog 60 #[.int .i64 n80, .int .i64 n81] w'76 fun e82 w83 ↦
 ∃ b84, e82 = .returned (.bool b84) ∧ (b84 = false → R (.returned (.tuple #[.int .i64 0, .int .i64 121])) w83) ∧ (b84 = true → I70 (IntKind.i64.wrap (n72 + 1)) w83 ∧ M71 (IntKind.i64.wrap (n72 + 1)) w83 < M71 n72 w'73)) ∧ (n78 = 0 → I70 (IntKind.i64.wrap (n72 + 1)) w'76 ∧ M71 (IntKind.i64.wrap (n72 + 1)) w'76 < M71 n72 w'73)) ∧ ((↑n68 : Int) ≤ n72 → ∃ n89, w'73.cell? ⟨b1, 0, none⟩ = some (.int .i64 n89) ∧ (n89 = 1 → ∃ s91, w'73.cell? ⟨b1, 1, none⟩ = some (.string s91) ∧ Calls Tryd.prog 54 #[.slice cols_p cols_n cols_c, .string s91] w'73 fun e92 w93 ↦
 ∃ n94, e92 = .returned (.int .i64 n94) ∧ (n94 < 0 → R (.returned (.tuple #[.int .i64 0, .int .i64 120])) w93) ∧ (0 ≤ n94 → ∃ b97, ∃ o98, cols_p = some ⟨b97, o98, none⟩ ∧ 0 ≤ n94 ∧ n94 < (↑cols_n : Int) ∧ ∃ n99, w93.cell? ⟨b97, (o98 + n94.toNat * 3 + 1), none⟩ = some (.int .i64 n99) ∧ R (.returned (.tuple #[.int .i64 n99, .int .i64 0])) w93)) ∧ (n89 ≠ 1 → (n89 = 2 → ∃ n102, w'73.cell? ⟨b1, 2, none⟩ = some (.int .i64 n102) ∧ R (.returned (.tuple #[.int .i64 n102, .int .i64 0])) w'73) ∧ (n89 ≠ 2 → (n89 = 9 → (n89 = 9 → (0 : Int) ≤ 0 ∧ (0 : Int) < 2 ∧ ∃ n106, w'73.cell? ⟨b16, 0, none⟩ = some (.int .i64 n106) ∧ (0 : Int) ≤ 1 ∧ (1 : Int) < 2 ∧ ∃ n107, w'73.cell? ⟨b16, 1, none⟩ = some (.int .i64 n107) ∧ Calls Tryd.prog 60 #[.int .i64 n106, .int .i64 n107] w'73 fun e108 w109 ↦
 ∃ b110, e108 = .returned (.bool b110) ∧ (b110 = false → R (.returned (.tuple #[.int .i64 0, .int .i64 121])) w109) ∧ (b110 = true → ∃ n113, w109.cell? ⟨b8, 2, none⟩ = some (.int .i64 n113) ∧ R (.returned (.tuple #[.int .i64 n113, .int .i64 0])) w109)) ∧ (n89 ≠ 9 → ∃ n115, w'73.cell? ⟨b8, 2, none⟩ = some (.int .i64 n115) ∧ R (.returned (.tuple #[.int .i64 n115, .int .i64 0])) w'73)) ∧ (n89 ≠ 9 → (n89 = 10 → (n89 = 10 → (0 : Int) ≤ 0 ∧ (0 : Int) < 2 ∧ ∃ n119, w'73.cell? ⟨b16, 0, none⟩ = some (.int .i64 n119) ∧ (0 : Int) ≤ 1 ∧ (1 : Int) < 2 ∧ ∃ n120, w'73.cell? ⟨b16, 1, none⟩ = some (.int .i64 n120) ∧ Calls Tryd.prog 60 #[.int .i64 n119, .int .i64 n120] w'73 fun e121 w122 ↦
 ∃ b123, e121 = .returned (.bool b123) ∧ (b123 = false → R (.returned (.tuple #[.int .i64 0, .int .i64 121])) w122) ∧ (b123 = true → ∃ n126, w122.cell? ⟨b8, 2, none⟩ = some (.int .i64 n126) ∧ R (.returned (.tuple #[.int .i64 n126, .int .i64 0])) w122)) ∧ (n89 ≠ 10 → ∃ n128, w'73.cell? ⟨b8, 2, none⟩ = some (.int .i64 n128) ∧ R (.returned (.tuple #[.int .i64 n128, .int .i64 0])) w'73)) ∧ (n89 ≠ 10 → (n89 = 11 → (0 : Int) ≤ 0 ∧ (0 : Int) < 2 ∧ ∃ n131, w'73.cell? ⟨b16, 0, none⟩ = some (.int .i64 n131) ∧ (0 : Int) ≤ 1 ∧ (1 : Int) < 2 ∧ ∃ n132, w'73.cell? ⟨b16, 1, none⟩ = some (.int .i64 n132) ∧ Calls Tryd.prog 60 #[.int .i64 n131, .int .i64 n132] w'73 fun e133 w134 ↦
 ∃ b135, e133 = .returned (.bool b135) ∧ (b135 = false → R (.returned (.tuple #[.int .i64 0, .int .i64 121])) w134) ∧ (b135 = true → ∃ n138, w134.cell? ⟨b8, 2, none⟩ = some (.int .i64 n138) ∧ R (.returned (.tuple #[.int .i64 n138, .int .i64 0])) w134)) ∧ (n89 ≠ 11 → ∃ n140, w'73.cell? ⟨b8, 2, none⟩ = some (.int .i64 n140) ∧ R (.returned (.tuple #[.int .i64 n140, .int .i64 0])) w'73)))))))

set_option maxRecDepth 100000 in
theorem xkind_eq (cols_p : Option Addr) (cols_n : Nat) (cols_c : Nat) (x0 : Int) (x1 : ByteArray) (x2 : Int) (x3 : Int) (x4 : ByteArray) (x5_p : Option Addr) (x5_n : Nat) (x5_c : Nat) (w : World) (R : Ending → World → Prop) : xkind_T cols_p cols_n cols_c x0 x1 x2 x3 x4 x5_p x5_n x5_c w R = vcFn Tryd.prog [] [(14, [2, 4, 6, 8, 10, 12, 14, 16, 18, 20, 22, 24, 0])] Tryd.f37 [.slice cols_p cols_n cols_c, Value.agg
 #[.int .i64 x0, .string x1, .int .i64 x2, .int .i64 x3, .string x4, .slice x5_p x5_n x5_c]] w R := by kernel_rfl

set_option maxRecDepth 100000 in
theorem xkind_vc (cols_p : Option Addr) (cols_n : Nat) (cols_c : Nat) (x0 : Int) (x1 : ByteArray) (x2 : Int) (x3 : Int) (x4 : ByteArray) (x5_p : Option Addr) (x5_n : Nat) (x5_c : Nat) (w : World) (R : Ending → World → Prop) (h : xkind_T cols_p cols_n cols_c x0 x1 x2 x3 x4 x5_p x5_n x5_c w R) : Calls Tryd.prog 37 #[.slice cols_p cols_n cols_c, Value.agg
 #[.int .i64 x0, .string x1, .int .i64 x2, .int .i64 x3, .string x4, .slice x5_p x5_n x5_c]] w R :=
  calls_of_vc (args := [.slice cols_p cols_n cols_c, Value.agg
 #[.int .i64 x0, .string x1, .int .i64 x2, .int .i64 x3, .string x4, .slice x5_p x5_n x5_c]]) [] [(14, [2, 4, 6, 8, 10, 12, 14, 16, 18, 20, 22, 24, 0])] Tryd.mixed Tryd.func37 (cast (xkind_eq _ _ _ _ _ _ _ _ _ _ _ w R) h)

set_option maxRecDepth 100000 in
def xtype_T (cols_p : Option Addr) (cols_n : Nat) (cols_c : Nat) (x0 : Int) (x1 : ByteArray) (x2 : Int) (x3 : Int) (x4 : ByteArray) (x5_p : Option Addr) (x5_n : Nat) (x5_c : Nat) (w : World) (R : Ending → World → Prop) : Prop :=
  ∀ b1 w'2, New w (Obj.cells #[.int .i64 x0, .string x1, .int .i64 x2, .int .i64 x3, .string x4, .slice x5_p x5_n x5_c] 28) b1
 w'2 → Calls Tryd.prog 35 #[.slice cols_p cols_n cols_c] w'2 fun e4 w5 ↦
 ∃ b6, e4 = .returned (.bool b6) ∧ (b6 = false → R (.returned (.tuple #[.int .i64 0, .int .i64 50])) w5) ∧ (b6 = true → ∃ n9, w5.cell? ⟨b1, 0, none⟩ = some (.int .i64 n9) ∧ ∃ s10, w5.cell? ⟨b1, 1, none⟩ = some (.string s10) ∧ ∃ n11, w5.cell? ⟨b1, 2, none⟩ = some (.int .i64 n11) ∧ ∃ n12, w5.cell? ⟨b1, 3, none⟩ = some (.int .i64 n12) ∧ ∃ s13, w5.cell? ⟨b1, 4, none⟩ = some (.string s13) ∧ ∃ p14 n15 c16, w5.cell? ⟨b1, 5, none⟩ = some (.slice p14 n15 c16) ∧ Calls Tryd.prog 36
 #[.agg #[.int .i64 n9, .string s10, .int .i64 n11, .int .i64 n12, .string s13, .slice p14 n15 c16]] w5
 fun e17 w18 ↦
 ∃ b19, e17 = .returned (.bool b19) ∧ (b19 = false → R (.returned (.tuple #[.int .i64 0, .int .i64 122])) w18) ∧ (b19 = true → ∃ n22, w18.cell? ⟨b1, 0, none⟩ = some (.int .i64 n22) ∧ ∃ s23, w18.cell? ⟨b1, 1, none⟩ = some (.string s23) ∧ ∃ n24, w18.cell? ⟨b1, 2, none⟩ = some (.int .i64 n24) ∧ ∃ n25, w18.cell? ⟨b1, 3, none⟩ = some (.int .i64 n25) ∧ ∃ s26, w18.cell? ⟨b1, 4, none⟩ = some (.string s26) ∧ ∃ p27 n28 c29, w18.cell? ⟨b1, 5, none⟩ = some (.slice p27 n28 c29) ∧ Calls Tryd.prog 37
 #[.slice cols_p cols_n cols_c, .agg #[.int .i64 n22, .string s23, .int .i64 n24, .int .i64 n25, .string s26, .slice p27 n28 c29]]
 w18 fun e30 w31 ↦
 ∃ n32, ∃ n33, e30 = .returned (.tuple #[.int .i64 n32, .int .i64 n33]) ∧ R (.returned (.tuple #[.int .i64 n32, .int .i64 n33])) w31))

set_option maxRecDepth 100000 in
theorem xtype_eq (cols_p : Option Addr) (cols_n : Nat) (cols_c : Nat) (x0 : Int) (x1 : ByteArray) (x2 : Int) (x3 : Int) (x4 : ByteArray) (x5_p : Option Addr) (x5_n : Nat) (x5_c : Nat) (w : World) (R : Ending → World → Prop) : xtype_T cols_p cols_n cols_c x0 x1 x2 x3 x4 x5_p x5_n x5_c w R = vcFn Tryd.prog [] [] Tryd.f21 [.slice cols_p cols_n cols_c, Value.agg
 #[.int .i64 x0, .string x1, .int .i64 x2, .int .i64 x3, .string x4, .slice x5_p x5_n x5_c]] w R := by kernel_rfl

set_option maxRecDepth 100000 in
theorem xtype_vc (cols_p : Option Addr) (cols_n : Nat) (cols_c : Nat) (x0 : Int) (x1 : ByteArray) (x2 : Int) (x3 : Int) (x4 : ByteArray) (x5_p : Option Addr) (x5_n : Nat) (x5_c : Nat) (w : World) (R : Ending → World → Prop) (h : xtype_T cols_p cols_n cols_c x0 x1 x2 x3 x4 x5_p x5_n x5_c w R) : Calls Tryd.prog 21 #[.slice cols_p cols_n cols_c, Value.agg
 #[.int .i64 x0, .string x1, .int .i64 x2, .int .i64 x3, .string x4, .slice x5_p x5_n x5_c]] w R :=
  calls_of_vc (args := [.slice cols_p cols_n cols_c, Value.agg
 #[.int .i64 x0, .string x1, .int .i64 x2, .int .i64 x3, .string x4, .slice x5_p x5_n x5_c]]) [] [] Tryd.mixed Tryd.func21 (cast (xtype_eq _ _ _ _ _ _ _ _ _ _ _ w R) h)

end Go.Proofs.YtpjafkcmbinjiaaDoor

/- The contracts of package expr: the walk over an expression's nodes. -/
namespace Go.Proofs.YtpjafkcmbinjiaaDoor
open Go Go.Vc Go.RowKit
set_option maxRecDepth 20000

/-- What a caller of the walk promises: each node may be handed to it, whatever else is held. -/
def Rounds (L : List (Nat × Ex)) (l0 : Nat) (wc : World) (Q : Nat → List (Nat × Obj) → Prop) (S : List (Nat × Obj) → Prop) : Prop :=
  ∀ (k : Nat) (p : Nat × Ex) (ncs : List Value) (gs fs : List (Nat × Obj)) (W : World) (R : Bool → World → Prop), L[k]? = some p → ExAt wc p.2 ncs → Q k fs → Hold wc W (fs ++ gs) [] →
    (∀ fs' W', Q (k + 1) fs' → Hold wc W' (fs' ++ gs) [] → R true W') → (∀ fs' W', S fs' → Hold wc W' (fs' ++ gs) [] → R false W') → Yield Tryd.prog l0 #[.int .i64 (p.1 : Int), .agg ncs.toArray] W R

theorem nodes_ok (x : Ex) {cs : List Value} {w w0 : World} (h : ExAt w0 x cs) (d : Int) : Calls Tryd.prog 59 #[.agg cs.toArray, .int .i64 d] w fun e w' => ∃ b1 b4, e = .returned (.func (.func 80) #[] #[.pointer (some ⟨b4, 0, none⟩), .pointer (some ⟨b1, 0, none⟩)]) ∧
    ∀ fs ms w0, Hold w0 w fs ms → Hold w0 w' ((b4, .cells #[.int .i64 d] 3) :: (b1, .cells cs.toArray 28) :: fs) ms := by
  obtain ⟨p, n, c, rfl, _⟩ := h.six
  apply nodes_vc
  unfold nodes_T
  intro b1 w2 h1 b4 w5 h4
  exact ⟨b1, b4, rfl, fun fs ms w0 h => (h.new h1).new h4⟩

theorem perm3 {α : Type} (a b c : List α) : (a ++ (b ++ c)).Perm (b ++ (a ++ c)) := by
  rw [← List.append_assoc, ← List.append_assoc]
  exact List.perm_append_comm.append_right c
set_option maxHeartbeats 4000000 in
theorem nodes1_ok : ∀ (N : Nat) (x : Ex) (d l0 fv0 fv1 : Nat) (wc : World) (cs : List Value) (Q : Nat → List (Nat × Obj) → Prop) (S : List (Nat × Obj) → Prop) (gs fs : List (Nat × Obj)) (w : World) (M : Nat), depthT x ≤ N → d ≤ 41 → ExAt wc x cs →
    (∀ k fs, Q k fs → (∀ y ∈ fs, y.1 < M) ∧ (fv0, .cells #[.int .i64 (d : Int)] 3 (0, 0)) ∈ fs ∧ (fv1, .cells cs.toArray 28 (0, 0)) ∈ fs) → (∀ fs, S fs → ∀ y ∈ fs, y.1 < M) → M ≤ w.heap.size →
    Rounds (walkT x d) l0 wc Q S → Q 0 fs → Hold wc w (fs ++ gs) [] →
    Calls Tryd.prog 80 #[.func (.yield l0) #[] #[], .pointer (some ⟨fv0, 0, none⟩), .pointer (some ⟨fv1, 0, none⟩)] w fun e W' => e = .returned (.tuple #[]) ∧ ((∃ fs', Q (walkT x d).length fs' ∧ Hold wc W' (fs' ++ gs) []) ∨ ∃ fs', S fs' ∧ Hold wc W' (fs' ++ gs) []) := by
  intro N
  induction N with
  | zero => intro x d l0 fv0 fv1 wc cs Q S gs fs w M hd; cases x; unfold depthT at hd; omega
  | succ N ih =>
  intro x d l0 fv0 fv1 wc cs Q S gs fs w M hdep hd hx hQ hS hM hR q0 hH
  obtain ⟨p, n, c, rfl, hkl, hn, hkid⟩ := hx.six
  apply nodes1_vc
  unfold nodes1_T
  intro b1 w2 h1
  have hb1 : b1 = w.heap.size := h1.1
  have H2 := hH.new h1
  have gsM : ∀ y ∈ gs, y.1 < w.heap.size := fun y hy => hH.ltM (List.mem_append_right _ hy)
  obtain ⟨_, m0, m1⟩ := hQ 0 fs q0
  have B0 := H2.blkM (List.mem_cons_of_mem _ (List.mem_append_left gs m0))
  have B1 := H2.blkM (List.mem_cons_of_mem _ (List.mem_append_left gs m1))
  obtain ⟨c0, c1, c2, c3, c4, c5⟩ := B1.c6
  have hhead : (walkT x d)[0]? = some (d, x) := by cases x; rfl
  refine ⟨_, (H2.blk 0 rfl).one, _, B0.one, _, c0, _, c1, _, c2, _, c3, _, c4, _, _, _, c5, l0, rfl, ?_⟩
  refine hR 0 (d, x) _ ((b1, .cells #[.func (.yield l0) #[] #[]] 123 (0, 0)) :: gs) fs w2 _ hhead hx q0 (Hold.swap (a := [_]) H2) (fun fs' W' q H => ⟨fun h => (by cases h), fun _ => ?_⟩)
    (fun fs' W' s H => ⟨fun _ => ⟨rfl, .inr ⟨fs', s, H.sub ((List.Sublist.refl fs').append (List.sublist_cons_self _ _))⟩⟩, fun h => (by cases h)⟩)
  obtain ⟨_, m0, m1⟩ := hQ 1 fs' q
  have B0 := H.blkM (List.mem_append_left _ m0)
  have B1 := H.blkM (List.mem_append_left _ m1)
  obtain ⟨_, _, _, _, _, c5⟩ := B1.c6
  refine ⟨_, B0.one, fun hgt => ⟨rfl, .inl ⟨fs', ?_, H.sub ((List.Sublist.refl fs').append (List.sublist_cons_self _ _))⟩⟩, fun hle => ?_⟩
  · have : (walkT x d).length = 1 := by cases x; unfold walkT; rw [if_pos (by omega)]; rfl
    rw [this]; exact q
  have hL : walkT x d = (d, x) :: walkTs x.kids (d + 1) := by cases x; unfold walkT; rw [if_neg (by omega)]; rfl
  let Y : Nat × Obj := (b1, .cells #[.func (.yield l0) #[] #[]] 123 (0, 0))
  let off : Nat → Nat := fun j => 1 + (walkTs (x.kids.take j) (d + 1)).length
  have H' : Hold wc W' (Y :: (fs' ++ gs)) [] := H.perm List.perm_middle
  refine ⟨_, _, _, c5, fun i W => ∃ (j : Nat) (fs : List (Nat × Obj)), i = (j : Int) ∧ j ≤ n ∧ Q (off j) fs ∧ Hold wc W (Y :: (fs ++ gs)) [], fun i _ => n - i.toNat, w.heap.size, ⟨0, fs', rfl, Nat.zero_le _, by simpa [off, walkTs] using q, H'⟩, ⟨by simp, by simp⟩, ?_⟩
  clear H' H B0 B1 c5 q m0 m1 c0 c1 c2 c3 c4 hhead
  rintro i W ⟨j, fs, rfl, hj, q, H⟩ ds ho
  have hwc : wc.heap.size ≤ w.heap.size := hH.size
  have low : ∀ k fs, Q k fs → ∀ y ∈ fs ++ gs, y.1 < w.heap.size := fun k fs q y hy => by
    rcases List.mem_append.1 hy with hy | hy
    · have := (hQ k fs q).1 y hy; omega
    · exact gsM y hy
  have lowS : ∀ fs, S fs → ∀ y ∈ fs ++ gs, y.1 < w.heap.size := fun fs s y hy => by
    rcases List.mem_append.1 hy with hy | hy
    · have := hS fs s y hy; omega
    · exact gsM y hy
  refine ⟨fun hlt => ?_, fun hge => ?_⟩
  · have g : x.kids[j]? = some (x.kids[j]'(by omega)) := List.getElem?_eq_getElem _
    generalize x.kids[j]'(by omega) = k at g
    obtain ⟨kc, b, o, hk, hp, hc⟩ := hkid H.ext g
    obtain ⟨kp, kn, kcap, hkc, _⟩ := hk.six
    simp only [Int.toNat_natCast]
    have e0 := hc 0 _ (by rw [hkc]; rfl)
    have e1 := hc 1 _ (by rw [hkc]; rfl)
    have e2 := hc 2 _ (by rw [hkc]; rfl)
    have e3 := hc 3 _ (by rw [hkc]; rfl)
    have e4 := hc 4 _ (by rw [hkc]; rfl)
    have e5 := hc 5 _ (by rw [hkc]; rfl)
    have Ho : Hold wc W (dfs ds ++ (Y :: (fs ++ gs))) [] := H.addOpen ho hwc fun y hy => by
      rcases List.mem_cons.1 hy with rfl | hy
      · exact .inr (by simp [Y])
      · exact .inl (low _ _ q y hy)
    have Ho : Hold wc W (Y :: (fs ++ (dfs ds ++ gs))) [] := by
      refine Ho.perm ?_
      refine List.perm_middle.trans (List.Perm.cons _ ?_)
      rw [← List.append_assoc, ← List.append_assoc]
      exact List.perm_append_comm.append_right gs
    refine ⟨b, o, hp, by omega, by omega, _, e0, _, e1, _, e2, _, e3, _, e4, _, _, _, e5, fun b43 w44 h43 => ?_⟩
    have H44 := Ho.new h43
    refine (H44.blk 0 rfl).w6 fun w52 h52 => ?_
    have H52 := H44.put 0 rfl h52
    have Bk : Blk w52 b43 28 #[.int .i64 k.op, .string k.name, .int .i64 k.v.k, .int .i64 k.v.n, .string k.v.s, .slice kp kn kcap] := H52.blk 0 rfl
    obtain ⟨a0, a1, a2, a3, a4, a5⟩ := Bk.c6
    obtain ⟨_, m0, m1⟩ := hQ _ fs q
    have Bd := H52.blkM (List.mem_cons_of_mem _ (List.mem_cons_of_mem _ (List.mem_append_left (dfs ds ++ gs) m0)))
    refine ⟨_, a0, _, a1, _, a2, _, a3, _, a4, _, _, _, a5, _, Bd.one, ?_⟩
    rw [i64_next (by omega)]
    subst hkc
    refine (nodes_ok k hk ((d + 1 : Nat) : Int)).mono ?_
    rintro e w64 ⟨bx, bd, rfl, hH64⟩
    have H64 := hH64 _ _ _ H52
    refine ⟨_, rfl, _, _, rfl, by kernel_rfl, fun r d70 l71 w171 hB hY => ?_⟩
    have HB := H64.began hB
    have hd70 : w.heap.size ≤ d70 := by
      have h3 : b1 < w64.heap.size := H64.lt 3 rfl
      have := hB.sizes.1
      omega
    let own : Nat → List (Nat × Obj) := fun q => [(l71, .loop (r q)), (d70, .deferred (some [])), (bd, .cells #[.int .i64 ((d + 1 : Nat) : Int)] 3 (0, 0)),
      (bx, .cells #[.int .i64 k.op, .string k.name, .int .i64 k.v.k, .int .i64 k.v.n, .string k.v.s, .slice kp kn kcap] 28 (0, 0)),
      (b43, .cells #[.int .i64 k.op, .string k.name, .int .i64 k.v.k, .int .i64 k.v.n, .string k.v.s, .slice kp kn kcap] 28 (0, 0)), Y]
    have HB : Hold wc w171 ((own 0 ++ fs) ++ (dfs ds ++ gs)) [] := HB
    have ownM : ∀ q, ∀ y ∈ own q, y.1 < w171.heap.size := by
      intro q y hy
      have : ∀ y ∈ own 0, y.1 < w171.heap.size := fun y hy => HB.ltM (List.mem_append_left _ (List.mem_append_left _ hy))
      simp only [own, List.mem_cons, List.not_mem_nil, or_false] at hy this
      rcases hy with rfl | hy
      · exact this (l71, .loop (r 0)) (.inl rfl)
      · exact this y (.inr hy)
    have hMw : M ≤ w171.heap.size := by
      have := HB.ltM (x := Y) (by simp [own])
      have : b1 < w171.heap.size := this
      omega
    refine (ih k (d + 1) l71 bd bx wc _ (fun k' fs2 => ∃ fs, Q (off j + k') fs ∧ fs2 = own 0 ++ fs) (fun fs2 => ∃ fs, S fs ∧ fs2 = own 3 ++ fs) (dfs ds ++ gs) _ w171 w171.heap.size ?_ (by omega) hk ?_ ?_ (Nat.le_refl _) ?_ ⟨fs, q, rfl⟩ HB).mono ?_
    · have := depthTs_get g
      cases x
      unfold depthT at hdep
      simp only [Ex.kids] at this
      omega
    · rintro k' fs2 ⟨fs3, q3, rfl⟩
      refine ⟨fun y hy => ?_, by simp [own], by simp [own]⟩
      rcases List.mem_append.1 hy with hy | hy
      · exact ownM 0 y hy
      · have := (hQ _ _ q3).1 y hy; omega
    · rintro fs2 ⟨fs3, s3, rfl⟩ y hy
      rcases List.mem_append.1 hy with hy | hy
      · exact ownM 3 y hy
      · have := hS _ s3 y hy; omega
    · rintro k' pn ncs gs2 fs2 W2 R2 hLk hE ⟨fs3, q3, rfl⟩ H2 yes no
      obtain ⟨np, nn, ncap, rfl, _⟩ := hE.six
      refine hY _ _ _ _ _ _ _ _ _ W2 R2 (H2.loop 0 rfl) fun b85 w86 h86 => ?_
      have H86 := H2.new h86
      refine (H86.blk 0 rfl).w6 fun w94 h94 => ?_
      have H94 := H86.put 0 rfl h94
      refine ⟨H94.loop 1 rfl, ?_⟩
      rintro Wb rfl
      have H96 := H94.turn 1 1 rfl
      let nb : Nat × Obj := (b85, .cells #[.int .i64 pn.2.op, .string pn.2.name, .int .i64 pn.2.v.k, .int .i64 pn.2.v.n, .string pn.2.v.s, .slice np nn ncap] 28 (0, 0))
      have H96 : Hold wc (turn r l71 1 w94) (([nb] ++ own 1 ++ fs3) ++ gs2) [] := H96
      have Bn : Blk (turn r l71 1 w94) b85 28 #[.int .i64 pn.2.op, .string pn.2.name, .int .i64 pn.2.v.k, .int .i64 pn.2.v.n, .string pn.2.v.s, .slice np nn ncap] := H96.blk 0 rfl
      obtain ⟨a0, a1, a2, a3, a4, a5⟩ := Bn.c6
      refine ⟨_, (H96.blk 6 rfl).one, _, a0, _, a1, _, a2, _, a3, _, a4, _, _, _, a5, l0, rfl, ?_⟩
      have hLk' : (walkT x d)[off j + k']? = some pn := by
        rw [hL, show off j + k' = ((walkTs (x.kids.take j) (d + 1)).length + k') + 1 by simp only [off]; omega, List.getElem?_cons_succ]
        exact walkTs_at g hLk
      refine hR (off j + k') pn _ (([nb] ++ own 1) ++ gs2) fs3 _ _ hLk' hE q3 H96.swap (fun fs' W' q' H' => ⟨fun h => (by cases h), fun _ => ?_⟩) (fun fs' W' s' H' => ⟨fun _ => ?_, fun h => (by cases h)⟩)
      · have H' : Hold wc W' (([nb] ++ own 1) ++ (fs' ++ gs2)) [] := by
          rw [← List.append_assoc] at H'
          exact H'.swap
        refine ⟨H'.loop 1 rfl, yes _ _ ⟨fs', q', rfl⟩ ?_⟩
        exact (H'.turn 1 0 rfl).tail
      · have H' : Hold wc W' (([nb] ++ own 1) ++ (fs' ++ gs2)) [] := by
          rw [← List.append_assoc] at H'
          exact H'.swap
        refine ⟨H'.loop 1 rfl, no _ _ ⟨fs', s', rfl⟩ ?_⟩
        exact (H'.turn 1 3 rfl).tail
    · rintro e W3 ⟨rfl, hI | hS3⟩
      · obtain ⟨_, ⟨fs3, q3, rfl⟩, H3⟩ := hI
        refine ⟨⟨_, rfl⟩, .inl ⟨H3.loop 0 rfl, ?_⟩⟩
        have H4 := H3.turn 0 2 rfl
        have H4 : Hold wc (turn r l71 2 W3) ((own 2 ++ fs3) ++ (dfs ds ++ gs)) [] := H4
        have hop : Vc.Open w.heap.size (d70 :: ds) (turn r l71 2 W3) := by
          refine Hold.opened (w0 := wc) (fs := ((l71, Obj.loop (r 2)) :: ((own 2).drop 2 ++ fs3)) ++ gs) ?_ fun y hy => ?_
          · exact H4.perm ((List.Perm.swap _ _ _).trans (List.Perm.cons _ (perm3 ((l71, Obj.loop (r 2)) :: ((own 2).drop 2 ++ fs3)) (dfs ds) gs)))
          · rcases List.mem_cons.1 hy with rfl | hy
            · exact hd70
            · exact (ho.2 y hy).1
        refine ⟨hop, ⟨j + 1, fs3, by rw [i64_next (by omega)], by omega, ?_, ?_⟩, ?_⟩
        · have : off (j + 1) = off j + (walkT k (d + 1)).length := by
            simp only [off]; rw [walkTs_take _ g, List.length_append]; omega
          rw [this]; exact q3
        · exact H4.tail.tail.tail.tail.tail.sub (((List.Sublist.refl fs3).append (List.sublist_append_right _ _)).cons_cons Y)
        · rw [i64_next (by omega)]; simp only [Int.toNat_natCast]; omega
      · obtain ⟨_, ⟨fs3, s3, rfl⟩, H3⟩ := hS3
        refine ⟨⟨_, rfl⟩, .inr (.inl ⟨H3.loop 0 rfl, ?_⟩)⟩
        have H4 := H3.turn 0 4 rfl
        have H5 := H4.shut 1 rfl
        have H5 : Hold wc _ (((l71, .loop (r 4)) :: (d70, .deferred none) :: ((own 3).drop 2 ++ fs3)) ++ (dfs ds ++ gs)) [] := H5
        refine ⟨H4.dfr 1 rfl, unD_hold (w0 := wc) (fs := fs3 ++ gs) hwc (lowS _ s3) (fun W' H' => ⟨by trivial, .inr ⟨fs3, s3, H'⟩⟩) ds _ (Hold.opened (w0 := wc) (H5.perm (perm3 _ _ _)) fun y hy => (ho.2 y hy).1) ?_⟩
        exact H5.tail.tail.tail.tail.tail.tail.sub ((List.Sublist.refl fs3).append (List.sublist_append_right _ _))
  · have hjn : j = n := by omega
    refine unD_hold (w0 := wc) (fs := fs ++ gs) hwc (low _ _ q) (fun W' H' => ⟨rfl, .inl ⟨fs, ?_, H'⟩⟩) ds W ho H.tail
    have : (walkT x d).length = off j := by
      rw [hL, hjn, ← hkl]; simp [off]; omega
    rw [this]; exact q
end Go.Proofs.YtpjafkcmbinjiaaDoor

/- The contracts of package expr: which expressions are well formed. -/
namespace Go.Proofs.YtpjafkcmbinjiaaDoor
open Go Go.Vc Go.RowKit
set_option maxRecDepth 20000

/-- The table of shapes lies in memory. -/
def Tab (w : World) : Prop := CellsAt w 0 0 shapesA
theorem Tab.ext {w w' : World} (h : Tab w) (e : Ext w w') : Tab w' := fun k v hk => cell_ext (h k v hk) e
theorem Tab.at {w : World} (h : Tab w) {op : Int} (h1 : 0 ≤ op) (h2 : op < 17) : w.cell? ⟨0, 0 + op.toNat * 3, none⟩ = some (.int .i64 (manyOf op)) ∧ w.cell? ⟨0, 0 + op.toNat * 3 + 1, none⟩ = some (.int .i64 (wantOf op)) ∧
    w.cell? ⟨0, 0 + op.toNat * 3 + 2, none⟩ = some (.int .i64 (kindOf op)) := by
  obtain ⟨i, rfl⟩ := Int.eq_ofNat_of_zero_le h1
  obtain ⟨a, b, c⟩ := shapes_at (i := i) (by omega)
  rw [Int.toNat_natCast]
  exact ⟨h _ _ a, by rw [Nat.add_assoc]; exact h _ _ b, by rw [Nat.add_assoc]; exact h _ _ c⟩

set_option maxHeartbeats 4000000 in
theorem xformed_ok {w : World} (hT : Tab w) (x : Ex) {cs : List Value} (hx : ExAt w x cs) : Calls Tryd.prog 36 #[.agg cs.toArray] w fun e w' => e = .returned (.bool (formedB x)) ∧ Ext w w' := by
  obtain ⟨p, n, c, rfl, hkl, hn, hkid⟩ := hx.six
  apply xformed_vc
  unfold xformed_T
  intro b1 w2 h1 b4 w5 h4 b7 w8 h7
  have H8 := (((Hold.start (Ext.rfl (w := w))).new h1).new h4).new h7
  refine ⟨⟨_, (H8.blk 0 rfl).one⟩, (H8.blk 0 rfl).frozen 0, fun w11 h11 => ?_⟩
  have H11 := H8.box 0 rfl h11
  have B1 : Blk w11 b1 28 #[.int .i64 x.op, .string x.name, .int .i64 x.v.k, .int .i64 x.v.n, .string x.v.s, .slice p n c] := H11.blk 2 rfl
  obtain ⟨a0, a1, a2, a3, a4, a5⟩ := B1.c6
  refine ⟨_, a0, _, a1, _, a2, _, a3, _, a4, _, _, _, a5, (nodes_ok x hx 1).mono ?_⟩
  rintro e w22 ⟨bx, bd, rfl, hH⟩
  have H22 := hH _ _ _ H11
  refine ⟨_, rfl, _, _, rfl, by kernel_rfl, fun r d l w29 hB hY => ?_⟩
  have HB := H22.began hB
  let fs : Nat → Int → List (Nat × Obj) := fun q m => [(l, .loop (r q)), (d, .deferred (some [])), (bd, .cells #[.int .i64 1] 3 (0, 0)), (bx, .cells #[.int .i64 x.op, .string x.name, .int .i64 x.v.k, .int .i64 x.v.n, .string x.v.s, .slice p n c] 28 (0, 0)),
    (b7, .cells #[.int .i64 m] 3 (0, 0)), (b4, .cells #[.bool false] 4 (0, 0)), (b1, .cells #[.int .i64 x.op, .string x.name, .int .i64 x.v.k, .int .i64 x.v.n, .string x.v.s, .slice p n c] 28 (0, 0))]
  have HB : Hold w w29 (fs 0 0 ++ []) [] := HB
  have fsM : ∀ q m, ∀ y ∈ fs q m, y.1 < w29.heap.size := by
    intro q m y hy
    have : ∀ y ∈ fs 0 0, y.1 < w29.heap.size := fun y hy => HB.ltM (List.mem_append_left _ hy)
    simp only [fs, List.mem_cons, List.not_mem_nil, or_false] at hy this
    rcases hy with rfl | rfl | rfl | rfl | rfl | rfl | rfl
    · exact this (l, .loop (r 0)) (.inl rfl)
    · exact this _ (.inr (.inl rfl))
    · exact this _ (.inr (.inr (.inl rfl)))
    · exact this _ (.inr (.inr (.inr (.inl rfl))))
    · exact this (b7, .cells #[.int .i64 0] 3 (0, 0)) (.inr (.inr (.inr (.inr (.inl rfl)))))
    · exact this _ (.inr (.inr (.inr (.inr (.inr (.inl rfl))))))
    · exact this _ (.inr (.inr (.inr (.inr (.inr (.inr rfl))))))
  refine (nodes1_ok (depthT x) x 1 l bd bx w _ (fun k f => f = fs 0 (k : Int) ∧ k ≤ 400 ∧ goW ((walkT x 1).drop k) k = formedB x) (fun f => (∃ m, f = fs 3 m) ∧ formedB x = false) [] (fs 0 0) w29 w29.heap.size (Nat.le_refl _) (by omega) hx ?_ ?_ (Nat.le_refl _) ?_ ⟨rfl, by omega, goW_formed x⟩ HB).mono ?_
  · rintro k f ⟨rfl, _, _⟩
    exact ⟨fsM _ _, by simp [fs], by simp [fs]⟩
  · rintro f ⟨⟨m, rfl⟩, _⟩ y hy
    exact fsM _ _ y hy
  · rintro k pn ncs gs f W R hL hE ⟨rfl, hk, hg⟩ H yes no
    obtain ⟨np, nn, ncap, rfl, hkn, _⟩ := hE.six
    have hgd : goW ((walkT x 1).drop k) k = if 40 < pn.1 ∨ 400 < k + 1 ∨ ¬ NodeOk pn.2 then false else goW ((walkT x 1).drop (k + 1)) (k + 1) := by
      obtain ⟨hk', rfl⟩ := List.getElem?_eq_some_iff.1 hL
      rw [List.drop_eq_getElem_cons hk']; rfl
    refine hY _ _ _ _ _ _ _ _ _ W R (H.loop 0 rfl) fun b43 w44 h43 => ?_
    have H44 := H.new h43
    refine (H44.blk 0 rfl).w6 fun w52 h52 => ?_
    have H52 := H44.put 0 rfl h52
    refine ⟨H52.loop 1 rfl, ?_⟩
    rintro Wb rfl
    have H54 := H52.turn 1 1 rfl
    refine ⟨_, (H54.blk 5 rfl).one, ⟨_, (H54.blk 5 rfl).one⟩, (H54.blk 5 rfl).frozen 0, fun w58 h58 w60 h60 => ?_⟩
    have H60 := (H54.box 5 rfl h58).step h60.ext
    rw [i64_next (by omega)] at H60
    let nb : Nat × Obj := (b43, .cells #[.int .i64 pn.2.op, .string pn.2.name, .int .i64 pn.2.v.k, .int .i64 pn.2.v.n, .string pn.2.v.s, .slice np nn ncap] 28 (0, 0))
    have H60 : Hold w w60 (nb :: (fs 1 ((k + 1 : Nat) : Int) ++ gs)) [] := H60
    -- the walk is left
    have stop : ∀ W', Ext w60 W' → formedB x = false → (∃ u, W'.cell? ⟨b4, 0, none⟩ = some u) ∧ W'.frozen? ⟨b4, 0, none⟩ = false ∧ ∀ w64 : World, Put W' b4 0 [.bool false] w64 → Rec r l 1 w64 ∧ R false (turn r l 3 w64) := by
      intro W' e hf
      have HW := H60.step e
      refine ⟨⟨_, (HW.blk 6 rfl).one⟩, (HW.blk 6 rfl).frozen 0, fun w64 h64 => ?_⟩
      have H64 := HW.box 6 rfl h64
      exact ⟨H64.loop 1 rfl, no _ _ ⟨⟨_, rfl⟩, hf⟩ (H64.turn 1 3 rfl).tail⟩
    have go : ∀ W', Ext w60 W' → pn.1 ≤ 40 → k + 1 ≤ 400 → NodeOk pn.2 → Rec r l 1 W' ∧ R true (turn r l 0 W') := by
      intro W' e h1 h2 h3
      have HW := H60.step e
      refine ⟨HW.loop 1 rfl, yes _ _ ⟨rfl, h2, ?_⟩ (HW.turn 1 0 rfl).tail⟩
      rw [← hg, hgd, if_neg]
      rintro (h | h | h)
      · omega
      · omega
      · exact h h3
    have hf : (40 < pn.1 ∨ 400 < k + 1 ∨ ¬ NodeOk pn.2) → formedB x = false := fun h => by rw [← hg, hgd, if_pos h]
    have bad : ¬ NodeOk pn.2 → formedB x = false := fun h => hf (.inr (.inr h))
    have B : Blk w60 b43 28 #[.int .i64 pn.2.op, .string pn.2.name, .int .i64 pn.2.v.k, .int .i64 pn.2.v.n, .string pn.2.v.s, .slice np nn ncap] := H60.blk 0 rfl
    obtain ⟨a0, a1, a2, a3, a4, a5⟩ := B.c6
    have hT60 := hT.ext H60.ext
    refine ⟨fun hd => stop w60 .rfl (hf (.inl (by omega))), fun hd => ⟨_, (H60.blk 5 rfl).one, fun hm => stop w60 .rfl (hf (.inr (.inl (by omega)))), fun hm => ⟨_, a0, fun ho => stop w60 .rfl (bad ?_), fun ho => ⟨_, a0, fun ho' => stop w60 .rfl (bad ?_), fun ho' => ?_⟩⟩⟩⟩
    · rintro ⟨h, _⟩
      have := many_range (op := pn.2.op) (by omega)
      omega
    · rintro ⟨h, _⟩
      have := many_range (op := pn.2.op) (by omega)
      omega
    · obtain ⟨t0, _, _⟩ := hT60.at (op := pn.2.op) (by omega) ho'
      refine ⟨_, _, _, a5, _, a0, by omega, ho', _, t0, fun hne => stop w60 .rfl (bad ?_), fun he => ?_⟩
      · rintro ⟨h, _⟩; omega
      have vcall : ∀ (hnm : pn.2.op = 1 ∨ pn.2.name = ⟨#[]⟩) (hvv : pn.2.op = 2 ∨ pn.2.v = nullV), Calls Tryd.prog 38 #[.agg #[.int .i64 pn.2.v.k, .int .i64 pn.2.v.n, .string pn.2.v.s]] w60 fun (e : Ending) (w' : World) => ∃ b : Bool, e = .returned (.bool b) ∧
          (b = false → (∃ u, w'.cell? ⟨b4, 0, none⟩ = some u) ∧ w'.frozen? ⟨b4, 0, none⟩ = false ∧ ∀ w64 : World, Put w' b4 0 [.bool false] w64 → Rec r l 1 w64 ∧ R false (turn r l 3 w64)) ∧ (b = true → Rec r l 1 w' ∧ R true (turn r l 0 w')) := by
        intro hnm hvv
        refine (vright_ok pn.2.v w60).mono ?_
        rintro e w' ⟨rfl, e'⟩
        refine ⟨_, rfl, fun hb => stop w' e' (bad ?_), fun hb => go w' e' (by omega) (by omega) ⟨by omega, hnm, hvv, of_decide_eq_true hb⟩⟩
        rintro ⟨_, _, _, h⟩
        exact absurd h (of_decide_eq_false hb)
      have nullI : pn.2.v = nullV ↔ pn.2.v.k = 0 ∧ pn.2.v.n = 0 ∧ pn.2.v.s = ⟨#[]⟩ := Val.ext'
      refine ⟨_, a0, fun h1 => ⟨_, a1, fun hnm => stop w60 .rfl (bad ?_), fun hnm => ⟨_, a0, fun h2 => ⟨_, a2, _, a3, _, a4, fun hv => stop w60 .rfl (bad ?_), fun hv => ⟨_, a2, _, a3, _, a4, vcall (.inr hnm) (.inr (nullI.2 hv))⟩⟩, fun h2 => ⟨_, a2, _, a3, _, a4, vcall (.inr hnm) (.inl h2)⟩⟩⟩,
        fun h1 => ⟨_, a0, fun h2 => ⟨_, a2, _, a3, _, a4, fun hv => stop w60 .rfl (bad ?_), fun hv => ⟨_, a2, _, a3, _, a4, vcall (.inl h1) (.inr (nullI.2 hv))⟩⟩, fun h2 => ⟨_, a2, _, a3, _, a4, vcall (.inl h1) (.inl h2)⟩⟩⟩
      · rintro ⟨_, h, _⟩
        rcases h with h | h
        · exact h1 h
        · exact hnm h
      · rintro ⟨_, _, h, _⟩
        rcases h with h | h
        · exact h2 h
        · have := nullI.1 h
          rcases hv with hv | hv | hv
          · exact hv this.1
          · exact hv this.2.1
          · exact hv this.2.2
      · rintro ⟨_, _, h, _⟩
        rcases h with h | h
        · exact h2 h
        · have := nullI.1 h
          rcases hv with hv | hv | hv
          · exact hv this.1
          · exact hv this.2.1
          · exact hv this.2.2
  · rintro e W ⟨rfl, hI | hS⟩
    · obtain ⟨_, ⟨rfl, hk, hg⟩, H⟩ := hI
      refine ⟨⟨_, rfl⟩, .inl ⟨H.loop 0 rfl, ?_⟩⟩
      have H2 := H.turn 0 2 rfl
      refine ⟨⟨_, (H2.blk 5 rfl).one⟩, (H2.blk 5 rfl).frozen 0, fun w82 h82 => ?_⟩
      have H82 := H2.box 5 rfl h82
      have H83 := H82.shut 1 rfl
      refine ⟨H82.dfr 1 rfl, _, (H83.blk 5 rfl).one, ?_, H83.ext⟩
      rw [List.drop_length] at hg
      rw [← hg]; rfl
    · obtain ⟨_, ⟨⟨m, rfl⟩, hf⟩, H⟩ := hS
      refine ⟨⟨_, rfl⟩, .inr (.inl ⟨H.loop 0 rfl, ?_⟩)⟩
      have H2 := H.turn 0 4 rfl
      have H83 := H2.shut 1 rfl
      refine ⟨H2.dfr 1 rfl, _, (H83.blk 5 rfl).one, ?_, H83.ext⟩
      rw [hf]
end Go.Proofs.YtpjafkcmbinjiaaDoor

/- The contracts of package expr: numbers, truths, one node. -/
namespace Go.Proofs.YtpjafkcmbinjiaaDoor
open Go Go.Vc Go.RowKit
set_option maxRecDepth 20000

/-- The tables of and, or. -/
def Tab2 (w : World) : Prop := CellsAt w 1 0 (tabA andI) ∧ CellsAt w 2 0 (tabA orJ)
theorem Tab2.ext {w w' : World} (h : Tab2 w) (e : Ext w w') : Tab2 w' := ⟨fun k v hk => cell_ext (h.1 k v hk) e, fun k v hk => cell_ext (h.2 k v hk) e⟩

end Go.Proofs.YtpjafkcmbinjiaaDoor

/- The contracts of package expr: a node of one kid, of two. -/
namespace Go.Proofs.YtpjafkcmbinjiaaDoor
open Go Go.Vc Go.RowKit
set_option maxRecDepth 20000

def trio (i : Int) : Prop := 0 ≤ i ∧ i < 3
theorem Tab2.and {w : World} (h : Tab2 w) {i j : Int} (hi : trio i) (hj : trio j) : w.cell? ⟨1, 0 + i.toNat * 3 + j.toNat, none⟩ = some (.int .i64 (andI i j)) := by
  obtain ⟨a, rfl⟩ := Int.eq_ofNat_of_zero_le hi.1
  obtain ⟨b, rfl⟩ := Int.eq_ofNat_of_zero_le hj.1
  unfold trio at hi hj
  rw [Int.toNat_natCast, Int.toNat_natCast, Nat.add_assoc]
  exact h.1 _ _ (tabA_at andI (by omega) (by omega))
theorem Tab2.or {w : World} (h : Tab2 w) {i j : Int} (hi : trio i) (hj : trio j) : w.cell? ⟨2, 0 + i.toNat * 3 + j.toNat, none⟩ = some (.int .i64 (orJ i j)) := by
  obtain ⟨a, rfl⟩ := Int.eq_ofNat_of_zero_le hi.1
  obtain ⟨b, rfl⟩ := Int.eq_ofNat_of_zero_le hj.1
  unfold trio at hi hj
  rw [Int.toNat_natCast, Int.toNat_natCast, Nat.add_assoc]
  exact h.2 _ _ (tabA_at orJ (by omega) (by omega))

end Go.Proofs.YtpjafkcmbinjiaaDoor

/- The contracts of package schema: rows that fit; the document's answer for them. -/
namespace Go.Proofs.YtpjafkcmbinjiaaDoor
open Go Go.Vc Go.RowKit
set_option maxRecDepth 20000

section
variable {w : World} {p rp : Option Addr} {n c rn rc : Nat} {cols : List Col} {row : List Val}

theorem r5right_ok (h : Cols w p n c cols) (hs : ∀ x ∈ cols, x.name.size ≤ 9223372036854775807) : Calls Tryd.prog 17 #[.slice p n c] w fun e w' => e = .returned (.bool (rightC cols)) ∧ Ext w w' := by
  apply r5right_vc
  unfold r5right_T
  have hl := h.len
  have hm : n ≤ 9223372036854775807 := h.le
  refine ⟨fun hb => ⟨?_, .rfl⟩, fun hg => ?_⟩
  · have : rightC cols = false := by
      unfold rightC
      rw [decide_eq_false (by omega)]; rfl
    rw [this]
  refine ⟨fun i w' => ∃ k : Nat, i = (k : Int) ∧ k ≤ n ∧ colsOk [] (cols.take k) = true ∧ Ext w w', fun i _ => n - i.toNat, ⟨0, rfl, Nat.zero_le _, by simp [colsOk], .rfl⟩, ?_⟩
  rintro i w6 ⟨k, rfl, hk, hok, hx⟩
  refine ⟨fun hlt => ?_, fun hge => ⟨?_, hx⟩⟩
  · have g : cols[k]? = some (cols[k]'(by omega)) := List.getElem?_eq_getElem _
    generalize cols[k]'(by omega) = x at g
    obtain ⟨b, o, hp, c0, c1, c2⟩ := (h.ext hx).col g
    have hdec : colRef cols k x = false → rightC cols = false := by
      intro hv
      rw [colRef_eq g] at hv
      unfold rightC
      have hc : cols = cols.take k ++ x :: cols.drop (k + 1) := by
        obtain ⟨hk', rfl⟩ := List.getElem?_eq_some_iff.1 g
        rw [← List.drop_eq_getElem_cons hk', List.take_append_drop]
      have : colsOk [] cols = false := by
        conv => lhs; rw [hc, colsOk_append]
        rw [hok, List.nil_append]
        unfold colsOk
        rw [hv]; rfl
      rw [this, Bool.and_false]
    simp only [Int.toNat_natCast]
    refine ⟨b, o, hp, by omega, by omega, _, c0, (r5isname_ok x.name (hs x (List.mem_of_getElem? g)) w6).mono ?_⟩
    rintro e w13 ⟨rfl, e13⟩
    have hx13 := hx.trans e13
    refine ⟨_, rfl, fun hn => ⟨by rw [hdec (by unfold colRef; rw [hn]; rfl)], hx13⟩, fun hn => ?_⟩
    refine ⟨b, o, hp, by omega, by omega, _, cell_ext c0 e13, (r5find_ok (h.ext hx13) x.name).mono ?_⟩
    rintro e w21 ⟨rfl, e21⟩
    have hx21 := hx13.trans e21
    refine ⟨_, rfl, fun hne => ⟨by rw [hdec (by unfold colRef; rw [decide_eq_false hne, Bool.and_false]; rfl)], hx21⟩, fun he => ?_⟩
    have c1' := cell_ext (cell_ext c1 e13) e21
    refine ⟨b, o, hp, by omega, by omega, _, c1', fun hlow => ⟨by rw [hdec (by unfold colRef; rw [decide_eq_false (by omega : ¬ (1 ≤ x.kind ∧ x.kind ≤ 3)), Bool.and_false])], hx21⟩, fun hge => ?_⟩
    refine ⟨b, o, hp, by omega, by omega, _, c1', fun hhi => ⟨by rw [hdec (by unfold colRef; rw [decide_eq_false (by omega : ¬ (1 ≤ x.kind ∧ x.kind ≤ 3)), Bool.and_false])], hx21⟩, fun hle => ?_⟩
    rw [i64_next (by omega)]
    refine ⟨⟨k + 1, rfl, by omega, ?_, hx21⟩, by simp only [Int.toNat_natCast]; omega⟩
    have htk : cols.take (k + 1) = cols.take k ++ [x] := by rw [List.take_add_one, g]; rfl
    rw [htk, colsOk_append, hok, List.nil_append]
    unfold colsOk
    rw [← colRef_eq g]
    unfold colRef
    rw [hn, decide_eq_true he, decide_eq_true (by omega)]; rfl
  · have hk' : k = n := by omega
    subst hk'
    rw [List.take_of_length_le (by omega)] at hok
    unfold rightC
    rw [hok, decide_eq_true (by omega)]; rfl

/-! ### Rows that fit -/
theorem r5fits_ok (h : Cols w p n c cols) (hs : ∀ x ∈ cols, x.name.size ≤ 9223372036854775807) (hr : Vs w rp rn rc row) : Calls Tryd.prog 8 #[.slice p n c, .slice rp rn rc] w fun e w' => e = .returned (.bool (fitsC cols row)) ∧ Ext w w' := by
  apply r5fits_vc
  unfold r5fits_T
  have hl := h.len
  have hrl := hr.len
  have hm : n ≤ 9223372036854775807 := h.le
  refine (r5right_ok h hs).mono ?_
  rintro e w2 ⟨rfl, e2⟩
  refine ⟨_, rfl, fun hb => ⟨?_, e2⟩, fun ⟨hb, heq⟩ => ?_⟩
  · have : fitsC cols row = false := by
      unfold fitsC
      rcases hb with hb | hb
      · rw [hb]; rfl
      · have : fitsL cols row = false := by
          rw [← Bool.not_eq_true]
          intro hf
          have := fitsL_length hf
          omega
        rw [this, Bool.and_false]
    rw [this]
  refine ⟨fun i w' => ∃ k : Nat, i = (k : Int) ∧ k ≤ n ∧ fitsL (cols.drop k) (row.drop k) = fitsL cols row ∧ Ext w w', fun i _ => n - i.toNat, ⟨0, rfl, Nat.zero_le _, rfl, e2⟩, ?_⟩
  rintro i w9 ⟨k, rfl, hk, hf, hx⟩
  have hfc : fitsC cols row = fitsL cols row := by unfold fitsC; rw [hb]; rfl
  refine ⟨fun hlt => ?_, fun hge => ⟨?_, hx⟩⟩
  · have g : cols[k]? = some (cols[k]'(by omega)) := List.getElem?_eq_getElem _
    generalize cols[k]'(by omega) = x at g
    have gv : row[k]? = some (row[k]'(by omega)) := List.getElem?_eq_getElem _
    generalize row[k]'(by omega) = v at gv
    have hfd := fitsL_drop g gv
    obtain ⟨b, o, hp, c0, c1, c2⟩ := (h.ext hx).col g
    obtain ⟨b2, o2, hp2, d0, d1, d2⟩ := (hr.ext hx).val gv
    simp only [Int.toNat_natCast]
    refine ⟨b2, o2, hp2, by omega, by omega, _, d0, _, d1, _, d2, (rvright_ok v w9).mono ?_⟩
    rintro e w18 ⟨rfl, e18⟩
    refine ⟨_, rfl, fun w20 h20 => ?_⟩
    have e20 := e18.trans h20.ext
    have hx20 := hx.trans e20
    have no : valFits x v = false → Ending.returned (Value.bool false) = Ending.returned (Value.bool (fitsC cols row)) ∧ Ext w w20 := by
      intro hv
      refine ⟨?_, hx20⟩
      rw [hfc, ← hf, hfd, hv]; rfl
    have yes : valFits x v = true → (∃ k' : Nat, IntKind.i64.wrap ((k : Int) + 1) = (k' : Int) ∧ k' ≤ n ∧ fitsL (cols.drop k') (row.drop k') = fitsL cols row ∧ Ext w w20) ∧ n - (IntKind.i64.wrap ((k : Int) + 1)).toNat < n - k := by
      intro hv
      rw [i64_next (by omega)]
      exact ⟨⟨k + 1, rfl, by omega, by rw [← hf, hfd, hv]; rfl, hx20⟩, by simp only [Int.toNat_natCast]; omega⟩
    have d0' := cell_ext d0 e20
    refine ⟨fun hv => no (by unfold valFits; rw [hv]; rfl), fun hv => ⟨b2, o2, hp2, by omega, by omega, _, d0', b, o, hp, by omega, by omega, _, cell_ext c1 e20, fun hne => ⟨b2, o2, hp2, by omega, by omega, _, d0', fun h0 => no ?_, fun h0 => ⟨b, o, hp, by omega, by omega, _, cell_ext c2 e20, fun hnull => no ?_, fun hnull => yes ?_⟩⟩, fun he => yes ?_⟩⟩
    · unfold valFits; rw [hv, decide_eq_false hne, decide_eq_false h0]; simp
    · unfold valFits; rw [hv, decide_eq_false hne, hnull]; rfl
    · unfold valFits; rw [hv, decide_eq_false hne, hnull, decide_eq_true h0]; rfl
    · unfold valFits; rw [hv, decide_eq_true he]; rfl
  · rw [hfc, ← hf, List.drop_eq_nil_of_le (by omega), List.drop_eq_nil_of_le (by omega)]; rfl
end
end Go.Proofs.YtpjafkcmbinjiaaDoor

/- The contracts of package expr: kinds. -/
namespace Go.Proofs.YtpjafkcmbinjiaaDoor
open Go Go.Vc Go.RowKit
set_option maxRecDepth 20000

theorem many_le (op : Int) : manyOf op ≤ 2 := by
  unfold manyOf
  split
  · omega
  · split
    · omega
    · split <;> omega
theorem alike_ok (a b : Int) (w : World) : Calls Tryd.prog 60 #[.int .i64 a, .int .i64 b] w fun e w' => e = .returned (.bool (alikeB a b)) ∧ Ext w w' := by
  apply alike_vc
  unfold alike_T
  exact ⟨rfl, .rfl⟩

set_option maxHeartbeats 4000000 in
theorem xkind_ok : ∀ (N : Nat) (x : Ex) {w : World} {p : Option Addr} {n c : Nat} {cols : List Col} {cs : List Value}, depthT x ≤ N → (∀ y ∈ nodesT x, NodeOk y) → Tab w → Cols w p n c cols → ExAt w x cs →
    Calls Tryd.prog 37 #[.slice p n c, .agg cs.toArray] w fun e w' => e = .returned (.tuple #[.int .i64 (kindF cols x).1, .int .i64 (kindF cols x).2]) ∧ Ext w w' := by
  intro N
  induction N with
  | zero => intro x w p n c cols cs hd; cases x; unfold depthT at hd; omega
  | succ N ih =>
  intro x w p n c cols cs hd hno hT hc hx
  obtain ⟨xp, xn, xc, rfl, hkl, hxn, hkid⟩ := hx.six
  obtain ⟨hmany, _⟩ := hno x (self_node x)
  have h2 := many_le x.op
  have hop := many_range (op := x.op) (by omega)
  have hl := hc.len
  apply xkind_vc
  unfold xkind_T
  intro b1 w2 h1
  have H2 := (Hold.start (Ext.rfl (w := w))).new h1
  have B1 : Blk w2 b1 28 #[.int .i64 x.op, .string x.name, .int .i64 x.v.k, .int .i64 x.v.n, .string x.v.s, .slice xp xn xc] := H2.blk 0 rfl
  obtain ⟨a0, a1, a2, a3, a4, a5⟩ := B1.c6
  obtain ⟨t0, t1, t2⟩ := (hT.ext H2.ext).at (op := x.op) (by omega) (by omega)
  refine ⟨_, a0, by omega, by omega, _, t0, _, t1, _, t2, fun b8 w9 h8 => ?_⟩
  have H9 := H2.new h8
  obtain ⟨q0, q1, q2⟩ := (H9.blk 0 rfl).c3
  refine ⟨⟨_, q0⟩, (H9.blk 0 rfl).frozen _, ⟨_, q1⟩, (H9.blk 0 rfl).frozen _, ⟨_, q2⟩, (H9.blk 0 rfl).frozen _, fun w14 h14 b16 w17 h16 => ?_⟩
  have H17 := (H9.put 0 rfl h14).new h16
  let fs : List Int → List (Nat × Obj) := fun L => [(b16, .cells #[.int .i64 (L.getD 0 0), .int .i64 (L.getD 1 0)] 98 (0, 0)), (b8, .cells #[.int .i64 (manyOf x.op), .int .i64 (wantOf x.op), .int .i64 (kindOf x.op)] 96 (0, 0)),
    (b1, .cells #[.int .i64 x.op, .string x.name, .int .i64 x.v.k, .int .i64 x.v.n, .string x.v.s, .slice xp xn xc] 28 (0, 0))]
  have H17 : Hold w w17 (fs []) [] := H17
  have c5 : ∀ {L : List Int} {W : World}, Hold w W (fs L) [] → W.cell? ⟨b1, 5, none⟩ = some (.slice xp xn xc) := fun H => by rw [(H.blk 2 rfl).cell]; rfl
  refine ⟨_, _, _, c5 H17, fun i W => ∃ j : Nat, i = (j : Int) ∧ j ≤ xn ∧ (runL (kindF cols) (x.kids.take j)).2 = 0 ∧ Hold w W (fs (runL (kindF cols) (x.kids.take j)).1) [], fun i _ => xn - i.toNat, ⟨0, rfl, Nat.zero_le _, rfl, H17⟩, ?_⟩
  rintro i W ⟨j, rfl, hj, hrun, H⟩
  refine ⟨fun hlt => ?_, fun hge => ?_⟩
  · have g : x.kids[j]? = some (x.kids[j]'(by omega)) := List.getElem?_eq_getElem _
    generalize x.kids[j]'(by omega) = k at g
    obtain ⟨kc, b, o, hk, hp, hcell⟩ := hkid H.ext g
    obtain ⟨kp, kn, kcap, hkc, _⟩ := hk.six
    simp only [Int.toNat_natCast]
    have e0 := hcell 0 _ (by rw [hkc]; rfl)
    have e1 := hcell 1 _ (by rw [hkc]; rfl)
    have e2 := hcell 2 _ (by rw [hkc]; rfl)
    have e3 := hcell 3 _ (by rw [hkc]; rfl)
    have e4 := hcell 4 _ (by rw [hkc]; rfl)
    have e5 := hcell 5 _ (by rw [hkc]; rfl)
    refine ⟨b, o, hp, by omega, by omega, _, e0, _, e1, _, e2, _, e3, _, e4, _, _, _, e5, fun b38 w39 h38 => ?_⟩
    have H39 := H.new h38
    refine (H39.blk 0 rfl).w6 fun w47 h47 => ?_
    have H47 := H39.put 0 rfl h47
    have Bk : Blk w47 b38 28 #[.int .i64 k.op, .string k.name, .int .i64 k.v.k, .int .i64 k.v.n, .string k.v.s, .slice kp kn kcap] := H47.blk 0 rfl
    obtain ⟨a0, a1, a2, a3, a4, a5⟩ := Bk.c6
    subst hkc
    refine ⟨_, a0, _, a1, _, a2, _, a3, _, a4, _, _, _, a5, (ih k (by have := kid_depth g; omega) (fun y hy => hno y (kid_node g hy)) (hT.ext H47.ext) (hc.ext H47.ext) (hk.ext H47.ext)).mono ?_⟩
    rintro e w58 ⟨rfl, e58⟩
    have H58 := H47.step e58
    refine ⟨_, _, rfl, fun hne => ⟨?_, H58.ext⟩, fun he => ⟨by omega, by omega, ?_⟩⟩
    · rw [kindF_eq cols x, runL_stop g hrun hne, if_pos hne]
    · have H58 : Hold w w58 ((b38, _) :: fs (runL (kindF cols) (x.kids.take j)).1) [] := H58
      have hnx := runL_take (f := kindF cols) g hrun
      rw [if_neg (by simpa using he)] at hnx
      have hlen := runL_len hrun
      rw [List.length_take, Nat.min_eq_left (by omega)] at hlen
      have Bq := H58.blk 1 rfl
      have hcellj : ∃ u, w58.cell? ⟨b16, 0 + j, none⟩ = some u := by
        rcases (by omega : j = 0 ∨ j = 1) with rfl | rfl
        · exact ⟨_, by rw [Bq.cell]; rfl⟩
        · exact ⟨_, by rw [Bq.cell]; rfl⟩
      refine ⟨hcellj, Bq.frozen _, fun w64 h64 => ?_⟩
      have H64 := (H58.put 1 rfl h64).tail
      rw [i64_next (by omega)]
      refine ⟨⟨j + 1, rfl, by omega, by rw [hnx], ?_⟩, by simp only [Int.toNat_natCast]; omega⟩
      rw [hnx]
      generalize (runL (kindF cols) (x.kids.take j)).1 = L at hlen H64 ⊢
      rcases (by omega : j = 0 ∨ j = 1) with rfl | rfl
      · rw [List.length_eq_zero_iff] at hlen
        subst hlen
        exact H64
      · obtain ⟨g0, rfl⟩ := List.length_eq_one_iff.1 hlen
        exact H64
  · have hjn : j = xn := by omega
    subst hjn
    rw [List.take_of_length_le (by omega)] at hrun H
    have hlen := runL_len hrun
    generalize hL : (runL (kindF cols) x.kids).1 = L at hlen H
    have hkf : kindF cols x = kindN cols x.op x.name x.v L := by rw [kindF_eq, if_neg (by simpa using hrun), hL]
    refine ⟨_, _, _, c5 H, fun i W => ∃ k : Nat, i = (k : Int) ∧ k ≤ j ∧ (wantOf x.op ≠ 0 → ∀ g ∈ L.take k, alikeB g (wantOf x.op) = true) ∧ Hold w W (fs L) [], fun i _ => j - i.toNat, ⟨0, rfl, Nat.zero_le _, by simp, H⟩, ?_⟩
    clear H
    rintro i W ⟨k, rfl, hk, hal, H⟩
    refine ⟨fun hlt w76 h76 => ?_, fun hge => ?_⟩
    · have H76 := H.step h76.ext
      have Bs : Blk w76 b8 96 #[.int .i64 (manyOf x.op), .int .i64 (wantOf x.op), .int .i64 (kindOf x.op)] := H76.blk 1 rfl
      obtain ⟨s0, s1, s2⟩ := Bs.c3
      have g : L[k]? = some (L[k]'(by omega)) := List.getElem?_eq_getElem _
      generalize L[k]'(by omega) = gk at g
      have hck : w76.cell? ⟨b16, 0 + k, none⟩ = some (.int .i64 gk) := by
        have Bq := H76.blk 0 rfl
        rw [Bq.cell]
        rcases (by omega : k = 0 ∨ k = 1) with rfl | rfl
        · show some (Value.int .i64 (L.getD 0 0)) = _
          rw [List.getD_eq_getElem?_getD, g]; rfl
        · show some (Value.int .i64 (L.getD 1 0)) = _
          rw [List.getD_eq_getElem?_getD, g]; rfl
      have nxt : ∀ W', Ext w76 W' → (wantOf x.op ≠ 0 → alikeB gk (wantOf x.op) = true) → (∃ k' : Nat, IntKind.i64.wrap ((k : Int) + 1) = (k' : Int) ∧ k' ≤ j ∧ (wantOf x.op ≠ 0 → ∀ g ∈ L.take k', alikeB g (wantOf x.op) = true) ∧ Hold w W' (fs L) []) ∧
          j - (IntKind.i64.wrap ((k : Int) + 1)).toNat < j - k := by
        intro W' e hb
        rw [i64_next (by omega)]
        refine ⟨⟨k + 1, rfl, by omega, fun hw y hy => ?_, H76.step e⟩, by simp only [Int.toNat_natCast]; omega⟩
        rw [List.take_add_one, g] at hy
        rcases List.mem_append.1 hy with hy | hy
        · exact hal hw y hy
        · simp at hy; subst hy; exact hb hw
      simp only [Int.toNat_natCast]
      refine ⟨_, s1, fun hw => ⟨by omega, by omega, _, hck, _, s1, (alike_ok gk (wantOf x.op) w76).mono ?_⟩, fun hw => nxt w76 .rfl fun h => absurd hw h⟩
      rintro e w83 ⟨rfl, e83⟩
      refine ⟨_, rfl, fun hb => ⟨?_, (H76.step e83).ext⟩, fun hb => nxt w83 e83 fun _ => hb⟩
      rw [hkf]
      unfold kindN
      rw [if_pos ⟨hw, fun hall => by rw [hall gk (List.mem_of_getElem? g)] at hb; cases hb⟩]
    · have hkj : k = j := by omega
      rw [hkj, List.take_of_length_le (by omega)] at hal
      have hwant : ¬ (wantOf x.op ≠ 0 ∧ ¬ (∀ g ∈ L, alikeB g (wantOf x.op) = true)) := fun h => h.2 (hal h.1)
      have B1 : Blk W b1 28 #[.int .i64 x.op, .string x.name, .int .i64 x.v.k, .int .i64 x.v.n, .string x.v.s, .slice xp j xc] := H.blk 2 rfl
      obtain ⟨a0, a1, a2, a3, a4, a5⟩ := B1.c6
      have Bs : Blk W b8 96 #[.int .i64 (manyOf x.op), .int .i64 (wantOf x.op), .int .i64 (kindOf x.op)] := H.blk 1 rfl
      obtain ⟨s0, s1, s2⟩ := Bs.c3
      have Bq := H.blk 0 rfl
      have k0 : W.cell? ⟨b16, 0, none⟩ = some (.int .i64 (L.getD 0 0)) := by rw [Bq.cell]; rfl
      have k1 : W.cell? ⟨b16, 1, none⟩ = some (.int .i64 (L.getD 1 0)) := by rw [Bq.cell]; rfl
      have plain : x.op ≠ 1 → x.op ≠ 2 → ¬ ((x.op = 9 ∨ x.op = 10 ∨ x.op = 11) ∧ alikeB (L.getD 0 0) (L.getD 1 0) = false) → kindF cols x = (kindOf x.op, 0) := fun h1 h2 h9 => by
        rw [hkf]; unfold kindN; rw [if_neg hwant, if_neg h1, if_neg h2, if_neg h9]
      refine ⟨_, a0, fun h1 => ⟨_, a1, (sfind_ok (hc.ext H.ext) x.name).mono ?_⟩, fun h1 => ⟨fun h2 => ⟨_, a2, ?_, H.ext⟩, fun h2 => ?_⟩⟩
      · rintro e w93 ⟨rfl, e93⟩
        have hx93 := H.ext.trans e93
        refine ⟨_, rfl, fun hneg => ⟨?_, hx93⟩, fun hpos => ?_⟩
        · rw [hkf]; unfold kindN; rw [if_neg hwant, if_pos h1, if_pos hneg]
        · obtain ⟨y, hy, hyn⟩ := findC_get hpos
          obtain ⟨b, o, hp, d0, d1, d2⟩ := (hc.ext hx93).col hy
          have hrg := findC_range cols x.name
          refine ⟨b, o, hp, hpos, by omega, _, d1, ?_, hx93⟩
          rw [hkf]; unfold kindN; rw [if_neg hwant, if_pos h1, if_neg (by omega), hy]; rfl
      · rw [hkf]; unfold kindN; rw [if_neg hwant, if_neg h1, if_pos h2]
      · refine ⟨fun h9 => ⟨fun _ => ?_, fun h => absurd h9 h⟩, fun h9 => ⟨fun h10 => ⟨fun _ => ?_, fun h => absurd h10 h⟩, fun h10 => ⟨fun h11 => ?_, fun h11 => ⟨_, s2, ?_, H.ext⟩⟩⟩⟩
        rotate_left 3
        · rw [plain h1 h2 (by omega)]
        all_goals
          refine ⟨by omega, by omega, _, k0, by omega, by omega, _, k1, (alike_ok _ _ W).mono ?_⟩
          rintro e w109 ⟨rfl, e109⟩
          refine ⟨_, rfl, fun hb => ⟨?_, H.ext.trans e109⟩, fun hb => ⟨_, cell_ext s2 e109, ?_, H.ext.trans e109⟩⟩
          · rw [hkf]; unfold kindN; rw [if_neg hwant, if_neg h1, if_neg h2, if_pos ⟨by omega, hb⟩]
          · rw [plain h1 h2 (fun h => by rw [h.2] at hb; cases hb)]

theorem xtype_ok (x : Ex) {w : World} {p : Option Addr} {n c : Nat} {cols : List Col} {cs : List Value} (hT : Tab w) (hc : Cols w p n c cols) (hx : ExAt w x cs) :
    Calls Tryd.prog 21 #[.slice p n c, .agg cs.toArray] w fun e w' => e = .returned (.tuple #[.int .i64 (typeF cols x).1, .int .i64 (typeF cols x).2]) ∧ Ext w w' := by
  obtain ⟨xp, xn, xc, hcs, _⟩ := hx.six
  have hcs' := hcs
  subst hcs
  apply xtype_vc
  unfold xtype_T
  intro b1 w2 h1
  have H2 := (Hold.start (Ext.rfl (w := w))).new h1
  refine (sright_ok (hc.ext H2.ext)).mono ?_
  rintro e w5 ⟨rfl, e5⟩
  have H5 := H2.step e5
  refine ⟨_, rfl, fun hb => ⟨by unfold typeF; rw [if_pos hb], H5.ext⟩, fun hb => ?_⟩
  have B1 : Blk w5 b1 28 #[.int .i64 x.op, .string x.name, .int .i64 x.v.k, .int .i64 x.v.n, .string x.v.s, .slice xp xn xc] := H5.blk 0 rfl
  obtain ⟨a0, a1, a2, a3, a4, a5⟩ := B1.c6
  refine ⟨_, a0, _, a1, _, a2, _, a3, _, a4, _, _, _, a5, (xformed_ok (hT.ext H5.ext) x (hx.ext H5.ext)).mono ?_⟩
  rintro e w18 ⟨rfl, e18⟩
  have H18 := H5.step e18
  refine ⟨_, rfl, fun hf => ⟨by unfold typeF; rw [if_neg (by simp [hb]), if_pos hf], H18.ext⟩, fun hf => ?_⟩
  have hfp : FormedP x := of_decide_eq_true hf
  refine ⟨_, cell_ext a0 e18, _, cell_ext a1 e18, _, cell_ext a2 e18, _, cell_ext a3 e18, _, cell_ext a4 e18, _, _, _, cell_ext a5 e18, (xkind_ok _ x (Nat.le_refl _) hfp.1 (hT.ext H18.ext) (hc.ext H18.ext) (hx.ext H18.ext)).mono ?_⟩
  rintro e w31 ⟨rfl, e31⟩
  exact ⟨_, _, rfl, by unfold typeF; rw [if_neg (by simp [hb]), if_neg (by simp [hf])], (H18.step e31).ext⟩
end Go.Proofs.YtpjafkcmbinjiaaDoor

/- The contracts of package expr: values. -/
namespace Go.Proofs.YtpjafkcmbinjiaaDoor
open Go Go.Vc Go.RowKit
set_option maxRecDepth 20000

end Go.Proofs.YtpjafkcmbinjiaaDoor

/- The contracts of the document's answer for expressions: which are well formed. -/
namespace Go.Proofs.YtpjafkcmbinjiaaDoor
open Go Go.Vc Go.RowKit
set_option maxRecDepth 20000

end Go.Proofs.YtpjafkcmbinjiaaDoor

/- Expressions over many rows at once. Plain Lean, no program. -/
namespace Go.Vc
open Go Go.RowKit

def colAt (B : List (List Val)) (c i : Nat) : Val := (((B[c]?).getD [])[i]?).getD nullV
def rowAt (B : List (List Val)) (i : Nat) : List Val := B.map fun c => (c[i]?).getD nullV
def chosenAt (n : Nat) (ch : List Int) (i : Nat) : Bool := decide (0 ≤ ch.getD i 0 ∧ ch.getD i 0 < (n : Int) ∧ (0 < i → ch.getD (i - 1) 0 < ch.getD i 0))
def highB (B : List (List Val)) : Nat := ((B[0]?).getD []).length
def rightB (cols : List Col) (B : List (List Val)) (ch : List Int) : Bool :=
  decide (B.length = cols.length ∧ highB B ≤ 1024) && B.all (fun c => decide (c.length = highB B)) && (List.range (highB B)).all (fun i => fitsC cols (rowAt B i)) && (List.range ch.length).all (chosenAt (highB B) ch)
def valAt (cols : List Col) (B : List (List Val)) (x : Ex) (i : Int) : Val × Int := valueF cols (rowAt B i.toNat) x
/-- The values, their errors, the error. -/
def evalB (cols : List Col) (B : List (List Val)) (ch : List Int) (x : Ex) : List Val × List Int × Int :=
  if (typeF cols x).2 ≠ 0 then ([], [], (typeF cols x).2) else if rightB cols B ch = false then ([], [], 2)
  else (ch.map fun i => (valAt cols B x i).1, ch.map fun i => (valAt cols B x i).2, 0)
def isTrue (v : Val) : Bool := decide (v.k = 2 ∧ v.n = 1)
/-- The first place that has an error, or all have none. -/
def firstBad (cols : List Col) (B : List (List Val)) (x : Ex) : List Int → Option Int
  | [] => none
  | i :: r => if (valAt cols B x i).2 ≠ 0 then some i else firstBad cols B x r
def filterB (cols : List Col) (B : List (List Val)) (ch : List Int) (x : Ex) : List Int × Int × Int :=
  if (typeF cols x).2 ≠ 0 then ([], 0, (typeF cols x).2) else if (typeF cols x).1 ≠ 2 ∧ (typeF cols x).1 ≠ 0 then ([], 0, 121) else if rightB cols B ch = false then ([], 0, 2)
  else match firstBad cols B x ch with
    | some i => ([], i, (valAt cols B x i).2)
    | none => (ch.filter fun i => isTrue (valAt cols B x i).1, 0, 0)
def turnB (cols : List Col) (rows : List (List Val)) : List (List Val) × Int :=
  if rightC cols = false then ([], 50) else if 1024 < rows.length ∨ ¬ (∀ r ∈ rows, fitsC cols r = true) then ([], 2)
  else ((List.range cols.length).map fun c => rows.map fun r => (r[c]?).getD nullV, 0)
def allCh (B : List (List Val)) : List Int := (List.range (highB B)).map fun i : Nat => (i : Int)

section
variable {cols : List Col} {B rows : List (List Val)} {ch : List Int} {a b x : Ex}
theorem fitsC_iff {r : List Val} (h : rightC cols = true) : fitsC cols r = fitsL cols r := by unfold fitsC; rw [h]; rfl
theorem typeF_right (h : (typeF cols x).2 = 0) : rightC cols = true ∧ formedB x = true ∧ typeF cols x = kindF cols x := by
  unfold typeF at h ⊢
  by_cases h1 : rightC cols = true
  · by_cases h2 : formedB x = true
    · simp [h1, h2]
    · simp [h1, h2] at h
  · simp [h1] at h
/-! ### Columns of rows -/
theorem turned (h : rightC cols = true) (hl : rows.length ≤ 1024) (hf : ∀ r ∈ rows, fitsC cols r = true) : turnB cols rows = ((List.range cols.length).map fun c => rows.map fun r => (r[c]?).getD nullV, 0) := by
  unfold turnB
  rw [if_neg (by simp [h]), if_neg]
  rintro (h | h)
  · omega
  · exact h hf
/-! ### Filtering by both -/
end
end Go.Vc

/- The contracts of package prune: zones, Answers, May. -/
namespace Go.Proofs.YtpjafkcmbinjiaaDoor
open Go Go.Vc Go.RowKit
set_option maxRecDepth 20000
attribute [local irreducible] Calls Put Drew New

theorem zoneOk_eq (c : Col) (z : Zn) (n : Int) : zoneOk c z n = (z.lo.right && z.hi.right && decide (0 ≤ z.nulls) && decide (z.nulls ≤ n) && (!decide (0 < z.nulls) || c.null) &&
    (if z.nulls = n then decide (z.lo = nullV) && decide (z.hi = nullV) else (decide (z.lo.k = c.kind) && (decide (z.hi.k = c.kind) && decide (cmpV z.lo z.hi ≤ 0))))) := by
  unfold zoneOk Val.right
  rw [Bool.eq_iff_iff]
  simp only [Bool.and_eq_true, decide_eq_true_eq, Bool.or_eq_true, Bool.not_eq_true', decide_eq_false_iff_not]
  by_cases h : z.nulls = n
  · simp only [h, if_true, Bool.and_eq_true, decide_eq_true_eq]
    constructor
    · rintro ⟨⟨a, b, c, d, e⟩, f, g⟩
      exact ⟨⟨⟨⟨⟨a, b⟩, c⟩, d⟩, by by_cases hp : 0 < n; exact .inr (e hp); exact .inl hp⟩, f, g⟩
    · rintro ⟨⟨⟨⟨⟨a, b⟩, c⟩, d⟩, e⟩, f, g⟩
      exact ⟨⟨a, b, c, d, fun hp => e.resolve_left (fun hn => hn hp)⟩, f, g⟩
  · simp only [h, if_false, Bool.and_eq_true, decide_eq_true_eq]
    constructor
    · rintro ⟨⟨a, b, c, d, e⟩, f, g, i⟩
      exact ⟨⟨⟨⟨⟨a, b⟩, c⟩, d⟩, by by_cases hp : 0 < z.nulls; exact .inr (e hp); exact .inl hp⟩, f, g, i⟩
    · rintro ⟨⟨⟨⟨⟨a, b⟩, c⟩, d⟩, e⟩, f, g, i⟩
      exact ⟨⟨a, b, c, d, fun hp => e.resolve_left (fun hn => hn hp)⟩, f, g, i⟩
theorem isNull_eq (v : Val) : (decide (v.k = Int.ofNat 0) && (decide (v.n = Int.ofNat 0) && sEq v.s ⟨#[]⟩)) = decide (v = nullV) := by
  rw [Bool.eq_iff_iff]
  simp only [Bool.and_eq_true, decide_eq_true_eq, Val.ext', nullV]
  constructor
  · rintro ⟨a, b, c⟩
    exact ⟨a, b, by unfold sEq at c; rw [beq_iff_eq, ba_toList, ba_toList] at c; exact tB_inj.1 c⟩
  · rintro ⟨a, b, c⟩
    exact ⟨a, b, by rw [c]; exact sEq_self _⟩
set_option maxHeartbeats 4000000 in
theorem pright_ok {cols : List Col} {zones : List Zn} {m : Int} {i : Nat} {col : Col} {z : Zn} {w : World} {p zp : Option Addr} {n c zn zc : Nat} (hc : Cols w p n c cols) (hz : Zns w zp zn zc zones) (hcol : cols[i]? = some col) (hzi : zones[i]? = some z) :
    Calls Tryd.prog 22 #[.agg #[.slice p n c, .slice zp zn zc, .int .i64 m], .int .i64 (i : Int)] w fun e w' => e = .returned (.bool (zoneOk col z m)) ∧ Ext w w' := by
  have hl1 := hc.len
  have hl2 := hz.len
  have hi1 := (List.getElem?_eq_some_iff.1 hcol).1
  have hi2 := (List.getElem?_eq_some_iff.1 hzi).1
  apply pright_vc
  unfold pright_T
  have H := Hold.start (Ext.rfl (w := w))
  repeat (first
    | (intro _ _ hS; replace H := H.new hS; clear hS)
    | (intro _ hS; (first | replace H := H.put 0 rfl hS | replace H := H.put 1 rfl hS | replace H := H.put 2 rfl hS | replace H := H.put 3 rfl hS | replace H := H.put 4 rfl hS | replace H := H.put 5 rfl hS | replace H := H.put 6 rfl hS | replace H := H.put 7 rfl hS); clear hS; try simp only [setA, List.setIfInBounds_toArray, List.set_cons_zero, List.set_cons_succ, Nat.zero_add, Nat.reduceAdd] at H)
    | (intro _ hS; replace H := H.step (Drew.ext hS); clear hS)
    | (first | refine ⟨⟨_, H.get 0 rfl rfl⟩, ?_⟩ | refine ⟨⟨_, H.get 1 rfl rfl⟩, ?_⟩ | refine ⟨⟨_, H.get 2 rfl rfl⟩, ?_⟩ | refine ⟨⟨_, H.get 3 rfl rfl⟩, ?_⟩ | refine ⟨⟨_, H.get 4 rfl rfl⟩, ?_⟩ | refine ⟨⟨_, H.get 5 rfl rfl⟩, ?_⟩ | refine ⟨⟨_, H.get 6 rfl rfl⟩, ?_⟩ | refine ⟨⟨_, H.get 7 rfl rfl⟩, ?_⟩)
    | (first | refine ⟨H.frz 0 rfl, ?_⟩ | refine ⟨H.frz 1 rfl, ?_⟩ | refine ⟨H.frz 2 rfl, ?_⟩ | refine ⟨H.frz 3 rfl, ?_⟩ | refine ⟨H.frz 4 rfl, ?_⟩ | refine ⟨H.frz 5 rfl, ?_⟩ | refine ⟨H.frz 6 rfl, ?_⟩ | refine ⟨H.frz 7 rfl, ?_⟩)
    | (first | refine ⟨_, H.get 0 rfl rfl, ?_⟩ | refine ⟨_, H.get 1 rfl rfl, ?_⟩ | refine ⟨_, H.get 2 rfl rfl, ?_⟩ | refine ⟨_, H.get 3 rfl rfl, ?_⟩ | refine ⟨_, H.get 4 rfl rfl, ?_⟩ | refine ⟨_, H.get 5 rfl rfl, ?_⟩ | refine ⟨_, H.get 6 rfl rfl, ?_⟩ | refine ⟨_, H.get 7 rfl rfl, ?_⟩)
    | (first | refine ⟨_, _, _, H.get 0 rfl rfl, ?_⟩ | refine ⟨_, _, _, H.get 1 rfl rfl, ?_⟩ | refine ⟨_, _, _, H.get 2 rfl rfl, ?_⟩ | refine ⟨_, _, _, H.get 3 rfl rfl, ?_⟩ | refine ⟨_, _, _, H.get 4 rfl rfl, ?_⟩ | refine ⟨_, _, _, H.get 5 rfl rfl, ?_⟩ | refine ⟨_, _, _, H.get 6 rfl rfl, ?_⟩ | refine ⟨_, _, _, H.get 7 rfl rfl, ?_⟩))
  obtain ⟨zb, zo, hzp, z0, z1, z2, z3, z4, z5, z6⟩ := (hz.ext H.ext).zone hzi
  refine ⟨zb, zo, hzp, by omega, by omega, _, z0, _, z1, _, z2, _, z3, _, z4, _, z5, _, z6, ?_⟩
  repeat (first
    | (intro _ _ hS; replace H := H.new hS; clear hS)
    | (intro _ hS; (first | replace H := H.put 0 rfl hS | replace H := H.put 1 rfl hS | replace H := H.put 2 rfl hS | replace H := H.put 3 rfl hS | replace H := H.put 4 rfl hS | replace H := H.put 5 rfl hS | replace H := H.put 6 rfl hS | replace H := H.put 7 rfl hS); clear hS; try simp only [setA, List.setIfInBounds_toArray, List.set_cons_zero, List.set_cons_succ, Nat.zero_add, Nat.reduceAdd] at H)
    | (intro _ hS; replace H := H.step (Drew.ext hS); clear hS)
    | (first | refine ⟨⟨_, H.get 0 rfl rfl⟩, ?_⟩ | refine ⟨⟨_, H.get 1 rfl rfl⟩, ?_⟩ | refine ⟨⟨_, H.get 2 rfl rfl⟩, ?_⟩ | refine ⟨⟨_, H.get 3 rfl rfl⟩, ?_⟩ | refine ⟨⟨_, H.get 4 rfl rfl⟩, ?_⟩ | refine ⟨⟨_, H.get 5 rfl rfl⟩, ?_⟩ | refine ⟨⟨_, H.get 6 rfl rfl⟩, ?_⟩ | refine ⟨⟨_, H.get 7 rfl rfl⟩, ?_⟩)
    | (first | refine ⟨H.frz 0 rfl, ?_⟩ | refine ⟨H.frz 1 rfl, ?_⟩ | refine ⟨H.frz 2 rfl, ?_⟩ | refine ⟨H.frz 3 rfl, ?_⟩ | refine ⟨H.frz 4 rfl, ?_⟩ | refine ⟨H.frz 5 rfl, ?_⟩ | refine ⟨H.frz 6 rfl, ?_⟩ | refine ⟨H.frz 7 rfl, ?_⟩)
    | (first | refine ⟨_, H.get 0 rfl rfl, ?_⟩ | refine ⟨_, H.get 1 rfl rfl, ?_⟩ | refine ⟨_, H.get 2 rfl rfl, ?_⟩ | refine ⟨_, H.get 3 rfl rfl, ?_⟩ | refine ⟨_, H.get 4 rfl rfl, ?_⟩ | refine ⟨_, H.get 5 rfl rfl, ?_⟩ | refine ⟨_, H.get 6 rfl rfl, ?_⟩ | refine ⟨_, H.get 7 rfl rfl, ?_⟩)
    | (first | refine ⟨_, _, _, H.get 0 rfl rfl, ?_⟩ | refine ⟨_, _, _, H.get 1 rfl rfl, ?_⟩ | refine ⟨_, _, _, H.get 2 rfl rfl, ?_⟩ | refine ⟨_, _, _, H.get 3 rfl rfl, ?_⟩ | refine ⟨_, _, _, H.get 4 rfl rfl, ?_⟩ | refine ⟨_, _, _, H.get 5 rfl rfl, ?_⟩ | refine ⟨_, _, _, H.get 6 rfl rfl, ?_⟩ | refine ⟨_, _, _, H.get 7 rfl rfl, ?_⟩))
  obtain ⟨cb, co, hcp, c0, c1, c2⟩ := (hc.ext H.ext).col hcol
  refine ⟨cb, co, hcp, by omega, by omega, _, c0, _, c1, _, c2, ?_⟩
  clear z0 z1 z2 z3 z4 z5 z6 c0 c1 c2
  repeat' (first
    | (refine And.intro ?_ (fun _ _ hS => ?_)
       rotate_left
       have eX := hS.ext; have zS := hS.size; replace H := H.new hS
       (try refine And.intro eX.same ?_)
       rotate_left)
    | (refine And.intro (fun hq => ?_) (fun hq => ?_) <;> (try (exfalso; omega)))
    | (intro _ _ hS
       have eX := hS.ext; have zS := hS.size; replace H := H.new hS
       (try refine And.intro eX.same ?_))
    | (intro _ hS
       (first | replace H := H.put 0 rfl hS | replace H := H.put 1 rfl hS | replace H := H.put 2 rfl hS)
       (try refine And.intro (hS.but.sameTo (by omega)) ?_)
       clear hS
       try simp only [setA, List.setIfInBounds_toArray, List.set_cons_zero, List.set_cons_succ, Nat.zero_add, Nat.reduceAdd] at H)
    | (first | refine ⟨⟨_, H.get 0 rfl rfl⟩, ?_⟩ | refine ⟨⟨_, H.get 1 rfl rfl⟩, ?_⟩)
    | (first | refine ⟨H.frz 0 rfl, ?_⟩ | refine ⟨H.frz 1 rfl, ?_⟩)
    | (first | refine ⟨_, H.get 0 rfl rfl, ?_⟩ | refine ⟨_, H.get 1 rfl rfl, ?_⟩ | refine ⟨_, H.get 2 rfl rfl, ?_⟩ | refine ⟨_, H.get 3 rfl rfl, ?_⟩)
    | (refine (vright_ok z.lo _).mono ?_
       rintro e W ⟨rfl, eX⟩
       replace H := H.step eX
       refine ⟨_, rfl, ?_⟩)
    | (refine (vright_ok z.hi _).mono ?_
       rintro e W ⟨rfl, eX⟩
       replace H := H.step eX
       refine ⟨_, rfl, ?_⟩)
    | (refine (vcompare_ok z.lo z.hi _).mono ?_
       rintro e W ⟨rfl, eX⟩
       replace H := H.step eX
       refine ⟨_, rfl, ?_⟩)
    | (refine And.intro ?_ H.ext))
  all_goals (apply congrArg Ending.returned; apply congrArg Value.bool; clear H)
  all_goals (
    rw [zoneOk_eq]
    clear hc hz hcol hzi
    first
    | (rw [isNull_eq, isNull_eq]; simp_all; done)
    | (rw [isNull_eq, isNull_eq]; simp_all; omega)
    | (simp_all; done)
    | (simp_all; omega))

theorem S3.bit (s : S3) : bits .and .i64 s.i 2 = (if s.yes then 2 else 0) := (s3_bits s).2.1
set_option maxHeartbeats 4000000 in
theorem pAnswers_ok {cols : List Col} {zones : List Zn} {m : Int} (x : Ex) {w : World} {p zp : Option Addr} {n c zn zc : Nat} {cs : List Value} (hT : Tab w) (hc : Cols w p n c cols) (hz : Zns w zp zn zc zones) (hx : ExAt w x cs) :
    Calls Tryd.prog 11 #[.slice p n c, .slice zp zn zc, .int .i64 m, .agg cs.toArray] w fun e w' => e = .returned (.tuple #[.int .i64 (answersF cols zones m x).1, .int .i64 (answersF cols zones m x).2]) ∧ Ext w w' := by
  obtain ⟨xp, xn, xc, rfl, _⟩ := hx.six
  have hl1 := hc.len
  have hl2 := hz.len
  have hle : n ≤ 9223372036854775807 := hc.le
  apply pAnswers_vc
  unfold pAnswers_T
  intro b1 w2 h1
  have H := (Hold.start (Ext.rfl (w := w))).new h1
  repeat (first
    | (intro _ _ hS; replace H := H.new hS; clear hS)
    | (intro _ hS; (first | replace H := H.put 0 rfl hS | replace H := H.put 1 rfl hS | replace H := H.put 2 rfl hS | replace H := H.put 3 rfl hS | replace H := H.put 4 rfl hS | replace H := H.put 5 rfl hS | replace H := H.put 6 rfl hS | replace H := H.put 7 rfl hS); clear hS; try simp only [setA, List.setIfInBounds_toArray, List.set_cons_zero, List.set_cons_succ, Nat.zero_add, Nat.reduceAdd] at H)
    | (intro _ hS; replace H := H.step (Drew.ext hS); clear hS)
    | (first | refine ⟨⟨_, H.get 0 rfl rfl⟩, ?_⟩ | refine ⟨⟨_, H.get 1 rfl rfl⟩, ?_⟩ | refine ⟨⟨_, H.get 2 rfl rfl⟩, ?_⟩ | refine ⟨⟨_, H.get 3 rfl rfl⟩, ?_⟩ | refine ⟨⟨_, H.get 4 rfl rfl⟩, ?_⟩ | refine ⟨⟨_, H.get 5 rfl rfl⟩, ?_⟩ | refine ⟨⟨_, H.get 6 rfl rfl⟩, ?_⟩ | refine ⟨⟨_, H.get 7 rfl rfl⟩, ?_⟩)
    | (first | refine ⟨H.frz 0 rfl, ?_⟩ | refine ⟨H.frz 1 rfl, ?_⟩ | refine ⟨H.frz 2 rfl, ?_⟩ | refine ⟨H.frz 3 rfl, ?_⟩ | refine ⟨H.frz 4 rfl, ?_⟩ | refine ⟨H.frz 5 rfl, ?_⟩ | refine ⟨H.frz 6 rfl, ?_⟩ | refine ⟨H.frz 7 rfl, ?_⟩)
    | (first | refine ⟨_, H.get 0 rfl rfl, ?_⟩ | refine ⟨_, H.get 1 rfl rfl, ?_⟩ | refine ⟨_, H.get 2 rfl rfl, ?_⟩ | refine ⟨_, H.get 3 rfl rfl, ?_⟩ | refine ⟨_, H.get 4 rfl rfl, ?_⟩ | refine ⟨_, H.get 5 rfl rfl, ?_⟩ | refine ⟨_, H.get 6 rfl rfl, ?_⟩ | refine ⟨_, H.get 7 rfl rfl, ?_⟩)
    | (first | refine ⟨_, _, _, H.get 0 rfl rfl, ?_⟩ | refine ⟨_, _, _, H.get 1 rfl rfl, ?_⟩ | refine ⟨_, _, _, H.get 2 rfl rfl, ?_⟩ | refine ⟨_, _, _, H.get 3 rfl rfl, ?_⟩ | refine ⟨_, _, _, H.get 4 rfl rfl, ?_⟩ | refine ⟨_, _, _, H.get 5 rfl rfl, ?_⟩ | refine ⟨_, _, _, H.get 6 rfl rfl, ?_⟩ | refine ⟨_, _, _, H.get 7 rfl rfl, ?_⟩))
  refine (xtype_ok x (hT.ext H.ext) (hc.ext H.ext) (hx.ext H.ext)).mono ?_
  rintro e W ⟨rfl, eX⟩
  replace H := H.step eX
  refine ⟨_, _, rfl, fun he => ⟨?_, H.ext⟩, fun he => ⟨fun hk => ⟨?_, H.ext⟩, fun hk => ⟨fun ha => ⟨?_, H.ext⟩, fun ha => ?_⟩⟩⟩
  · unfold answersF; rw [if_pos he]
  · unfold answersF; rw [if_neg (by simp [he]), if_pos hk]
  · unfold answersF
    have : zonesOk cols zones m = false := by
      unfold zonesOk
      rw [decide_eq_false (by omega)]; rfl
    rw [if_neg (by simp [he]), if_neg (by omega), if_pos this]
  intro b22 w23 h22
  replace H := H.new h22
  repeat (first
    | (intro _ _ hS; replace H := H.new hS; clear hS)
    | (intro _ hS; (first | replace H := H.put 0 rfl hS | replace H := H.put 1 rfl hS | replace H := H.put 2 rfl hS | replace H := H.put 3 rfl hS | replace H := H.put 4 rfl hS | replace H := H.put 5 rfl hS | replace H := H.put 6 rfl hS | replace H := H.put 7 rfl hS); clear hS; try simp only [setA, List.setIfInBounds_toArray, List.set_cons_zero, List.set_cons_succ, Nat.zero_add, Nat.reduceAdd] at H)
    | (intro _ hS; replace H := H.step (Drew.ext hS); clear hS)
    | (first | refine ⟨⟨_, H.get 0 rfl rfl⟩, ?_⟩ | refine ⟨⟨_, H.get 1 rfl rfl⟩, ?_⟩ | refine ⟨⟨_, H.get 2 rfl rfl⟩, ?_⟩ | refine ⟨⟨_, H.get 3 rfl rfl⟩, ?_⟩ | refine ⟨⟨_, H.get 4 rfl rfl⟩, ?_⟩ | refine ⟨⟨_, H.get 5 rfl rfl⟩, ?_⟩ | refine ⟨⟨_, H.get 6 rfl rfl⟩, ?_⟩ | refine ⟨⟨_, H.get 7 rfl rfl⟩, ?_⟩)
    | (first | refine ⟨H.frz 0 rfl, ?_⟩ | refine ⟨H.frz 1 rfl, ?_⟩ | refine ⟨H.frz 2 rfl, ?_⟩ | refine ⟨H.frz 3 rfl, ?_⟩ | refine ⟨H.frz 4 rfl, ?_⟩ | refine ⟨H.frz 5 rfl, ?_⟩ | refine ⟨H.frz 6 rfl, ?_⟩ | refine ⟨H.frz 7 rfl, ?_⟩)
    | (first | refine ⟨_, H.get 0 rfl rfl, ?_⟩ | refine ⟨_, H.get 1 rfl rfl, ?_⟩ | refine ⟨_, H.get 2 rfl rfl, ?_⟩ | refine ⟨_, H.get 3 rfl rfl, ?_⟩ | refine ⟨_, H.get 4 rfl rfl, ?_⟩ | refine ⟨_, H.get 5 rfl rfl, ?_⟩ | refine ⟨_, H.get 6 rfl rfl, ?_⟩ | refine ⟨_, H.get 7 rfl rfl, ?_⟩)
    | (first | refine ⟨_, _, _, H.get 0 rfl rfl, ?_⟩ | refine ⟨_, _, _, H.get 1 rfl rfl, ?_⟩ | refine ⟨_, _, _, H.get 2 rfl rfl, ?_⟩ | refine ⟨_, _, _, H.get 3 rfl rfl, ?_⟩ | refine ⟨_, _, _, H.get 4 rfl rfl, ?_⟩ | refine ⟨_, _, _, H.get 5 rfl rfl, ?_⟩ | refine ⟨_, _, _, H.get 6 rfl rfl, ?_⟩ | refine ⟨_, _, _, H.get 7 rfl rfl, ?_⟩))
  have hlen : zones.length = cols.length := by omega
  have hzk : zonesOk cols zones m = zonesL cols zones m := by
    unfold zonesOk
    rw [decide_eq_true (by omega)]; rfl
  refine ⟨fun i W => ∃ j : Nat, i = (j : Int) ∧ j ≤ n ∧ zonesL (cols.drop j) (zones.drop j) m = zonesL cols zones m ∧ Hold w W [(b22, .cells #[.slice p n c, .slice zp zn zc, .int .i64 m] 59 (0, 0)), (b1, .cells #[.int .i64 x.op, .string x.name, .int .i64 x.v.k, .int .i64 x.v.n, .string x.v.s, .slice xp xn xc] 28 (0, 0))] [], fun i _ => n - i.toNat, ⟨0, rfl, Nat.zero_le _, rfl, H⟩, ?_⟩
  rintro i W ⟨j, rfl, hj, hall, H⟩
  refine ⟨fun hlt => ?_, fun hge => ?_⟩
  · have g1 : cols[j]? = some (cols[j]'(by omega)) := List.getElem?_eq_getElem _
    have g2 : zones[j]? = some (zones[j]'(by omega)) := List.getElem?_eq_getElem _
    generalize cols[j]'(by omega) = col at g1
    generalize zones[j]'(by omega) = z at g2
    rw [zonesL_drop g1 g2] at hall
    repeat (first
      | (intro _ _ hS; replace H := H.new hS; clear hS)
      | (intro _ hS; (first | replace H := H.put 0 rfl hS | replace H := H.put 1 rfl hS | replace H := H.put 2 rfl hS | replace H := H.put 3 rfl hS | replace H := H.put 4 rfl hS | replace H := H.put 5 rfl hS | replace H := H.put 6 rfl hS | replace H := H.put 7 rfl hS); clear hS; try simp only [setA, List.setIfInBounds_toArray, List.set_cons_zero, List.set_cons_succ, Nat.zero_add, Nat.reduceAdd] at H)
      | (intro _ hS; replace H := H.step (Drew.ext hS); clear hS)
      | (first | refine ⟨⟨_, H.get 0 rfl rfl⟩, ?_⟩ | refine ⟨⟨_, H.get 1 rfl rfl⟩, ?_⟩ | refine ⟨⟨_, H.get 2 rfl rfl⟩, ?_⟩ | refine ⟨⟨_, H.get 3 rfl rfl⟩, ?_⟩ | refine ⟨⟨_, H.get 4 rfl rfl⟩, ?_⟩ | refine ⟨⟨_, H.get 5 rfl rfl⟩, ?_⟩ | refine ⟨⟨_, H.get 6 rfl rfl⟩, ?_⟩ | refine ⟨⟨_, H.get 7 rfl rfl⟩, ?_⟩)
      | (first | refine ⟨H.frz 0 rfl, ?_⟩ | refine ⟨H.frz 1 rfl, ?_⟩ | refine ⟨H.frz 2 rfl, ?_⟩ | refine ⟨H.frz 3 rfl, ?_⟩ | refine ⟨H.frz 4 rfl, ?_⟩ | refine ⟨H.frz 5 rfl, ?_⟩ | refine ⟨H.frz 6 rfl, ?_⟩ | refine ⟨H.frz 7 rfl, ?_⟩)
      | (first | refine ⟨_, H.get 0 rfl rfl, ?_⟩ | refine ⟨_, H.get 1 rfl rfl, ?_⟩ | refine ⟨_, H.get 2 rfl rfl, ?_⟩ | refine ⟨_, H.get 3 rfl rfl, ?_⟩ | refine ⟨_, H.get 4 rfl rfl, ?_⟩ | refine ⟨_, H.get 5 rfl rfl, ?_⟩ | refine ⟨_, H.get 6 rfl rfl, ?_⟩ | refine ⟨_, H.get 7 rfl rfl, ?_⟩)
      | (first | refine ⟨_, _, _, H.get 0 rfl rfl, ?_⟩ | refine ⟨_, _, _, H.get 1 rfl rfl, ?_⟩ | refine ⟨_, _, _, H.get 2 rfl rfl, ?_⟩ | refine ⟨_, _, _, H.get 3 rfl rfl, ?_⟩ | refine ⟨_, _, _, H.get 4 rfl rfl, ?_⟩ | refine ⟨_, _, _, H.get 5 rfl rfl, ?_⟩ | refine ⟨_, _, _, H.get 6 rfl rfl, ?_⟩ | refine ⟨_, _, _, H.get 7 rfl rfl, ?_⟩))
    refine (pright_ok (m := m) (hc.ext H.ext) (hz.ext H.ext) g1 g2).mono ?_
    rintro e W2 ⟨rfl, eX⟩
    replace H := H.step eX
    refine ⟨_, rfl, fun hf => ⟨?_, H.ext⟩, fun ht => ?_⟩
    · rw [hf] at hall
      unfold answersF
      rw [if_neg (by simp [he]), if_neg (by omega), if_pos (by rw [hzk, ← hall]; rfl)]
    · rw [ht] at hall
      rw [i64_next (by omega)]
      exact ⟨⟨j + 1, rfl, by omega, by simpa using hall, H⟩, by simp only [Int.toNat_natCast]; omega⟩
  · have hjn : j = n := by omega
    subst hjn
    have hz0 : zonesL cols zones m = true := by
      rw [← hall, List.drop_eq_nil_of_le (by omega), List.drop_eq_nil_of_le (by omega)]; rfl
    refine ⟨fun h0 => ⟨?_, H.ext⟩, fun h0 => ?_⟩
    · unfold answersF
      rw [if_neg (by simp [he]), if_neg (by omega), if_neg (by rw [hzk, hz0]; decide), if_pos h0]
    · repeat (first
        | (intro _ _ hS; replace H := H.new hS; clear hS)
        | (intro _ hS; (first | replace H := H.put 0 rfl hS | replace H := H.put 1 rfl hS | replace H := H.put 2 rfl hS | replace H := H.put 3 rfl hS | replace H := H.put 4 rfl hS | replace H := H.put 5 rfl hS | replace H := H.put 6 rfl hS | replace H := H.put 7 rfl hS); clear hS; try simp only [setA, List.setIfInBounds_toArray, List.set_cons_zero, List.set_cons_succ, Nat.zero_add, Nat.reduceAdd] at H)
        | (intro _ hS; replace H := H.step (Drew.ext hS); clear hS)
        | (first | refine ⟨⟨_, H.get 0 rfl rfl⟩, ?_⟩ | refine ⟨⟨_, H.get 1 rfl rfl⟩, ?_⟩ | refine ⟨⟨_, H.get 2 rfl rfl⟩, ?_⟩ | refine ⟨⟨_, H.get 3 rfl rfl⟩, ?_⟩ | refine ⟨⟨_, H.get 4 rfl rfl⟩, ?_⟩ | refine ⟨⟨_, H.get 5 rfl rfl⟩, ?_⟩ | refine ⟨⟨_, H.get 6 rfl rfl⟩, ?_⟩ | refine ⟨⟨_, H.get 7 rfl rfl⟩, ?_⟩)
        | (first | refine ⟨H.frz 0 rfl, ?_⟩ | refine ⟨H.frz 1 rfl, ?_⟩ | refine ⟨H.frz 2 rfl, ?_⟩ | refine ⟨H.frz 3 rfl, ?_⟩ | refine ⟨H.frz 4 rfl, ?_⟩ | refine ⟨H.frz 5 rfl, ?_⟩ | refine ⟨H.frz 6 rfl, ?_⟩ | refine ⟨H.frz 7 rfl, ?_⟩)
        | (first | refine ⟨_, H.get 0 rfl rfl, ?_⟩ | refine ⟨_, H.get 1 rfl rfl, ?_⟩ | refine ⟨_, H.get 2 rfl rfl, ?_⟩ | refine ⟨_, H.get 3 rfl rfl, ?_⟩ | refine ⟨_, H.get 4 rfl rfl, ?_⟩ | refine ⟨_, H.get 5 rfl rfl, ?_⟩ | refine ⟨_, H.get 6 rfl rfl, ?_⟩ | refine ⟨_, H.get 7 rfl rfl, ?_⟩)
        | (first | refine ⟨_, _, _, H.get 0 rfl rfl, ?_⟩ | refine ⟨_, _, _, H.get 1 rfl rfl, ?_⟩ | refine ⟨_, _, _, H.get 2 rfl rfl, ?_⟩ | refine ⟨_, _, _, H.get 3 rfl rfl, ?_⟩ | refine ⟨_, _, _, H.get 4 rfl rfl, ?_⟩ | refine ⟨_, _, _, H.get 5 rfl rfl, ?_⟩ | refine ⟨_, _, _, H.get 6 rfl rfl, ?_⟩ | refine ⟨_, _, _, H.get 7 rfl rfl, ?_⟩))
      obtain ⟨hr, hform, hkd⟩ := typeF_right he
      have hfp : FormedP x := of_decide_eq_true hform
      refine (panswers_ok hz0 _ x (Nat.le_refl _) hfp.1 (by rw [← hkd]; exact he) (by rw [← hkd]; omega) (hc.ext H.ext) (hz.ext H.ext) (hx.ext H.ext)).mono ?_
      rintro e W3 ⟨rfl, eX⟩
      refine ⟨_, rfl, ?_, (H.step eX).ext⟩
      unfold answersF
      rw [if_neg (by simp [he]), if_neg (by omega), if_neg (by rw [hzk, hz0]; decide), if_neg h0]
end Go.Proofs.YtpjafkcmbinjiaaDoor

/- The verification conditions of the functions, evaluated: printed by program. -/
namespace Go.Proofs.YtpjafkcmbinjiaaDoor
open Go Go.Vc

set_option maxRecDepth 100000 in
def qzone_T (l_p : Option Addr) (l_n : Nat) (l_c : Nat) (w : World) (R : Ending → World → Prop) : Prop :=
  ∀ b1 w'2, New w
 (Obj.cells
 #[.int .i64 0, .int .i64 0, .int .i64 0, .string ⟨#[]⟩, .int .i64 0, .int .i64 0, .string ⟨#[]⟩]
 50)
 b1 w'2 → (1024 < (↑l_n : Int) → CW w'2 b1 0 fun _ ↦ CW w'2 b1 1 fun _ ↦ CW w'2 b1 2 fun _ ↦ CW w'2 b1 3 fun _ ↦ CW w'2 b1 4 fun _ ↦ CW w'2 b1 5 fun _ ↦ CW w'2 b1 6 fun _ ↦ ∀ w'12, Put w'2 b1 0
 [.int .i64 0, .int .i64 0, .int .i64 0, .string ⟨#[]⟩, .int .i64 0, .int .i64 0, .string ⟨#[]⟩]
 w'12 → RI w'12 b1 0 fun n14 ↦ RI w'12 b1 1 fun n15 ↦ RI w'12 b1 2 fun n16 ↦ RS w'12 b1 3 fun s17 ↦ RI w'12 b1 4 fun n18 ↦ RI w'12 b1 5 fun n19 ↦ RS w'12 b1 6 fun s20 ↦ R
 (.returned
 (Value.tuple
 #[Value.agg
 #[.int .i64 n14, .int .i64 n15, .int .i64 n16, .string s17, .int .i64 n18, .int .i64 n19, .string s20], .int .i64 2]))
 w'12) ∧ ((↑l_n : Int) ≤ 1024 → ∀ b22 w'23, New w'2
 (Obj.cells
 #[.int .i64 0, .int .i64 0, .int .i64 0, .string ⟨#[]⟩, .int .i64 0, .int .i64 0, .string ⟨#[]⟩]
 50)
 b22 w'23 → ∃ (I25 : Bool → Int → World → Prop), ∃ (M26 : Bool → Int → World → Nat), I25 true 0 w'23 ∧ ∀ (b27 : Bool) (n28 : Int) (w'29 : World), I25 b27 n28 w'29 → (n28 < (↑l_n : Int) → ∃ b32, ∃ o33, l_p = some ⟨b32, o33, none⟩ ∧ 0 ≤ n28 ∧ n28 < (↑l_n : Int) ∧ RI w'29 b32 (o33 + n28.toNat * 3) fun n34 ↦ RI w'29 b32 (o33 + n28.toNat * 3 + 1) fun n35 ↦ RS w'29 b32 (o33 + n28.toNat * 3 + 2) fun s36 ↦ Calls Tryd.prog 18 #[.agg #[.int .i64 n34, .int .i64 n35, .string s36]] w'29 fun e37 w38 ↦
 ∃ b39, e37 = .returned (.bool b39) ∧ (b39 = false → CW w38 b1 0 fun _ ↦ CW w38 b1 1 fun _ ↦ CW w38 b1 2 fun _ ↦ CW w38 b1 3 fun _ ↦ CW w38 b1 4 fun _ ↦ CW w38 b1 5 fun _ ↦ CW w38 b1 6 fun _ ↦ ∀ w'48, Put w38 b1 0
 [.int .i64 0, .int .i64 0, .int .i64 0, .string ⟨#[]⟩, .int .i64 0, .int .i64 0, .string ⟨#[]⟩]
 w'48 → RI w'48 b1 0 fun n50 ↦ RI w'48 b1 1 fun n51 ↦ RI w'48 b1 2 fun n52 ↦ RS w'48 b1 3 fun s53 ↦ RI w'48 b1 4 fun n54 ↦ RI w'48 b1 5 fun n55 ↦ RS w'48 b1 6 fun s56 ↦ R
 (.returned
 (Value.tuple
 #[Value.agg
 #[.int .i64 n50, .int .i64 n51, .int .i64 n52, .string s53, .int .i64 n54, .int .i64 n55, .string s56], .int .i64 2]))
 w'48) ∧ (b39 = true → ∃ b58, ∃ o59, l_p = some ⟨b58, o59, none⟩ ∧ 0 ≤ n28 ∧ n28 < (↑l_n : Int) ∧ RI w38 b58 (o59 + n28.toNat * 3) fun n60 ↦ (n60 = 0 → RI w38 b22 0 fun n62 ↦ CW w38 b22 0 fun _ ↦ ∀ w'64, Put w38 b22 0 [.int .i64 (IntKind.i64.wrap (n62 + 1))] w'64 → I25 b27 (IntKind.i64.wrap (n28 + 1)) w'64 ∧ M26 b27 (IntKind.i64.wrap (n28 + 1)) w'64 < M26 b27 n28 w'29) ∧ (n60 ≠ 0 → ∀ w'67, Drew w38 w'67 → ∃ b69, ∃ o70, l_p = some ⟨b69, o70, none⟩ ∧ 0 ≤ n28 ∧ n28 < (↑l_n : Int) ∧ RI w'67 b69 (o70 + n28.toNat * 3) fun n71 ↦ RI w'67 b69 (o70 + n28.toNat * 3 + 1) fun n72 ↦ RS w'67 b69 (o70 + n28.toNat * 3 + 2) fun s73 ↦ RI w'67 b22 1 fun n74 ↦ RI w'67 b22 2 fun n75 ↦ RS w'67 b22 3 fun s76 ↦ Calls Tryd.prog 34
 #[.agg #[.int .i64 n71, .int .i64 n72, .string s73], .agg #[.int .i64 n74, .int .i64 n75, .string s76]]
 w'67 fun e77 w78 ↦
 ∃ n79, e77 = .returned (.int .i64 n79) ∧ ∀ w'80, Drew w78 w'80 → ∃ b82, ∃ o83, l_p = some ⟨b82, o83, none⟩ ∧ 0 ≤ n28 ∧ n28 < (↑l_n : Int) ∧ RI w'80 b82 (o83 + n28.toNat * 3) fun n84 ↦ RI w'80 b82 (o83 + n28.toNat * 3 + 1) fun n85 ↦ RS w'80 b82 (o83 + n28.toNat * 3 + 2) fun s86 ↦ RI w'80 b22 4 fun n87 ↦ RI w'80 b22 5 fun n88 ↦ RS w'80 b22 6 fun s89 ↦ Calls Tryd.prog 34
 #[.agg #[.int .i64 n84, .int .i64 n85, .string s86], .agg #[.int .i64 n87, .int .i64 n88, .string s89]]
 w'80 fun e90 w91 ↦
 ∃ n92, e90 = .returned (.int .i64 n92) ∧ (b27 = true ∨ n79 < 0 → ∃ b94, ∃ o95, l_p = some ⟨b94, o95, none⟩ ∧ 0 ≤ n28 ∧ n28 < (↑l_n : Int) ∧ RI w91 b94 (o95 + n28.toNat * 3) fun n96 ↦ RI w91 b94 (o95 + n28.toNat * 3 + 1) fun n97 ↦ RS w91 b94 (o95 + n28.toNat * 3 + 2) fun s98 ↦ CW w91 b22 1 fun _ ↦ CW w91 b22 2 fun _ ↦ CW w91 b22 3 fun _ ↦ ∀ w'102, Put w91 b22 1 [.int .i64 n96, .int .i64 n97, .string s98] w'102 → (b27 = true ∨ 0 < n92 → ∃ b105, ∃ o106, l_p = some ⟨b105, o106, none⟩ ∧ 0 ≤ n28 ∧ n28 < (↑l_n : Int) ∧ RI w'102 b105 (o106 + n28.toNat * 3) fun n107 ↦ RI w'102 b105 (o106 + n28.toNat * 3 + 1) fun n108 ↦ RS w'102 b105 (o106 + n28.toNat * 3 + 2) fun s109 ↦ CW w'102 b22 4 fun _ ↦ CW w'102 b22 5 fun _ ↦ CW w'102 b22 6 fun _ ↦ ∀ w'113, Put w'102 b22 4 [.int .i64 n107, .int .i64 n108, .string s109] w'113 → I25 false (IntKind.i64.wrap (n28 + 1)) w'113 ∧ M26 false (IntKind.i64.wrap (n28 + 1)) w'113 < M26 b27 n28 w'29) ∧ (b27 = false ∧ n92 ≤ 0 → I25 false (IntKind.i64.wrap (n28 + 1)) w'102 ∧ M26 false (IntKind.i64.wrap (n28 + 1)) w'102 < M26 b27 n28 w'29)) ∧ (b27 = false ∧ 0 ≤ n79 → (b27 = true ∨ 0 < n92 → ∃ b118, ∃ o119, l_p = some ⟨b118, o119, none⟩ ∧ 0 ≤ n28 ∧ n28 < (↑l_n : Int) ∧ RI w91 b118 (o119 + n28.toNat * 3) fun n120 ↦ RI w91 b118 (o119 + n28.toNat * 3 + 1) fun n121 ↦ RS w91 b118 (o119 + n28.toNat * 3 + 2) fun s122 ↦ CW w91 b22 4 fun _ ↦ CW w91 b22 5 fun _ ↦ CW w91 b22 6 fun _ ↦ ∀ w'126, Put w91 b22 4 [.int .i64 n120, .int .i64 n121, .string s122] w'126 → I25 false (IntKind.i64.wrap (n28 + 1)) w'126 ∧ M26 false (IntKind.i64.wrap (n28 + 1)) w'126 < M26 b27 n28 w'29) ∧ (b27 = false ∧ n92 ≤ 0 → I25 false (IntKind.i64.wrap (n28 + 1)) w91 ∧ M26 false (IntKind.i64.wrap (n28 + 1)) w91 < M26 b27 n28 w'29))))) ∧ ((↑l_n : Int) ≤ n28 → RI w'29 b22 0 fun n130 ↦ RI w'29 b22 1 fun n131 ↦ RI w'29 b22 2 fun n132 ↦ RS w'29 b22 3 fun s133 ↦ RI w'29 b22 4 fun n134 ↦ RI w'29 b22 5 fun n135 ↦ RS w'29 b22 6 fun s136 ↦ CW w'29 b1 0 fun _ ↦ CW w'29 b1 1 fun _ ↦ CW w'29 b1 2 fun _ ↦ CW w'29 b1 3 fun _ ↦ CW w'29 b1 4 fun _ ↦ CW w'29 b1 5 fun _ ↦ CW w'29 b1 6 fun _ ↦ ∀ w'144, Put w'29 b1 0
 [.int .i64 n130, .int .i64 n131, .int .i64 n132, .string s133, .int .i64 n134, .int .i64 n135, .string s136]
 w'144 → RI w'144 b1 0 fun n146 ↦ RI w'144 b1 1 fun n147 ↦ RI w'144 b1 2 fun n148 ↦ RS w'144 b1 3 fun s149 ↦ RI w'144 b1 4 fun n150 ↦ RI w'144 b1 5 fun n151 ↦ RS w'144 b1 6 fun s152 ↦ R
 (.returned
 (Value.tuple
 #[Value.agg
 #[.int .i64 n146, .int .i64 n147, .int .i64 n148, .string s149, .int .i64 n150, .int .i64 n151, .string s152], .int .i64 0]))
 w'144))

set_option maxRecDepth 100000 in
theorem qzone_eq (l_p : Option Addr) (l_n : Nat) (l_c : Nat) (w : World) (R : Ending → World → Prop) : qzone_T l_p l_n l_c w R = vcFn Tryd.prog [] [(13, [2, 4, 6, 8, 10, 12, 14, 16, 0]), (14, [2, 4, 6, 8, 10, 12, 14, 16, 0])] Tryd.f19 [.slice l_p l_n l_c] w R := by kernel_rfl

set_option maxRecDepth 100000 in
theorem qzone_vc (l_p : Option Addr) (l_n : Nat) (l_c : Nat) (w : World) (R : Ending → World → Prop) (h : qzone_T l_p l_n l_c w R) : Calls Tryd.prog 19 #[.slice l_p l_n l_c] w R :=
  calls_of_vc (args := [.slice l_p l_n l_c]) [] [(13, [2, 4, 6, 8, 10, 12, 14, 16, 0]), (14, [2, 4, 6, 8, 10, 12, 14, 16, 0])] Tryd.mixed Tryd.func19 (cast (qzone_eq _ _ _ w R) h)

set_option maxRecDepth 100000 in
def qcolumn_T (rows_p : Option Addr) (rows_n : Nat) (rows_c : Nat) (c : Int) (w : World) (R : Ending → World → Prop) : Prop :=
  ∃ (I1 : Option Addr → Nat → Nat → Int → World → Prop), ∃ (M2 : Option Addr → Nat → Nat → Int → World → Nat), I1 none 0 0 0 w ∧ ∀ (p3 : Option Addr) (n4 c5 : Nat) (n6 : Int) (w'7 : World), I1 p3 n4 c5 n6 w'7 → (n6 < (↑rows_n : Int) → ∃ b10, ∃ o11, rows_p = some ⟨b10, o11, none⟩ ∧ 0 ≤ n6 ∧ n6 < (↑rows_n : Int) ∧ RL w'7 b10 (o11 + n6.toNat) fun p12 n13 c14 ↦ ∃ b15, ∃ o16, p12 = some ⟨b15, o16, none⟩ ∧ 0 ≤ c ∧ c < (↑n13 : Int) ∧ RI w'7 b15 (o16 + c.toNat * 3) fun n17 ↦ RI w'7 b15 (o16 + c.toNat * 3 + 1) fun n18 ↦ RS w'7 b15 (o16 + c.toNat * 3 + 2) fun s19 ↦ ∀ b20 w'21, New w'7 (Obj.cells #[.int .i64 n17, .int .i64 n18, .string s19] 25) b20 w'21 → ∃ p23 n24 c25, ∃ (w'26 : World), Sem.run Tryd.prog (Builtin.append_ #[31, 31] 31 #[.slice p3 n4 c5, .slice (some ⟨b20, 0, none⟩) 1 1]) w'21 = Result.ok (.slice p23 n24 c25) w'26 ∧ I1 p23 n24 c25 (IntKind.i64.wrap (n6 + 1)) w'26 ∧ M2 p23 n24 c25 (IntKind.i64.wrap (n6 + 1)) w'26 < M2 p3 n4 c5 n6 w'7) ∧ ((↑rows_n : Int) ≤ n6 → R (.returned (.slice p3 n4 c5)) w'7)

set_option maxRecDepth 100000 in
theorem qcolumn_eq (rows_p : Option Addr) (rows_n : Nat) (rows_c : Nat) (c : Int) (w : World) (R : Ending → World → Prop) : qcolumn_T rows_p rows_n rows_c c w R = vcFn Tryd.prog [] [] Tryd.f20 [.slice rows_p rows_n rows_c, .int .i64 c] w R := by kernel_rfl

set_option maxRecDepth 100000 in
theorem qcolumn_vc (rows_p : Option Addr) (rows_n : Nat) (rows_c : Nat) (c : Int) (w : World) (R : Ending → World → Prop) (h : qcolumn_T rows_p rows_n rows_c c w R) : Calls Tryd.prog 20 #[.slice rows_p rows_n rows_c, .int .i64 c] w R :=
  calls_of_vc (args := [.slice rows_p rows_n rows_c, .int .i64 c]) [] [] Tryd.mixed Tryd.func20 (cast (qcolumn_eq _ _ _ _ w R) h)


end Go.Proofs.YtpjafkcmbinjiaaDoor

/- The contracts of the document's answer for expressions: kinds. -/
namespace Go.Proofs.YtpjafkcmbinjiaaDoor
open Go Go.Vc Go.RowKit
set_option maxRecDepth 20000

end Go.Proofs.YtpjafkcmbinjiaaDoor

/- The contracts of the document's answer for expressions: numbers, truths. -/
namespace Go.Proofs.YtpjafkcmbinjiaaDoor
open Go Go.Vc Go.RowKit
set_option maxRecDepth 20000

end Go.Proofs.YtpjafkcmbinjiaaDoor

/- The contracts of the document's answer for expressions: a node of two kids. -/
namespace Go.Proofs.YtpjafkcmbinjiaaDoor
open Go Go.Vc Go.RowKit
set_option maxRecDepth 20000

def bothF (a b : Val) (strong : Int) : Val :=
  if (a.k = 2 ∧ a.n = strong) ∨ (b.k = 2 ∧ b.n = strong) then truthV (decide (strong = 1)) else if a.k = 0 ∨ b.k = 0 then nullV else truthV (decide (strong = 0))
end Go.Proofs.YtpjafkcmbinjiaaDoor

/- The contracts of the document's prune: sets, sides, comparisons, zones. -/
namespace Go.Proofs.YtpjafkcmbinjiaaDoor
open Go Go.Vc Go.RowKit
set_option maxRecDepth 20000
attribute [local irreducible] Calls Put Drew New

def S3.has (s : S3) (k : Nat) : Bool := if k = 0 then s.no else if k = 1 then s.yes else s.null
def valK (k : Nat) : Val := if k = 2 then nullV else ⟨2, k, ⟨#[]⟩⟩
/-- What two sets give, one by one. -/
def bothIn (op : Int) (s t : S3) (i k : Nat) (o : Int) : Int := if (S3.has s i && S3.has t k) = true then bits .or .i64 o (ownS (pairF op (valK i) (valK k)).1).i else o
def bothI (op : Int) (s t : S3) (i k : Nat) (o : Int) : Int := (List.range k).foldl (fun o k => bothIn op s t i k o) o
def bothO (op : Int) (s t : S3) (i : Nat) (o : Int) : Int := (List.range i).foldl (fun o i => bothI op s t i 3 o) o
/-- A side as the document has it. -/
def _root_.Go.Vc.Sd.agg (s : Sd) : Value := .agg #[.bool s.null, .bool s.full, .int .i64 s.lo.k, .int .i64 s.lo.n, .string s.lo.s, .int .i64 s.hi.k, .int .i64 s.hi.n, .string s.hi.s]
def zeroSd : Sd := ⟨false, false, nullV, nullV⟩
end Go.Proofs.YtpjafkcmbinjiaaDoor

/- The contracts of the document's prune: comparisons, zones, answers. -/
namespace Go.Proofs.YtpjafkcmbinjiaaDoor
open Go Go.Vc Go.RowKit
set_option maxRecDepth 20000
attribute [local irreducible] Calls Put Drew New

end Go.Proofs.YtpjafkcmbinjiaaDoor

/- The contracts of the document's prune: answers, May. -/
namespace Go.Proofs.YtpjafkcmbinjiaaDoor
open Go Go.Vc Go.RowKit
set_option maxRecDepth 20000
attribute [local irreducible] Calls Put Drew New

end Go.Proofs.YtpjafkcmbinjiaaDoor

/- The verification conditions of the functions, evaluated: printed by program. -/
namespace Go.Proofs.YtpjafkcmbinjiaaDoor
open Go Go.Vc

set_option maxRecDepth 100000 in
def lless_T (name : ByteArray) (n : Int) (w : World) (R : Ending → World → Prop) : Prop :=
  ∀ b1 w'2, New w
 (Obj.cells
 #[.int .i64 0, .string ⟨#[]⟩, .int .i64 0, .int .i64 0, .string ⟨#[]⟩, .slice none 0 0] 28)
 b1 w'2 → ∀ b4 w'5, New w'2
 (Obj.cells
 #[.int .i64 1, .string name, .int .i64 0, .int .i64 0, .string ⟨#[]⟩, .slice none 0 0, .int .i64 2, .string ⟨#[]⟩, .int .i64 1, .int .i64 n, .string ⟨#[]⟩, .slice none 0 0]
 28)
 b4 w'5 → CW w'5 b1 0 fun _ ↦ CW w'5 b1 1 fun _ ↦ CW w'5 b1 2 fun _ ↦ CW w'5 b1 3 fun _ ↦ CW w'5 b1 4 fun _ ↦ CW w'5 b1 5 fun _ ↦ ∀ w'13, Put w'5 b1 0
 [.int .i64 10, .string ⟨#[]⟩, .int .i64 0, .int .i64 0, .string ⟨#[]⟩, .slice (some ⟨b4, 0, none⟩) 2 2]
 w'13 → RI w'13 b1 0 fun n15 ↦ RS w'13 b1 1 fun s16 ↦ RI w'13 b1 2 fun n17 ↦ RI w'13 b1 3 fun n18 ↦ RS w'13 b1 4 fun s19 ↦ RL w'13 b1 5 fun p20 n21 c22 ↦ R
 (.returned
 (.agg #[.int .i64 n15, .string s16, .int .i64 n17, .int .i64 n18, .string s19, .slice p20 n21 c22]))
 w'13

set_option maxRecDepth 100000 in
theorem lless_eq (name : ByteArray) (n : Int) (w : World) (R : Ending → World → Prop) : lless_T name n w R = vcFn Tryd.prog [] [] Tryd.f16 [.string name, .int .i64 n] w R := by kernel_rfl

set_option maxRecDepth 100000 in
theorem lless_vc (name : ByteArray) (n : Int) (w : World) (R : Ending → World → Prop) (h : lless_T name n w R) : Calls Tryd.prog 16 #[.string name, .int .i64 n] w R :=
  calls_of_vc (args := [.string name, .int .i64 n]) [] [] Tryd.mixed Tryd.func16 (cast (lless_eq _ _ w R) h)

set_option maxRecDepth 100000 in
def shown16_T (w : World) (R : Ending → World → Prop) : Prop :=
  ∀ b1 w'2, New w (Obj.cells #[.string (ByteArray.mk #[97]), .int .i64 1, .bool false] 48) b1 w'2 → ∀ b4 w'5, New w'2
 (Obj.cells
 #[.int .i64 0, .int .i64 1, .int .i64 5, .string ⟨#[]⟩, .int .i64 1, .int .i64 9, .string ⟨#[]⟩]
 50)
 b4 w'5 → Calls Tryd.prog 16 #[.string (ByteArray.mk #[97]), .int .i64 5] w'5 fun e7 w8 ↦
 ∃ n9, ∃ s10, ∃ n11, ∃ n12, ∃ s13, ∃ p14 n15 c16, e7 =
 .returned
 (.agg #[.int .i64 n9, .string s10, .int .i64 n11, .int .i64 n12, .string s13, .slice p14 n15 c16]) ∧ Calls Tryd.prog 11
 #[.slice (some ⟨b1, 0, none⟩) 1 1, .slice (some ⟨b4, 0, none⟩) 1 1, .int .i64 3, .agg #[.int .i64 n9, .string s10, .int .i64 n11, .int .i64 n12, .string s13, .slice p14 n15 c16]]
 w8 fun e17 w18 ↦
 ∃ n19, ∃ n20, e17 = .returned (.tuple #[.int .i64 n19, .int .i64 n20]) ∧ Calls Tryd.prog 16 #[.string (ByteArray.mk #[97]), .int .i64 6] w18 fun e21 w22 ↦
 ∃ n23, ∃ s24, ∃ n25, ∃ n26, ∃ s27, ∃ p28 n29 c30, e21 =
 .returned
 (.agg #[.int .i64 n23, .string s24, .int .i64 n25, .int .i64 n26, .string s27, .slice p28 n29 c30]) ∧ Calls Tryd.prog 11
 #[.slice (some ⟨b1, 0, none⟩) 1 1, .slice (some ⟨b4, 0, none⟩) 1 1, .int .i64 3, .agg #[.int .i64 n23, .string s24, .int .i64 n25, .int .i64 n26, .string s27, .slice p28 n29 c30]]
 w22 fun e31 w32 ↦
 ∃ n33, ∃ n34, e31 = .returned (.tuple #[.int .i64 n33, .int .i64 n34]) ∧ R (.returned (.bool (decide (n20 = 0) && decide (n34 = 0) && decide (n19 = 1) && decide (n33 = 3)))) w32

set_option maxRecDepth 100000 in
theorem shown16_eq (w : World) (R : Ending → World → Prop) : shown16_T w R = vcFn Tryd.prog [] [] Tryd.f7 [] w R := by kernel_rfl

set_option maxRecDepth 100000 in
theorem shown16_vc (w : World) (R : Ending → World → Prop) (h : shown16_T w R) : Calls Tryd.prog 7 #[] w R :=
  calls_of_vc (args := []) [] [] Tryd.mixed Tryd.func7 (cast (shown16_eq w R) h)

set_option maxRecDepth 100000 in
def lzones_T (cols_p : Option Addr) (cols_n : Nat) (cols_c : Nat) (rows_p : Option Addr) (rows_n : Nat) (rows_c : Nat) (w : World) (R : Ending → World → Prop) : Prop :=
  ∃ (I1 : Option Addr → Nat → Nat → Int → World → Prop), ∃ (M2 : Option Addr → Nat → Nat → Int → World → Nat), I1 none 0 0 0 w ∧ ∀ (p3 : Option Addr) (n4 c5 : Nat) (n6 : Int) (w'7 : World), I1 p3 n4 c5 n6 w'7 → (n6 < (↑cols_n : Int) → Calls Tryd.prog 20 #[.slice rows_p rows_n rows_c, .int .i64 n6] w'7 fun e10 w11 ↦
 ∃ p12 n13 c14, e10 = .returned (.slice p12 n13 c14) ∧ Calls Tryd.prog 19 #[.slice p12 n13 c14] w11 fun e15 w16 ↦
 ∃ n17, ∃ n18, ∃ n19, ∃ s20, ∃ n21, ∃ n22, ∃ s23, ∃ n24, e15 =
 .returned
 (Value.tuple
 #[Value.agg
 #[.int .i64 n17, .int .i64 n18, .int .i64 n19, .string s20, .int .i64 n21, .int .i64 n22, .string s23], .int .i64 n24]) ∧ ∀ b25 w'26, New w16
 (Obj.cells
 #[.int .i64 0, .int .i64 0, .int .i64 0, .string ⟨#[]⟩, .int .i64 0, .int .i64 0, .string ⟨#[]⟩]
 50)
 b25 w'26 → CW w'26 b25 0 fun _ ↦ CW w'26 b25 1 fun _ ↦ CW w'26 b25 2 fun _ ↦ CW w'26 b25 3 fun _ ↦ CW w'26 b25 4 fun _ ↦ CW w'26 b25 5 fun _ ↦ CW w'26 b25 6 fun _ ↦ ∀ w'35, Put w'26 b25 0
 [.int .i64 n17, .int .i64 n18, .int .i64 n19, .string s20, .int .i64 n21, .int .i64 n22, .string s23]
 w'35 → RI w'35 b25 0 fun n37 ↦ RI w'35 b25 1 fun n38 ↦ RI w'35 b25 2 fun n39 ↦ RS w'35 b25 3 fun s40 ↦ RI w'35 b25 4 fun n41 ↦ RI w'35 b25 5 fun n42 ↦ RS w'35 b25 6 fun s43 ↦ ∀ b44 w'45, New w'35
 (Obj.cells
 #[.int .i64 n37, .int .i64 n38, .int .i64 n39, .string s40, .int .i64 n41, .int .i64 n42, .string s43]
 50)
 b44 w'45 → ∃ p47 n48 c49, ∃ (w'50 : World), Sem.run Tryd.prog (Builtin.append_ #[33, 33] 33 #[.slice p3 n4 c5, .slice (some ⟨b44, 0, none⟩) 1 1]) w'45 = Result.ok (.slice p47 n48 c49) w'50 ∧ I1 p47 n48 c49 (IntKind.i64.wrap (n6 + 1)) w'50 ∧ M2 p47 n48 c49 (IntKind.i64.wrap (n6 + 1)) w'50 < M2 p3 n4 c5 n6 w'7) ∧ ((↑cols_n : Int) ≤ n6 → R (.returned (.slice p3 n4 c5)) w'7)

set_option maxRecDepth 100000 in
theorem lzones_eq (cols_p : Option Addr) (cols_n : Nat) (cols_c : Nat) (rows_p : Option Addr) (rows_n : Nat) (rows_c : Nat) (w : World) (R : Ending → World → Prop) : lzones_T cols_p cols_n cols_c rows_p rows_n rows_c w R = vcFn Tryd.prog [] [] Tryd.f10 [.slice cols_p cols_n cols_c, .slice rows_p rows_n rows_c] w R := by kernel_rfl

set_option maxRecDepth 100000 in
theorem lzones_vc (cols_p : Option Addr) (cols_n : Nat) (cols_c : Nat) (rows_p : Option Addr) (rows_n : Nat) (rows_c : Nat) (w : World) (R : Ending → World → Prop) (h : lzones_T cols_p cols_n cols_c rows_p rows_n rows_c w R) : Calls Tryd.prog 10 #[.slice cols_p cols_n cols_c, .slice rows_p rows_n rows_c] w R :=
  calls_of_vc (args := [.slice cols_p cols_n cols_c, .slice rows_p rows_n rows_c]) [] [] Tryd.mixed Tryd.func10 (cast (lzones_eq _ _ _ _ _ _ w R) h)

set_option maxRecDepth 100000 in
def lwider_T (a_p : Option Addr) (a_n : Nat) (a_c : Nat) (b_p : Option Addr) (b_n : Nat) (b_c : Nat) (w : World) (R : Ending → World → Prop) : Prop :=
  ∃ (I1 : Option Addr → Nat → Nat → Int → World → Prop), ∃ (M2 : Option Addr → Nat → Nat → Int → World → Nat), I1 none 0 0 0 w ∧ ∀ (p3 : Option Addr) (n4 c5 : Nat) (n6 : Int) (w'7 : World), I1 p3 n4 c5 n6 w'7 → (n6 < (↑a_n : Int) → ∃ b10, ∃ o11, a_p = some ⟨b10, o11, none⟩ ∧ 0 ≤ n6 ∧ n6 < (↑a_n : Int) ∧ RI w'7 b10 (o11 + n6.toNat * 7) fun n12 ↦ RI w'7 b10 (o11 + n6.toNat * 7 + 1) fun n13 ↦ RI w'7 b10 (o11 + n6.toNat * 7 + 2) fun n14 ↦ RS w'7 b10 (o11 + n6.toNat * 7 + 3) fun s15 ↦ RI w'7 b10 (o11 + n6.toNat * 7 + 4) fun n16 ↦ RI w'7 b10 (o11 + n6.toNat * 7 + 5) fun n17 ↦ RS w'7 b10 (o11 + n6.toNat * 7 + 6) fun s18 ↦ ∀ b19 w'20, New w'7
 (Obj.cells
 #[.int .i64 0, .int .i64 0, .int .i64 0, .string ⟨#[]⟩, .int .i64 0, .int .i64 0, .string ⟨#[]⟩]
 50)
 b19 w'20 → CW w'20 b19 0 fun _ ↦ CW w'20 b19 1 fun _ ↦ CW w'20 b19 2 fun _ ↦ CW w'20 b19 3 fun _ ↦ CW w'20 b19 4 fun _ ↦ CW w'20 b19 5 fun _ ↦ CW w'20 b19 6 fun _ ↦ ∀ w'29, Put w'20 b19 0
 [.int .i64 n12, .int .i64 n13, .int .i64 n14, .string s15, .int .i64 n16, .int .i64 n17, .string s18]
 w'29 → RI w'29 b19 1 fun n31 ↦ (n31 = 0 → ∃ b33, ∃ o34, b_p = some ⟨b33, o34, none⟩ ∧ 0 ≤ n6 ∧ n6 < (↑b_n : Int) ∧ RI w'29 b33 (o34 + n6.toNat * 7 + 1) fun n35 ↦ RI w'29 b33 (o34 + n6.toNat * 7 + 1 + 1) fun n36 ↦ RS w'29 b33 (o34 + n6.toNat * 7 + 1 + 2) fun s37 ↦ CW w'29 b19 1 fun _ ↦ CW w'29 b19 2 fun _ ↦ CW w'29 b19 3 fun _ ↦ ∀ w'41, Put w'29 b19 1 [.int .i64 n35, .int .i64 n36, .string s37] w'41 → ∃ b43, ∃ o44, b_p = some ⟨b43, o44, none⟩ ∧ 0 ≤ n6 ∧ n6 < (↑b_n : Int) ∧ RI w'41 b43 (o44 + n6.toNat * 7 + 4) fun n45 ↦ RI w'41 b43 (o44 + n6.toNat * 7 + 4 + 1) fun n46 ↦ RS w'41 b43 (o44 + n6.toNat * 7 + 4 + 2) fun s47 ↦ CW w'41 b19 4 fun _ ↦ CW w'41 b19 5 fun _ ↦ CW w'41 b19 6 fun _ ↦ ∀ w'51, Put w'41 b19 4 [.int .i64 n45, .int .i64 n46, .string s47] w'51 → ∀ w'53, Drew w'51 w'53 → RI w'53 b19 0 fun n55 ↦ ∃ b56, ∃ o57, b_p = some ⟨b56, o57, none⟩ ∧ 0 ≤ n6 ∧ n6 < (↑b_n : Int) ∧ RI w'53 b56 (o57 + n6.toNat * 7) fun n58 ↦ CW w'53 b19 0 fun _ ↦ ∀ w'60, Put w'53 b19 0 [.int .i64 (IntKind.i64.wrap (n55 + n58))] w'60 → RI w'60 b19 0 fun n62 ↦ RI w'60 b19 1 fun n63 ↦ RI w'60 b19 2 fun n64 ↦ RS w'60 b19 3 fun s65 ↦ RI w'60 b19 4 fun n66 ↦ RI w'60 b19 5 fun n67 ↦ RS w'60 b19 6 fun s68 ↦ ∀ b69 w'70, New w'60
 (Obj.cells
 #[.int .i64 n62, .int .i64 n63, .int .i64 n64, .string s65, .int .i64 n66, .int .i64 n67, .string s68]
 50)
 b69 w'70 → ∃ p72 n73 c74, ∃ (w'75 : World), Sem.run Tryd.prog (Builtin.append_ #[33, 33] 33 #[.slice p3 n4 c5, .slice (some ⟨b69, 0, none⟩) 1 1]) w'70 = Result.ok (.slice p72 n73 c74) w'75 ∧ I1 p72 n73 c74 (IntKind.i64.wrap (n6 + 1)) w'75 ∧ M2 p72 n73 c74 (IntKind.i64.wrap (n6 + 1)) w'75 < M2 p3 n4 c5 n6 w'7) ∧ (n31 ≠ 0 → ∃ b77, ∃ o78, b_p = some ⟨b77, o78, none⟩ ∧ 0 ≤ n6 ∧ n6 < (↑b_n : Int) ∧ RI w'29 b77 (o78 + n6.toNat * 7 + 1) fun n79 ↦ (n79 ≠ 0 → ∀ w'81, Drew w'29 w'81 → RI w'81 b19 1 fun n83 ↦ RI w'81 b19 2 fun n84 ↦ RS w'81 b19 3 fun s85 ↦ RI w'81 b19 4 fun n86 ↦ RI w'81 b19 5 fun n87 ↦ RS w'81 b19 6 fun s88 ↦ ∃ b89, ∃ o90, b_p = some ⟨b89, o90, none⟩ ∧ 0 ≤ n6 ∧ n6 < (↑b_n : Int) ∧ RI w'81 b89 (o90 + n6.toNat * 7 + 1) fun n91 ↦ RI w'81 b89 (o90 + n6.toNat * 7 + 1 + 1) fun n92 ↦ RS w'81 b89 (o90 + n6.toNat * 7 + 1 + 2) fun s93 ↦ ∃ b94, ∃ o95, b_p = some ⟨b94, o95, none⟩ ∧ 0 ≤ n6 ∧ n6 < (↑b_n : Int) ∧ RI w'81 b94 (o95 + n6.toNat * 7 + 4) fun n96 ↦ RI w'81 b94 (o95 + n6.toNat * 7 + 4 + 1) fun n97 ↦ RS w'81 b94 (o95 + n6.toNat * 7 + 4 + 2) fun s98 ↦ (∀ b99 w'100, New w'81
 (Obj.cells
 #[.int .i64 n83, .int .i64 n84, .string s85, .int .i64 n86, .int .i64 n87, .string s88, .int .i64 n91, .int .i64 n92, .string s93, .int .i64 n96, .int .i64 n97, .string s98]
 25)
 b99 w'100 → (Calls Tryd.prog 19 #[.slice (some ⟨b99, 0, none⟩) 4 4] w'100 fun e102 w103 ↦
 ∃ n104, ∃ n105, ∃ n106, ∃ s107, ∃ n108, ∃ n109, ∃ s110, ∃ n111, e102 =
 .returned
 (Value.tuple
 #[Value.agg
 #[.int .i64 n104, .int .i64 n105, .int .i64 n106, .string s107, .int .i64 n108, .int .i64 n109, .string s110], .int .i64 n111]) ∧ ∀ b112 w'113, New w103
 (Obj.cells
 #[.int .i64 0, .int .i64 0, .int .i64 0, .string ⟨#[]⟩, .int .i64 0, .int .i64 0, .string ⟨#[]⟩]
 50)
 b112 w'113 → SameTo w'81 w103 w'113 ∧ CW w'113 b112 0 fun _ ↦ CW w'113 b112 1 fun _ ↦ CW w'113 b112 2 fun _ ↦ CW w'113 b112 3 fun _ ↦ CW w'113 b112 4 fun _ ↦ CW w'113 b112 5 fun _ ↦ CW w'113 b112 6 fun _ ↦ ∀ w'122, Put w'113 b112 0
 [.int .i64 n104, .int .i64 n105, .int .i64 n106, .string s107, .int .i64 n108, .int .i64 n109, .string s110]
 w'122 → RI w'122 b112 1 fun n124 ↦ RI w'122 b112 2 fun n125 ↦ RS w'122 b112 3 fun s126 ↦ CW w'122 b19 1 fun _ ↦ CW w'122 b19 2 fun _ ↦ CW w'122 b19 3 fun _ ↦ ∀ w'130, Put w'122 b19 1 [.int .i64 n124, .int .i64 n125, .string s126] w'130 → RI w'130 b112 4 fun n132 ↦ RI w'130 b112 5 fun n133 ↦ RS w'130 b112 6 fun s134 ↦ CW w'130 b19 4 fun _ ↦ CW w'130 b19 5 fun _ ↦ CW w'130 b19 6 fun _ ↦ ∀ w'138, Put w'130 b19 4 [.int .i64 n132, .int .i64 n133, .string s134] w'138 → ∀ w'140, Drew w'138 w'140 → RI w'140 b19 0 fun n142 ↦ ∃ b143, ∃ o144, b_p = some ⟨b143, o144, none⟩ ∧ 0 ≤ n6 ∧ n6 < (↑b_n : Int) ∧ RI w'140 b143 (o144 + n6.toNat * 7) fun n145 ↦ CW w'140 b19 0 fun _ ↦ ∀ w'147, Put w'140 b19 0 [.int .i64 (IntKind.i64.wrap (n142 + n145))] w'147 → RI w'147 b19 0 fun n149 ↦ RI w'147 b19 1 fun n150 ↦ RI w'147 b19 2 fun n151 ↦ RS w'147 b19 3 fun s152 ↦ RI w'147 b19 4 fun n153 ↦ RI w'147 b19 5 fun n154 ↦ RS w'147 b19 6 fun s155 ↦ ∀ b156 w'157, New w'147
 (Obj.cells
 #[.int .i64 n149, .int .i64 n150, .int .i64 n151, .string s152, .int .i64 n153, .int .i64 n154, .string s155]
 50)
 b156 w'157 → ∃ p159 n160 c161, ∃ (w'162 : World), Sem.run Tryd.prog (Builtin.append_ #[33, 33] 33 #[.slice p3 n4 c5, .slice (some ⟨b156, 0, none⟩) 1 1]) w'157 =
 Result.ok (.slice p159 n160 c161) w'162 ∧ I1 p159 n160 c161 (IntKind.i64.wrap (n6 + 1)) w'162 ∧ M2 p159 n160 c161 (IntKind.i64.wrap (n6 + 1)) w'162 < M2 p3 n4 c5 n6 w'7) ∧ ∀ b163 w'164, New w'100
 (Obj.cells
 #[.int .i64 0, .int .i64 0, .int .i64 0, .string ⟨#[]⟩, .int .i64 0, .int .i64 0, .string ⟨#[]⟩]
 50)
 b163 w'164 → SameTo w'81 w'100 w'164 ∧ Calls Tryd.prog 19 #[.slice (some ⟨b99, 0, none⟩) 4 4] w'164 fun e166 w167 ↦
 ∃ n168, ∃ n169, ∃ n170, ∃ s171, ∃ n172, ∃ n173, ∃ s174, ∃ n175, e166 =
 .returned
 (Value.tuple
 #[Value.agg
 #[.int .i64 n168, .int .i64 n169, .int .i64 n170, .string s171, .int .i64 n172, .int .i64 n173, .string s174], .int .i64 n175]) ∧ CW w167 b163 0 fun _ ↦ CW w167 b163 1 fun _ ↦ CW w167 b163 2 fun _ ↦ CW w167 b163 3 fun _ ↦ CW w167 b163 4 fun _ ↦ CW w167 b163 5 fun _ ↦ CW w167 b163 6 fun _ ↦ ∀ w'183, Put w167 b163 0
 [.int .i64 n168, .int .i64 n169, .int .i64 n170, .string s171, .int .i64 n172, .int .i64 n173, .string s174]
 w'183 → RI w'183 b163 1 fun n185 ↦ RI w'183 b163 2 fun n186 ↦ RS w'183 b163 3 fun s187 ↦ CW w'183 b19 1 fun _ ↦ CW w'183 b19 2 fun _ ↦ CW w'183 b19 3 fun _ ↦ ∀ w'191, Put w'183 b19 1 [.int .i64 n185, .int .i64 n186, .string s187] w'191 → RI w'191 b163 4 fun n193 ↦ RI w'191 b163 5 fun n194 ↦ RS w'191 b163 6 fun s195 ↦ CW w'191 b19 4 fun _ ↦ CW w'191 b19 5 fun _ ↦ CW w'191 b19 6 fun _ ↦ ∀ w'199, Put w'191 b19 4 [.int .i64 n193, .int .i64 n194, .string s195] w'199 → ∀ w'201, Drew w'199 w'201 → RI w'201 b19 0 fun n203 ↦ ∃ b204, ∃ o205, b_p = some ⟨b204, o205, none⟩ ∧ 0 ≤ n6 ∧ n6 < (↑b_n : Int) ∧ RI w'201 b204 (o205 + n6.toNat * 7) fun n206 ↦ CW w'201 b19 0 fun _ ↦ ∀ w'208, Put w'201 b19 0 [.int .i64 (IntKind.i64.wrap (n203 + n206))] w'208 → RI w'208 b19 0 fun n210 ↦ RI w'208 b19 1 fun n211 ↦ RI w'208 b19 2 fun n212 ↦ RS w'208 b19 3 fun s213 ↦ RI w'208 b19 4 fun n214 ↦ RI w'208 b19 5 fun n215 ↦ RS w'208 b19 6 fun s216 ↦ ∀ b217 w'218, New w'208
 (Obj.cells
 #[.int .i64 n210, .int .i64 n211, .int .i64 n212, .string s213, .int .i64 n214, .int .i64 n215, .string s216]
 50)
 b217 w'218 → ∃ p220 n221 c222, ∃ (w'223 : World), Sem.run Tryd.prog (Builtin.append_ #[33, 33] 33 #[.slice p3 n4 c5, .slice (some ⟨b217, 0, none⟩) 1 1]) w'218 =
 Result.ok (.slice p220 n221 c222) w'223 ∧ I1 p220 n221 c222 (IntKind.i64.wrap (n6 + 1)) w'223 ∧ M2 p220 n221 c222 (IntKind.i64.wrap (n6 + 1)) w'223 < M2 p3 n4 c5 n6 w'7) ∧ ∀ b224 w'225, New w'81
 (Obj.cells
 #[.int .i64 0, .int .i64 0, .int .i64 0, .string ⟨#[]⟩, .int .i64 0, .int .i64 0, .string ⟨#[]⟩]
 50)
 b224 w'225 → SameTo w'81 w'81 w'225 ∧ ∀ b227 w'228, New w'225
 (Obj.cells
 #[.int .i64 n83, .int .i64 n84, .string s85, .int .i64 n86, .int .i64 n87, .string s88, .int .i64 n91, .int .i64 n92, .string s93, .int .i64 n96, .int .i64 n97, .string s98]
 25)
 b227 w'228 → Calls Tryd.prog 19 #[.slice (some ⟨b227, 0, none⟩) 4 4] w'228 fun e230 w231 ↦
 ∃ n232, ∃ n233, ∃ n234, ∃ s235, ∃ n236, ∃ n237, ∃ s238, ∃ n239, e230 =
 .returned
 (Value.tuple
 #[Value.agg
 #[.int .i64 n232, .int .i64 n233, .int .i64 n234, .string s235, .int .i64 n236, .int .i64 n237, .string s238], .int .i64 n239]) ∧ CW w231 b224 0 fun _ ↦ CW w231 b224 1 fun _ ↦ CW w231 b224 2 fun _ ↦ CW w231 b224 3 fun _ ↦ CW w231 b224 4 fun _ ↦ CW w231 b224 5 fun _ ↦ CW w231 b224 6 fun _ ↦ ∀ w'247, Put w231 b224 0
 [.int .i64 n232, .int .i64 n233, .int .i64 n234, .string s235, .int .i64 n236, .int .i64 n237, .string s238]
 w'247 → RI w'247 b224 1 fun n249 ↦ RI w'247 b224 2 fun n250 ↦ RS w'247 b224 3 fun s251 ↦ CW w'247 b19 1 fun _ ↦ CW w'247 b19 2 fun _ ↦ CW w'247 b19 3 fun _ ↦ ∀ w'255, Put w'247 b19 1 [.int .i64 n249, .int .i64 n250, .string s251] w'255 → RI w'255 b224 4 fun n257 ↦ RI w'255 b224 5 fun n258 ↦ RS w'255 b224 6 fun s259 ↦ CW w'255 b19 4 fun _ ↦ CW w'255 b19 5 fun _ ↦ CW w'255 b19 6 fun _ ↦ ∀ w'263, Put w'255 b19 4 [.int .i64 n257, .int .i64 n258, .string s259] w'263 → ∀ w'265, Drew w'263 w'265 → RI w'265 b19 0 fun n267 ↦ ∃ b268, ∃ o269, b_p = some ⟨b268, o269, none⟩ ∧ 0 ≤ n6 ∧ n6 < (↑b_n : Int) ∧ RI w'265 b268 (o269 + n6.toNat * 7) fun n270 ↦ CW w'265 b19 0 fun _ ↦ ∀ w'272, Put w'265 b19 0 [.int .i64 (IntKind.i64.wrap (n267 + n270))] w'272 → RI w'272 b19 0 fun n274 ↦ RI w'272 b19 1 fun n275 ↦ RI w'272 b19 2 fun n276 ↦ RS w'272 b19 3 fun s277 ↦ RI w'272 b19 4 fun n278 ↦ RI w'272 b19 5 fun n279 ↦ RS w'272 b19 6 fun s280 ↦ ∀ b281 w'282, New w'272
 (Obj.cells
 #[.int .i64 n274, .int .i64 n275, .int .i64 n276, .string s277, .int .i64 n278, .int .i64 n279, .string s280]
 50)
 b281 w'282 → ∃ p284 n285 c286, ∃ (w'287 : World), Sem.run Tryd.prog (Builtin.append_ #[33, 33] 33 #[.slice p3 n4 c5, .slice (some ⟨b281, 0, none⟩) 1 1]) w'282 =
 Result.ok (.slice p284 n285 c286) w'287 ∧ I1 p284 n285 c286 (IntKind.i64.wrap (n6 + 1)) w'287 ∧ M2 p284 n285 c286 (IntKind.i64.wrap (n6 + 1)) w'287 < M2 p3 n4 c5 n6 w'7) ∧ (n79 = 0 → ∀ w'289, Drew w'29 w'289 → RI w'289 b19 0 fun n291 ↦ ∃ b292, ∃ o293, b_p = some ⟨b292, o293, none⟩ ∧ 0 ≤ n6 ∧ n6 < (↑b_n : Int) ∧ RI w'289 b292 (o293 + n6.toNat * 7) fun n294 ↦ CW w'289 b19 0 fun _ ↦ ∀ w'296, Put w'289 b19 0 [.int .i64 (IntKind.i64.wrap (n291 + n294))] w'296 → RI w'296 b19 0 fun n298 ↦ RI w'296 b19 1 fun n299 ↦ RI w'296 b19 2 fun n300 ↦ RS w'296 b19 3 fun s301 ↦ RI w'296 b19 4 fun n302 ↦ RI w'296 b19 5 fun n303 ↦ RS w'296 b19 6 fun s304 ↦ ∀ b305 w'306, New w'296
 (Obj.cells
 #[.int .i64 n298, .int .i64 n299, .int .i64 n300, .string s301, .int .i64 n302, .int .i64 n303, .string s304]
 50)
 b305 w'306 → ∃ p308 n309 c310, ∃ (w'311 : World), Sem.run Tryd.prog (Builtin.append_ #[33, 33] 33 #[.slice p3 n4 c5, .slice (some ⟨b305, 0, none⟩) 1 1]) w'306 =
 Result.ok (.slice p308 n309 c310) w'311 ∧ I1 p308 n309 c310 (IntKind.i64.wrap (n6 + 1)) w'311 ∧ M2 p308 n309 c310 (IntKind.i64.wrap (n6 + 1)) w'311 < M2 p3 n4 c5 n6 w'7))) ∧ ((↑a_n : Int) ≤ n6 → R (.returned (.slice p3 n4 c5)) w'7)

set_option maxRecDepth 100000 in
theorem lwider_eq (a_p : Option Addr) (a_n : Nat) (a_c : Nat) (b_p : Option Addr) (b_n : Nat) (b_c : Nat) (w : World) (R : Ending → World → Prop) : lwider_T a_p a_n a_c b_p b_n b_c w R = vcFn Tryd.prog [] [(10, [2, 4, 6, 8, 10, 12, 14, 16, 18, 20, 22, 24, 26, 28, 1, 30, 1, 32, 34, 36, 38, 41, 42, 44, 0, 41, 32, 34, 36, 38, 42, 44, 0, 41, 30, 32, 34, 36, 38, 42, 44, 0]), (13, [2, 4, 6, 8, 10, 12, 14, 16, 18, 20, 0])] Tryd.f9 [.slice a_p a_n a_c, .slice b_p b_n b_c] w R := by kernel_rfl

set_option maxRecDepth 100000 in
theorem lwider_vc (a_p : Option Addr) (a_n : Nat) (a_c : Nat) (b_p : Option Addr) (b_n : Nat) (b_c : Nat) (w : World) (R : Ending → World → Prop) (h : lwider_T a_p a_n a_c b_p b_n b_c w R) : Calls Tryd.prog 9 #[.slice a_p a_n a_c, .slice b_p b_n b_c] w R :=
  calls_of_vc (args := [.slice a_p a_n a_c, .slice b_p b_n b_c]) [] [(10, [2, 4, 6, 8, 10, 12, 14, 16, 18, 20, 22, 24, 26, 28, 1, 30, 1, 32, 34, 36, 38, 41, 42, 44, 0, 41, 32, 34, 36, 38, 42, 44, 0, 41, 30, 32, 34, 36, 38, 42, 44, 0]), (13, [2, 4, 6, 8, 10, 12, 14, 16, 18, 20, 0])] Tryd.mixed Tryd.func9 (cast (lwider_eq _ _ _ _ _ _ w R) h)

set_option maxRecDepth 100000 in
def lawWider_T (cols_p : Option Addr) (cols_n : Nat) (cols_c : Nat) (a_p : Option Addr) (a_n : Nat) (a_c : Nat) (b_p : Option Addr) (b_n : Nat) (b_c : Nat) (x0 : Int) (x1 : ByteArray) (x2 : Int) (x3 : Int) (x4 : ByteArray) (x5_p : Option Addr) (x5_n : Nat) (x5_c : Nat) (w : World) (R : Ending → World → Prop) : Prop :=
  ∀ b1 w'2, New w (Obj.cells #[.int .i64 x0, .string x1, .int .i64 x2, .int .i64 x3, .string x4, .slice x5_p x5_n x5_c] 28) b1
 w'2 → Calls Tryd.prog 7 #[] w'2 fun e4 w5 ↦
 ∃ b6, e4 = .returned (.bool b6) ∧ 0 ≤ mmI false (↑a_n : Int) 100 ∧ mmI false (↑a_n : Int) 100 ≤ (↑a_c : Int) ∧ 0 ≤ mmI false (↑b_n : Int) 100 ∧ mmI false (↑b_n : Int) 100 ≤ (↑b_c : Int) ∧ (0 : Int) ≤ 0 ∧ 0 ≤ IntKind.i64.wrap ((↑(mmI false (↑a_n : Int) 100).toNat : Int) + (↑(mmI false (↑b_n : Int) 100).toNat : Int)) ∧ 24 * IntKind.i64.wrap ((↑(mmI false (↑a_n : Int) 100).toNat : Int) + (↑(mmI false (↑b_n : Int) 100).toNat : Int)) ≤ 281474976710656 ∧ IntKind.i64.wrap ((↑(mmI false (↑a_n : Int) 100).toNat : Int) + (↑(mmI false (↑b_n : Int) 100).toNat : Int)) ≤ 9223372036854775807 ∧ ∀ b7 w'8, New w5
 (Obj.cells (madeCells #[.slice none 0 0] (IntKind.i64.wrap ((↑(mmI false (↑a_n : Int) 100).toNat : Int) + (↑(mmI false (↑b_n : Int) 100).toNat : Int))).toNat) 32) b7
 w'8 → ∃ p10 n11 c12, ∃ (w'13 : World), Sem.run Tryd.prog
 (Builtin.append_ #[23, 23] 23
 #[.slice (some ⟨b7, 0, none⟩) 0 (IntKind.i64.wrap ((↑(mmI false (↑a_n : Int) 100).toNat : Int) + (↑(mmI false (↑b_n : Int) 100).toNat : Int))).toNat, .slice a_p (mmI false (↑a_n : Int) 100).toNat a_c])
 w'8 =
 Result.ok (.slice p10 n11 c12) w'13 ∧ ∃ p14 n15 c16, ∃ (w'17 : World), Sem.run Tryd.prog (Builtin.append_ #[23, 23] 23 #[.slice p10 n11 c12, .slice b_p (mmI false (↑b_n : Int) 100).toNat b_c]) w'13 =
 Result.ok (.slice p14 n15 c16) w'17 ∧ ∃ (I18 : Int → World → Prop), ∃ (M19 : Int → World → Nat), I18 0 w'17 ∧ ∀ (n20 : Int) (w'21 : World), I18 n20 w'21 → (n20 < (↑n15 : Int) → ∃ b24, ∃ o25, p14 = some ⟨b24, o25, none⟩ ∧ 0 ≤ n20 ∧ n20 < (↑n15 : Int) ∧ RL w'21 b24 (o25 + n20.toNat) fun p26 n27 c28 ↦ Calls Tryd.prog 8 #[.slice cols_p cols_n cols_c, .slice p26 n27 c28] w'21 fun e29 w30 ↦
 ∃ b31, e29 = .returned (.bool b31) ∧ (b31 = false → R (.returned (.bool b6)) w30) ∧ (b31 = true → I18 (IntKind.i64.wrap (n20 + 1)) w30 ∧ M19 (IntKind.i64.wrap (n20 + 1)) w30 < M19 n20 w'21)) ∧ ((↑n15 : Int) ≤ n20 → Calls Tryd.prog 10 #[.slice cols_p cols_n cols_c, .slice a_p (mmI false (↑a_n : Int) 100).toNat a_c] w'21 fun e35 w36 ↦
 ∃ p37 n38 c39, e35 = .returned (.slice p37 n38 c39) ∧ Calls Tryd.prog 10 #[.slice cols_p cols_n cols_c, .slice b_p (mmI false (↑b_n : Int) 100).toNat b_c] w36 fun e40 w41 ↦
 ∃ p42 n43 c44, e40 = .returned (.slice p42 n43 c44) ∧ Calls Tryd.prog 9 #[.slice p37 n38 c39, .slice p42 n43 c44] w41 fun e45 w46 ↦
 ∃ p47 n48 c49, e45 = .returned (.slice p47 n48 c49) ∧ ∀ w'50, Drew w46 w'50 → RI w'50 b1 0 fun n52 ↦ RS w'50 b1 1 fun s53 ↦ RI w'50 b1 2 fun n54 ↦ RI w'50 b1 3 fun n55 ↦ RS w'50 b1 4 fun s56 ↦ RL w'50 b1 5 fun p57 n58 c59 ↦ Calls Tryd.prog 10 #[.slice cols_p cols_n cols_c, .slice a_p (mmI false (↑a_n : Int) 100).toNat a_c] w'50 fun e60 w61 ↦
 ∃ p62 n63 c64, e60 = .returned (.slice p62 n63 c64) ∧ SameTo w'50 w'50 w61 ∧ Calls Tryd.prog 11
 #[.slice cols_p cols_n cols_c, .slice p62 n63 c64, .int .i64 (↑(mmI false (↑a_n : Int) 100).toNat : Int), .agg #[.int .i64 n52, .string s53, .int .i64 n54, .int .i64 n55, .string s56, .slice p57 n58 c59]]
 w61 fun e65 w66 ↦
 ∃ n67, ∃ n68, e65 = .returned (.tuple #[.int .i64 n67, .int .i64 n68]) ∧ RI w66 b1 0 fun n69 ↦ RS w66 b1 1 fun s70 ↦ RI w66 b1 2 fun n71 ↦ RI w66 b1 3 fun n72 ↦ RS w66 b1 4 fun s73 ↦ RL w66 b1 5 fun p74 n75 c76 ↦ Calls Tryd.prog 11
 #[.slice cols_p cols_n cols_c, .slice p47 n48 c49, .int .i64 (↑n15 : Int), .agg #[.int .i64 n69, .string s70, .int .i64 n71, .int .i64 n72, .string s73, .slice p74 n75 c76]]
 w66 fun e77 w78 ↦
 ∃ n79, ∃ n80, e77 = .returned (.tuple #[.int .i64 n79, .int .i64 n80]) ∧ (n68 ≠ 0 ∨ n80 ≠ 0 → R (.returned (.bool (b6 && decide (n68 = n80)))) w78) ∧ (n68 = 0 ∧ n80 = 0 → R (.returned (.bool (b6 && decide (bits BinOp.and IntKind.i64 n67 n79 = n67)))) w78))

set_option maxRecDepth 100000 in
theorem lawWider_eq (cols_p : Option Addr) (cols_n : Nat) (cols_c : Nat) (a_p : Option Addr) (a_n : Nat) (a_c : Nat) (b_p : Option Addr) (b_n : Nat) (b_c : Nat) (x0 : Int) (x1 : ByteArray) (x2 : Int) (x3 : Int) (x4 : ByteArray) (x5_p : Option Addr) (x5_n : Nat) (x5_c : Nat) (w : World) (R : Ending → World → Prop) : lawWider_T cols_p cols_n cols_c a_p a_n a_c b_p b_n b_c x0 x1 x2 x3 x4 x5_p x5_n x5_c w R = vcFn Tryd.prog [] [(12, [2, 4, 6, 10, 12, 14, 9, 16, 18, 20, 22, 24, 26, 0])] Tryd.f3 [.slice cols_p cols_n cols_c, .slice a_p a_n a_c, .slice b_p b_n b_c, Value.agg
 #[.int .i64 x0, .string x1, .int .i64 x2, .int .i64 x3, .string x4, .slice x5_p x5_n x5_c]] w R := by kernel_rfl

set_option maxRecDepth 100000 in
theorem lawWider_vc (cols_p : Option Addr) (cols_n : Nat) (cols_c : Nat) (a_p : Option Addr) (a_n : Nat) (a_c : Nat) (b_p : Option Addr) (b_n : Nat) (b_c : Nat) (x0 : Int) (x1 : ByteArray) (x2 : Int) (x3 : Int) (x4 : ByteArray) (x5_p : Option Addr) (x5_n : Nat) (x5_c : Nat) (w : World) (R : Ending → World → Prop) (h : lawWider_T cols_p cols_n cols_c a_p a_n a_c b_p b_n b_c x0 x1 x2 x3 x4 x5_p x5_n x5_c w R) : Calls Tryd.prog 3 #[.slice cols_p cols_n cols_c, .slice a_p a_n a_c, .slice b_p b_n b_c, Value.agg
 #[.int .i64 x0, .string x1, .int .i64 x2, .int .i64 x3, .string x4, .slice x5_p x5_n x5_c]] w R :=
  calls_of_vc (args := [.slice cols_p cols_n cols_c, .slice a_p a_n a_c, .slice b_p b_n b_c, Value.agg
 #[.int .i64 x0, .string x1, .int .i64 x2, .int .i64 x3, .string x4, .slice x5_p x5_n x5_c]]) [] [(12, [2, 4, 6, 10, 12, 14, 9, 16, 18, 20, 22, 24, 26, 0])] Tryd.mixed Tryd.func3 (cast (lawWider_eq _ _ _ _ _ _ _ _ _ _ _ _ _ _ _ _ _ w R) h)


end Go.Proofs.YtpjafkcmbinjiaaDoor

/- The laws of prune: answers, and turned round. -/
namespace Go.Proofs.YtpjafkcmbinjiaaDoor
open Go Go.Vc Go.RowKit
set_option maxRecDepth 20000
attribute [local irreducible] Calls Put Drew New

def lessX (name : ByteArray) (n : Int) : Ex := .mk 10 ⟨#[]⟩ nullV [.mk 1 name nullV [], .mk 2 ⟨#[]⟩ (numV n) []]
theorem leaf_at {w : World} (op : Int) (name : ByteArray) (v : Val) : ExAt w (.mk op name v []) [.int .i64 op, .string name, .int .i64 v.k, .int .i64 v.n, .string v.s, .slice none 0 0] := by
  unfold ExAt
  exact ⟨none, 0, 0, [], rfl, ⟨Nat.le_refl _, Nat.zero_le _⟩, fun _ => ⟨rfl, rfl⟩, rfl, by simp, .inl rfl, by unfold ExsAt; trivial⟩
theorem lless_ok (name : ByteArray) (n : Int) (w : World) : Calls Tryd.prog 16 #[.string name, .int .i64 n] w fun e w' => ∃ cs, e = .returned (.agg cs.toArray) ∧ ExAt w' (lessX name n) cs ∧ Ext w w' := by
  apply lless_vc
  unfold lless_T
  intro b1 w2 h1 b4 w5 h4
  have H := ((Hold.start (Ext.rfl (w := w))).new h1).new h4
  have hne : b4 ≠ b1 := H.keys 0 1 _ _ rfl rfl (by decide)
  repeat (first
    | (intro _ _ hS; replace H := H.new hS; clear hS)
    | (intro _ hS; (first | replace H := H.put 0 rfl hS | replace H := H.put 1 rfl hS | replace H := H.put 2 rfl hS | replace H := H.put 3 rfl hS | replace H := H.put 4 rfl hS | replace H := H.put 5 rfl hS | replace H := H.put 6 rfl hS | replace H := H.put 7 rfl hS); clear hS; try simp only [setA, List.setIfInBounds_toArray, List.set_cons_zero, List.set_cons_succ, Nat.zero_add, Nat.reduceAdd] at H)
    | (intro _ hS; replace H := H.step (Drew.ext hS); clear hS)
    | (first | refine ⟨⟨_, H.get 0 rfl rfl⟩, ?_⟩ | refine ⟨⟨_, H.get 1 rfl rfl⟩, ?_⟩ | refine ⟨⟨_, H.get 2 rfl rfl⟩, ?_⟩ | refine ⟨⟨_, H.get 3 rfl rfl⟩, ?_⟩ | refine ⟨⟨_, H.get 4 rfl rfl⟩, ?_⟩ | refine ⟨⟨_, H.get 5 rfl rfl⟩, ?_⟩ | refine ⟨⟨_, H.get 6 rfl rfl⟩, ?_⟩ | refine ⟨⟨_, H.get 7 rfl rfl⟩, ?_⟩)
    | (first | refine ⟨H.frz 0 rfl, ?_⟩ | refine ⟨H.frz 1 rfl, ?_⟩ | refine ⟨H.frz 2 rfl, ?_⟩ | refine ⟨H.frz 3 rfl, ?_⟩ | refine ⟨H.frz 4 rfl, ?_⟩ | refine ⟨H.frz 5 rfl, ?_⟩ | refine ⟨H.frz 6 rfl, ?_⟩ | refine ⟨H.frz 7 rfl, ?_⟩)
    | (first | refine ⟨_, H.get 0 rfl rfl, ?_⟩ | refine ⟨_, H.get 1 rfl rfl, ?_⟩ | refine ⟨_, H.get 2 rfl rfl, ?_⟩ | refine ⟨_, H.get 3 rfl rfl, ?_⟩ | refine ⟨_, H.get 4 rfl rfl, ?_⟩ | refine ⟨_, H.get 5 rfl rfl, ?_⟩ | refine ⟨_, H.get 6 rfl rfl, ?_⟩ | refine ⟨_, H.get 7 rfl rfl, ?_⟩)
    | (first | refine ⟨_, _, _, H.get 0 rfl rfl, ?_⟩ | refine ⟨_, _, _, H.get 1 rfl rfl, ?_⟩ | refine ⟨_, _, _, H.get 2 rfl rfl, ?_⟩ | refine ⟨_, _, _, H.get 3 rfl rfl, ?_⟩ | refine ⟨_, _, _, H.get 4 rfl rfl, ?_⟩ | refine ⟨_, _, _, H.get 5 rfl rfl, ?_⟩ | refine ⟨_, _, _, H.get 6 rfl rfl, ?_⟩ | refine ⟨_, _, _, H.get 7 rfl rfl, ?_⟩))
  refine ⟨[.int .i64 10, .string ⟨#[]⟩, .int .i64 0, .int .i64 0, .string ⟨#[]⟩, .slice (some ⟨b4, 0, none⟩) 2 2], rfl, ?_, H.ext⟩
  have hB := H.blk 0 rfl
  unfold lessX ExAt
  refine ⟨some ⟨b4, 0, none⟩, 2, 2, [[.int .i64 1, .string name, .int .i64 0, .int .i64 0, .string ⟨#[]⟩, .slice none 0 0], [.int .i64 2, .string ⟨#[]⟩, .int .i64 1, .int .i64 n, .string ⟨#[]⟩, .slice none 0 0]], rfl, ⟨Nat.le_refl _, by decide⟩, fun h => (by cases h), rfl, ?_, hB.at, ?_⟩
  · intro x hx
    simp only [List.mem_cons, List.not_mem_nil, or_false] at hx
    rcases hx with rfl | rfl <;> rfl
  · unfold ExsAt
    refine ⟨leaf_at 1 name nullV, ?_⟩
    unfold ExsAt
    exact ⟨leaf_at 2 ⟨#[]⟩ (numV n), by unfold ExsAt; trivial⟩
def shownC : List Col := [⟨⟨#[97]⟩, 1, false⟩]
def shownZ : List Zn := [⟨0, numV 5, numV 9⟩]
theorem shown_a : answersF shownC shownZ 3 (lessX ⟨#[97]⟩ 5) = (1, 0) := by decide +kernel
theorem shown_b : answersF shownC shownZ 3 (lessX ⟨#[97]⟩ 6) = (3, 0) := by decide +kernel
theorem shown16_ok {w : World} (hT : Tab w) : Calls Tryd.prog 7 #[] w fun e w' => e = .returned (.bool true) ∧ Ext w w' := by
  apply shown16_vc
  unfold shown16_T
  intro b1 w2 h1 b4 w5 h4
  have H := ((Hold.start (Ext.rfl (w := w))).new h1).new h4
  have cols : ∀ {W : World} {o : Obj} , Hold w W [(b4, o), (b1, .cells #[.string ⟨#[97]⟩, .int .i64 1, .bool false] 48 (0, 0))] [] → Cols W (some ⟨b1, 0, none⟩) 1 1 shownC := fun H => ⟨rfl, ⟨Nat.le_refl _, by decide⟩, (H.blk 1 rfl).at, fun h => by cases h⟩
  have zones : ∀ {W : World} {o : Nat × Obj}, Hold w W [(b4, .cells #[.int .i64 0, .int .i64 1, .int .i64 5, .string ⟨#[]⟩, .int .i64 1, .int .i64 9, .string ⟨#[]⟩] 50 (0, 0)), o] [] → Zns W (some ⟨b4, 0, none⟩) 1 1 shownZ := fun H => ⟨rfl, ⟨Nat.le_refl _, by decide⟩, (H.blk 0 rfl).at, fun h => by cases h⟩
  refine (lless_ok _ _ _).mono ?_
  rintro e W ⟨cs, rfl, x1, eX⟩
  replace H := H.step eX
  obtain ⟨p1, n1, c1, rfl, _⟩ := x1.six
  refine ⟨_, _, _, _, _, _, _, _, rfl, (pAnswers_ok (m := 3) _ (hT.ext H.ext) (cols H) (zones H) x1).mono ?_⟩
  rintro e W ⟨rfl, eX⟩
  replace H := H.step eX
  refine ⟨_, _, rfl, (lless_ok _ _ _).mono ?_⟩
  rintro e W ⟨cs, rfl, x2, eX⟩
  replace H := H.step eX
  obtain ⟨p2, n2, c2, rfl, _⟩ := x2.six
  refine ⟨_, _, _, _, _, _, _, _, rfl, (pAnswers_ok (m := 3) _ (hT.ext H.ext) (cols H) (zones H) x2).mono ?_⟩
  rintro e W ⟨rfl, eX⟩
  replace H := H.step eX
  refine ⟨_, _, rfl, ?_, H.ext⟩
  rw [shown_a, shown_b]; rfl

end Go.Proofs.YtpjafkcmbinjiaaDoor

/- The contracts of zones of rows: the document's Column, Zone; the law's zonesOf. -/
namespace Go.Proofs.YtpjafkcmbinjiaaDoor
open Go Go.Vc Go.RowKit
set_option maxRecDepth 20000
attribute [local irreducible] Calls Put Drew New

theorem tyVal : tyOf Tryd.prog 25 = some { agg := true, ls := [.int .i64, .int .i64, .str], zero := .agg #[.int .i64 0, .int .i64 0, .string ⟨#[]⟩], bytes := 32, big := false, n := 3 } := by kernel_rfl
theorem undVals : Tryd.prog.underlying 31 = some (.slice 25) := by kernel_rfl
theorem tyZone : tyOf Tryd.prog 50 = some { agg := true, ls := [.int .i64, .int .i64, .int .i64, .str, .int .i64, .int .i64, .str], zero := .agg #[.int .i64 0, .int .i64 0, .int .i64 0, .string ⟨#[]⟩, .int .i64 0, .int .i64 0, .string ⟨#[]⟩], bytes := 72, big := false, n := 7 } := by kernel_rfl
theorem undZones : Tryd.prog.underlying 33 = some (.slice 50) := by kernel_rfl
theorem Zn.cs_one (z : Zn) : ∀ u ∈ z.cs, u.oneCell' = true := by
  intro u hu
  simp only [Zn.cs, List.mem_cons, List.not_mem_nil, or_false] at hu
  rcases hu with rfl | rfl | rfl | rfl | rfl | rfl | rfl <;> rfl
theorem colOf_take {L : List (List Val)} {ci j : Nat} {r : List Val} {v : Val} (hr : L[j]? = some r) (hv : r[ci]? = some v) : colOf (L.take (j + 1)) ci = colOf (L.take j) ci ++ [v] := by
  unfold colOf
  rw [List.take_add_one, hr, List.map_append]
  simp [hv]
theorem rcolumn_ok {L : List (List Val)} {hs : List Sl} {w : World} {p : Option Addr} {n c ci : Nat} (hR : Rws w p n c hs L) (hci : ∀ r ∈ L, ci < r.length) (hn : n ≤ 1024) :
    Calls Tryd.prog 20 #[.slice p n c, .int .i64 (ci : Int)] w fun e w' => ∃ (q : Option Addr) (k d : Nat), e = .returned (.slice q k d) ∧ Vs w' q k d (colOf L ci) ∧ Ext w w' := by
  apply qcolumn_vc
  unfold qcolumn_T
  have hlen := hR.len
  refine ⟨fun q k d i W => ∃ j : Nat, i = (j : Int) ∧ j ≤ n ∧ k = j ∧ Hold w W [] [⟨25, 3, q, k, d, (colOf (L.take j) ci).flatMap Val.cs⟩], fun _ _ _ i _ => n - i.toNat, ⟨0, rfl, Nat.zero_le _, rfl, (Hold.start Ext.rfl).nilRow _ _⟩, ?_⟩
  rintro q j d i W ⟨_, rfl, hj, rfl, H⟩
  refine ⟨fun hlt => ?_, fun hge => ?_⟩
  · have g : L[j]? = some (L[j]'(by omega)) := List.getElem?_eq_getElem _
    generalize L[j]'(by omega) = r at g
    have hcr := hci r (List.mem_of_getElem? g)
    have gv : r[ci]? = some (r[ci]'hcr) := List.getElem?_eq_getElem _
    generalize r[ci]'hcr = v at gv
    obtain ⟨x, hx, hvs, b, o, hp, hcell⟩ := (hR.ext H.ext).get g
    obtain ⟨vb, vo, hvp, c0, c1, c2⟩ := hvs.val gv
    have hvl := hvs.len
    simp only [Int.toNat_natCast]
    refine ⟨b, o, hp, by omega, hlt, _, _, _, hcell, vb, vo, hvp, by omega, by omega, _, c0, _, c1, _, c2, ?_⟩
    intro b20 w21 h20
    have h20' := h20
    replace H := H.step h20.ext
    obtain ⟨p', c', w26, hrn, H26⟩ := H.append (ty := 31) (P := Tryd.prog) (q := some ⟨b20, 0, none⟩) (m := 1) (d' := 1) (news := v.cs) 0 rfl undVals tyVal rfl (by decide) (Blk.new h20').at rfl (fun e => by cases e) v.cs_one (by dsimp only; omega) (by unfold maxLen; omega)
    refine ⟨p', _, c', w26, hrn, ?_⟩
    rw [i64_next (by omega)]
    refine ⟨⟨j + 1, rfl, by omega, rfl, ?_⟩, by simp only [Int.toNat_natCast]; omega⟩
    rw [colOf_take g gv, List.flatMap_append]
    simpa using H26
  · have hjn : j = n := by omega
    subst hjn
    rw [List.take_of_length_le (by omega)] at H
    exact ⟨q, j, d, rfl, (H.row 0 rfl).ls Val.cs_length (by decide), H.ext⟩

theorem zs_ok {l : List Val} (hok : ∀ u ∈ l, u.Ok) (j : Nat) : (zoneS (l.take j)).1.lo.Ok ∧ (zoneS (l.take j)).1.hi.Ok := by
  obtain ⟨_, _, h3, h4⟩ := zoneS_spec (l.take j)
  cases hs : (zoneS (l.take j)).2 with
  | true => rw [(h3 hs).1, (h3 hs).2]; exact ⟨null_ok, null_ok⟩
  | false =>
    obtain ⟨a, b, _⟩ := h4 hs
    exact ⟨hok _ (List.mem_of_mem_take a.1), hok _ (List.mem_of_mem_take b.1)⟩
theorem zs_nulls (l : List Val) (j : Nat) : 0 ≤ (zoneS (l.take j)).1.nulls ∧ (zoneS (l.take j)).1.nulls ≤ l.length := by
  obtain ⟨h1, _⟩ := zoneS_spec (l.take j)
  have := nullsN_le (l.take j)
  rw [List.length_take] at this
  omega
set_option maxHeartbeats 4000000 in
theorem rzone_ok {l : List Val} {w : World} {p : Option Addr} {n c : Nat} (h : Vs w p n c l) (hn : n ≤ 1024) (hok : ∀ u ∈ l, u.Ok) :
    Calls Tryd.prog 19 #[.slice p n c] w fun e w' => e = .returned (.tuple #[.agg (zoneF l).cs.toArray, .int .i64 0]) ∧ Ext w w' := by
  have hlen := h.len
  apply qzone_vc
  unfold qzone_T
  intro b1 w2 h1
  have H := (Hold.start (Ext.rfl (w := w))).new h1
  refine ⟨fun hb => by omega, fun _ => ?_⟩
  intro b22 w23 h22
  replace H := H.new h22
  let F : Zn → List (Nat × Obj) := fun z => [(b22, .cells #[.int .i64 z.nulls, .int .i64 z.lo.k, .int .i64 z.lo.n, .string z.lo.s, .int .i64 z.hi.k, .int .i64 z.hi.n, .string z.hi.s] 50 (0, 0)), (b1, .cells #[.int .i64 0, .int .i64 0, .int .i64 0, .string ⟨#[]⟩, .int .i64 0, .int .i64 0, .string ⟨#[]⟩] 50 (0, 0))]
  refine ⟨fun f i W => ∃ j : Nat, i = (j : Int) ∧ j ≤ n ∧ f = (zoneS (l.take j)).2 ∧ Hold w W (F (zoneS (l.take j)).1) [], fun _ i _ => n - i.toNat, ⟨0, rfl, Nat.zero_le _, rfl, H⟩, ?_⟩
  rintro f i W ⟨j, rfl, hj, rfl, H⟩
  refine ⟨fun hlt => ?_, fun hge => ?_⟩
  · have g : l[j]? = some (l[j]'(by omega)) := List.getElem?_eq_getElem _
    generalize l[j]'(by omega) = v at g
    have hv : v.Ok := hok v (List.mem_of_getElem? g)
    have hz := zs_ok hok j
    have hnl := zs_nulls l j
    have hst := zoneS_take g
    have e1 : rcmpV v (zoneS (l.take j)).1.lo = cmpV v (zoneS (l.take j)).1.lo := rcmpV_eq hv hz.1
    have e2 : rcmpV v (zoneS (l.take j)).1.hi = cmpV v (zoneS (l.take j)).1.hi := rcmpV_eq hv hz.2
    rw [i64_next (by omega)]
    simp only [Int.toNat_natCast]
    have M : (n - ((j + 1 : Nat) : Int).toNat) < n - ((j : Nat) : Int).toNat := by simp only [Int.toNat_natCast]; omega
    have cells : ∀ {W' : World}, Ext w W' → ∃ b o, p = some ⟨b, o, none⟩ ∧ W'.cell? ⟨b, o + j * 3, none⟩ = some (.int .i64 v.k) ∧ W'.cell? ⟨b, o + j * 3 + 1, none⟩ = some (.int .i64 v.n) ∧ W'.cell? ⟨b, o + j * 3 + 2, none⟩ = some (.string v.s) := fun e => (h.ext e).val g
    obtain ⟨b, o, hp, c0, c1, c2⟩ := cells H.ext
    refine ⟨b, o, hp, by omega, hlt, _, c0, _, c1, _, c2, (rvright_ok v _).mono ?_⟩
    rintro e W1 ⟨rfl, eX⟩
    replace H := H.step eX
    refine ⟨_, rfl, fun hf => ?_, fun _ => ?_⟩
    · exfalso
      unfold Val.right at hf
      rw [decide_eq_false_iff_not] at hf
      exact hf hv
    obtain ⟨b, o, hp, c0, c1, c2⟩ := cells H.ext
    refine ⟨b, o, hp, by omega, hlt, _, c0, fun hk => ?_, fun hk => ?_⟩
    · repeat (first
        | (intro _ _ hS; replace H := H.new hS; clear hS)
        | (intro _ hS; (first | replace H := H.put 0 rfl hS | replace H := H.put 1 rfl hS | replace H := H.put 2 rfl hS | replace H := H.put 3 rfl hS | replace H := H.put 4 rfl hS | replace H := H.put 5 rfl hS | replace H := H.put 6 rfl hS | replace H := H.put 7 rfl hS); clear hS; try simp only [setA, List.setIfInBounds_toArray, List.set_cons_zero, List.set_cons_succ, Nat.zero_add, Nat.reduceAdd] at H)
        | (intro _ hS; replace H := H.step (Drew.ext hS); clear hS)
        | (first | refine ⟨⟨_, H.get 0 rfl rfl⟩, ?_⟩ | refine ⟨⟨_, H.get 1 rfl rfl⟩, ?_⟩ | refine ⟨⟨_, H.get 2 rfl rfl⟩, ?_⟩ | refine ⟨⟨_, H.get 3 rfl rfl⟩, ?_⟩ | refine ⟨⟨_, H.get 4 rfl rfl⟩, ?_⟩ | refine ⟨⟨_, H.get 5 rfl rfl⟩, ?_⟩ | refine ⟨⟨_, H.get 6 rfl rfl⟩, ?_⟩ | refine ⟨⟨_, H.get 7 rfl rfl⟩, ?_⟩)
        | (first | refine ⟨H.frz 0 rfl, ?_⟩ | refine ⟨H.frz 1 rfl, ?_⟩ | refine ⟨H.frz 2 rfl, ?_⟩ | refine ⟨H.frz 3 rfl, ?_⟩ | refine ⟨H.frz 4 rfl, ?_⟩ | refine ⟨H.frz 5 rfl, ?_⟩ | refine ⟨H.frz 6 rfl, ?_⟩ | refine ⟨H.frz 7 rfl, ?_⟩)
        | (first | refine ⟨_, H.get 0 rfl rfl, ?_⟩ | refine ⟨_, H.get 1 rfl rfl, ?_⟩ | refine ⟨_, H.get 2 rfl rfl, ?_⟩ | refine ⟨_, H.get 3 rfl rfl, ?_⟩ | refine ⟨_, H.get 4 rfl rfl, ?_⟩ | refine ⟨_, H.get 5 rfl rfl, ?_⟩ | refine ⟨_, H.get 6 rfl rfl, ?_⟩ | refine ⟨_, H.get 7 rfl rfl, ?_⟩)
        | (first | refine ⟨_, _, _, H.get 0 rfl rfl, ?_⟩ | refine ⟨_, _, _, H.get 1 rfl rfl, ?_⟩ | refine ⟨_, _, _, H.get 2 rfl rfl, ?_⟩ | refine ⟨_, _, _, H.get 3 rfl rfl, ?_⟩ | refine ⟨_, _, _, H.get 4 rfl rfl, ?_⟩ | refine ⟨_, _, _, H.get 5 rfl rfl, ?_⟩ | refine ⟨_, _, _, H.get 6 rfl rfl, ?_⟩ | refine ⟨_, _, _, H.get 7 rfl rfl, ?_⟩))
      rw [i64_fit (n := (zoneS (l.take j)).1.nulls + 1) (by omega) (by omega)] at H
      refine ⟨⟨j + 1, rfl, by omega, ?_, ?_⟩, M⟩
      · rw [hst]; unfold zstep; rw [if_pos hk]
      · rw [hst]; unfold zstep; rw [if_pos hk]; exact H
    · intro w67 hD
      replace H := H.step (Drew.ext hD)
      obtain ⟨b, o, hp, c0, c1, c2⟩ := cells H.ext
      refine ⟨b, o, hp, by omega, hlt, _, c0, _, c1, _, c2, ?_⟩
      repeat (first
        | (intro _ _ hS; replace H := H.new hS; clear hS)
        | (intro _ hS; (first | replace H := H.put 0 rfl hS | replace H := H.put 1 rfl hS | replace H := H.put 2 rfl hS | replace H := H.put 3 rfl hS | replace H := H.put 4 rfl hS | replace H := H.put 5 rfl hS | replace H := H.put 6 rfl hS | replace H := H.put 7 rfl hS); clear hS; try simp only [setA, List.setIfInBounds_toArray, List.set_cons_zero, List.set_cons_succ, Nat.zero_add, Nat.reduceAdd] at H)
        | (intro _ hS; replace H := H.step (Drew.ext hS); clear hS)
        | (first | refine ⟨⟨_, H.get 0 rfl rfl⟩, ?_⟩ | refine ⟨⟨_, H.get 1 rfl rfl⟩, ?_⟩ | refine ⟨⟨_, H.get 2 rfl rfl⟩, ?_⟩ | refine ⟨⟨_, H.get 3 rfl rfl⟩, ?_⟩ | refine ⟨⟨_, H.get 4 rfl rfl⟩, ?_⟩ | refine ⟨⟨_, H.get 5 rfl rfl⟩, ?_⟩ | refine ⟨⟨_, H.get 6 rfl rfl⟩, ?_⟩ | refine ⟨⟨_, H.get 7 rfl rfl⟩, ?_⟩)
        | (first | refine ⟨H.frz 0 rfl, ?_⟩ | refine ⟨H.frz 1 rfl, ?_⟩ | refine ⟨H.frz 2 rfl, ?_⟩ | refine ⟨H.frz 3 rfl, ?_⟩ | refine ⟨H.frz 4 rfl, ?_⟩ | refine ⟨H.frz 5 rfl, ?_⟩ | refine ⟨H.frz 6 rfl, ?_⟩ | refine ⟨H.frz 7 rfl, ?_⟩)
        | (first | refine ⟨_, H.get 0 rfl rfl, ?_⟩ | refine ⟨_, H.get 1 rfl rfl, ?_⟩ | refine ⟨_, H.get 2 rfl rfl, ?_⟩ | refine ⟨_, H.get 3 rfl rfl, ?_⟩ | refine ⟨_, H.get 4 rfl rfl, ?_⟩ | refine ⟨_, H.get 5 rfl rfl, ?_⟩ | refine ⟨_, H.get 6 rfl rfl, ?_⟩ | refine ⟨_, H.get 7 rfl rfl, ?_⟩)
        | (first | refine ⟨_, _, _, H.get 0 rfl rfl, ?_⟩ | refine ⟨_, _, _, H.get 1 rfl rfl, ?_⟩ | refine ⟨_, _, _, H.get 2 rfl rfl, ?_⟩ | refine ⟨_, _, _, H.get 3 rfl rfl, ?_⟩ | refine ⟨_, _, _, H.get 4 rfl rfl, ?_⟩ | refine ⟨_, _, _, H.get 5 rfl rfl, ?_⟩ | refine ⟨_, _, _, H.get 6 rfl rfl, ?_⟩ | refine ⟨_, _, _, H.get 7 rfl rfl, ?_⟩))
      refine (rvcompare_ok v (zoneS (l.take j)).1.lo _).mono ?_
      rintro e W2 ⟨rfl, eX⟩
      replace H := H.step eX
      refine ⟨_, rfl, ?_⟩
      intro w80 hD
      replace H := H.step (Drew.ext hD)
      obtain ⟨b, o, hp, c0, c1, c2⟩ := cells H.ext
      refine ⟨b, o, hp, by omega, hlt, _, c0, _, c1, _, c2, ?_⟩
      repeat (first
        | (intro _ _ hS; replace H := H.new hS; clear hS)
        | (intro _ hS; (first | replace H := H.put 0 rfl hS | replace H := H.put 1 rfl hS | replace H := H.put 2 rfl hS | replace H := H.put 3 rfl hS | replace H := H.put 4 rfl hS | replace H := H.put 5 rfl hS | replace H := H.put 6 rfl hS | replace H := H.put 7 rfl hS); clear hS; try simp only [setA, List.setIfInBounds_toArray, List.set_cons_zero, List.set_cons_succ, Nat.zero_add, Nat.reduceAdd] at H)
        | (intro _ hS; replace H := H.step (Drew.ext hS); clear hS)
        | (first | refine ⟨⟨_, H.get 0 rfl rfl⟩, ?_⟩ | refine ⟨⟨_, H.get 1 rfl rfl⟩, ?_⟩ | refine ⟨⟨_, H.get 2 rfl rfl⟩, ?_⟩ | refine ⟨⟨_, H.get 3 rfl rfl⟩, ?_⟩ | refine ⟨⟨_, H.get 4 rfl rfl⟩, ?_⟩ | refine ⟨⟨_, H.get 5 rfl rfl⟩, ?_⟩ | refine ⟨⟨_, H.get 6 rfl rfl⟩, ?_⟩ | refine ⟨⟨_, H.get 7 rfl rfl⟩, ?_⟩)
        | (first | refine ⟨H.frz 0 rfl, ?_⟩ | refine ⟨H.frz 1 rfl, ?_⟩ | refine ⟨H.frz 2 rfl, ?_⟩ | refine ⟨H.frz 3 rfl, ?_⟩ | refine ⟨H.frz 4 rfl, ?_⟩ | refine ⟨H.frz 5 rfl, ?_⟩ | refine ⟨H.frz 6 rfl, ?_⟩ | refine ⟨H.frz 7 rfl, ?_⟩)
        | (first | refine ⟨_, H.get 0 rfl rfl, ?_⟩ | refine ⟨_, H.get 1 rfl rfl, ?_⟩ | refine ⟨_, H.get 2 rfl rfl, ?_⟩ | refine ⟨_, H.get 3 rfl rfl, ?_⟩ | refine ⟨_, H.get 4 rfl rfl, ?_⟩ | refine ⟨_, H.get 5 rfl rfl, ?_⟩ | refine ⟨_, H.get 6 rfl rfl, ?_⟩ | refine ⟨_, H.get 7 rfl rfl, ?_⟩)
        | (first | refine ⟨_, _, _, H.get 0 rfl rfl, ?_⟩ | refine ⟨_, _, _, H.get 1 rfl rfl, ?_⟩ | refine ⟨_, _, _, H.get 2 rfl rfl, ?_⟩ | refine ⟨_, _, _, H.get 3 rfl rfl, ?_⟩ | refine ⟨_, _, _, H.get 4 rfl rfl, ?_⟩ | refine ⟨_, _, _, H.get 5 rfl rfl, ?_⟩ | refine ⟨_, _, _, H.get 6 rfl rfl, ?_⟩ | refine ⟨_, _, _, H.get 7 rfl rfl, ?_⟩))
      refine (rvcompare_ok v (zoneS (l.take j)).1.hi _).mono ?_
      rintro e W3 ⟨rfl, eX⟩
      replace H := H.step eX
      refine ⟨_, rfl, ?_⟩
      rw [e1, e2]
      have hstep : zoneS (l.take (j + 1)) = (⟨(zoneS (l.take j)).1.nulls, if (zoneS (l.take j)).2 = true ∨ cmpV v (zoneS (l.take j)).1.lo < 0 then v else (zoneS (l.take j)).1.lo, if (zoneS (l.take j)).2 = true ∨ 0 < cmpV v (zoneS (l.take j)).1.hi then v else (zoneS (l.take j)).1.hi⟩, false) := by
        rw [hst]; unfold zstep; rw [if_neg hk]
      refine ⟨fun hlo => ?_, fun hlo => ?_⟩
      · obtain ⟨b, o, hp, c0, c1, c2⟩ := cells H.ext
        refine ⟨b, o, hp, by omega, hlt, _, c0, _, c1, _, c2, ?_⟩
        repeat (first
          | (intro _ _ hS; replace H := H.new hS; clear hS)
          | (intro _ hS; (first | replace H := H.put 0 rfl hS | replace H := H.put 1 rfl hS | replace H := H.put 2 rfl hS | replace H := H.put 3 rfl hS | replace H := H.put 4 rfl hS | replace H := H.put 5 rfl hS | replace H := H.put 6 rfl hS | replace H := H.put 7 rfl hS); clear hS; try simp only [setA, List.setIfInBounds_toArray, List.set_cons_zero, List.set_cons_succ, Nat.zero_add, Nat.reduceAdd] at H)
          | (intro _ hS; replace H := H.step (Drew.ext hS); clear hS)
          | (first | refine ⟨⟨_, H.get 0 rfl rfl⟩, ?_⟩ | refine ⟨⟨_, H.get 1 rfl rfl⟩, ?_⟩ | refine ⟨⟨_, H.get 2 rfl rfl⟩, ?_⟩ | refine ⟨⟨_, H.get 3 rfl rfl⟩, ?_⟩ | refine ⟨⟨_, H.get 4 rfl rfl⟩, ?_⟩ | refine ⟨⟨_, H.get 5 rfl rfl⟩, ?_⟩ | refine ⟨⟨_, H.get 6 rfl rfl⟩, ?_⟩ | refine ⟨⟨_, H.get 7 rfl rfl⟩, ?_⟩)
          | (first | refine ⟨H.frz 0 rfl, ?_⟩ | refine ⟨H.frz 1 rfl, ?_⟩ | refine ⟨H.frz 2 rfl, ?_⟩ | refine ⟨H.frz 3 rfl, ?_⟩ | refine ⟨H.frz 4 rfl, ?_⟩ | refine ⟨H.frz 5 rfl, ?_⟩ | refine ⟨H.frz 6 rfl, ?_⟩ | refine ⟨H.frz 7 rfl, ?_⟩)
          | (first | refine ⟨_, H.get 0 rfl rfl, ?_⟩ | refine ⟨_, H.get 1 rfl rfl, ?_⟩ | refine ⟨_, H.get 2 rfl rfl, ?_⟩ | refine ⟨_, H.get 3 rfl rfl, ?_⟩ | refine ⟨_, H.get 4 rfl rfl, ?_⟩ | refine ⟨_, H.get 5 rfl rfl, ?_⟩ | refine ⟨_, H.get 6 rfl rfl, ?_⟩ | refine ⟨_, H.get 7 rfl rfl, ?_⟩)
          | (first | refine ⟨_, _, _, H.get 0 rfl rfl, ?_⟩ | refine ⟨_, _, _, H.get 1 rfl rfl, ?_⟩ | refine ⟨_, _, _, H.get 2 rfl rfl, ?_⟩ | refine ⟨_, _, _, H.get 3 rfl rfl, ?_⟩ | refine ⟨_, _, _, H.get 4 rfl rfl, ?_⟩ | refine ⟨_, _, _, H.get 5 rfl rfl, ?_⟩ | refine ⟨_, _, _, H.get 6 rfl rfl, ?_⟩ | refine ⟨_, _, _, H.get 7 rfl rfl, ?_⟩))
        refine ⟨fun hhi => ?_, fun hhi => ?_⟩
        · obtain ⟨b, o, hp, c0, c1, c2⟩ := cells H.ext
          refine ⟨b, o, hp, by omega, hlt, _, c0, _, c1, _, c2, ?_⟩
          repeat (first
            | (intro _ _ hS; replace H := H.new hS; clear hS)
            | (intro _ hS; (first | replace H := H.put 0 rfl hS | replace H := H.put 1 rfl hS | replace H := H.put 2 rfl hS | replace H := H.put 3 rfl hS | replace H := H.put 4 rfl hS | replace H := H.put 5 rfl hS | replace H := H.put 6 rfl hS | replace H := H.put 7 rfl hS); clear hS; try simp only [setA, List.setIfInBounds_toArray, List.set_cons_zero, List.set_cons_succ, Nat.zero_add, Nat.reduceAdd] at H)
            | (intro _ hS; replace H := H.step (Drew.ext hS); clear hS)
            | (first | refine ⟨⟨_, H.get 0 rfl rfl⟩, ?_⟩ | refine ⟨⟨_, H.get 1 rfl rfl⟩, ?_⟩ | refine ⟨⟨_, H.get 2 rfl rfl⟩, ?_⟩ | refine ⟨⟨_, H.get 3 rfl rfl⟩, ?_⟩ | refine ⟨⟨_, H.get 4 rfl rfl⟩, ?_⟩ | refine ⟨⟨_, H.get 5 rfl rfl⟩, ?_⟩ | refine ⟨⟨_, H.get 6 rfl rfl⟩, ?_⟩ | refine ⟨⟨_, H.get 7 rfl rfl⟩, ?_⟩)
            | (first | refine ⟨H.frz 0 rfl, ?_⟩ | refine ⟨H.frz 1 rfl, ?_⟩ | refine ⟨H.frz 2 rfl, ?_⟩ | refine ⟨H.frz 3 rfl, ?_⟩ | refine ⟨H.frz 4 rfl, ?_⟩ | refine ⟨H.frz 5 rfl, ?_⟩ | refine ⟨H.frz 6 rfl, ?_⟩ | refine ⟨H.frz 7 rfl, ?_⟩)
            | (first | refine ⟨_, H.get 0 rfl rfl, ?_⟩ | refine ⟨_, H.get 1 rfl rfl, ?_⟩ | refine ⟨_, H.get 2 rfl rfl, ?_⟩ | refine ⟨_, H.get 3 rfl rfl, ?_⟩ | refine ⟨_, H.get 4 rfl rfl, ?_⟩ | refine ⟨_, H.get 5 rfl rfl, ?_⟩ | refine ⟨_, H.get 6 rfl rfl, ?_⟩ | refine ⟨_, H.get 7 rfl rfl, ?_⟩)
            | (first | refine ⟨_, _, _, H.get 0 rfl rfl, ?_⟩ | refine ⟨_, _, _, H.get 1 rfl rfl, ?_⟩ | refine ⟨_, _, _, H.get 2 rfl rfl, ?_⟩ | refine ⟨_, _, _, H.get 3 rfl rfl, ?_⟩ | refine ⟨_, _, _, H.get 4 rfl rfl, ?_⟩ | refine ⟨_, _, _, H.get 5 rfl rfl, ?_⟩ | refine ⟨_, _, _, H.get 6 rfl rfl, ?_⟩ | refine ⟨_, _, _, H.get 7 rfl rfl, ?_⟩))
          refine ⟨⟨j + 1, rfl, by omega, by rw [hstep], ?_⟩, M⟩
          rw [hstep, if_pos hlo, if_pos hhi]; exact H
        · refine ⟨⟨j + 1, rfl, by omega, by rw [hstep], ?_⟩, M⟩
          rw [hstep, if_pos hlo, if_neg (by rintro (q | q); rw [hhi.1] at q; cases q; omega)]; exact H
      · refine ⟨fun hhi => ?_, fun hhi => ?_⟩
        · obtain ⟨b, o, hp, c0, c1, c2⟩ := cells H.ext
          refine ⟨b, o, hp, by omega, hlt, _, c0, _, c1, _, c2, ?_⟩
          repeat (first
            | (intro _ _ hS; replace H := H.new hS; clear hS)
            | (intro _ hS; (first | replace H := H.put 0 rfl hS | replace H := H.put 1 rfl hS | replace H := H.put 2 rfl hS | replace H := H.put 3 rfl hS | replace H := H.put 4 rfl hS | replace H := H.put 5 rfl hS | replace H := H.put 6 rfl hS | replace H := H.put 7 rfl hS); clear hS; try simp only [setA, List.setIfInBounds_toArray, List.set_cons_zero, List.set_cons_succ, Nat.zero_add, Nat.reduceAdd] at H)
            | (intro _ hS; replace H := H.step (Drew.ext hS); clear hS)
            | (first | refine ⟨⟨_, H.get 0 rfl rfl⟩, ?_⟩ | refine ⟨⟨_, H.get 1 rfl rfl⟩, ?_⟩ | refine ⟨⟨_, H.get 2 rfl rfl⟩, ?_⟩ | refine ⟨⟨_, H.get 3 rfl rfl⟩, ?_⟩ | refine ⟨⟨_, H.get 4 rfl rfl⟩, ?_⟩ | refine ⟨⟨_, H.get 5 rfl rfl⟩, ?_⟩ | refine ⟨⟨_, H.get 6 rfl rfl⟩, ?_⟩ | refine ⟨⟨_, H.get 7 rfl rfl⟩, ?_⟩)
            | (first | refine ⟨H.frz 0 rfl, ?_⟩ | refine ⟨H.frz 1 rfl, ?_⟩ | refine ⟨H.frz 2 rfl, ?_⟩ | refine ⟨H.frz 3 rfl, ?_⟩ | refine ⟨H.frz 4 rfl, ?_⟩ | refine ⟨H.frz 5 rfl, ?_⟩ | refine ⟨H.frz 6 rfl, ?_⟩ | refine ⟨H.frz 7 rfl, ?_⟩)
            | (first | refine ⟨_, H.get 0 rfl rfl, ?_⟩ | refine ⟨_, H.get 1 rfl rfl, ?_⟩ | refine ⟨_, H.get 2 rfl rfl, ?_⟩ | refine ⟨_, H.get 3 rfl rfl, ?_⟩ | refine ⟨_, H.get 4 rfl rfl, ?_⟩ | refine ⟨_, H.get 5 rfl rfl, ?_⟩ | refine ⟨_, H.get 6 rfl rfl, ?_⟩ | refine ⟨_, H.get 7 rfl rfl, ?_⟩)
            | (first | refine ⟨_, _, _, H.get 0 rfl rfl, ?_⟩ | refine ⟨_, _, _, H.get 1 rfl rfl, ?_⟩ | refine ⟨_, _, _, H.get 2 rfl rfl, ?_⟩ | refine ⟨_, _, _, H.get 3 rfl rfl, ?_⟩ | refine ⟨_, _, _, H.get 4 rfl rfl, ?_⟩ | refine ⟨_, _, _, H.get 5 rfl rfl, ?_⟩ | refine ⟨_, _, _, H.get 6 rfl rfl, ?_⟩ | refine ⟨_, _, _, H.get 7 rfl rfl, ?_⟩))
          refine ⟨⟨j + 1, rfl, by omega, by rw [hstep], ?_⟩, M⟩
          rw [hstep, if_neg (by rintro (q | q); rw [hlo.1] at q; cases q; omega), if_pos hhi]; exact H
        · refine ⟨⟨j + 1, rfl, by omega, by rw [hstep], ?_⟩, M⟩
          rw [hstep, if_neg (by rintro (q | q); rw [hlo.1] at q; cases q; omega), if_neg (by rintro (q | q); rw [hhi.1] at q; cases q; omega)]; exact H
  · have hjn : j = n := by omega
    subst hjn
    rw [List.take_of_length_le (by omega)] at H
    repeat (first
      | (intro _ _ hS; replace H := H.new hS; clear hS)
      | (intro _ hS; (first | replace H := H.put 0 rfl hS | replace H := H.put 1 rfl hS | replace H := H.put 2 rfl hS | replace H := H.put 3 rfl hS | replace H := H.put 4 rfl hS | replace H := H.put 5 rfl hS | replace H := H.put 6 rfl hS | replace H := H.put 7 rfl hS); clear hS; try simp only [setA, List.setIfInBounds_toArray, List.set_cons_zero, List.set_cons_succ, Nat.zero_add, Nat.reduceAdd] at H)
      | (intro _ hS; replace H := H.step (Drew.ext hS); clear hS)
      | (first | refine ⟨⟨_, H.get 0 rfl rfl⟩, ?_⟩ | refine ⟨⟨_, H.get 1 rfl rfl⟩, ?_⟩ | refine ⟨⟨_, H.get 2 rfl rfl⟩, ?_⟩ | refine ⟨⟨_, H.get 3 rfl rfl⟩, ?_⟩ | refine ⟨⟨_, H.get 4 rfl rfl⟩, ?_⟩ | refine ⟨⟨_, H.get 5 rfl rfl⟩, ?_⟩ | refine ⟨⟨_, H.get 6 rfl rfl⟩, ?_⟩ | refine ⟨⟨_, H.get 7 rfl rfl⟩, ?_⟩)
      | (first | refine ⟨H.frz 0 rfl, ?_⟩ | refine ⟨H.frz 1 rfl, ?_⟩ | refine ⟨H.frz 2 rfl, ?_⟩ | refine ⟨H.frz 3 rfl, ?_⟩ | refine ⟨H.frz 4 rfl, ?_⟩ | refine ⟨H.frz 5 rfl, ?_⟩ | refine ⟨H.frz 6 rfl, ?_⟩ | refine ⟨H.frz 7 rfl, ?_⟩)
      | (first | refine ⟨_, H.get 0 rfl rfl, ?_⟩ | refine ⟨_, H.get 1 rfl rfl, ?_⟩ | refine ⟨_, H.get 2 rfl rfl, ?_⟩ | refine ⟨_, H.get 3 rfl rfl, ?_⟩ | refine ⟨_, H.get 4 rfl rfl, ?_⟩ | refine ⟨_, H.get 5 rfl rfl, ?_⟩ | refine ⟨_, H.get 6 rfl rfl, ?_⟩ | refine ⟨_, H.get 7 rfl rfl, ?_⟩)
      | (first | refine ⟨_, _, _, H.get 0 rfl rfl, ?_⟩ | refine ⟨_, _, _, H.get 1 rfl rfl, ?_⟩ | refine ⟨_, _, _, H.get 2 rfl rfl, ?_⟩ | refine ⟨_, _, _, H.get 3 rfl rfl, ?_⟩ | refine ⟨_, _, _, H.get 4 rfl rfl, ?_⟩ | refine ⟨_, _, _, H.get 5 rfl rfl, ?_⟩ | refine ⟨_, _, _, H.get 6 rfl rfl, ?_⟩ | refine ⟨_, _, _, H.get 7 rfl rfl, ?_⟩))
    exact ⟨rfl, H.ext⟩

theorem lzones_ok {cols : List Col} {L : List (List Val)} {hs : List Sl} {w : World} {p rp : Option Addr} {n c rn rc : Nat} (hc : Cols w p n c cols) (hR : Rws w rp rn rc hs L) (hci : ∀ r ∈ L, cols.length ≤ r.length) (hn : rn ≤ 1024) (hcn : n ≤ 1099511627776) (hok : ∀ r ∈ L, ∀ u ∈ r, u.Ok) :
    Calls Tryd.prog 10 #[.slice p n c, .slice rp rn rc] w fun e w' => ∃ (q : Option Addr) (k d : Nat), e = .returned (.slice q k d) ∧ Zns w' q k d (zonesOf cols L) ∧ Ext w w' := by
  have hl := hc.len
  have hRl := hR.len
  apply lzones_vc
  unfold lzones_T
  have hzl : (zonesOf cols L).length = n := by unfold zonesOf; simp [hl]
  refine ⟨fun q k d i W => ∃ j : Nat, i = (j : Int) ∧ j ≤ n ∧ k = j ∧ Hold w W [] [⟨50, 7, q, k, d, ((zonesOf cols L).take j).flatMap Zn.cs⟩], fun _ _ _ i _ => n - i.toNat, ⟨0, rfl, Nat.zero_le _, rfl, (Hold.start Ext.rfl).nilRow _ _⟩, ?_⟩
  rintro q j d i W ⟨_, rfl, hj, rfl, H⟩
  refine ⟨fun hlt => ?_, fun hge => ?_⟩
  · have gc : cols[j]? = some (cols[j]'(by omega)) := List.getElem?_eq_getElem _
    have gz := zonesOf_get (rows := L) gc
    refine (rcolumn_ok (ci := j) (hR.ext H.ext) (fun r hr => by have := hci r hr; omega) hn).mono ?_
    rintro e W1 ⟨cp, ck, cd, rfl, hv, eX⟩
    replace H := H.step eX
    have hcl := hv.len
    have hck : ck ≤ 1024 := by
      have : (colOf L j).length = L.length := by unfold colOf; simp
      omega
    refine ⟨cp, ck, cd, rfl, (rzone_ok hv hck fun u hu => ?_).mono ?_⟩
    · obtain ⟨r, hr, rfl⟩ := List.mem_map.1 hu
      have hjr : j < r.length := by have := hci r hr; omega
      rw [List.getElem?_eq_getElem hjr]
      exact hok r hr _ (List.getElem_mem hjr)
    rintro e W2 ⟨rfl, eX⟩
    replace H := H.step eX
    refine ⟨_, _, _, _, _, _, _, _, rfl, ?_⟩
    repeat (first
      | (intro _ _ hS; replace H := H.new hS; clear hS)
      | (intro _ hS; (first | replace H := H.put 0 rfl hS | replace H := H.put 1 rfl hS | replace H := H.put 2 rfl hS | replace H := H.put 3 rfl hS | replace H := H.put 4 rfl hS | replace H := H.put 5 rfl hS | replace H := H.put 6 rfl hS | replace H := H.put 7 rfl hS); clear hS; try simp only [setA, List.setIfInBounds_toArray, List.set_cons_zero, List.set_cons_succ, Nat.zero_add, Nat.reduceAdd] at H)
      | (intro _ hS; replace H := H.step (Drew.ext hS); clear hS)
      | (first | refine ⟨⟨_, H.get 0 rfl rfl⟩, ?_⟩ | refine ⟨⟨_, H.get 1 rfl rfl⟩, ?_⟩ | refine ⟨⟨_, H.get 2 rfl rfl⟩, ?_⟩ | refine ⟨⟨_, H.get 3 rfl rfl⟩, ?_⟩ | refine ⟨⟨_, H.get 4 rfl rfl⟩, ?_⟩ | refine ⟨⟨_, H.get 5 rfl rfl⟩, ?_⟩ | refine ⟨⟨_, H.get 6 rfl rfl⟩, ?_⟩ | refine ⟨⟨_, H.get 7 rfl rfl⟩, ?_⟩)
      | (first | refine ⟨H.frz 0 rfl, ?_⟩ | refine ⟨H.frz 1 rfl, ?_⟩ | refine ⟨H.frz 2 rfl, ?_⟩ | refine ⟨H.frz 3 rfl, ?_⟩ | refine ⟨H.frz 4 rfl, ?_⟩ | refine ⟨H.frz 5 rfl, ?_⟩ | refine ⟨H.frz 6 rfl, ?_⟩ | refine ⟨H.frz 7 rfl, ?_⟩)
      | (first | refine ⟨_, H.get 0 rfl rfl, ?_⟩ | refine ⟨_, H.get 1 rfl rfl, ?_⟩ | refine ⟨_, H.get 2 rfl rfl, ?_⟩ | refine ⟨_, H.get 3 rfl rfl, ?_⟩ | refine ⟨_, H.get 4 rfl rfl, ?_⟩ | refine ⟨_, H.get 5 rfl rfl, ?_⟩ | refine ⟨_, H.get 6 rfl rfl, ?_⟩ | refine ⟨_, H.get 7 rfl rfl, ?_⟩)
      | (first | refine ⟨_, _, _, H.get 0 rfl rfl, ?_⟩ | refine ⟨_, _, _, H.get 1 rfl rfl, ?_⟩ | refine ⟨_, _, _, H.get 2 rfl rfl, ?_⟩ | refine ⟨_, _, _, H.get 3 rfl rfl, ?_⟩ | refine ⟨_, _, _, H.get 4 rfl rfl, ?_⟩ | refine ⟨_, _, _, H.get 5 rfl rfl, ?_⟩ | refine ⟨_, _, _, H.get 6 rfl rfl, ?_⟩ | refine ⟨_, _, _, H.get 7 rfl rfl, ?_⟩))
    rename_i b44 w45
    obtain ⟨p', c', w26, hrn, H26⟩ := H.append (ty := 33) (P := Tryd.prog) (q := some ⟨b44, 0, none⟩) (m := 1) (d' := 1) (news := (zoneF (colOf L j)).cs) 0 rfl undZones tyZone rfl (by decide) (H.blk 0 rfl).at rfl (fun e => by cases e) (Zn.cs_one _) (by dsimp only; omega) (by unfold maxLen; omega)
    refine ⟨p', _, c', w26, hrn, ?_⟩
    rw [i64_next (by omega)]
    refine ⟨⟨j + 1, rfl, by omega, rfl, ?_⟩, by simp only [Int.toNat_natCast]; omega⟩
    rw [List.take_add_one, gz, List.flatMap_append]
    have H27 := H26.tail.tail
    simpa using H27
  · have hjn : j = n := by omega
    subst hjn
    rw [List.take_of_length_le (by omega)] at H
    exact ⟨q, j, d, rfl, (H.row 0 rfl).ls Zn.cs_length (by decide), H.ext⟩
end Go.Proofs.YtpjafkcmbinjiaaDoor

/- The law's wider: two lists of zones, one by one, over both. -/
namespace Go.Proofs.YtpjafkcmbinjiaaDoor
open Go Go.Vc Go.RowKit
set_option maxRecDepth 20000
attribute [local irreducible] Calls Put Drew New

theorem tyRow : tyOf Tryd.prog 32 = some { agg := false, ls := [.slc], zero := .slice none 0 0, bytes := 24, big := false, n := 1 } := by kernel_rfl
theorem undRows : Tryd.prog.underlying 23 = some (.slice 32) := by kernel_rfl
def widerL (A B : List Zn) : List Zn := List.zipWith widerZ A B
theorem widerL_get {A B : List Zn} {i : Nat} {a b : Zn} (ha : A[i]? = some a) (hb : B[i]? = some b) : (widerL A B)[i]? = some (widerZ a b) := by
  unfold widerL
  rw [List.getElem?_zipWith, ha, hb]
theorem lwider_ok {A B : List Zn} {w : World} {ap bp : Option Addr} {n ac bc : Nat} (hA : Zns w ap n ac A) (hB : Zns w bp n bc B) (hn : n ≤ 1099511627776)
    (oA : ∀ z ∈ A, z.lo.Ok ∧ z.hi.Ok ∧ 0 ≤ z.nulls ∧ z.nulls ≤ 1000) (oB : ∀ z ∈ B, z.lo.Ok ∧ z.hi.Ok ∧ 0 ≤ z.nulls ∧ z.nulls ≤ 1000) :
    Calls Tryd.prog 9 #[.slice ap n ac, .slice bp n bc] w fun e w' => ∃ (q : Option Addr) (k d : Nat), e = .returned (.slice q k d) ∧ Zns w' q k d (widerL A B) ∧ Ext w w' := by
  have hla := hA.len
  have hlb := hB.len
  apply lwider_vc
  unfold lwider_T
  have hzl : (widerL A B).length = n := by unfold widerL; simp; omega
  refine ⟨fun q k d i W => ∃ j : Nat, i = (j : Int) ∧ j ≤ n ∧ k = j ∧ Hold w W [] [⟨50, 7, q, k, d, ((widerL A B).take j).flatMap Zn.cs⟩], fun _ _ _ i _ => n - i.toNat, ⟨0, rfl, Nat.zero_le _, rfl, (Hold.start Ext.rfl).nilRow _ _⟩, ?_⟩
  rintro q j d i W ⟨_, rfl, hj, rfl, H⟩
  refine ⟨fun hlt => ?_, fun hge => ?_⟩
  · have ga : A[j]? = some (A[j]'(by omega)) := List.getElem?_eq_getElem _
    generalize A[j]'(by omega) = a at ga
    have gb : B[j]? = some (B[j]'(by omega)) := List.getElem?_eq_getElem _
    generalize B[j]'(by omega) = b at gb
    obtain ⟨a1, a2, a3, a4⟩ := oA a (List.mem_of_getElem? ga)
    obtain ⟨b1, b2, b3, b4⟩ := oB b (List.mem_of_getElem? gb)
    have gw := widerL_get ga gb
    have hwl : (widerL A B).take (j + 1) = (widerL A B).take j ++ [widerZ a b] := by rw [List.take_add_one, gw]; rfl
    have zcells : ∀ {W' : World}, Ext w W' → ∃ bb o, bp = some ⟨bb, o, none⟩ ∧ _ := fun e => (hB.ext e).zone gb
    have fin : ∀ {W' : World} {fs : List (Nat × Obj)} {blk : Nat} (z : Zn), z = widerZ a b → Hold w W' ((blk, .cells #[.int .i64 z.nulls, .int .i64 z.lo.k, .int .i64 z.lo.n, .string z.lo.s, .int .i64 z.hi.k, .int .i64 z.hi.n, .string z.hi.s] 50 (0, 0)) :: fs) [⟨50, 7, q, j, d, ((widerL A B).take j).flatMap Zn.cs⟩] →
        ∃ (p' : Option Addr) (n' c' : Nat), ∃ w', Sem.run Tryd.prog (Builtin.append_ #[33, 33] 33 #[.slice q j d, .slice (some ⟨blk, 0, none⟩) 1 1]) W' = Result.ok (.slice p' n' c') w' ∧
          (∃ t : Nat, ((j + 1 : Nat) : Int) = (t : Int) ∧ t ≤ n ∧ n' = t ∧ Hold w w' [] [⟨50, 7, p', n', c', ((widerL A B).take t).flatMap Zn.cs⟩]) ∧ n - ((j + 1 : Nat) : Int).toNat < n - ((j : Nat) : Int).toNat := by
      intro W' fs blk z hz H
      obtain ⟨p', c', w26, hrn, H26⟩ := H.append (ty := 33) (P := Tryd.prog) (q := some ⟨blk, 0, none⟩) (m := 1) (d' := 1) (news := z.cs) 0 rfl undZones tyZone rfl (by decide) (H.blk 0 rfl).at rfl (fun e => by cases e) (Zn.cs_one _) (by dsimp only; omega) (by unfold maxLen; omega)
      refine ⟨p', _, c', w26, hrn, ⟨j + 1, rfl, by omega, rfl, ?_⟩, by simp only [Int.toNat_natCast]; omega⟩
      rw [hwl, List.flatMap_append, ← hz]
      have H27 := H26.drop [] (fun i => i) (fun i x h => by simp at h) (fun _ _ e => e)
      simpa using H27
    rw [i64_next (by omega)]
    obtain ⟨ab, ao, hap, x0, x1, x2, x3, x4, x5, x6⟩ := (hA.ext H.ext).zone ga
    simp only [Int.toNat_natCast]
    refine ⟨ab, ao, hap, by omega, hlt, _, x0, _, x1, _, x2, _, x3, _, x4, _, x5, _, x6, ?_⟩
    repeat (first
      | (intro _ _ hS; replace H := H.new hS; clear hS)
      | (intro _ hS; (first | replace H := H.put 0 rfl hS | replace H := H.put 1 rfl hS | replace H := H.put 2 rfl hS | replace H := H.put 3 rfl hS | replace H := H.put 4 rfl hS | replace H := H.put 5 rfl hS | replace H := H.put 6 rfl hS | replace H := H.put 7 rfl hS); clear hS; try simp only [setA, List.setIfInBounds_toArray, List.set_cons_zero, List.set_cons_succ, Nat.zero_add, Nat.reduceAdd] at H)
      | (intro _ hS; replace H := H.step (Drew.ext hS); clear hS)
      | (first | refine ⟨⟨_, H.get 0 rfl rfl⟩, ?_⟩ | refine ⟨⟨_, H.get 1 rfl rfl⟩, ?_⟩ | refine ⟨⟨_, H.get 2 rfl rfl⟩, ?_⟩ | refine ⟨⟨_, H.get 3 rfl rfl⟩, ?_⟩ | refine ⟨⟨_, H.get 4 rfl rfl⟩, ?_⟩ | refine ⟨⟨_, H.get 5 rfl rfl⟩, ?_⟩ | refine ⟨⟨_, H.get 6 rfl rfl⟩, ?_⟩ | refine ⟨⟨_, H.get 7 rfl rfl⟩, ?_⟩)
      | (first | refine ⟨H.frz 0 rfl, ?_⟩ | refine ⟨H.frz 1 rfl, ?_⟩ | refine ⟨H.frz 2 rfl, ?_⟩ | refine ⟨H.frz 3 rfl, ?_⟩ | refine ⟨H.frz 4 rfl, ?_⟩ | refine ⟨H.frz 5 rfl, ?_⟩ | refine ⟨H.frz 6 rfl, ?_⟩ | refine ⟨H.frz 7 rfl, ?_⟩)
      | (first | refine ⟨_, H.get 0 rfl rfl, ?_⟩ | refine ⟨_, H.get 1 rfl rfl, ?_⟩ | refine ⟨_, H.get 2 rfl rfl, ?_⟩ | refine ⟨_, H.get 3 rfl rfl, ?_⟩ | refine ⟨_, H.get 4 rfl rfl, ?_⟩ | refine ⟨_, H.get 5 rfl rfl, ?_⟩ | refine ⟨_, H.get 6 rfl rfl, ?_⟩ | refine ⟨_, H.get 7 rfl rfl, ?_⟩)
      | (first | refine ⟨_, _, _, H.get 0 rfl rfl, ?_⟩ | refine ⟨_, _, _, H.get 1 rfl rfl, ?_⟩ | refine ⟨_, _, _, H.get 2 rfl rfl, ?_⟩ | refine ⟨_, _, _, H.get 3 rfl rfl, ?_⟩ | refine ⟨_, _, _, H.get 4 rfl rfl, ?_⟩ | refine ⟨_, _, _, H.get 5 rfl rfl, ?_⟩ | refine ⟨_, _, _, H.get 6 rfl rfl, ?_⟩ | refine ⟨_, _, _, H.get 7 rfl rfl, ?_⟩))
    refine ⟨fun hk => ?_, fun hk => ?_⟩
    · obtain ⟨bb, bo, hbp, y0, y1, y2, y3, y4, y5, y6⟩ := zcells H.ext
      refine ⟨bb, bo, hbp, by omega, hlt, _, y1, _, y2, _, y3, ?_⟩
      repeat (first
        | (intro _ _ hS; replace H := H.new hS; clear hS)
        | (intro _ hS; (first | replace H := H.put 0 rfl hS | replace H := H.put 1 rfl hS | replace H := H.put 2 rfl hS | replace H := H.put 3 rfl hS | replace H := H.put 4 rfl hS | replace H := H.put 5 rfl hS | replace H := H.put 6 rfl hS | replace H := H.put 7 rfl hS); clear hS; try simp only [setA, List.setIfInBounds_toArray, List.set_cons_zero, List.set_cons_succ, Nat.zero_add, Nat.reduceAdd] at H)
        | (intro _ hS; replace H := H.step (Drew.ext hS); clear hS)
        | (first | refine ⟨⟨_, H.get 0 rfl rfl⟩, ?_⟩ | refine ⟨⟨_, H.get 1 rfl rfl⟩, ?_⟩ | refine ⟨⟨_, H.get 2 rfl rfl⟩, ?_⟩ | refine ⟨⟨_, H.get 3 rfl rfl⟩, ?_⟩ | refine ⟨⟨_, H.get 4 rfl rfl⟩, ?_⟩ | refine ⟨⟨_, H.get 5 rfl rfl⟩, ?_⟩ | refine ⟨⟨_, H.get 6 rfl rfl⟩, ?_⟩ | refine ⟨⟨_, H.get 7 rfl rfl⟩, ?_⟩)
        | (first | refine ⟨H.frz 0 rfl, ?_⟩ | refine ⟨H.frz 1 rfl, ?_⟩ | refine ⟨H.frz 2 rfl, ?_⟩ | refine ⟨H.frz 3 rfl, ?_⟩ | refine ⟨H.frz 4 rfl, ?_⟩ | refine ⟨H.frz 5 rfl, ?_⟩ | refine ⟨H.frz 6 rfl, ?_⟩ | refine ⟨H.frz 7 rfl, ?_⟩)
        | (first | refine ⟨_, H.get 0 rfl rfl, ?_⟩ | refine ⟨_, H.get 1 rfl rfl, ?_⟩ | refine ⟨_, H.get 2 rfl rfl, ?_⟩ | refine ⟨_, H.get 3 rfl rfl, ?_⟩ | refine ⟨_, H.get 4 rfl rfl, ?_⟩ | refine ⟨_, H.get 5 rfl rfl, ?_⟩ | refine ⟨_, H.get 6 rfl rfl, ?_⟩ | refine ⟨_, H.get 7 rfl rfl, ?_⟩)
        | (first | refine ⟨_, _, _, H.get 0 rfl rfl, ?_⟩ | refine ⟨_, _, _, H.get 1 rfl rfl, ?_⟩ | refine ⟨_, _, _, H.get 2 rfl rfl, ?_⟩ | refine ⟨_, _, _, H.get 3 rfl rfl, ?_⟩ | refine ⟨_, _, _, H.get 4 rfl rfl, ?_⟩ | refine ⟨_, _, _, H.get 5 rfl rfl, ?_⟩ | refine ⟨_, _, _, H.get 6 rfl rfl, ?_⟩ | refine ⟨_, _, _, H.get 7 rfl rfl, ?_⟩))
      obtain ⟨bb, bo, hbp, y0, y1, y2, y3, y4, y5, y6⟩ := zcells H.ext
      refine ⟨bb, bo, hbp, by omega, hlt, _, y4, _, y5, _, y6, ?_⟩
      repeat (first
        | (intro _ _ hS; replace H := H.new hS; clear hS)
        | (intro _ hS; (first | replace H := H.put 0 rfl hS | replace H := H.put 1 rfl hS | replace H := H.put 2 rfl hS | replace H := H.put 3 rfl hS | replace H := H.put 4 rfl hS | replace H := H.put 5 rfl hS | replace H := H.put 6 rfl hS | replace H := H.put 7 rfl hS); clear hS; try simp only [setA, List.setIfInBounds_toArray, List.set_cons_zero, List.set_cons_succ, Nat.zero_add, Nat.reduceAdd] at H)
        | (intro _ hS; replace H := H.step (Drew.ext hS); clear hS)
        | (first | refine ⟨⟨_, H.get 0 rfl rfl⟩, ?_⟩ | refine ⟨⟨_, H.get 1 rfl rfl⟩, ?_⟩ | refine ⟨⟨_, H.get 2 rfl rfl⟩, ?_⟩ | refine ⟨⟨_, H.get 3 rfl rfl⟩, ?_⟩ | refine ⟨⟨_, H.get 4 rfl rfl⟩, ?_⟩ | refine ⟨⟨_, H.get 5 rfl rfl⟩, ?_⟩ | refine ⟨⟨_, H.get 6 rfl rfl⟩, ?_⟩ | refine ⟨⟨_, H.get 7 rfl rfl⟩, ?_⟩)
        | (first | refine ⟨H.frz 0 rfl, ?_⟩ | refine ⟨H.frz 1 rfl, ?_⟩ | refine ⟨H.frz 2 rfl, ?_⟩ | refine ⟨H.frz 3 rfl, ?_⟩ | refine ⟨H.frz 4 rfl, ?_⟩ | refine ⟨H.frz 5 rfl, ?_⟩ | refine ⟨H.frz 6 rfl, ?_⟩ | refine ⟨H.frz 7 rfl, ?_⟩)
        | (first | refine ⟨_, H.get 0 rfl rfl, ?_⟩ | refine ⟨_, H.get 1 rfl rfl, ?_⟩ | refine ⟨_, H.get 2 rfl rfl, ?_⟩ | refine ⟨_, H.get 3 rfl rfl, ?_⟩ | refine ⟨_, H.get 4 rfl rfl, ?_⟩ | refine ⟨_, H.get 5 rfl rfl, ?_⟩ | refine ⟨_, H.get 6 rfl rfl, ?_⟩ | refine ⟨_, H.get 7 rfl rfl, ?_⟩)
        | (first | refine ⟨_, _, _, H.get 0 rfl rfl, ?_⟩ | refine ⟨_, _, _, H.get 1 rfl rfl, ?_⟩ | refine ⟨_, _, _, H.get 2 rfl rfl, ?_⟩ | refine ⟨_, _, _, H.get 3 rfl rfl, ?_⟩ | refine ⟨_, _, _, H.get 4 rfl rfl, ?_⟩ | refine ⟨_, _, _, H.get 5 rfl rfl, ?_⟩ | refine ⟨_, _, _, H.get 6 rfl rfl, ?_⟩ | refine ⟨_, _, _, H.get 7 rfl rfl, ?_⟩))
      obtain ⟨bb, bo, hbp, y0, y1, y2, y3, y4, y5, y6⟩ := zcells H.ext
      refine ⟨bb, bo, hbp, by omega, hlt, _, y0, ?_⟩
      repeat (first
        | (intro _ _ hS; replace H := H.new hS; clear hS)
        | (intro _ hS; (first | replace H := H.put 0 rfl hS | replace H := H.put 1 rfl hS | replace H := H.put 2 rfl hS | replace H := H.put 3 rfl hS | replace H := H.put 4 rfl hS | replace H := H.put 5 rfl hS | replace H := H.put 6 rfl hS | replace H := H.put 7 rfl hS); clear hS; try simp only [setA, List.setIfInBounds_toArray, List.set_cons_zero, List.set_cons_succ, Nat.zero_add, Nat.reduceAdd] at H)
        | (intro _ hS; replace H := H.step (Drew.ext hS); clear hS)
        | (first | refine ⟨⟨_, H.get 0 rfl rfl⟩, ?_⟩ | refine ⟨⟨_, H.get 1 rfl rfl⟩, ?_⟩ | refine ⟨⟨_, H.get 2 rfl rfl⟩, ?_⟩ | refine ⟨⟨_, H.get 3 rfl rfl⟩, ?_⟩ | refine ⟨⟨_, H.get 4 rfl rfl⟩, ?_⟩ | refine ⟨⟨_, H.get 5 rfl rfl⟩, ?_⟩ | refine ⟨⟨_, H.get 6 rfl rfl⟩, ?_⟩ | refine ⟨⟨_, H.get 7 rfl rfl⟩, ?_⟩)
        | (first | refine ⟨H.frz 0 rfl, ?_⟩ | refine ⟨H.frz 1 rfl, ?_⟩ | refine ⟨H.frz 2 rfl, ?_⟩ | refine ⟨H.frz 3 rfl, ?_⟩ | refine ⟨H.frz 4 rfl, ?_⟩ | refine ⟨H.frz 5 rfl, ?_⟩ | refine ⟨H.frz 6 rfl, ?_⟩ | refine ⟨H.frz 7 rfl, ?_⟩)
        | (first | refine ⟨_, H.get 0 rfl rfl, ?_⟩ | refine ⟨_, H.get 1 rfl rfl, ?_⟩ | refine ⟨_, H.get 2 rfl rfl, ?_⟩ | refine ⟨_, H.get 3 rfl rfl, ?_⟩ | refine ⟨_, H.get 4 rfl rfl, ?_⟩ | refine ⟨_, H.get 5 rfl rfl, ?_⟩ | refine ⟨_, H.get 6 rfl rfl, ?_⟩ | refine ⟨_, H.get 7 rfl rfl, ?_⟩)
        | (first | refine ⟨_, _, _, H.get 0 rfl rfl, ?_⟩ | refine ⟨_, _, _, H.get 1 rfl rfl, ?_⟩ | refine ⟨_, _, _, H.get 2 rfl rfl, ?_⟩ | refine ⟨_, _, _, H.get 3 rfl rfl, ?_⟩ | refine ⟨_, _, _, H.get 4 rfl rfl, ?_⟩ | refine ⟨_, _, _, H.get 5 rfl rfl, ?_⟩ | refine ⟨_, _, _, H.get 6 rfl rfl, ?_⟩ | refine ⟨_, _, _, H.get 7 rfl rfl, ?_⟩))
      rw [i64_fit (n := a.nulls + b.nulls) (by omega) (by omega)] at H
      exact fin ⟨a.nulls + b.nulls, b.lo, b.hi⟩ (by unfold widerZ; rw [if_pos hk]) H
    obtain ⟨bb, bo, hbp, y0, y1, y2, y3, y4, y5, y6⟩ := zcells H.ext
    refine ⟨bb, bo, hbp, by omega, hlt, _, y1, ?_⟩
    refine ⟨fun hb => ?_, fun hb => ?_⟩
    · repeat (first
        | (intro _ _ hS; replace H := H.new hS; clear hS)
        | (intro _ hS; (first | replace H := H.put 0 rfl hS | replace H := H.put 1 rfl hS | replace H := H.put 2 rfl hS | replace H := H.put 3 rfl hS | replace H := H.put 4 rfl hS | replace H := H.put 5 rfl hS | replace H := H.put 6 rfl hS | replace H := H.put 7 rfl hS); clear hS; try simp only [setA, List.setIfInBounds_toArray, List.set_cons_zero, List.set_cons_succ, Nat.zero_add, Nat.reduceAdd] at H)
        | (intro _ hS; replace H := H.step (Drew.ext hS); clear hS)
        | (first | refine ⟨⟨_, H.get 0 rfl rfl⟩, ?_⟩ | refine ⟨⟨_, H.get 1 rfl rfl⟩, ?_⟩ | refine ⟨⟨_, H.get 2 rfl rfl⟩, ?_⟩ | refine ⟨⟨_, H.get 3 rfl rfl⟩, ?_⟩ | refine ⟨⟨_, H.get 4 rfl rfl⟩, ?_⟩ | refine ⟨⟨_, H.get 5 rfl rfl⟩, ?_⟩ | refine ⟨⟨_, H.get 6 rfl rfl⟩, ?_⟩ | refine ⟨⟨_, H.get 7 rfl rfl⟩, ?_⟩)
        | (first | refine ⟨H.frz 0 rfl, ?_⟩ | refine ⟨H.frz 1 rfl, ?_⟩ | refine ⟨H.frz 2 rfl, ?_⟩ | refine ⟨H.frz 3 rfl, ?_⟩ | refine ⟨H.frz 4 rfl, ?_⟩ | refine ⟨H.frz 5 rfl, ?_⟩ | refine ⟨H.frz 6 rfl, ?_⟩ | refine ⟨H.frz 7 rfl, ?_⟩)
        | (first | refine ⟨_, H.get 0 rfl rfl, ?_⟩ | refine ⟨_, H.get 1 rfl rfl, ?_⟩ | refine ⟨_, H.get 2 rfl rfl, ?_⟩ | refine ⟨_, H.get 3 rfl rfl, ?_⟩ | refine ⟨_, H.get 4 rfl rfl, ?_⟩ | refine ⟨_, H.get 5 rfl rfl, ?_⟩ | refine ⟨_, H.get 6 rfl rfl, ?_⟩ | refine ⟨_, H.get 7 rfl rfl, ?_⟩)
        | (first | refine ⟨_, _, _, H.get 0 rfl rfl, ?_⟩ | refine ⟨_, _, _, H.get 1 rfl rfl, ?_⟩ | refine ⟨_, _, _, H.get 2 rfl rfl, ?_⟩ | refine ⟨_, _, _, H.get 3 rfl rfl, ?_⟩ | refine ⟨_, _, _, H.get 4 rfl rfl, ?_⟩ | refine ⟨_, _, _, H.get 5 rfl rfl, ?_⟩ | refine ⟨_, _, _, H.get 6 rfl rfl, ?_⟩ | refine ⟨_, _, _, H.get 7 rfl rfl, ?_⟩))
      obtain ⟨bb, bo, hbp, y0, y1, y2, y3, y4, y5, y6⟩ := zcells H.ext
      refine ⟨bb, bo, hbp, by omega, hlt, _, y1, _, y2, _, y3, ?_⟩
      obtain ⟨bb, bo, hbp, y0, y1, y2, y3, y4, y5, y6⟩ := zcells H.ext
      refine ⟨bb, bo, hbp, by omega, hlt, _, y4, _, y5, _, y6, ?_⟩
      have ok4 : ∀ u ∈ [a.lo, a.hi, b.lo, b.hi], u.Ok := by
        intro u hu
        simp only [List.mem_cons, List.not_mem_nil, or_false] at hu
        rcases hu with rfl | rfl | rfl | rfl <;> assumption
      refine ⟨fun b99 w100 hS => ⟨?_, ?_⟩, ?_⟩
      · have eX := hS.ext
        replace H := H.new hS
        have v4 : Vs _ (some ⟨_, 0, none⟩) 4 4 [a.lo, a.hi, b.lo, b.hi] := ⟨rfl, ⟨Nat.le_refl _, by decide⟩, (H.blk 0 rfl).at, fun e => by cases e⟩
        refine (rzone_ok v4 (by decide) ok4).mono ?_
        rintro e W1 ⟨rfl, eX⟩
        replace H := H.step eX
        refine ⟨_, _, _, _, _, _, _, _, rfl, ?_⟩
        intro b112 w113 hS
        have eX := hS.ext
        replace H := H.new hS
        refine ⟨eX.same, ?_⟩
        repeat (first
          | (intro _ _ hS; replace H := H.new hS; clear hS)
          | (intro _ hS; (first | replace H := H.put 0 rfl hS | replace H := H.put 1 rfl hS | replace H := H.put 2 rfl hS | replace H := H.put 3 rfl hS | replace H := H.put 4 rfl hS | replace H := H.put 5 rfl hS | replace H := H.put 6 rfl hS | replace H := H.put 7 rfl hS); clear hS; try simp only [setA, List.setIfInBounds_toArray, List.set_cons_zero, List.set_cons_succ, Nat.zero_add, Nat.reduceAdd] at H)
          | (intro _ hS; replace H := H.step (Drew.ext hS); clear hS)
          | (first | refine ⟨⟨_, H.get 0 rfl rfl⟩, ?_⟩ | refine ⟨⟨_, H.get 1 rfl rfl⟩, ?_⟩ | refine ⟨⟨_, H.get 2 rfl rfl⟩, ?_⟩ | refine ⟨⟨_, H.get 3 rfl rfl⟩, ?_⟩ | refine ⟨⟨_, H.get 4 rfl rfl⟩, ?_⟩ | refine ⟨⟨_, H.get 5 rfl rfl⟩, ?_⟩ | refine ⟨⟨_, H.get 6 rfl rfl⟩, ?_⟩ | refine ⟨⟨_, H.get 7 rfl rfl⟩, ?_⟩)
          | (first | refine ⟨H.frz 0 rfl, ?_⟩ | refine ⟨H.frz 1 rfl, ?_⟩ | refine ⟨H.frz 2 rfl, ?_⟩ | refine ⟨H.frz 3 rfl, ?_⟩ | refine ⟨H.frz 4 rfl, ?_⟩ | refine ⟨H.frz 5 rfl, ?_⟩ | refine ⟨H.frz 6 rfl, ?_⟩ | refine ⟨H.frz 7 rfl, ?_⟩)
          | (first | refine ⟨_, H.get 0 rfl rfl, ?_⟩ | refine ⟨_, H.get 1 rfl rfl, ?_⟩ | refine ⟨_, H.get 2 rfl rfl, ?_⟩ | refine ⟨_, H.get 3 rfl rfl, ?_⟩ | refine ⟨_, H.get 4 rfl rfl, ?_⟩ | refine ⟨_, H.get 5 rfl rfl, ?_⟩ | refine ⟨_, H.get 6 rfl rfl, ?_⟩ | refine ⟨_, H.get 7 rfl rfl, ?_⟩)
          | (first | refine ⟨_, _, _, H.get 0 rfl rfl, ?_⟩ | refine ⟨_, _, _, H.get 1 rfl rfl, ?_⟩ | refine ⟨_, _, _, H.get 2 rfl rfl, ?_⟩ | refine ⟨_, _, _, H.get 3 rfl rfl, ?_⟩ | refine ⟨_, _, _, H.get 4 rfl rfl, ?_⟩ | refine ⟨_, _, _, H.get 5 rfl rfl, ?_⟩ | refine ⟨_, _, _, H.get 6 rfl rfl, ?_⟩ | refine ⟨_, _, _, H.get 7 rfl rfl, ?_⟩))
        obtain ⟨bb, bo, hbp, y0, y1, y2, y3, y4, y5, y6⟩ := zcells H.ext
        refine ⟨bb, bo, hbp, by omega, hlt, _, y0, ?_⟩
        repeat (first
          | (intro _ _ hS; replace H := H.new hS; clear hS)
          | (intro _ hS; (first | replace H := H.put 0 rfl hS | replace H := H.put 1 rfl hS | replace H := H.put 2 rfl hS | replace H := H.put 3 rfl hS | replace H := H.put 4 rfl hS | replace H := H.put 5 rfl hS | replace H := H.put 6 rfl hS | replace H := H.put 7 rfl hS); clear hS; try simp only [setA, List.setIfInBounds_toArray, List.set_cons_zero, List.set_cons_succ, Nat.zero_add, Nat.reduceAdd] at H)
          | (intro _ hS; replace H := H.step (Drew.ext hS); clear hS)
          | (first | refine ⟨⟨_, H.get 0 rfl rfl⟩, ?_⟩ | refine ⟨⟨_, H.get 1 rfl rfl⟩, ?_⟩ | refine ⟨⟨_, H.get 2 rfl rfl⟩, ?_⟩ | refine ⟨⟨_, H.get 3 rfl rfl⟩, ?_⟩ | refine ⟨⟨_, H.get 4 rfl rfl⟩, ?_⟩ | refine ⟨⟨_, H.get 5 rfl rfl⟩, ?_⟩ | refine ⟨⟨_, H.get 6 rfl rfl⟩, ?_⟩ | refine ⟨⟨_, H.get 7 rfl rfl⟩, ?_⟩)
          | (first | refine ⟨H.frz 0 rfl, ?_⟩ | refine ⟨H.frz 1 rfl, ?_⟩ | refine ⟨H.frz 2 rfl, ?_⟩ | refine ⟨H.frz 3 rfl, ?_⟩ | refine ⟨H.frz 4 rfl, ?_⟩ | refine ⟨H.frz 5 rfl, ?_⟩ | refine ⟨H.frz 6 rfl, ?_⟩ | refine ⟨H.frz 7 rfl, ?_⟩)
          | (first | refine ⟨_, H.get 0 rfl rfl, ?_⟩ | refine ⟨_, H.get 1 rfl rfl, ?_⟩ | refine ⟨_, H.get 2 rfl rfl, ?_⟩ | refine ⟨_, H.get 3 rfl rfl, ?_⟩ | refine ⟨_, H.get 4 rfl rfl, ?_⟩ | refine ⟨_, H.get 5 rfl rfl, ?_⟩ | refine ⟨_, H.get 6 rfl rfl, ?_⟩ | refine ⟨_, H.get 7 rfl rfl, ?_⟩)
          | (first | refine ⟨_, _, _, H.get 0 rfl rfl, ?_⟩ | refine ⟨_, _, _, H.get 1 rfl rfl, ?_⟩ | refine ⟨_, _, _, H.get 2 rfl rfl, ?_⟩ | refine ⟨_, _, _, H.get 3 rfl rfl, ?_⟩ | refine ⟨_, _, _, H.get 4 rfl rfl, ?_⟩ | refine ⟨_, _, _, H.get 5 rfl rfl, ?_⟩ | refine ⟨_, _, _, H.get 6 rfl rfl, ?_⟩ | refine ⟨_, _, _, H.get 7 rfl rfl, ?_⟩))
        rw [i64_fit (n := a.nulls + b.nulls) (by omega) (by omega)] at H
        exact fin ⟨a.nulls + b.nulls, (zoneF [a.lo, a.hi, b.lo, b.hi]).lo, (zoneF [a.lo, a.hi, b.lo, b.hi]).hi⟩ (by unfold widerZ; rw [if_neg hk, if_pos hb]) H
      · have eX := hS.ext
        replace H := H.new hS
        have v4 : Vs _ (some ⟨_, 0, none⟩) 4 4 [a.lo, a.hi, b.lo, b.hi] := ⟨rfl, ⟨Nat.le_refl _, by decide⟩, (H.blk 0 rfl).at, fun e => by cases e⟩
        intro b163 w164 hS
        have eX := hS.ext
        replace H := H.new hS
        refine ⟨eX.same, ?_⟩
        replace v4 := v4.ext eX
        refine (rzone_ok v4 (by decide) ok4).mono ?_
        rintro e W1 ⟨rfl, eX⟩
        replace H := H.step eX
        refine ⟨_, _, _, _, _, _, _, _, rfl, ?_⟩
        repeat (first
          | (intro _ _ hS; replace H := H.new hS; clear hS)
          | (intro _ hS; (first | replace H := H.put 0 rfl hS | replace H := H.put 1 rfl hS | replace H := H.put 2 rfl hS | replace H := H.put 3 rfl hS | replace H := H.put 4 rfl hS | replace H := H.put 5 rfl hS | replace H := H.put 6 rfl hS | replace H := H.put 7 rfl hS); clear hS; try simp only [setA, List.setIfInBounds_toArray, List.set_cons_zero, List.set_cons_succ, Nat.zero_add, Nat.reduceAdd] at H)
          | (intro _ hS; replace H := H.step (Drew.ext hS); clear hS)
          | (first | refine ⟨⟨_, H.get 0 rfl rfl⟩, ?_⟩ | refine ⟨⟨_, H.get 1 rfl rfl⟩, ?_⟩ | refine ⟨⟨_, H.get 2 rfl rfl⟩, ?_⟩ | refine ⟨⟨_, H.get 3 rfl rfl⟩, ?_⟩ | refine ⟨⟨_, H.get 4 rfl rfl⟩, ?_⟩ | refine ⟨⟨_, H.get 5 rfl rfl⟩, ?_⟩ | refine ⟨⟨_, H.get 6 rfl rfl⟩, ?_⟩ | refine ⟨⟨_, H.get 7 rfl rfl⟩, ?_⟩)
          | (first | refine ⟨H.frz 0 rfl, ?_⟩ | refine ⟨H.frz 1 rfl, ?_⟩ | refine ⟨H.frz 2 rfl, ?_⟩ | refine ⟨H.frz 3 rfl, ?_⟩ | refine ⟨H.frz 4 rfl, ?_⟩ | refine ⟨H.frz 5 rfl, ?_⟩ | refine ⟨H.frz 6 rfl, ?_⟩ | refine ⟨H.frz 7 rfl, ?_⟩)
          | (first | refine ⟨_, H.get 0 rfl rfl, ?_⟩ | refine ⟨_, H.get 1 rfl rfl, ?_⟩ | refine ⟨_, H.get 2 rfl rfl, ?_⟩ | refine ⟨_, H.get 3 rfl rfl, ?_⟩ | refine ⟨_, H.get 4 rfl rfl, ?_⟩ | refine ⟨_, H.get 5 rfl rfl, ?_⟩ | refine ⟨_, H.get 6 rfl rfl, ?_⟩ | refine ⟨_, H.get 7 rfl rfl, ?_⟩)
          | (first | refine ⟨_, _, _, H.get 0 rfl rfl, ?_⟩ | refine ⟨_, _, _, H.get 1 rfl rfl, ?_⟩ | refine ⟨_, _, _, H.get 2 rfl rfl, ?_⟩ | refine ⟨_, _, _, H.get 3 rfl rfl, ?_⟩ | refine ⟨_, _, _, H.get 4 rfl rfl, ?_⟩ | refine ⟨_, _, _, H.get 5 rfl rfl, ?_⟩ | refine ⟨_, _, _, H.get 6 rfl rfl, ?_⟩ | refine ⟨_, _, _, H.get 7 rfl rfl, ?_⟩))
        obtain ⟨bb, bo, hbp, y0, y1, y2, y3, y4, y5, y6⟩ := zcells H.ext
        refine ⟨bb, bo, hbp, by omega, hlt, _, y0, ?_⟩
        repeat (first
          | (intro _ _ hS; replace H := H.new hS; clear hS)
          | (intro _ hS; (first | replace H := H.put 0 rfl hS | replace H := H.put 1 rfl hS | replace H := H.put 2 rfl hS | replace H := H.put 3 rfl hS | replace H := H.put 4 rfl hS | replace H := H.put 5 rfl hS | replace H := H.put 6 rfl hS | replace H := H.put 7 rfl hS); clear hS; try simp only [setA, List.setIfInBounds_toArray, List.set_cons_zero, List.set_cons_succ, Nat.zero_add, Nat.reduceAdd] at H)
          | (intro _ hS; replace H := H.step (Drew.ext hS); clear hS)
          | (first | refine ⟨⟨_, H.get 0 rfl rfl⟩, ?_⟩ | refine ⟨⟨_, H.get 1 rfl rfl⟩, ?_⟩ | refine ⟨⟨_, H.get 2 rfl rfl⟩, ?_⟩ | refine ⟨⟨_, H.get 3 rfl rfl⟩, ?_⟩ | refine ⟨⟨_, H.get 4 rfl rfl⟩, ?_⟩ | refine ⟨⟨_, H.get 5 rfl rfl⟩, ?_⟩ | refine ⟨⟨_, H.get 6 rfl rfl⟩, ?_⟩ | refine ⟨⟨_, H.get 7 rfl rfl⟩, ?_⟩)
          | (first | refine ⟨H.frz 0 rfl, ?_⟩ | refine ⟨H.frz 1 rfl, ?_⟩ | refine ⟨H.frz 2 rfl, ?_⟩ | refine ⟨H.frz 3 rfl, ?_⟩ | refine ⟨H.frz 4 rfl, ?_⟩ | refine ⟨H.frz 5 rfl, ?_⟩ | refine ⟨H.frz 6 rfl, ?_⟩ | refine ⟨H.frz 7 rfl, ?_⟩)
          | (first | refine ⟨_, H.get 0 rfl rfl, ?_⟩ | refine ⟨_, H.get 1 rfl rfl, ?_⟩ | refine ⟨_, H.get 2 rfl rfl, ?_⟩ | refine ⟨_, H.get 3 rfl rfl, ?_⟩ | refine ⟨_, H.get 4 rfl rfl, ?_⟩ | refine ⟨_, H.get 5 rfl rfl, ?_⟩ | refine ⟨_, H.get 6 rfl rfl, ?_⟩ | refine ⟨_, H.get 7 rfl rfl, ?_⟩)
          | (first | refine ⟨_, _, _, H.get 0 rfl rfl, ?_⟩ | refine ⟨_, _, _, H.get 1 rfl rfl, ?_⟩ | refine ⟨_, _, _, H.get 2 rfl rfl, ?_⟩ | refine ⟨_, _, _, H.get 3 rfl rfl, ?_⟩ | refine ⟨_, _, _, H.get 4 rfl rfl, ?_⟩ | refine ⟨_, _, _, H.get 5 rfl rfl, ?_⟩ | refine ⟨_, _, _, H.get 6 rfl rfl, ?_⟩ | refine ⟨_, _, _, H.get 7 rfl rfl, ?_⟩))
        rw [i64_fit (n := a.nulls + b.nulls) (by omega) (by omega)] at H
        exact fin ⟨a.nulls + b.nulls, (zoneF [a.lo, a.hi, b.lo, b.hi]).lo, (zoneF [a.lo, a.hi, b.lo, b.hi]).hi⟩ (by unfold widerZ; rw [if_neg hk, if_pos hb]) H
      · intro b224 w225 hS
        have eX := hS.ext
        replace H := H.new hS
        refine ⟨eX.same, ?_⟩
        intro b227 w228 hS
        have eX := hS.ext
        replace H := H.new hS
        have v4 : Vs _ (some ⟨_, 0, none⟩) 4 4 [a.lo, a.hi, b.lo, b.hi] := ⟨rfl, ⟨Nat.le_refl _, by decide⟩, (H.blk 0 rfl).at, fun e => by cases e⟩
        refine (rzone_ok v4 (by decide) ok4).mono ?_
        rintro e W1 ⟨rfl, eX⟩
        replace H := H.step eX
        refine ⟨_, _, _, _, _, _, _, _, rfl, ?_⟩
        repeat (first
          | (intro _ _ hS; replace H := H.new hS; clear hS)
          | (intro _ hS; (first | replace H := H.put 0 rfl hS | replace H := H.put 1 rfl hS | replace H := H.put 2 rfl hS | replace H := H.put 3 rfl hS | replace H := H.put 4 rfl hS | replace H := H.put 5 rfl hS | replace H := H.put 6 rfl hS | replace H := H.put 7 rfl hS); clear hS; try simp only [setA, List.setIfInBounds_toArray, List.set_cons_zero, List.set_cons_succ, Nat.zero_add, Nat.reduceAdd] at H)
          | (intro _ hS; replace H := H.step (Drew.ext hS); clear hS)
          | (first | refine ⟨⟨_, H.get 0 rfl rfl⟩, ?_⟩ | refine ⟨⟨_, H.get 1 rfl rfl⟩, ?_⟩ | refine ⟨⟨_, H.get 2 rfl rfl⟩, ?_⟩ | refine ⟨⟨_, H.get 3 rfl rfl⟩, ?_⟩ | refine ⟨⟨_, H.get 4 rfl rfl⟩, ?_⟩ | refine ⟨⟨_, H.get 5 rfl rfl⟩, ?_⟩ | refine ⟨⟨_, H.get 6 rfl rfl⟩, ?_⟩ | refine ⟨⟨_, H.get 7 rfl rfl⟩, ?_⟩)
          | (first | refine ⟨H.frz 0 rfl, ?_⟩ | refine ⟨H.frz 1 rfl, ?_⟩ | refine ⟨H.frz 2 rfl, ?_⟩ | refine ⟨H.frz 3 rfl, ?_⟩ | refine ⟨H.frz 4 rfl, ?_⟩ | refine ⟨H.frz 5 rfl, ?_⟩ | refine ⟨H.frz 6 rfl, ?_⟩ | refine ⟨H.frz 7 rfl, ?_⟩)
          | (first | refine ⟨_, H.get 0 rfl rfl, ?_⟩ | refine ⟨_, H.get 1 rfl rfl, ?_⟩ | refine ⟨_, H.get 2 rfl rfl, ?_⟩ | refine ⟨_, H.get 3 rfl rfl, ?_⟩ | refine ⟨_, H.get 4 rfl rfl, ?_⟩ | refine ⟨_, H.get 5 rfl rfl, ?_⟩ | refine ⟨_, H.get 6 rfl rfl, ?_⟩ | refine ⟨_, H.get 7 rfl rfl, ?_⟩)
          | (first | refine ⟨_, _, _, H.get 0 rfl rfl, ?_⟩ | refine ⟨_, _, _, H.get 1 rfl rfl, ?_⟩ | refine ⟨_, _, _, H.get 2 rfl rfl, ?_⟩ | refine ⟨_, _, _, H.get 3 rfl rfl, ?_⟩ | refine ⟨_, _, _, H.get 4 rfl rfl, ?_⟩ | refine ⟨_, _, _, H.get 5 rfl rfl, ?_⟩ | refine ⟨_, _, _, H.get 6 rfl rfl, ?_⟩ | refine ⟨_, _, _, H.get 7 rfl rfl, ?_⟩))
        obtain ⟨bb, bo, hbp, y0, y1, y2, y3, y4, y5, y6⟩ := zcells H.ext
        refine ⟨bb, bo, hbp, by omega, hlt, _, y0, ?_⟩
        repeat (first
          | (intro _ _ hS; replace H := H.new hS; clear hS)
          | (intro _ hS; (first | replace H := H.put 0 rfl hS | replace H := H.put 1 rfl hS | replace H := H.put 2 rfl hS | replace H := H.put 3 rfl hS | replace H := H.put 4 rfl hS | replace H := H.put 5 rfl hS | replace H := H.put 6 rfl hS | replace H := H.put 7 rfl hS); clear hS; try simp only [setA, List.setIfInBounds_toArray, List.set_cons_zero, List.set_cons_succ, Nat.zero_add, Nat.reduceAdd] at H)
          | (intro _ hS; replace H := H.step (Drew.ext hS); clear hS)
          | (first | refine ⟨⟨_, H.get 0 rfl rfl⟩, ?_⟩ | refine ⟨⟨_, H.get 1 rfl rfl⟩, ?_⟩ | refine ⟨⟨_, H.get 2 rfl rfl⟩, ?_⟩ | refine ⟨⟨_, H.get 3 rfl rfl⟩, ?_⟩ | refine ⟨⟨_, H.get 4 rfl rfl⟩, ?_⟩ | refine ⟨⟨_, H.get 5 rfl rfl⟩, ?_⟩ | refine ⟨⟨_, H.get 6 rfl rfl⟩, ?_⟩ | refine ⟨⟨_, H.get 7 rfl rfl⟩, ?_⟩)
          | (first | refine ⟨H.frz 0 rfl, ?_⟩ | refine ⟨H.frz 1 rfl, ?_⟩ | refine ⟨H.frz 2 rfl, ?_⟩ | refine ⟨H.frz 3 rfl, ?_⟩ | refine ⟨H.frz 4 rfl, ?_⟩ | refine ⟨H.frz 5 rfl, ?_⟩ | refine ⟨H.frz 6 rfl, ?_⟩ | refine ⟨H.frz 7 rfl, ?_⟩)
          | (first | refine ⟨_, H.get 0 rfl rfl, ?_⟩ | refine ⟨_, H.get 1 rfl rfl, ?_⟩ | refine ⟨_, H.get 2 rfl rfl, ?_⟩ | refine ⟨_, H.get 3 rfl rfl, ?_⟩ | refine ⟨_, H.get 4 rfl rfl, ?_⟩ | refine ⟨_, H.get 5 rfl rfl, ?_⟩ | refine ⟨_, H.get 6 rfl rfl, ?_⟩ | refine ⟨_, H.get 7 rfl rfl, ?_⟩)
          | (first | refine ⟨_, _, _, H.get 0 rfl rfl, ?_⟩ | refine ⟨_, _, _, H.get 1 rfl rfl, ?_⟩ | refine ⟨_, _, _, H.get 2 rfl rfl, ?_⟩ | refine ⟨_, _, _, H.get 3 rfl rfl, ?_⟩ | refine ⟨_, _, _, H.get 4 rfl rfl, ?_⟩ | refine ⟨_, _, _, H.get 5 rfl rfl, ?_⟩ | refine ⟨_, _, _, H.get 6 rfl rfl, ?_⟩ | refine ⟨_, _, _, H.get 7 rfl rfl, ?_⟩))
        rw [i64_fit (n := a.nulls + b.nulls) (by omega) (by omega)] at H
        exact fin ⟨a.nulls + b.nulls, (zoneF [a.lo, a.hi, b.lo, b.hi]).lo, (zoneF [a.lo, a.hi, b.lo, b.hi]).hi⟩ (by unfold widerZ; rw [if_neg hk, if_pos hb]) H
    repeat (first
      | (intro _ _ hS; replace H := H.new hS; clear hS)
      | (intro _ hS; (first | replace H := H.put 0 rfl hS | replace H := H.put 1 rfl hS | replace H := H.put 2 rfl hS | replace H := H.put 3 rfl hS | replace H := H.put 4 rfl hS | replace H := H.put 5 rfl hS | replace H := H.put 6 rfl hS | replace H := H.put 7 rfl hS); clear hS; try simp only [setA, List.setIfInBounds_toArray, List.set_cons_zero, List.set_cons_succ, Nat.zero_add, Nat.reduceAdd] at H)
      | (intro _ hS; replace H := H.step (Drew.ext hS); clear hS)
      | (first | refine ⟨⟨_, H.get 0 rfl rfl⟩, ?_⟩ | refine ⟨⟨_, H.get 1 rfl rfl⟩, ?_⟩ | refine ⟨⟨_, H.get 2 rfl rfl⟩, ?_⟩ | refine ⟨⟨_, H.get 3 rfl rfl⟩, ?_⟩ | refine ⟨⟨_, H.get 4 rfl rfl⟩, ?_⟩ | refine ⟨⟨_, H.get 5 rfl rfl⟩, ?_⟩ | refine ⟨⟨_, H.get 6 rfl rfl⟩, ?_⟩ | refine ⟨⟨_, H.get 7 rfl rfl⟩, ?_⟩)
      | (first | refine ⟨H.frz 0 rfl, ?_⟩ | refine ⟨H.frz 1 rfl, ?_⟩ | refine ⟨H.frz 2 rfl, ?_⟩ | refine ⟨H.frz 3 rfl, ?_⟩ | refine ⟨H.frz 4 rfl, ?_⟩ | refine ⟨H.frz 5 rfl, ?_⟩ | refine ⟨H.frz 6 rfl, ?_⟩ | refine ⟨H.frz 7 rfl, ?_⟩)
      | (first | refine ⟨_, H.get 0 rfl rfl, ?_⟩ | refine ⟨_, H.get 1 rfl rfl, ?_⟩ | refine ⟨_, H.get 2 rfl rfl, ?_⟩ | refine ⟨_, H.get 3 rfl rfl, ?_⟩ | refine ⟨_, H.get 4 rfl rfl, ?_⟩ | refine ⟨_, H.get 5 rfl rfl, ?_⟩ | refine ⟨_, H.get 6 rfl rfl, ?_⟩ | refine ⟨_, H.get 7 rfl rfl, ?_⟩)
      | (first | refine ⟨_, _, _, H.get 0 rfl rfl, ?_⟩ | refine ⟨_, _, _, H.get 1 rfl rfl, ?_⟩ | refine ⟨_, _, _, H.get 2 rfl rfl, ?_⟩ | refine ⟨_, _, _, H.get 3 rfl rfl, ?_⟩ | refine ⟨_, _, _, H.get 4 rfl rfl, ?_⟩ | refine ⟨_, _, _, H.get 5 rfl rfl, ?_⟩ | refine ⟨_, _, _, H.get 6 rfl rfl, ?_⟩ | refine ⟨_, _, _, H.get 7 rfl rfl, ?_⟩))
    obtain ⟨bb, bo, hbp, y0, y1, y2, y3, y4, y5, y6⟩ := zcells H.ext
    refine ⟨bb, bo, hbp, by omega, hlt, _, y0, ?_⟩
    repeat (first
      | (intro _ _ hS; replace H := H.new hS; clear hS)
      | (intro _ hS; (first | replace H := H.put 0 rfl hS | replace H := H.put 1 rfl hS | replace H := H.put 2 rfl hS | replace H := H.put 3 rfl hS | replace H := H.put 4 rfl hS | replace H := H.put 5 rfl hS | replace H := H.put 6 rfl hS | replace H := H.put 7 rfl hS); clear hS; try simp only [setA, List.setIfInBounds_toArray, List.set_cons_zero, List.set_cons_succ, Nat.zero_add, Nat.reduceAdd] at H)
      | (intro _ hS; replace H := H.step (Drew.ext hS); clear hS)
      | (first | refine ⟨⟨_, H.get 0 rfl rfl⟩, ?_⟩ | refine ⟨⟨_, H.get 1 rfl rfl⟩, ?_⟩ | refine ⟨⟨_, H.get 2 rfl rfl⟩, ?_⟩ | refine ⟨⟨_, H.get 3 rfl rfl⟩, ?_⟩ | refine ⟨⟨_, H.get 4 rfl rfl⟩, ?_⟩ | refine ⟨⟨_, H.get 5 rfl rfl⟩, ?_⟩ | refine ⟨⟨_, H.get 6 rfl rfl⟩, ?_⟩ | refine ⟨⟨_, H.get 7 rfl rfl⟩, ?_⟩)
      | (first | refine ⟨H.frz 0 rfl, ?_⟩ | refine ⟨H.frz 1 rfl, ?_⟩ | refine ⟨H.frz 2 rfl, ?_⟩ | refine ⟨H.frz 3 rfl, ?_⟩ | refine ⟨H.frz 4 rfl, ?_⟩ | refine ⟨H.frz 5 rfl, ?_⟩ | refine ⟨H.frz 6 rfl, ?_⟩ | refine ⟨H.frz 7 rfl, ?_⟩)
      | (first | refine ⟨_, H.get 0 rfl rfl, ?_⟩ | refine ⟨_, H.get 1 rfl rfl, ?_⟩ | refine ⟨_, H.get 2 rfl rfl, ?_⟩ | refine ⟨_, H.get 3 rfl rfl, ?_⟩ | refine ⟨_, H.get 4 rfl rfl, ?_⟩ | refine ⟨_, H.get 5 rfl rfl, ?_⟩ | refine ⟨_, H.get 6 rfl rfl, ?_⟩ | refine ⟨_, H.get 7 rfl rfl, ?_⟩)
      | (first | refine ⟨_, _, _, H.get 0 rfl rfl, ?_⟩ | refine ⟨_, _, _, H.get 1 rfl rfl, ?_⟩ | refine ⟨_, _, _, H.get 2 rfl rfl, ?_⟩ | refine ⟨_, _, _, H.get 3 rfl rfl, ?_⟩ | refine ⟨_, _, _, H.get 4 rfl rfl, ?_⟩ | refine ⟨_, _, _, H.get 5 rfl rfl, ?_⟩ | refine ⟨_, _, _, H.get 6 rfl rfl, ?_⟩ | refine ⟨_, _, _, H.get 7 rfl rfl, ?_⟩))
    rw [i64_fit (n := a.nulls + b.nulls) (by omega) (by omega)] at H
    exact fin ⟨a.nulls + b.nulls, a.lo, a.hi⟩ (by unfold widerZ; rw [if_neg hk, if_neg (by simpa using hb)]) H
  · have hjn : j = n := by omega
    subst hjn
    rw [List.take_of_length_le (by omega)] at H
    exact ⟨q, j, d, rfl, (H.row 0 rfl).ls Zn.cs_length (by decide), H.ext⟩
end Go.Proofs.YtpjafkcmbinjiaaDoor

/- The law that each row's answer is one of those that the condition may have. -/
namespace Go.Proofs.YtpjafkcmbinjiaaDoor
open Go Go.Vc Go.RowKit
set_option maxRecDepth 20000
attribute [local irreducible] Calls Put Drew New

theorem min_nat16 (a b : Nat) : mmI false (a : Int) (b : Int) = ((min a b : Nat) : Int) := by
  unfold mmI
  by_cases h : (b : Int) < (a : Int)
  · simp only [h, if_true]; omega
  · simp only [h, if_false]; omega
theorem fitRows {cols : List Col} {L : List (List Val)} (hf : ∀ r ∈ L, fitsC cols r = true) (hfit : ∀ r ∈ L, FitR r) (hr : rightC cols = true) : FitRows cols L := fun r h => ⟨by rw [← fitsC_iff hr]; exact hf r h, hfit r h⟩
end Go.Proofs.YtpjafkcmbinjiaaDoor

/- More rows: the plain law. -/
namespace Go.Proofs.YtpjafkcmbinjiaaDoor
open Go Go.Vc Go.RowKit
set_option maxRecDepth 20000

theorem zonesL_of {n : Int} : ∀ {cols : List Col} {zs : List Zn}, cols.length = zs.length → (∀ (i : Nat) c z, cols[i]? = some c → zs[i]? = some z → zoneOk c z n = true) → zonesL cols zs n = true
  | [], [], _, _ => by unfold zonesL; rfl
  | [], _ :: _, h, _ => by simp at h
  | _ :: _, [], h, _ => by simp at h
  | c :: cs, z :: zs, h, k => by
    unfold zonesL
    rw [Bool.and_eq_true]
    exact ⟨k 0 c z rfl rfl, zonesL_of (by simpa using h) fun i c' z' hc hz => k (i + 1) c' z' (by simpa using hc) (by simpa using hz)⟩
theorem s3_le_bits {s t : S3} (h : S3.Le s t) : bits .and .i64 s.i t.i = s.i := by
  obtain ⟨a, b, c⟩ := s
  obtain ⟨d, e, f⟩ := t
  obtain ⟨h1, h2, h3⟩ := h
  cases a <;> cases b <;> cases c <;> cases d <;> cases e <;> cases f <;> first | decide +kernel | (exfalso; simp at h1 h2 h3)
theorem zonesOf_len (cols : List Col) (L : List (List Val)) : (zonesOf cols L).length = cols.length := by unfold zonesOf; simp
theorem colOf_len (L : List (List Val)) (i : Nat) : (colOf L i).length = L.length := by unfold colOf; simp
theorem colOf_append (A B : List (List Val)) (i : Nat) : colOf (A ++ B) i = colOf A i ++ colOf B i := by unfold colOf; rw [List.map_append]
section
variable {cols : List Col} {A B : List (List Val)} {x : Ex}
theorem zone_at {i : Nat} {z : Zn} (hz : (zonesOf cols A)[i]? = some z) : ∃ c, cols[i]? = some c ∧ z = zoneF (colOf A i) := by
  have hi := (List.getElem?_eq_some_iff.1 hz).1
  rw [zonesOf_len] at hi
  refine ⟨_, List.getElem?_eq_getElem hi, ?_⟩
  rw [zonesOf_get (List.getElem?_eq_getElem hi)] at hz
  exact (Option.some.inj hz).symm
theorem wide_at {i : Nat} {z : Zn} (hz : (widerL (zonesOf cols A) (zonesOf cols B))[i]? = some z) : ∃ c, cols[i]? = some c ∧ ZFit c (colOf (A ++ B) i) z := by
  have hi := (List.getElem?_eq_some_iff.1 hz).1
  unfold widerL at hi
  simp only [List.length_zipWith, zonesOf_len, Nat.min_self] at hi
  have hc : cols[i]? = some cols[i] := List.getElem?_eq_getElem hi
  refine ⟨_, hc, ?_⟩
  rw [widerL_get (zonesOf_get hc) (zonesOf_get hc)] at hz
  rw [← Option.some.inj hz, colOf_append]
  exact wider_fit (zoneF_fit _ _) (zoneF_fit _ _)
theorem fit_ok (hr : rightC cols = true) (h : FitRows cols A) {i : Nat} {c : Col} {z : Zn} (hc : cols[i]? = some c) (hz : ZFit c (colOf A i) z) : zoneOk c z (A.length : Int) = true := by
  have hk := right_kind hr hc
  have := hz.ok (by omega) fun u hu => colOf_fit h hc hu
  rwa [colOf_len] at this
theorem wider_plain (hfa : ∀ r ∈ A, fitsC cols r = true) (hra : ∀ r ∈ A, FitR r) (hfb : ∀ r ∈ B, fitsC cols r = true) (hrb : ∀ r ∈ B, FitR r) (ha : A.length ≤ 100) (hb : B.length ≤ 100) :
    (answersF cols (zonesOf cols A) (A.length : Int) x).2 = (answersF cols (widerL (zonesOf cols A) (zonesOf cols B)) ((A ++ B).length : Int) x).2 ∧
    ((answersF cols (zonesOf cols A) (A.length : Int) x).2 = 0 → bits .and .i64 (answersF cols (zonesOf cols A) (A.length : Int) x).1 (answersF cols (widerL (zonesOf cols A) (zonesOf cols B)) ((A ++ B).length : Int) x).1 = (answersF cols (zonesOf cols A) (A.length : Int) x).1) := by
  have hlen : (A ++ B).length = A.length + B.length := List.length_append
  by_cases h1 : (typeF cols x).2 ≠ 0
  · unfold answersF
    rw [if_pos h1, if_pos h1]
    exact ⟨rfl, fun h => absurd h h1⟩
  by_cases h2 : (typeF cols x).1 ≠ 2 ∧ (typeF cols x).1 ≠ 0
  · unfold answersF
    rw [if_neg h1, if_pos h2, if_neg h1, if_pos h2]
    exact ⟨rfl, fun h => absurd h (by decide)⟩
  have h1' : (typeF cols x).2 = 0 := Decidable.not_not.1 h1
  obtain ⟨hright, hform, hk⟩ := typeF_right h1'
  have hfp : FormedP x := of_decide_eq_true hform
  have FA := fitRows hfa hra hright
  have FB := fitRows hfb hrb hright
  have FAB : FitRows cols (A ++ B) := fun r h => (List.mem_append.1 h).elim (FA r) (FB r)
  have z1 : zonesL cols (zonesOf cols A) (A.length : Int) = true := zonesL_of (zonesOf_len _ _).symm fun i c z hc hz => by
    rw [zonesOf_get hc] at hz
    cases hz
    exact fit_ok hright FA hc (zoneF_fit _ _)
  have hwl : (widerL (zonesOf cols A) (zonesOf cols B)).length = cols.length := by unfold widerL; simp [zonesOf_len]
  have z2 : zonesL cols (widerL (zonesOf cols A) (zonesOf cols B)) ((A ++ B).length : Int) = true := zonesL_of hwl.symm fun i c z hc hz => by
    obtain ⟨c', hc', hz'⟩ := wide_at hz
    rw [hc] at hc'
    cases hc'
    exact fit_ok hright FAB hc hz'
  have k1 : zonesOk cols (zonesOf cols A) (A.length : Int) = true := by
    unfold zonesOk
    rw [z1, Bool.and_true]
    exact decide_eq_true ⟨zonesOf_len _ _, by omega, by omega⟩
  have k2 : zonesOk cols (widerL (zonesOf cols A) (zonesOf cols B)) ((A ++ B).length : Int) = true := by
    unfold zonesOk
    rw [z2, Bool.and_true]
    exact decide_eq_true ⟨hwl, by omega, by omega⟩
  have key : ∀ {zs : List Zn} {n : Int}, zonesOk cols zs n = true → answersF cols zs n x = if n = 0 then (0, 0) else ((ansF cols zs n x).i, 0) := fun {zs n} k => by
    unfold answersF
    rw [if_neg h1, if_neg h2, if_neg (by rw [k]; decide)]
  rw [key k1, key k2]
  by_cases h0 : (A.length : Int) = 0
  · rw [if_pos h0]
    refine ⟨by split <;> rfl, fun _ => ?_⟩
    split
    · decide
    · exact s3_le_bits (s := ⟨false, false, false⟩) ⟨fun h => (by cases h), fun h => (by cases h), fun h => (by cases h)⟩
  · rw [if_neg h0, if_neg (by omega)]
    refine ⟨rfl, fun _ => s3_le_bits ?_⟩
    rw [hk] at h1' h2
    refine ans_mono z1 z2 (fun i z z' hz hz' => ?_) _ x (Nat.le_refl _) hfp.1 h1' (by omega)
    obtain ⟨c, hc, rfl⟩ := zone_at hz
    obtain ⟨c', hc', hf'⟩ := wide_at hz'
    rw [hc] at hc'
    cases hc'
    rw [colOf_append] at hf'
    have := fit_le (zoneF_fit c (colOf A i)) hf'
    rwa [← colOf_append, colOf_len, colOf_len] at this
end
end Go.Proofs.YtpjafkcmbinjiaaDoor
