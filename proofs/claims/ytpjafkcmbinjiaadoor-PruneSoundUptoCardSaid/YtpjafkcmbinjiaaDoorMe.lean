/- Texts of the proof, one behind the other. -/
import Derived.Test.YtpjafkcmbinjiaaDoorMd
import Derived.Lib.LaidTab
import Derived.Test.YtpjafkcmbinjiaaDoorRows
import Derived.Deep.Slices
import Derived.JoinedOf
set_option linter.unusedVariables false
set_option linter.unusedSimpArgs false
/- The contracts of package prune: zones, Answers, May. -/
namespace Go.Proofs.YtpjafkcmbinjiaaDoor
open Go Go.Vc Go.RowKit
set_option maxRecDepth 20000
attribute [local irreducible] Calls Put Drew New

theorem zoneOk_eq (c : Col) (z : Zn) (n : Int) : zoneOk c z n = (z.lo.right && z.hi.right && decide (0 ≤ z.nulls) && decide (z.nulls ≤ n) && (!decide (0 < z.nulls) || c.null) &&
    (if z.nulls = n then decide (z.lo = nullV) && decide (z.hi = nullV) else (decide (z.lo.k = c.kind) && (decide (z.hi.k = c.kind) && decide (cmpV z.lo z.hi ≤ 0))))) := by
  unfold zoneOk Val.right
  rw [Bool.eq_iff_iff]
  simp only [Bool.and_eq_true, decide_eq_true_eq, Bool.or_eq_true, Bool.not_eq_true', decide_eq_false_iff_not]
  by_cases h : z.nulls = n
  · simp only [h, if_true, Bool.and_eq_true, decide_eq_true_eq]
    constructor
    · rintro ⟨⟨a, b, c, d, e⟩, f, g⟩
      exact ⟨⟨⟨⟨⟨a, b⟩, c⟩, d⟩, by by_cases hp : 0 < n; exact .inr (e hp); exact .inl hp⟩, f, g⟩
    · rintro ⟨⟨⟨⟨⟨a, b⟩, c⟩, d⟩, e⟩, f, g⟩
      exact ⟨⟨a, b, c, d, fun hp => e.resolve_left (fun hn => hn hp)⟩, f, g⟩
  · simp only [h, if_false, Bool.and_eq_true, decide_eq_true_eq]
    constructor
    · rintro ⟨⟨a, b, c, d, e⟩, f, g, i⟩
      exact ⟨⟨⟨⟨⟨a, b⟩, c⟩, d⟩, by by_cases hp : 0 < z.nulls; exact .inr (e hp); exact .inl hp⟩, f, g, i⟩
    · rintro ⟨⟨⟨⟨⟨a, b⟩, c⟩, d⟩, e⟩, f, g, i⟩
      exact ⟨⟨a, b, c, d, fun hp => e.resolve_left (fun hn => hn hp)⟩, f, g, i⟩
theorem isNull_eq (v : Val) : (decide (v.k = Int.ofNat 0) && (decide (v.n = Int.ofNat 0) && sEq v.s ⟨#[]⟩)) = decide (v = nullV) := by
  rw [Bool.eq_iff_iff]
  simp only [Bool.and_eq_true, decide_eq_true_eq, Val.ext', nullV]
  constructor
  · rintro ⟨a, b, c⟩
    exact ⟨a, b, by unfold sEq at c; rw [beq_iff_eq, ba_toList, ba_toList] at c; exact tB_inj.1 c⟩
  · rintro ⟨a, b, c⟩
    exact ⟨a, b, by rw [c]; exact sEq_self _⟩
set_option maxHeartbeats 4000000 in
theorem pright_ok {cols : List Col} {zones : List Zn} {m : Int} {i : Nat} {col : Col} {z : Zn} {w : World} {p zp : Option Addr} {n c zn zc : Nat} (hc : Cols w p n c cols) (hz : Zns w zp zn zc zones) (hcol : cols[i]? = some col) (hzi : zones[i]? = some z) :
    Calls Tryd.prog 22 #[.agg #[.slice p n c, .slice zp zn zc, .int .i64 m], .int .i64 (i : Int)] w fun e w' => e = .returned (.bool (zoneOk col z m)) ∧ Ext w w' := by
  have hl1 := hc.len
  have hl2 := hz.len
  have hi1 := (List.getElem?_eq_some_iff.1 hcol).1
  have hi2 := (List.getElem?_eq_some_iff.1 hzi).1
  apply pright_vc
  unfold pright_T
  have H := Hold.start (Ext.rfl (w := w))
  repeat (first
    | (intro _ _ hS; replace H := H.new hS; clear hS)
    | (intro _ hS; (first | replace H := H.put 0 rfl hS | replace H := H.put 1 rfl hS | replace H := H.put 2 rfl hS | replace H := H.put 3 rfl hS | replace H := H.put 4 rfl hS | replace H := H.put 5 rfl hS | replace H := H.put 6 rfl hS | replace H := H.put 7 rfl hS); clear hS; try simp only [setA, List.setIfInBounds_toArray, List.set_cons_zero, List.set_cons_succ, Nat.zero_add, Nat.reduceAdd] at H)
    | (intro _ hS; replace H := H.step (Drew.ext hS); clear hS)
    | (first | refine ⟨⟨_, H.get 0 rfl rfl⟩, ?_⟩ | refine ⟨⟨_, H.get 1 rfl rfl⟩, ?_⟩ | refine ⟨⟨_, H.get 2 rfl rfl⟩, ?_⟩ | refine ⟨⟨_, H.get 3 rfl rfl⟩, ?_⟩ | refine ⟨⟨_, H.get 4 rfl rfl⟩, ?_⟩ | refine ⟨⟨_, H.get 5 rfl rfl⟩, ?_⟩ | refine ⟨⟨_, H.get 6 rfl rfl⟩, ?_⟩ | refine ⟨⟨_, H.get 7 rfl rfl⟩, ?_⟩)
    | (first | refine ⟨H.frz 0 rfl, ?_⟩ | refine ⟨H.frz 1 rfl, ?_⟩ | refine ⟨H.frz 2 rfl, ?_⟩ | refine ⟨H.frz 3 rfl, ?_⟩ | refine ⟨H.frz 4 rfl, ?_⟩ | refine ⟨H.frz 5 rfl, ?_⟩ | refine ⟨H.frz 6 rfl, ?_⟩ | refine ⟨H.frz 7 rfl, ?_⟩)
    | (first | refine ⟨_, H.get 0 rfl rfl, ?_⟩ | refine ⟨_, H.get 1 rfl rfl, ?_⟩ | refine ⟨_, H.get 2 rfl rfl, ?_⟩ | refine ⟨_, H.get 3 rfl rfl, ?_⟩ | refine ⟨_, H.get 4 rfl rfl, ?_⟩ | refine ⟨_, H.get 5 rfl rfl, ?_⟩ | refine ⟨_, H.get 6 rfl rfl, ?_⟩ | refine ⟨_, H.get 7 rfl rfl, ?_⟩)
    | (first | refine ⟨_, _, _, H.get 0 rfl rfl, ?_⟩ | refine ⟨_, _, _, H.get 1 rfl rfl, ?_⟩ | refine ⟨_, _, _, H.get 2 rfl rfl, ?_⟩ | refine ⟨_, _, _, H.get 3 rfl rfl, ?_⟩ | refine ⟨_, _, _, H.get 4 rfl rfl, ?_⟩ | refine ⟨_, _, _, H.get 5 rfl rfl, ?_⟩ | refine ⟨_, _, _, H.get 6 rfl rfl, ?_⟩ | refine ⟨_, _, _, H.get 7 rfl rfl, ?_⟩))
  obtain ⟨zb, zo, hzp, z0, z1, z2, z3, z4, z5, z6⟩ := (hz.ext H.ext).zone hzi
  refine ⟨zb, zo, hzp, by omega, by omega, _, z0, _, z1, _, z2, _, z3, _, z4, _, z5, _, z6, ?_⟩
  repeat (first
    | (intro _ _ hS; replace H := H.new hS; clear hS)
    | (intro _ hS; (first | replace H := H.put 0 rfl hS | replace H := H.put 1 rfl hS | replace H := H.put 2 rfl hS | replace H := H.put 3 rfl hS | replace H := H.put 4 rfl hS | replace H := H.put 5 rfl hS | replace H := H.put 6 rfl hS | replace H := H.put 7 rfl hS); clear hS; try simp only [setA, List.setIfInBounds_toArray, List.set_cons_zero, List.set_cons_succ, Nat.zero_add, Nat.reduceAdd] at H)
    | (intro _ hS; replace H := H.step (Drew.ext hS); clear hS)
    | (first | refine ⟨⟨_, H.get 0 rfl rfl⟩, ?_⟩ | refine ⟨⟨_, H.get 1 rfl rfl⟩, ?_⟩ | refine ⟨⟨_, H.get 2 rfl rfl⟩, ?_⟩ | refine ⟨⟨_, H.get 3 rfl rfl⟩, ?_⟩ | refine ⟨⟨_, H.get 4 rfl rfl⟩, ?_⟩ | refine ⟨⟨_, H.get 5 rfl rfl⟩, ?_⟩ | refine ⟨⟨_, H.get 6 rfl rfl⟩, ?_⟩ | refine ⟨⟨_, H.get 7 rfl rfl⟩, ?_⟩)
    | (first | refine ⟨H.frz 0 rfl, ?_⟩ | refine ⟨H.frz 1 rfl, ?_⟩ | refine ⟨H.frz 2 rfl, ?_⟩ | refine ⟨H.frz 3 rfl, ?_⟩ | refine ⟨H.frz 4 rfl, ?_⟩ | refine ⟨H.frz 5 rfl, ?_⟩ | refine ⟨H.frz 6 rfl, ?_⟩ | refine ⟨H.frz 7 rfl, ?_⟩)
    | (first | refine ⟨_, H.get 0 rfl rfl, ?_⟩ | refine ⟨_, H.get 1 rfl rfl, ?_⟩ | refine ⟨_, H.get 2 rfl rfl, ?_⟩ | refine ⟨_, H.get 3 rfl rfl, ?_⟩ | refine ⟨_, H.get 4 rfl rfl, ?_⟩ | refine ⟨_, H.get 5 rfl rfl, ?_⟩ | refine ⟨_, H.get 6 rfl rfl, ?_⟩ | refine ⟨_, H.get 7 rfl rfl, ?_⟩)
    | (first | refine ⟨_, _, _, H.get 0 rfl rfl, ?_⟩ | refine ⟨_, _, _, H.get 1 rfl rfl, ?_⟩ | refine ⟨_, _, _, H.get 2 rfl rfl, ?_⟩ | refine ⟨_, _, _, H.get 3 rfl rfl, ?_⟩ | refine ⟨_, _, _, H.get 4 rfl rfl, ?_⟩ | refine ⟨_, _, _, H.get 5 rfl rfl, ?_⟩ | refine ⟨_, _, _, H.get 6 rfl rfl, ?_⟩ | refine ⟨_, _, _, H.get 7 rfl rfl, ?_⟩))
  obtain ⟨cb, co, hcp, c0, c1, c2⟩ := (hc.ext H.ext).col hcol
  refine ⟨cb, co, hcp, by omega, by omega, _, c0, _, c1, _, c2, ?_⟩
  clear z0 z1 z2 z3 z4 z5 z6 c0 c1 c2
  repeat' (first
    | (refine And.intro ?_ (fun _ _ hS => ?_)
       rotate_left
       have eX := hS.ext; have zS := hS.size; replace H := H.new hS
       (try refine And.intro eX.same ?_)
       rotate_left)
    | (refine And.intro (fun hq => ?_) (fun hq => ?_) <;> (try (exfalso; omega)))
    | (intro _ _ hS
       have eX := hS.ext; have zS := hS.size; replace H := H.new hS
       (try refine And.intro eX.same ?_))
    | (intro _ hS
       (first | replace H := H.put 0 rfl hS | replace H := H.put 1 rfl hS | replace H := H.put 2 rfl hS)
       (try refine And.intro (hS.but.sameTo (by omega)) ?_)
       clear hS
       try simp only [setA, List.setIfInBounds_toArray, List.set_cons_zero, List.set_cons_succ, Nat.zero_add, Nat.reduceAdd] at H)
    | (first | refine ⟨⟨_, H.get 0 rfl rfl⟩, ?_⟩ | refine ⟨⟨_, H.get 1 rfl rfl⟩, ?_⟩)
    | (first | refine ⟨H.frz 0 rfl, ?_⟩ | refine ⟨H.frz 1 rfl, ?_⟩)
    | (first | refine ⟨_, H.get 0 rfl rfl, ?_⟩ | refine ⟨_, H.get 1 rfl rfl, ?_⟩ | refine ⟨_, H.get 2 rfl rfl, ?_⟩ | refine ⟨_, H.get 3 rfl rfl, ?_⟩)
    | (refine (vright_ok z.lo _).mono ?_
       rintro e W ⟨rfl, eX⟩
       replace H := H.step eX
       refine ⟨_, rfl, ?_⟩)
    | (refine (vright_ok z.hi _).mono ?_
       rintro e W ⟨rfl, eX⟩
       replace H := H.step eX
       refine ⟨_, rfl, ?_⟩)
    | (refine (vcompare_ok z.lo z.hi _).mono ?_
       rintro e W ⟨rfl, eX⟩
       replace H := H.step eX
       refine ⟨_, rfl, ?_⟩)
    | (refine And.intro ?_ H.ext))
  all_goals (apply congrArg Ending.returned; apply congrArg Value.bool; clear H)
  all_goals (
    rw [zoneOk_eq]
    clear hc hz hcol hzi
    first
    | (rw [isNull_eq, isNull_eq]; simp_all; done)
    | (rw [isNull_eq, isNull_eq]; simp_all; omega)
    | (simp_all; done)
    | (simp_all; omega))

theorem S3.bit (s : S3) : bits .and .i64 s.i 2 = (if s.yes then 2 else 0) := (s3_bits s).2.1
set_option maxHeartbeats 4000000 in
theorem pAnswers_ok {cols : List Col} {zones : List Zn} {m : Int} (x : Ex) {w : World} {p zp : Option Addr} {n c zn zc : Nat} {cs : List Value} (hT : Tab w) (hc : Cols w p n c cols) (hz : Zns w zp zn zc zones) (hx : ExAt w x cs) :
    Calls Tryd.prog 11 #[.slice p n c, .slice zp zn zc, .int .i64 m, .agg cs.toArray] w fun e w' => e = .returned (.tuple #[.int .i64 (answersF cols zones m x).1, .int .i64 (answersF cols zones m x).2]) ∧ Ext w w' := by
  obtain ⟨xp, xn, xc, rfl, _⟩ := hx.six
  have hl1 := hc.len
  have hl2 := hz.len
  have hle : n ≤ 9223372036854775807 := hc.le
  apply pAnswers_vc
  unfold pAnswers_T
  intro b1 w2 h1
  have H := (Hold.start (Ext.rfl (w := w))).new h1
  repeat (first
    | (intro _ _ hS; replace H := H.new hS; clear hS)
    | (intro _ hS; (first | replace H := H.put 0 rfl hS | replace H := H.put 1 rfl hS | replace H := H.put 2 rfl hS | replace H := H.put 3 rfl hS | replace H := H.put 4 rfl hS | replace H := H.put 5 rfl hS | replace H := H.put 6 rfl hS | replace H := H.put 7 rfl hS); clear hS; try simp only [setA, List.setIfInBounds_toArray, List.set_cons_zero, List.set_cons_succ, Nat.zero_add, Nat.reduceAdd] at H)
    | (intro _ hS; replace H := H.step (Drew.ext hS); clear hS)
    | (first | refine ⟨⟨_, H.get 0 rfl rfl⟩, ?_⟩ | refine ⟨⟨_, H.get 1 rfl rfl⟩, ?_⟩ | refine ⟨⟨_, H.get 2 rfl rfl⟩, ?_⟩ | refine ⟨⟨_, H.get 3 rfl rfl⟩, ?_⟩ | refine ⟨⟨_, H.get 4 rfl rfl⟩, ?_⟩ | refine ⟨⟨_, H.get 5 rfl rfl⟩, ?_⟩ | refine ⟨⟨_, H.get 6 rfl rfl⟩, ?_⟩ | refine ⟨⟨_, H.get 7 rfl rfl⟩, ?_⟩)
    | (first | refine ⟨H.frz 0 rfl, ?_⟩ | refine ⟨H.frz 1 rfl, ?_⟩ | refine ⟨H.frz 2 rfl, ?_⟩ | refine ⟨H.frz 3 rfl, ?_⟩ | refine ⟨H.frz 4 rfl, ?_⟩ | refine ⟨H.frz 5 rfl, ?_⟩ | refine ⟨H.frz 6 rfl, ?_⟩ | refine ⟨H.frz 7 rfl, ?_⟩)
    | (first | refine ⟨_, H.get 0 rfl rfl, ?_⟩ | refine ⟨_, H.get 1 rfl rfl, ?_⟩ | refine ⟨_, H.get 2 rfl rfl, ?_⟩ | refine ⟨_, H.get 3 rfl rfl, ?_⟩ | refine ⟨_, H.get 4 rfl rfl, ?_⟩ | refine ⟨_, H.get 5 rfl rfl, ?_⟩ | refine ⟨_, H.get 6 rfl rfl, ?_⟩ | refine ⟨_, H.get 7 rfl rfl, ?_⟩)
    | (first | refine ⟨_, _, _, H.get 0 rfl rfl, ?_⟩ | refine ⟨_, _, _, H.get 1 rfl rfl, ?_⟩ | refine ⟨_, _, _, H.get 2 rfl rfl, ?_⟩ | refine ⟨_, _, _, H.get 3 rfl rfl, ?_⟩ | refine ⟨_, _, _, H.get 4 rfl rfl, ?_⟩ | refine ⟨_, _, _, H.get 5 rfl rfl, ?_⟩ | refine ⟨_, _, _, H.get 6 rfl rfl, ?_⟩ | refine ⟨_, _, _, H.get 7 rfl rfl, ?_⟩))
  refine (xtype_ok x (hT.ext H.ext) (hc.ext H.ext) (hx.ext H.ext)).mono ?_
  rintro e W ⟨rfl, eX⟩
  replace H := H.step eX
  refine ⟨_, _, rfl, fun he => ⟨?_, H.ext⟩, fun he => ⟨fun hk => ⟨?_, H.ext⟩, fun hk => ⟨fun ha => ⟨?_, H.ext⟩, fun ha => ?_⟩⟩⟩
  · unfold answersF; rw [if_pos he]
  · unfold answersF; rw [if_neg (by simp [he]), if_pos hk]
  · unfold answersF
    have : zonesOk cols zones m = false := by
      unfold zonesOk
      rw [decide_eq_false (by omega)]; rfl
    rw [if_neg (by simp [he]), if_neg (by omega), if_pos this]
  intro b22 w23 h22
  replace H := H.new h22
  repeat (first
    | (intro _ _ hS; replace H := H.new hS; clear hS)
    | (intro _ hS; (first | replace H := H.put 0 rfl hS | replace H := H.put 1 rfl hS | replace H := H.put 2 rfl hS | replace H := H.put 3 rfl hS | replace H := H.put 4 rfl hS | replace H := H.put 5 rfl hS | replace H := H.put 6 rfl hS | replace H := H.put 7 rfl hS); clear hS; try simp only [setA, List.setIfInBounds_toArray, List.set_cons_zero, List.set_cons_succ, Nat.zero_add, Nat.reduceAdd] at H)
    | (intro _ hS; replace H := H.step (Drew.ext hS); clear hS)
    | (first | refine ⟨⟨_, H.get 0 rfl rfl⟩, ?_⟩ | refine ⟨⟨_, H.get 1 rfl rfl⟩, ?_⟩ | refine ⟨⟨_, H.get 2 rfl rfl⟩, ?_⟩ | refine ⟨⟨_, H.get 3 rfl rfl⟩, ?_⟩ | refine ⟨⟨_, H.get 4 rfl rfl⟩, ?_⟩ | refine ⟨⟨_, H.get 5 rfl rfl⟩, ?_⟩ | refine ⟨⟨_, H.get 6 rfl rfl⟩, ?_⟩ | refine ⟨⟨_, H.get 7 rfl rfl⟩, ?_⟩)
    | (first | refine ⟨H.frz 0 rfl, ?_⟩ | refine ⟨H.frz 1 rfl, ?_⟩ | refine ⟨H.frz 2 rfl, ?_⟩ | refine ⟨H.frz 3 rfl, ?_⟩ | refine ⟨H.frz 4 rfl, ?_⟩ | refine ⟨H.frz 5 rfl, ?_⟩ | refine ⟨H.frz 6 rfl, ?_⟩ | refine ⟨H.frz 7 rfl, ?_⟩)
    | (first | refine ⟨_, H.get 0 rfl rfl, ?_⟩ | refine ⟨_, H.get 1 rfl rfl, ?_⟩ | refine ⟨_, H.get 2 rfl rfl, ?_⟩ | refine ⟨_, H.get 3 rfl rfl, ?_⟩ | refine ⟨_, H.get 4 rfl rfl, ?_⟩ | refine ⟨_, H.get 5 rfl rfl, ?_⟩ | refine ⟨_, H.get 6 rfl rfl, ?_⟩ | refine ⟨_, H.get 7 rfl rfl, ?_⟩)
    | (first | refine ⟨_, _, _, H.get 0 rfl rfl, ?_⟩ | refine ⟨_, _, _, H.get 1 rfl rfl, ?_⟩ | refine ⟨_, _, _, H.get 2 rfl rfl, ?_⟩ | refine ⟨_, _, _, H.get 3 rfl rfl, ?_⟩ | refine ⟨_, _, _, H.get 4 rfl rfl, ?_⟩ | refine ⟨_, _, _, H.get 5 rfl rfl, ?_⟩ | refine ⟨_, _, _, H.get 6 rfl rfl, ?_⟩ | refine ⟨_, _, _, H.get 7 rfl rfl, ?_⟩))
  have hlen : zones.length = cols.length := by omega
  have hzk : zonesOk cols zones m = zonesL cols zones m := by
    unfold zonesOk
    rw [decide_eq_true (by omega)]; rfl
  refine ⟨fun i W => ∃ j : Nat, i = (j : Int) ∧ j ≤ n ∧ zonesL (cols.drop j) (zones.drop j) m = zonesL cols zones m ∧ Hold w W [(b22, .cells #[.slice p n c, .slice zp zn zc, .int .i64 m] 59 (0, 0)), (b1, .cells #[.int .i64 x.op, .string x.name, .int .i64 x.v.k, .int .i64 x.v.n, .string x.v.s, .slice xp xn xc] 28 (0, 0))] [], fun i _ => n - i.toNat, ⟨0, rfl, Nat.zero_le _, rfl, H⟩, ?_⟩
  rintro i W ⟨j, rfl, hj, hall, H⟩
  refine ⟨fun hlt => ?_, fun hge => ?_⟩
  · have g1 : cols[j]? = some (cols[j]'(by omega)) := List.getElem?_eq_getElem _
    have g2 : zones[j]? = some (zones[j]'(by omega)) := List.getElem?_eq_getElem _
    generalize cols[j]'(by omega) = col at g1
    generalize zones[j]'(by omega) = z at g2
    rw [zonesL_drop g1 g2] at hall
    repeat (first
      | (intro _ _ hS; replace H := H.new hS; clear hS)
      | (intro _ hS; (first | replace H := H.put 0 rfl hS | replace H := H.put 1 rfl hS | replace H := H.put 2 rfl hS | replace H := H.put 3 rfl hS | replace H := H.put 4 rfl hS | replace H := H.put 5 rfl hS | replace H := H.put 6 rfl hS | replace H := H.put 7 rfl hS); clear hS; try simp only [setA, List.setIfInBounds_toArray, List.set_cons_zero, List.set_cons_succ, Nat.zero_add, Nat.reduceAdd] at H)
      | (intro _ hS; replace H := H.step (Drew.ext hS); clear hS)
      | (first | refine ⟨⟨_, H.get 0 rfl rfl⟩, ?_⟩ | refine ⟨⟨_, H.get 1 rfl rfl⟩, ?_⟩ | refine ⟨⟨_, H.get 2 rfl rfl⟩, ?_⟩ | refine ⟨⟨_, H.get 3 rfl rfl⟩, ?_⟩ | refine ⟨⟨_, H.get 4 rfl rfl⟩, ?_⟩ | refine ⟨⟨_, H.get 5 rfl rfl⟩, ?_⟩ | refine ⟨⟨_, H.get 6 rfl rfl⟩, ?_⟩ | refine ⟨⟨_, H.get 7 rfl rfl⟩, ?_⟩)
      | (first | refine ⟨H.frz 0 rfl, ?_⟩ | refine ⟨H.frz 1 rfl, ?_⟩ | refine ⟨H.frz 2 rfl, ?_⟩ | refine ⟨H.frz 3 rfl, ?_⟩ | refine ⟨H.frz 4 rfl, ?_⟩ | refine ⟨H.frz 5 rfl, ?_⟩ | refine ⟨H.frz 6 rfl, ?_⟩ | refine ⟨H.frz 7 rfl, ?_⟩)
      | (first | refine ⟨_, H.get 0 rfl rfl, ?_⟩ | refine ⟨_, H.get 1 rfl rfl, ?_⟩ | refine ⟨_, H.get 2 rfl rfl, ?_⟩ | refine ⟨_, H.get 3 rfl rfl, ?_⟩ | refine ⟨_, H.get 4 rfl rfl, ?_⟩ | refine ⟨_, H.get 5 rfl rfl, ?_⟩ | refine ⟨_, H.get 6 rfl rfl, ?_⟩ | refine ⟨_, H.get 7 rfl rfl, ?_⟩)
      | (first | refine ⟨_, _, _, H.get 0 rfl rfl, ?_⟩ | refine ⟨_, _, _, H.get 1 rfl rfl, ?_⟩ | refine ⟨_, _, _, H.get 2 rfl rfl, ?_⟩ | refine ⟨_, _, _, H.get 3 rfl rfl, ?_⟩ | refine ⟨_, _, _, H.get 4 rfl rfl, ?_⟩ | refine ⟨_, _, _, H.get 5 rfl rfl, ?_⟩ | refine ⟨_, _, _, H.get 6 rfl rfl, ?_⟩ | refine ⟨_, _, _, H.get 7 rfl rfl, ?_⟩))
    refine (pright_ok (m := m) (hc.ext H.ext) (hz.ext H.ext) g1 g2).mono ?_
    rintro e W2 ⟨rfl, eX⟩
    replace H := H.step eX
    refine ⟨_, rfl, fun hf => ⟨?_, H.ext⟩, fun ht => ?_⟩
    · rw [hf] at hall
      unfold answersF
      rw [if_neg (by simp [he]), if_neg (by omega), if_pos (by rw [hzk, ← hall]; rfl)]
    · rw [ht] at hall
      rw [i64_next (by omega)]
      exact ⟨⟨j + 1, rfl, by omega, by simpa using hall, H⟩, by simp only [Int.toNat_natCast]; omega⟩
  · have hjn : j = n := by omega
    subst hjn
    have hz0 : zonesL cols zones m = true := by
      rw [← hall, List.drop_eq_nil_of_le (by omega), List.drop_eq_nil_of_le (by omega)]; rfl
    refine ⟨fun h0 => ⟨?_, H.ext⟩, fun h0 => ?_⟩
    · unfold answersF
      rw [if_neg (by simp [he]), if_neg (by omega), if_neg (by rw [hzk, hz0]; decide), if_pos h0]
    · repeat (first
        | (intro _ _ hS; replace H := H.new hS; clear hS)
        | (intro _ hS; (first | replace H := H.put 0 rfl hS | replace H := H.put 1 rfl hS | replace H := H.put 2 rfl hS | replace H := H.put 3 rfl hS | replace H := H.put 4 rfl hS | replace H := H.put 5 rfl hS | replace H := H.put 6 rfl hS | replace H := H.put 7 rfl hS); clear hS; try simp only [setA, List.setIfInBounds_toArray, List.set_cons_zero, List.set_cons_succ, Nat.zero_add, Nat.reduceAdd] at H)
        | (intro _ hS; replace H := H.step (Drew.ext hS); clear hS)
        | (first | refine ⟨⟨_, H.get 0 rfl rfl⟩, ?_⟩ | refine ⟨⟨_, H.get 1 rfl rfl⟩, ?_⟩ | refine ⟨⟨_, H.get 2 rfl rfl⟩, ?_⟩ | refine ⟨⟨_, H.get 3 rfl rfl⟩, ?_⟩ | refine ⟨⟨_, H.get 4 rfl rfl⟩, ?_⟩ | refine ⟨⟨_, H.get 5 rfl rfl⟩, ?_⟩ | refine ⟨⟨_, H.get 6 rfl rfl⟩, ?_⟩ | refine ⟨⟨_, H.get 7 rfl rfl⟩, ?_⟩)
        | (first | refine ⟨H.frz 0 rfl, ?_⟩ | refine ⟨H.frz 1 rfl, ?_⟩ | refine ⟨H.frz 2 rfl, ?_⟩ | refine ⟨H.frz 3 rfl, ?_⟩ | refine ⟨H.frz 4 rfl, ?_⟩ | refine ⟨H.frz 5 rfl, ?_⟩ | refine ⟨H.frz 6 rfl, ?_⟩ | refine ⟨H.frz 7 rfl, ?_⟩)
        | (first | refine ⟨_, H.get 0 rfl rfl, ?_⟩ | refine ⟨_, H.get 1 rfl rfl, ?_⟩ | refine ⟨_, H.get 2 rfl rfl, ?_⟩ | refine ⟨_, H.get 3 rfl rfl, ?_⟩ | refine ⟨_, H.get 4 rfl rfl, ?_⟩ | refine ⟨_, H.get 5 rfl rfl, ?_⟩ | refine ⟨_, H.get 6 rfl rfl, ?_⟩ | refine ⟨_, H.get 7 rfl rfl, ?_⟩)
        | (first | refine ⟨_, _, _, H.get 0 rfl rfl, ?_⟩ | refine ⟨_, _, _, H.get 1 rfl rfl, ?_⟩ | refine ⟨_, _, _, H.get 2 rfl rfl, ?_⟩ | refine ⟨_, _, _, H.get 3 rfl rfl, ?_⟩ | refine ⟨_, _, _, H.get 4 rfl rfl, ?_⟩ | refine ⟨_, _, _, H.get 5 rfl rfl, ?_⟩ | refine ⟨_, _, _, H.get 6 rfl rfl, ?_⟩ | refine ⟨_, _, _, H.get 7 rfl rfl, ?_⟩))
      obtain ⟨hr, hform, hkd⟩ := typeF_right he
      have hfp : FormedP x := of_decide_eq_true hform
      refine (panswers_ok hz0 _ x (Nat.le_refl _) hfp.1 (by rw [← hkd]; exact he) (by rw [← hkd]; omega) (hc.ext H.ext) (hz.ext H.ext) (hx.ext H.ext)).mono ?_
      rintro e W3 ⟨rfl, eX⟩
      refine ⟨_, rfl, ?_, (H.step eX).ext⟩
      unfold answersF
      rw [if_neg (by simp [he]), if_neg (by omega), if_neg (by rw [hzk, hz0]; decide), if_neg h0]
theorem answers_shape {cols : List Col} {zones : List Zn} {m : Int} {x : Ex} : ∃ s : S3, (answersF cols zones m x).1 = s.i := by
  unfold answersF
  split
  · exact ⟨⟨false, false, false⟩, rfl⟩
  · split
    · exact ⟨⟨false, false, false⟩, rfl⟩
    · split
      · exact ⟨⟨false, false, false⟩, rfl⟩
      · split
        · exact ⟨⟨false, false, false⟩, rfl⟩
        · exact ⟨_, rfl⟩
theorem yes_bit (s : S3) : (!decide (bits .and .i64 s.i 2 = 0)) = decide (s.i % 4 / 2 = 1) := by
  obtain ⟨a, b, c⟩ := s
  cases a <;> cases b <;> cases c <;> decide +kernel
theorem pMay_ok {cols : List Col} {zones : List Zn} {m : Int} (x : Ex) {w : World} {p zp : Option Addr} {n c zn zc : Nat} {cs : List Value} (hT : Tab w) (hc : Cols w p n c cols) (hz : Zns w zp zn zc zones) (hx : ExAt w x cs) :
    Calls Tryd.prog 13 #[.slice p n c, .slice zp zn zc, .int .i64 m, .agg cs.toArray] w fun e w' => e = .returned (.tuple #[.bool (mayF cols zones m x).1, .int .i64 (mayF cols zones m x).2]) ∧ Ext w w' := by
  obtain ⟨xp, xn, xc, rfl, _⟩ := hx.six
  apply pMay_vc
  unfold pMay_T
  intro b1 w2 h1
  have H := (Hold.start (Ext.rfl (w := w))).new h1
  repeat (first
    | (intro _ _ hS; replace H := H.new hS; clear hS)
    | (intro _ hS; (first | replace H := H.put 0 rfl hS | replace H := H.put 1 rfl hS | replace H := H.put 2 rfl hS | replace H := H.put 3 rfl hS | replace H := H.put 4 rfl hS | replace H := H.put 5 rfl hS | replace H := H.put 6 rfl hS | replace H := H.put 7 rfl hS); clear hS; try simp only [setA, List.setIfInBounds_toArray, List.set_cons_zero, List.set_cons_succ, Nat.zero_add, Nat.reduceAdd] at H)
    | (intro _ hS; replace H := H.step (Drew.ext hS); clear hS)
    | (first | refine ⟨⟨_, H.get 0 rfl rfl⟩, ?_⟩ | refine ⟨⟨_, H.get 1 rfl rfl⟩, ?_⟩ | refine ⟨⟨_, H.get 2 rfl rfl⟩, ?_⟩ | refine ⟨⟨_, H.get 3 rfl rfl⟩, ?_⟩ | refine ⟨⟨_, H.get 4 rfl rfl⟩, ?_⟩ | refine ⟨⟨_, H.get 5 rfl rfl⟩, ?_⟩ | refine ⟨⟨_, H.get 6 rfl rfl⟩, ?_⟩ | refine ⟨⟨_, H.get 7 rfl rfl⟩, ?_⟩)
    | (first | refine ⟨H.frz 0 rfl, ?_⟩ | refine ⟨H.frz 1 rfl, ?_⟩ | refine ⟨H.frz 2 rfl, ?_⟩ | refine ⟨H.frz 3 rfl, ?_⟩ | refine ⟨H.frz 4 rfl, ?_⟩ | refine ⟨H.frz 5 rfl, ?_⟩ | refine ⟨H.frz 6 rfl, ?_⟩ | refine ⟨H.frz 7 rfl, ?_⟩)
    | (first | refine ⟨_, H.get 0 rfl rfl, ?_⟩ | refine ⟨_, H.get 1 rfl rfl, ?_⟩ | refine ⟨_, H.get 2 rfl rfl, ?_⟩ | refine ⟨_, H.get 3 rfl rfl, ?_⟩ | refine ⟨_, H.get 4 rfl rfl, ?_⟩ | refine ⟨_, H.get 5 rfl rfl, ?_⟩ | refine ⟨_, H.get 6 rfl rfl, ?_⟩ | refine ⟨_, H.get 7 rfl rfl, ?_⟩)
    | (first | refine ⟨_, _, _, H.get 0 rfl rfl, ?_⟩ | refine ⟨_, _, _, H.get 1 rfl rfl, ?_⟩ | refine ⟨_, _, _, H.get 2 rfl rfl, ?_⟩ | refine ⟨_, _, _, H.get 3 rfl rfl, ?_⟩ | refine ⟨_, _, _, H.get 4 rfl rfl, ?_⟩ | refine ⟨_, _, _, H.get 5 rfl rfl, ?_⟩ | refine ⟨_, _, _, H.get 6 rfl rfl, ?_⟩ | refine ⟨_, _, _, H.get 7 rfl rfl, ?_⟩))
  refine (pAnswers_ok (m := m) x (hT.ext H.ext) (hc.ext H.ext) (hz.ext H.ext) (hx.ext H.ext)).mono ?_
  rintro e W ⟨rfl, eX⟩
  replace H := H.step eX
  refine ⟨_, _, rfl, fun he => ⟨?_, H.ext⟩, fun he => ⟨fun hm => ?_, fun hm => ⟨?_, H.ext⟩⟩⟩
  · unfold mayF; rw [if_pos he]
  · repeat (first
      | (intro _ _ hS; replace H := H.new hS; clear hS)
      | (intro _ hS; (first | replace H := H.put 0 rfl hS | replace H := H.put 1 rfl hS | replace H := H.put 2 rfl hS | replace H := H.put 3 rfl hS | replace H := H.put 4 rfl hS | replace H := H.put 5 rfl hS | replace H := H.put 6 rfl hS | replace H := H.put 7 rfl hS); clear hS; try simp only [setA, List.setIfInBounds_toArray, List.set_cons_zero, List.set_cons_succ, Nat.zero_add, Nat.reduceAdd] at H)
      | (intro _ hS; replace H := H.step (Drew.ext hS); clear hS)
      | (first | refine ⟨⟨_, H.get 0 rfl rfl⟩, ?_⟩ | refine ⟨⟨_, H.get 1 rfl rfl⟩, ?_⟩ | refine ⟨⟨_, H.get 2 rfl rfl⟩, ?_⟩ | refine ⟨⟨_, H.get 3 rfl rfl⟩, ?_⟩ | refine ⟨⟨_, H.get 4 rfl rfl⟩, ?_⟩ | refine ⟨⟨_, H.get 5 rfl rfl⟩, ?_⟩ | refine ⟨⟨_, H.get 6 rfl rfl⟩, ?_⟩ | refine ⟨⟨_, H.get 7 rfl rfl⟩, ?_⟩)
      | (first | refine ⟨H.frz 0 rfl, ?_⟩ | refine ⟨H.frz 1 rfl, ?_⟩ | refine ⟨H.frz 2 rfl, ?_⟩ | refine ⟨H.frz 3 rfl, ?_⟩ | refine ⟨H.frz 4 rfl, ?_⟩ | refine ⟨H.frz 5 rfl, ?_⟩ | refine ⟨H.frz 6 rfl, ?_⟩ | refine ⟨H.frz 7 rfl, ?_⟩)
      | (first | refine ⟨_, H.get 0 rfl rfl, ?_⟩ | refine ⟨_, H.get 1 rfl rfl, ?_⟩ | refine ⟨_, H.get 2 rfl rfl, ?_⟩ | refine ⟨_, H.get 3 rfl rfl, ?_⟩ | refine ⟨_, H.get 4 rfl rfl, ?_⟩ | refine ⟨_, H.get 5 rfl rfl, ?_⟩ | refine ⟨_, H.get 6 rfl rfl, ?_⟩ | refine ⟨_, H.get 7 rfl rfl, ?_⟩)
      | (first | refine ⟨_, _, _, H.get 0 rfl rfl, ?_⟩ | refine ⟨_, _, _, H.get 1 rfl rfl, ?_⟩ | refine ⟨_, _, _, H.get 2 rfl rfl, ?_⟩ | refine ⟨_, _, _, H.get 3 rfl rfl, ?_⟩ | refine ⟨_, _, _, H.get 4 rfl rfl, ?_⟩ | refine ⟨_, _, _, H.get 5 rfl rfl, ?_⟩ | refine ⟨_, _, _, H.get 6 rfl rfl, ?_⟩ | refine ⟨_, _, _, H.get 7 rfl rfl, ?_⟩))
    refine (pbare_ok _ x (Nat.le_refl _) (hx.ext H.ext)).mono ?_
    rintro e W ⟨rfl, eX⟩
    refine ⟨_, rfl, ?_, (H.step eX).ext⟩
    obtain ⟨s, hs⟩ := answers_shape (cols := cols) (zones := zones) (m := m) (x := x)
    unfold mayF
    rw [if_neg (by simp [he]), decide_eq_true hm, hs, yes_bit]; rfl
  · unfold mayF
    rw [if_neg (by simp [he]), decide_eq_false (by omega)]; rfl
end Go.Proofs.YtpjafkcmbinjiaaDoor

/- The verification conditions of the functions, evaluated: printed by program. -/
namespace Go.Proofs.YtpjafkcmbinjiaaDoor
open Go Go.Vc

set_option maxRecDepth 100000 in
def qzone_T (l_p : Option Addr) (l_n : Nat) (l_c : Nat) (w : World) (R : Ending → World → Prop) : Prop :=
  ∀ b1 w'2, New w
 (Obj.cells
 #[.int .i64 0, .int .i64 0, .int .i64 0, .string ⟨#[]⟩, .int .i64 0, .int .i64 0, .string ⟨#[]⟩]
 50)
 b1 w'2 → (1024 < (↑l_n : Int) → CW w'2 b1 0 fun _ ↦ CW w'2 b1 1 fun _ ↦ CW w'2 b1 2 fun _ ↦ CW w'2 b1 3 fun _ ↦ CW w'2 b1 4 fun _ ↦ CW w'2 b1 5 fun _ ↦ CW w'2 b1 6 fun _ ↦ ∀ w'12, Put w'2 b1 0
 [.int .i64 0, .int .i64 0, .int .i64 0, .string ⟨#[]⟩, .int .i64 0, .int .i64 0, .string ⟨#[]⟩]
 w'12 → RI w'12 b1 0 fun n14 ↦ RI w'12 b1 1 fun n15 ↦ RI w'12 b1 2 fun n16 ↦ RS w'12 b1 3 fun s17 ↦ RI w'12 b1 4 fun n18 ↦ RI w'12 b1 5 fun n19 ↦ RS w'12 b1 6 fun s20 ↦ R
 (.returned
 (Value.tuple
 #[Value.agg
 #[.int .i64 n14, .int .i64 n15, .int .i64 n16, .string s17, .int .i64 n18, .int .i64 n19, .string s20], .int .i64 2]))
 w'12) ∧ ((↑l_n : Int) ≤ 1024 → ∀ b22 w'23, New w'2
 (Obj.cells
 #[.int .i64 0, .int .i64 0, .int .i64 0, .string ⟨#[]⟩, .int .i64 0, .int .i64 0, .string ⟨#[]⟩]
 50)
 b22 w'23 → ∃ (I25 : Bool → Int → World → Prop), ∃ (M26 : Bool → Int → World → Nat), I25 true 0 w'23 ∧ ∀ (b27 : Bool) (n28 : Int) (w'29 : World), I25 b27 n28 w'29 → (n28 < (↑l_n : Int) → ∃ b32, ∃ o33, l_p = some ⟨b32, o33, none⟩ ∧ 0 ≤ n28 ∧ n28 < (↑l_n : Int) ∧ RI w'29 b32 (o33 + n28.toNat * 3) fun n34 ↦ RI w'29 b32 (o33 + n28.toNat * 3 + 1) fun n35 ↦ RS w'29 b32 (o33 + n28.toNat * 3 + 2) fun s36 ↦ Calls Tryd.prog 18 #[.agg #[.int .i64 n34, .int .i64 n35, .string s36]] w'29 fun e37 w38 ↦
 ∃ b39, e37 = .returned (.bool b39) ∧ (b39 = false → CW w38 b1 0 fun _ ↦ CW w38 b1 1 fun _ ↦ CW w38 b1 2 fun _ ↦ CW w38 b1 3 fun _ ↦ CW w38 b1 4 fun _ ↦ CW w38 b1 5 fun _ ↦ CW w38 b1 6 fun _ ↦ ∀ w'48, Put w38 b1 0
 [.int .i64 0, .int .i64 0, .int .i64 0, .string ⟨#[]⟩, .int .i64 0, .int .i64 0, .string ⟨#[]⟩]
 w'48 → RI w'48 b1 0 fun n50 ↦ RI w'48 b1 1 fun n51 ↦ RI w'48 b1 2 fun n52 ↦ RS w'48 b1 3 fun s53 ↦ RI w'48 b1 4 fun n54 ↦ RI w'48 b1 5 fun n55 ↦ RS w'48 b1 6 fun s56 ↦ R
 (.returned
 (Value.tuple
 #[Value.agg
 #[.int .i64 n50, .int .i64 n51, .int .i64 n52, .string s53, .int .i64 n54, .int .i64 n55, .string s56], .int .i64 2]))
 w'48) ∧ (b39 = true → ∃ b58, ∃ o59, l_p = some ⟨b58, o59, none⟩ ∧ 0 ≤ n28 ∧ n28 < (↑l_n : Int) ∧ RI w38 b58 (o59 + n28.toNat * 3) fun n60 ↦ (n60 = 0 → RI w38 b22 0 fun n62 ↦ CW w38 b22 0 fun _ ↦ ∀ w'64, Put w38 b22 0 [.int .i64 (IntKind.i64.wrap (n62 + 1))] w'64 → I25 b27 (IntKind.i64.wrap (n28 + 1)) w'64 ∧ M26 b27 (IntKind.i64.wrap (n28 + 1)) w'64 < M26 b27 n28 w'29) ∧ (n60 ≠ 0 → ∀ w'67, Drew w38 w'67 → ∃ b69, ∃ o70, l_p = some ⟨b69, o70, none⟩ ∧ 0 ≤ n28 ∧ n28 < (↑l_n : Int) ∧ RI w'67 b69 (o70 + n28.toNat * 3) fun n71 ↦ RI w'67 b69 (o70 + n28.toNat * 3 + 1) fun n72 ↦ RS w'67 b69 (o70 + n28.toNat * 3 + 2) fun s73 ↦ RI w'67 b22 1 fun n74 ↦ RI w'67 b22 2 fun n75 ↦ RS w'67 b22 3 fun s76 ↦ Calls Tryd.prog 34
 #[.agg #[.int .i64 n71, .int .i64 n72, .string s73], .agg #[.int .i64 n74, .int .i64 n75, .string s76]]
 w'67 fun e77 w78 ↦
 ∃ n79, e77 = .returned (.int .i64 n79) ∧ ∀ w'80, Drew w78 w'80 → ∃ b82, ∃ o83, l_p = some ⟨b82, o83, none⟩ ∧ 0 ≤ n28 ∧ n28 < (↑l_n : Int) ∧ RI w'80 b82 (o83 + n28.toNat * 3) fun n84 ↦ RI w'80 b82 (o83 + n28.toNat * 3 + 1) fun n85 ↦ RS w'80 b82 (o83 + n28.toNat * 3 + 2) fun s86 ↦ RI w'80 b22 4 fun n87 ↦ RI w'80 b22 5 fun n88 ↦ RS w'80 b22 6 fun s89 ↦ Calls Tryd.prog 34
 #[.agg #[.int .i64 n84, .int .i64 n85, .string s86], .agg #[.int .i64 n87, .int .i64 n88, .string s89]]
 w'80 fun e90 w91 ↦
 ∃ n92, e90 = .returned (.int .i64 n92) ∧ (b27 = true ∨ n79 < 0 → ∃ b94, ∃ o95, l_p = some ⟨b94, o95, none⟩ ∧ 0 ≤ n28 ∧ n28 < (↑l_n : Int) ∧ RI w91 b94 (o95 + n28.toNat * 3) fun n96 ↦ RI w91 b94 (o95 + n28.toNat * 3 + 1) fun n97 ↦ RS w91 b94 (o95 + n28.toNat * 3 + 2) fun s98 ↦ CW w91 b22 1 fun _ ↦ CW w91 b22 2 fun _ ↦ CW w91 b22 3 fun _ ↦ ∀ w'102, Put w91 b22 1 [.int .i64 n96, .int .i64 n97, .string s98] w'102 → (b27 = true ∨ 0 < n92 → ∃ b105, ∃ o106, l_p = some ⟨b105, o106, none⟩ ∧ 0 ≤ n28 ∧ n28 < (↑l_n : Int) ∧ RI w'102 b105 (o106 + n28.toNat * 3) fun n107 ↦ RI w'102 b105 (o106 + n28.toNat * 3 + 1) fun n108 ↦ RS w'102 b105 (o106 + n28.toNat * 3 + 2) fun s109 ↦ CW w'102 b22 4 fun _ ↦ CW w'102 b22 5 fun _ ↦ CW w'102 b22 6 fun _ ↦ ∀ w'113, Put w'102 b22 4 [.int .i64 n107, .int .i64 n108, .string s109] w'113 → I25 false (IntKind.i64.wrap (n28 + 1)) w'113 ∧ M26 false (IntKind.i64.wrap (n28 + 1)) w'113 < M26 b27 n28 w'29) ∧ (b27 = false ∧ n92 ≤ 0 → I25 false (IntKind.i64.wrap (n28 + 1)) w'102 ∧ M26 false (IntKind.i64.wrap (n28 + 1)) w'102 < M26 b27 n28 w'29)) ∧ (b27 = false ∧ 0 ≤ n79 → (b27 = true ∨ 0 < n92 → ∃ b118, ∃ o119, l_p = some ⟨b118, o119, none⟩ ∧ 0 ≤ n28 ∧ n28 < (↑l_n : Int) ∧ RI w91 b118 (o119 + n28.toNat * 3) fun n120 ↦ RI w91 b118 (o119 + n28.toNat * 3 + 1) fun n121 ↦ RS w91 b118 (o119 + n28.toNat * 3 + 2) fun s122 ↦ CW w91 b22 4 fun _ ↦ CW w91 b22 5 fun _ ↦ CW w91 b22 6 fun _ ↦ ∀ w'126, Put w91 b22 4 [.int .i64 n120, .int .i64 n121, .string s122] w'126 → I25 false (IntKind.i64.wrap (n28 + 1)) w'126 ∧ M26 false (IntKind.i64.wrap (n28 + 1)) w'126 < M26 b27 n28 w'29) ∧ (b27 = false ∧ n92 ≤ 0 → I25 false (IntKind.i64.wrap (n28 + 1)) w91 ∧ M26 false (IntKind.i64.wrap (n28 + 1)) w91 < M26 b27 n28 w'29))))) ∧ ((↑l_n : Int) ≤ n28 → RI w'29 b22 0 fun n130 ↦ RI w'29 b22 1 fun n131 ↦ RI w'29 b22 2 fun n132 ↦ RS w'29 b22 3 fun s133 ↦ RI w'29 b22 4 fun n134 ↦ RI w'29 b22 5 fun n135 ↦ RS w'29 b22 6 fun s136 ↦ CW w'29 b1 0 fun _ ↦ CW w'29 b1 1 fun _ ↦ CW w'29 b1 2 fun _ ↦ CW w'29 b1 3 fun _ ↦ CW w'29 b1 4 fun _ ↦ CW w'29 b1 5 fun _ ↦ CW w'29 b1 6 fun _ ↦ ∀ w'144, Put w'29 b1 0
 [.int .i64 n130, .int .i64 n131, .int .i64 n132, .string s133, .int .i64 n134, .int .i64 n135, .string s136]
 w'144 → RI w'144 b1 0 fun n146 ↦ RI w'144 b1 1 fun n147 ↦ RI w'144 b1 2 fun n148 ↦ RS w'144 b1 3 fun s149 ↦ RI w'144 b1 4 fun n150 ↦ RI w'144 b1 5 fun n151 ↦ RS w'144 b1 6 fun s152 ↦ R
 (.returned
 (Value.tuple
 #[Value.agg
 #[.int .i64 n146, .int .i64 n147, .int .i64 n148, .string s149, .int .i64 n150, .int .i64 n151, .string s152], .int .i64 0]))
 w'144))

set_option maxRecDepth 100000 in
theorem qzone_eq (l_p : Option Addr) (l_n : Nat) (l_c : Nat) (w : World) (R : Ending → World → Prop) : qzone_T l_p l_n l_c w R = vcFn Tryd.prog [] [(13, [2, 4, 6, 8, 10, 12, 14, 16, 0]), (14, [2, 4, 6, 8, 10, 12, 14, 16, 0])] Tryd.f19 [.slice l_p l_n l_c] w R := by kernel_rfl

set_option maxRecDepth 100000 in
theorem qzone_vc (l_p : Option Addr) (l_n : Nat) (l_c : Nat) (w : World) (R : Ending → World → Prop) (h : qzone_T l_p l_n l_c w R) : Calls Tryd.prog 19 #[.slice l_p l_n l_c] w R :=
  calls_of_vc (args := [.slice l_p l_n l_c]) [] [(13, [2, 4, 6, 8, 10, 12, 14, 16, 0]), (14, [2, 4, 6, 8, 10, 12, 14, 16, 0])] Tryd.mixed Tryd.func19 (cast (qzone_eq _ _ _ w R) h)

set_option maxRecDepth 100000 in
def qcolumn_T (rows_p : Option Addr) (rows_n : Nat) (rows_c : Nat) (c : Int) (w : World) (R : Ending → World → Prop) : Prop :=
  ∃ (I1 : Option Addr → Nat → Nat → Int → World → Prop), ∃ (M2 : Option Addr → Nat → Nat → Int → World → Nat), I1 none 0 0 0 w ∧ ∀ (p3 : Option Addr) (n4 c5 : Nat) (n6 : Int) (w'7 : World), I1 p3 n4 c5 n6 w'7 → (n6 < (↑rows_n : Int) → ∃ b10, ∃ o11, rows_p = some ⟨b10, o11, none⟩ ∧ 0 ≤ n6 ∧ n6 < (↑rows_n : Int) ∧ RL w'7 b10 (o11 + n6.toNat) fun p12 n13 c14 ↦ ∃ b15, ∃ o16, p12 = some ⟨b15, o16, none⟩ ∧ 0 ≤ c ∧ c < (↑n13 : Int) ∧ RI w'7 b15 (o16 + c.toNat * 3) fun n17 ↦ RI w'7 b15 (o16 + c.toNat * 3 + 1) fun n18 ↦ RS w'7 b15 (o16 + c.toNat * 3 + 2) fun s19 ↦ ∀ b20 w'21, New w'7 (Obj.cells #[.int .i64 n17, .int .i64 n18, .string s19] 25) b20 w'21 → ∃ p23 n24 c25, ∃ (w'26 : World), Sem.run Tryd.prog (Builtin.append_ #[31, 31] 31 #[.slice p3 n4 c5, .slice (some ⟨b20, 0, none⟩) 1 1]) w'21 = Result.ok (.slice p23 n24 c25) w'26 ∧ I1 p23 n24 c25 (IntKind.i64.wrap (n6 + 1)) w'26 ∧ M2 p23 n24 c25 (IntKind.i64.wrap (n6 + 1)) w'26 < M2 p3 n4 c5 n6 w'7) ∧ ((↑rows_n : Int) ≤ n6 → R (.returned (.slice p3 n4 c5)) w'7)

set_option maxRecDepth 100000 in
theorem qcolumn_eq (rows_p : Option Addr) (rows_n : Nat) (rows_c : Nat) (c : Int) (w : World) (R : Ending → World → Prop) : qcolumn_T rows_p rows_n rows_c c w R = vcFn Tryd.prog [] [] Tryd.f20 [.slice rows_p rows_n rows_c, .int .i64 c] w R := by kernel_rfl

set_option maxRecDepth 100000 in
theorem qcolumn_vc (rows_p : Option Addr) (rows_n : Nat) (rows_c : Nat) (c : Int) (w : World) (R : Ending → World → Prop) (h : qcolumn_T rows_p rows_n rows_c c w R) : Calls Tryd.prog 20 #[.slice rows_p rows_n rows_c, .int .i64 c] w R :=
  calls_of_vc (args := [.slice rows_p rows_n rows_c, .int .i64 c]) [] [] Tryd.mixed Tryd.func20 (cast (qcolumn_eq _ _ _ _ w R) h)


end Go.Proofs.YtpjafkcmbinjiaaDoor

/- The contracts of the document's answer for expressions: kinds. -/
namespace Go.Proofs.YtpjafkcmbinjiaaDoor
open Go Go.Vc Go.RowKit
set_option maxRecDepth 20000

end Go.Proofs.YtpjafkcmbinjiaaDoor

/- The contracts of the document's answer for expressions: numbers, truths. -/
namespace Go.Proofs.YtpjafkcmbinjiaaDoor
open Go Go.Vc Go.RowKit
set_option maxRecDepth 20000

end Go.Proofs.YtpjafkcmbinjiaaDoor

/- The contracts of the document's answer for expressions: a node of two kids. -/
namespace Go.Proofs.YtpjafkcmbinjiaaDoor
open Go Go.Vc Go.RowKit
set_option maxRecDepth 20000

def bothF (a b : Val) (strong : Int) : Val :=
  if (a.k = 2 ∧ a.n = strong) ∨ (b.k = 2 ∧ b.n = strong) then truthV (decide (strong = 1)) else if a.k = 0 ∨ b.k = 0 then nullV else truthV (decide (strong = 0))
end Go.Proofs.YtpjafkcmbinjiaaDoor

/- The contracts of the document's prune: sets, sides, comparisons, zones. -/
namespace Go.Proofs.YtpjafkcmbinjiaaDoor
open Go Go.Vc Go.RowKit
set_option maxRecDepth 20000
attribute [local irreducible] Calls Put Drew New

def S3.has (s : S3) (k : Nat) : Bool := if k = 0 then s.no else if k = 1 then s.yes else s.null
def valK (k : Nat) : Val := if k = 2 then nullV else ⟨2, k, ⟨#[]⟩⟩
/-- What two sets give, one by one. -/
def bothIn (op : Int) (s t : S3) (i k : Nat) (o : Int) : Int := if (S3.has s i && S3.has t k) = true then bits .or .i64 o (ownS (pairF op (valK i) (valK k)).1).i else o
def bothI (op : Int) (s t : S3) (i k : Nat) (o : Int) : Int := (List.range k).foldl (fun o k => bothIn op s t i k o) o
def bothO (op : Int) (s t : S3) (i : Nat) (o : Int) : Int := (List.range i).foldl (fun o i => bothI op s t i 3 o) o
/-- A side as the document has it. -/
def _root_.Go.Vc.Sd.agg (s : Sd) : Value := .agg #[.bool s.null, .bool s.full, .int .i64 s.lo.k, .int .i64 s.lo.n, .string s.lo.s, .int .i64 s.hi.k, .int .i64 s.hi.n, .string s.hi.s]
def zeroSd : Sd := ⟨false, false, nullV, nullV⟩
end Go.Proofs.YtpjafkcmbinjiaaDoor

/- The contracts of the document's prune: comparisons, zones, answers. -/
namespace Go.Proofs.YtpjafkcmbinjiaaDoor
open Go Go.Vc Go.RowKit
set_option maxRecDepth 20000
attribute [local irreducible] Calls Put Drew New

end Go.Proofs.YtpjafkcmbinjiaaDoor

/- The contracts of the document's prune: answers, May. -/
namespace Go.Proofs.YtpjafkcmbinjiaaDoor
open Go Go.Vc Go.RowKit
set_option maxRecDepth 20000
attribute [local irreducible] Calls Put Drew New

end Go.Proofs.YtpjafkcmbinjiaaDoor

/- The verification conditions of the functions, evaluated: printed by program. -/
namespace Go.Proofs.YtpjafkcmbinjiaaDoor
open Go Go.Vc

set_option maxRecDepth 100000 in
def lless_T (name : ByteArray) (n : Int) (w : World) (R : Ending → World → Prop) : Prop :=
  ∀ b1 w'2, New w
 (Obj.cells
 #[.int .i64 0, .string ⟨#[]⟩, .int .i64 0, .int .i64 0, .string ⟨#[]⟩, .slice none 0 0] 28)
 b1 w'2 → ∀ b4 w'5, New w'2
 (Obj.cells
 #[.int .i64 1, .string name, .int .i64 0, .int .i64 0, .string ⟨#[]⟩, .slice none 0 0, .int .i64 2, .string ⟨#[]⟩, .int .i64 1, .int .i64 n, .string ⟨#[]⟩, .slice none 0 0]
 28)
 b4 w'5 → CW w'5 b1 0 fun _ ↦ CW w'5 b1 1 fun _ ↦ CW w'5 b1 2 fun _ ↦ CW w'5 b1 3 fun _ ↦ CW w'5 b1 4 fun _ ↦ CW w'5 b1 5 fun _ ↦ ∀ w'13, Put w'5 b1 0
 [.int .i64 10, .string ⟨#[]⟩, .int .i64 0, .int .i64 0, .string ⟨#[]⟩, .slice (some ⟨b4, 0, none⟩) 2 2]
 w'13 → RI w'13 b1 0 fun n15 ↦ RS w'13 b1 1 fun s16 ↦ RI w'13 b1 2 fun n17 ↦ RI w'13 b1 3 fun n18 ↦ RS w'13 b1 4 fun s19 ↦ RL w'13 b1 5 fun p20 n21 c22 ↦ R
 (.returned
 (.agg #[.int .i64 n15, .string s16, .int .i64 n17, .int .i64 n18, .string s19, .slice p20 n21 c22]))
 w'13

set_option maxRecDepth 100000 in
theorem lless_eq (name : ByteArray) (n : Int) (w : World) (R : Ending → World → Prop) : lless_T name n w R = vcFn Tryd.prog [] [] Tryd.f16 [.string name, .int .i64 n] w R := by kernel_rfl

set_option maxRecDepth 100000 in
theorem lless_vc (name : ByteArray) (n : Int) (w : World) (R : Ending → World → Prop) (h : lless_T name n w R) : Calls Tryd.prog 16 #[.string name, .int .i64 n] w R :=
  calls_of_vc (args := [.string name, .int .i64 n]) [] [] Tryd.mixed Tryd.func16 (cast (lless_eq _ _ w R) h)

set_option maxRecDepth 100000 in
def shown16_T (w : World) (R : Ending → World → Prop) : Prop :=
  ∀ b1 w'2, New w (Obj.cells #[.string (ByteArray.mk #[97]), .int .i64 1, .bool false] 48) b1 w'2 → ∀ b4 w'5, New w'2
 (Obj.cells
 #[.int .i64 0, .int .i64 1, .int .i64 5, .string ⟨#[]⟩, .int .i64 1, .int .i64 9, .string ⟨#[]⟩]
 50)
 b4 w'5 → Calls Tryd.prog 16 #[.string (ByteArray.mk #[97]), .int .i64 5] w'5 fun e7 w8 ↦
 ∃ n9, ∃ s10, ∃ n11, ∃ n12, ∃ s13, ∃ p14 n15 c16, e7 =
 .returned
 (.agg #[.int .i64 n9, .string s10, .int .i64 n11, .int .i64 n12, .string s13, .slice p14 n15 c16]) ∧ Calls Tryd.prog 11
 #[.slice (some ⟨b1, 0, none⟩) 1 1, .slice (some ⟨b4, 0, none⟩) 1 1, .int .i64 3, .agg #[.int .i64 n9, .string s10, .int .i64 n11, .int .i64 n12, .string s13, .slice p14 n15 c16]]
 w8 fun e17 w18 ↦
 ∃ n19, ∃ n20, e17 = .returned (.tuple #[.int .i64 n19, .int .i64 n20]) ∧ Calls Tryd.prog 16 #[.string (ByteArray.mk #[97]), .int .i64 6] w18 fun e21 w22 ↦
 ∃ n23, ∃ s24, ∃ n25, ∃ n26, ∃ s27, ∃ p28 n29 c30, e21 =
 .returned
 (.agg #[.int .i64 n23, .string s24, .int .i64 n25, .int .i64 n26, .string s27, .slice p28 n29 c30]) ∧ Calls Tryd.prog 11
 #[.slice (some ⟨b1, 0, none⟩) 1 1, .slice (some ⟨b4, 0, none⟩) 1 1, .int .i64 3, .agg #[.int .i64 n23, .string s24, .int .i64 n25, .int .i64 n26, .string s27, .slice p28 n29 c30]]
 w22 fun e31 w32 ↦
 ∃ n33, ∃ n34, e31 = .returned (.tuple #[.int .i64 n33, .int .i64 n34]) ∧ R (.returned (.bool (decide (n20 = 0) && decide (n34 = 0) && decide (n19 = 1) && decide (n33 = 3)))) w32

set_option maxRecDepth 100000 in
theorem shown16_eq (w : World) (R : Ending → World → Prop) : shown16_T w R = vcFn Tryd.prog [] [] Tryd.f7 [] w R := by kernel_rfl

set_option maxRecDepth 100000 in
theorem shown16_vc (w : World) (R : Ending → World → Prop) (h : shown16_T w R) : Calls Tryd.prog 7 #[] w R :=
  calls_of_vc (args := []) [] [] Tryd.mixed Tryd.func7 (cast (shown16_eq w R) h)

set_option maxRecDepth 100000 in
def lzones_T (cols_p : Option Addr) (cols_n : Nat) (cols_c : Nat) (rows_p : Option Addr) (rows_n : Nat) (rows_c : Nat) (w : World) (R : Ending → World → Prop) : Prop :=
  ∃ (I1 : Option Addr → Nat → Nat → Int → World → Prop), ∃ (M2 : Option Addr → Nat → Nat → Int → World → Nat), I1 none 0 0 0 w ∧ ∀ (p3 : Option Addr) (n4 c5 : Nat) (n6 : Int) (w'7 : World), I1 p3 n4 c5 n6 w'7 → (n6 < (↑cols_n : Int) → Calls Tryd.prog 20 #[.slice rows_p rows_n rows_c, .int .i64 n6] w'7 fun e10 w11 ↦
 ∃ p12 n13 c14, e10 = .returned (.slice p12 n13 c14) ∧ Calls Tryd.prog 19 #[.slice p12 n13 c14] w11 fun e15 w16 ↦
 ∃ n17, ∃ n18, ∃ n19, ∃ s20, ∃ n21, ∃ n22, ∃ s23, ∃ n24, e15 =
 .returned
 (Value.tuple
 #[Value.agg
 #[.int .i64 n17, .int .i64 n18, .int .i64 n19, .string s20, .int .i64 n21, .int .i64 n22, .string s23], .int .i64 n24]) ∧ ∀ b25 w'26, New w16
 (Obj.cells
 #[.int .i64 0, .int .i64 0, .int .i64 0, .string ⟨#[]⟩, .int .i64 0, .int .i64 0, .string ⟨#[]⟩]
 50)
 b25 w'26 → CW w'26 b25 0 fun _ ↦ CW w'26 b25 1 fun _ ↦ CW w'26 b25 2 fun _ ↦ CW w'26 b25 3 fun _ ↦ CW w'26 b25 4 fun _ ↦ CW w'26 b25 5 fun _ ↦ CW w'26 b25 6 fun _ ↦ ∀ w'35, Put w'26 b25 0
 [.int .i64 n17, .int .i64 n18, .int .i64 n19, .string s20, .int .i64 n21, .int .i64 n22, .string s23]
 w'35 → RI w'35 b25 0 fun n37 ↦ RI w'35 b25 1 fun n38 ↦ RI w'35 b25 2 fun n39 ↦ RS w'35 b25 3 fun s40 ↦ RI w'35 b25 4 fun n41 ↦ RI w'35 b25 5 fun n42 ↦ RS w'35 b25 6 fun s43 ↦ ∀ b44 w'45, New w'35
 (Obj.cells
 #[.int .i64 n37, .int .i64 n38, .int .i64 n39, .string s40, .int .i64 n41, .int .i64 n42, .string s43]
 50)
 b44 w'45 → ∃ p47 n48 c49, ∃ (w'50 : World), Sem.run Tryd.prog (Builtin.append_ #[33, 33] 33 #[.slice p3 n4 c5, .slice (some ⟨b44, 0, none⟩) 1 1]) w'45 = Result.ok (.slice p47 n48 c49) w'50 ∧ I1 p47 n48 c49 (IntKind.i64.wrap (n6 + 1)) w'50 ∧ M2 p47 n48 c49 (IntKind.i64.wrap (n6 + 1)) w'50 < M2 p3 n4 c5 n6 w'7) ∧ ((↑cols_n : Int) ≤ n6 → R (.returned (.slice p3 n4 c5)) w'7)

set_option maxRecDepth 100000 in
theorem lzones_eq (cols_p : Option Addr) (cols_n : Nat) (cols_c : Nat) (rows_p : Option Addr) (rows_n : Nat) (rows_c : Nat) (w : World) (R : Ending → World → Prop) : lzones_T cols_p cols_n cols_c rows_p rows_n rows_c w R = vcFn Tryd.prog [] [] Tryd.f10 [.slice cols_p cols_n cols_c, .slice rows_p rows_n rows_c] w R := by kernel_rfl

set_option maxRecDepth 100000 in
theorem lzones_vc (cols_p : Option Addr) (cols_n : Nat) (cols_c : Nat) (rows_p : Option Addr) (rows_n : Nat) (rows_c : Nat) (w : World) (R : Ending → World → Prop) (h : lzones_T cols_p cols_n cols_c rows_p rows_n rows_c w R) : Calls Tryd.prog 10 #[.slice cols_p cols_n cols_c, .slice rows_p rows_n rows_c] w R :=
  calls_of_vc (args := [.slice cols_p cols_n cols_c, .slice rows_p rows_n rows_c]) [] [] Tryd.mixed Tryd.func10 (cast (lzones_eq _ _ _ _ _ _ w R) h)

set_option maxRecDepth 100000 in
def lawSound_T (cols_p : Option Addr) (cols_n : Nat) (cols_c : Nat) (rows_p : Option Addr) (rows_n : Nat) (rows_c : Nat) (x0 : Int) (x1 : ByteArray) (x2 : Int) (x3 : Int) (x4 : ByteArray) (x5_p : Option Addr) (x5_n : Nat) (x5_c : Nat) (w : World) (R : Ending → World → Prop) : Prop :=
  ∀ b1 w'2, New w (Obj.cells #[.int .i64 x0, .string x1, .int .i64 x2, .int .i64 x3, .string x4, .slice x5_p x5_n x5_c] 28) b1
 w'2 → Calls Tryd.prog 7 #[] w'2 fun e4 w5 ↦
 ∃ b6, e4 = .returned (.bool b6) ∧ 0 ≤ mmI false (↑rows_n : Int) 100 ∧ mmI false (↑rows_n : Int) 100 ≤ (↑rows_c : Int) ∧ ∃ (I7 : Int → World → Prop), ∃ (M8 : Int → World → Nat), I7 0 w5 ∧ ∀ (n9 : Int) (w'10 : World), I7 n9 w'10 → (n9 < (↑(mmI false (↑rows_n : Int) 100).toNat : Int) → ∃ b13, ∃ o14, rows_p = some ⟨b13, o14, none⟩ ∧ 0 ≤ n9 ∧ n9 < (↑(mmI false (↑rows_n : Int) 100).toNat : Int) ∧ RL w'10 b13 (o14 + n9.toNat) fun p15 n16 c17 ↦ Calls Tryd.prog 8 #[.slice cols_p cols_n cols_c, .slice p15 n16 c17] w'10 fun e18 w19 ↦
 ∃ b20, e18 = .returned (.bool b20) ∧ (b20 = false → R (.returned (.bool b6)) w19) ∧ (b20 = true → I7 (IntKind.i64.wrap (n9 + 1)) w19 ∧ M8 (IntKind.i64.wrap (n9 + 1)) w19 < M8 n9 w'10)) ∧ ((↑(mmI false (↑rows_n : Int) 100).toNat : Int) ≤ n9 → Calls Tryd.prog 10 #[.slice cols_p cols_n cols_c, .slice rows_p (mmI false (↑rows_n : Int) 100).toNat rows_c] w'10 fun e24 w25 ↦
 ∃ p26 n27 c28, e24 = .returned (.slice p26 n27 c28) ∧ RI w25 b1 0 fun n29 ↦ RS w25 b1 1 fun s30 ↦ RI w25 b1 2 fun n31 ↦ RI w25 b1 3 fun n32 ↦ RS w25 b1 4 fun s33 ↦ RL w25 b1 5 fun p34 n35 c36 ↦ Calls Tryd.prog 11
 #[.slice cols_p cols_n cols_c, .slice p26 n27 c28, .int .i64 (↑(mmI false (↑rows_n : Int) 100).toNat : Int), .agg #[.int .i64 n29, .string s30, .int .i64 n31, .int .i64 n32, .string s33, .slice p34 n35 c36]]
 w25 fun e37 w38 ↦
 ∃ n39, ∃ n40, e37 = .returned (.tuple #[.int .i64 n39, .int .i64 n40]) ∧ RI w38 b1 0 fun n41 ↦ RS w38 b1 1 fun s42 ↦ RI w38 b1 2 fun n43 ↦ RI w38 b1 3 fun n44 ↦ RS w38 b1 4 fun s45 ↦ RL w38 b1 5 fun p46 n47 c48 ↦ Calls Tryd.prog 13
 #[.slice cols_p cols_n cols_c, .slice p26 n27 c28, .int .i64 (↑(mmI false (↑rows_n : Int) 100).toNat : Int), .agg #[.int .i64 n41, .string s42, .int .i64 n43, .int .i64 n44, .string s45, .slice p46 n47 c48]]
 w38 fun e49 w50 ↦
 ∃ b51, ∃ n52, e49 = .returned (.tuple #[.bool b51, .int .i64 n52]) ∧ (n40 ≠ 0 ∨ n52 ≠ 0 → R (.returned (.bool (b6 && decide (n40 = n52)))) w50) ∧ (n40 = 0 ∧ n52 = 0 → ∃ (I55 : Int → World → Prop), ∃ (M56 : Int → World → Nat), I55 0 w50 ∧ ∀ (n57 : Int) (w'58 : World), I55 n57 w'58 → (n57 < (↑(mmI false (↑rows_n : Int) 100).toNat : Int) → ∀ w'61, Drew w'58 w'61 → ∃ b63, ∃ o64, rows_p = some ⟨b63, o64, none⟩ ∧ 0 ≤ n57 ∧ n57 < (↑(mmI false (↑rows_n : Int) 100).toNat : Int) ∧ RL w'61 b63 (o64 + n57.toNat) fun p65 n66 c67 ↦ RI w'61 b1 0 fun n68 ↦ RS w'61 b1 1 fun s69 ↦ RI w'61 b1 2 fun n70 ↦ RI w'61 b1 3 fun n71 ↦ RS w'61 b1 4 fun s72 ↦ RL w'61 b1 5 fun p73 n74 c75 ↦ (Calls Tryd.prog 15
 #[.slice cols_p cols_n cols_c, .slice p65 n66 c67, .agg #[.int .i64 n68, .string s69, .int .i64 n70, .int .i64 n71, .string s72, .slice p73 n74 c75]]
 w'61 fun e76 w77 ↦
 ∃ n78, ∃ n79, ∃ s80, ∃ n81, e76 = .returned (.tuple #[.agg #[.int .i64 n78, .int .i64 n79, .string s80], .int .i64 n81]) ∧ ∀ b82 w'83, New w77 (Obj.cells #[.int .i64 0, .int .i64 0, .string ⟨#[]⟩] 25) b82 w'83 → SameTo w'61 w77 w'83 ∧ CW w'83 b82 0 fun _ ↦ CW w'83 b82 1 fun _ ↦ CW w'83 b82 2 fun _ ↦ ∀ w'88, Put w'83 b82 0 [.int .i64 n78, .int .i64 n79, .string s80] w'88 → (n81 ≠ 0 → (b51 = false → R (.returned (.bool false)) w'88) ∧ (b51 = true → I55 (IntKind.i64.wrap (n57 + 1)) w'88 ∧ M56 (IntKind.i64.wrap (n57 + 1)) w'88 < M56 n57 w'58)) ∧ (n81 = 0 → RI w'88 b82 0 fun n94 ↦ (n94 = 2 → RI w'88 b82 1 fun n96 ↦ 0 ≤ n96 ∧ (bits BinOp.and IntKind.i64 n39 (shlI IntKind.i64 1 n96.toNat) = 0 → R (.returned (.bool false)) w'88) ∧ (bits BinOp.and IntKind.i64 n39 (shlI IntKind.i64 1 n96.toNat) ≠ 0 → (shlI IntKind.i64 1 n96.toNat = 2 ∧ b51 = false → R (.returned (.bool false)) w'88) ∧ (shlI IntKind.i64 1 n96.toNat ≠ 2 ∨ b51 = true → I55 (IntKind.i64.wrap (n57 + 1)) w'88 ∧ M56 (IntKind.i64.wrap (n57 + 1)) w'88 < M56 n57 w'58))) ∧ (n94 ≠ 2 → (bits BinOp.and IntKind.i64 n39 4 = 0 → R (.returned (.bool false)) w'88) ∧ (bits BinOp.and IntKind.i64 n39 4 ≠ 0 → ((4 : Int) = 2 ∧ b51 = false → R (.returned (.bool false)) w'88) ∧ ((4 : Int) ≠ 2 ∨ b51 = true → I55 (IntKind.i64.wrap (n57 + 1)) w'88 ∧ M56 (IntKind.i64.wrap (n57 + 1)) w'88 < M56 n57 w'58))))) ∧ ∀ b106 w'107, New w'61 (Obj.cells #[.int .i64 0, .int .i64 0, .string ⟨#[]⟩] 25) b106 w'107 → SameTo w'61 w'61 w'107 ∧ Calls Tryd.prog 15
 #[.slice cols_p cols_n cols_c, .slice p65 n66 c67, .agg #[.int .i64 n68, .string s69, .int .i64 n70, .int .i64 n71, .string s72, .slice p73 n74 c75]]
 w'107 fun e109 w110 ↦
 ∃ n111, ∃ n112, ∃ s113, ∃ n114, e109 = .returned (.tuple #[.agg #[.int .i64 n111, .int .i64 n112, .string s113], .int .i64 n114]) ∧ CW w110 b106 0 fun _ ↦ CW w110 b106 1 fun _ ↦ CW w110 b106 2 fun _ ↦ ∀ w'118, Put w110 b106 0 [.int .i64 n111, .int .i64 n112, .string s113] w'118 → (n114 ≠ 0 → (b51 = false → R (.returned (.bool false)) w'118) ∧ (b51 = true → I55 (IntKind.i64.wrap (n57 + 1)) w'118 ∧ M56 (IntKind.i64.wrap (n57 + 1)) w'118 < M56 n57 w'58)) ∧ (n114 = 0 → RI w'118 b106 0 fun n124 ↦ (n124 = 2 → RI w'118 b106 1 fun n126 ↦ 0 ≤ n126 ∧ (bits BinOp.and IntKind.i64 n39 (shlI IntKind.i64 1 n126.toNat) = 0 → R (.returned (.bool false)) w'118) ∧ (bits BinOp.and IntKind.i64 n39 (shlI IntKind.i64 1 n126.toNat) ≠ 0 → (shlI IntKind.i64 1 n126.toNat = 2 ∧ b51 = false → R (.returned (.bool false)) w'118) ∧ (shlI IntKind.i64 1 n126.toNat ≠ 2 ∨ b51 = true → I55 (IntKind.i64.wrap (n57 + 1)) w'118 ∧ M56 (IntKind.i64.wrap (n57 + 1)) w'118 < M56 n57 w'58))) ∧ (n124 ≠ 2 → (bits BinOp.and IntKind.i64 n39 4 = 0 → R (.returned (.bool false)) w'118) ∧ (bits BinOp.and IntKind.i64 n39 4 ≠ 0 → ((4 : Int) = 2 ∧ b51 = false → R (.returned (.bool false)) w'118) ∧ ((4 : Int) ≠ 2 ∨ b51 = true → I55 (IntKind.i64.wrap (n57 + 1)) w'118 ∧ M56 (IntKind.i64.wrap (n57 + 1)) w'118 < M56 n57 w'58))))) ∧ ((↑(mmI false (↑rows_n : Int) 100).toNat : Int) ≤ n57 → R (.returned (.bool b6)) w'58)))

set_option maxRecDepth 100000 in
theorem lawSound_eq (cols_p : Option Addr) (cols_n : Nat) (cols_c : Nat) (rows_p : Option Addr) (rows_n : Nat) (rows_c : Nat) (x0 : Int) (x1 : ByteArray) (x2 : Int) (x3 : Int) (x4 : ByteArray) (x5_p : Option Addr) (x5_n : Nat) (x5_c : Nat) (w : World) (R : Ending → World → Prop) : lawSound_T cols_p cols_n cols_c rows_p rows_n rows_c x0 x1 x2 x3 x4 x5_p x5_n x5_c w R = vcFn Tryd.prog [] [(17, [2, 4, 6, 8, 10, 12, 1, 14, 16, 18, 20, 23, 24, 26, 0, 23, 14, 16, 18, 20, 24, 26, 0])] Tryd.f6 [.slice cols_p cols_n cols_c, .slice rows_p rows_n rows_c, Value.agg
 #[.int .i64 x0, .string x1, .int .i64 x2, .int .i64 x3, .string x4, .slice x5_p x5_n x5_c]] w R := by kernel_rfl

set_option maxRecDepth 100000 in
theorem lawSound_vc (cols_p : Option Addr) (cols_n : Nat) (cols_c : Nat) (rows_p : Option Addr) (rows_n : Nat) (rows_c : Nat) (x0 : Int) (x1 : ByteArray) (x2 : Int) (x3 : Int) (x4 : ByteArray) (x5_p : Option Addr) (x5_n : Nat) (x5_c : Nat) (w : World) (R : Ending → World → Prop) (h : lawSound_T cols_p cols_n cols_c rows_p rows_n rows_c x0 x1 x2 x3 x4 x5_p x5_n x5_c w R) : Calls Tryd.prog 6 #[.slice cols_p cols_n cols_c, .slice rows_p rows_n rows_c, Value.agg
 #[.int .i64 x0, .string x1, .int .i64 x2, .int .i64 x3, .string x4, .slice x5_p x5_n x5_c]] w R :=
  calls_of_vc (args := [.slice cols_p cols_n cols_c, .slice rows_p rows_n rows_c, Value.agg
 #[.int .i64 x0, .string x1, .int .i64 x2, .int .i64 x3, .string x4, .slice x5_p x5_n x5_c]]) [] [(17, [2, 4, 6, 8, 10, 12, 1, 14, 16, 18, 20, 23, 24, 26, 0, 23, 14, 16, 18, 20, 24, 26, 0])] Tryd.mixed Tryd.func6 (cast (lawSound_eq _ _ _ _ _ _ _ _ _ _ _ _ _ _ w R) h)

end Go.Proofs.YtpjafkcmbinjiaaDoor

/- The laws of prune: answers, and turned round. -/
namespace Go.Proofs.YtpjafkcmbinjiaaDoor
open Go Go.Vc Go.RowKit
set_option maxRecDepth 20000
attribute [local irreducible] Calls Put Drew New

def lessX (name : ByteArray) (n : Int) : Ex := .mk 10 ⟨#[]⟩ nullV [.mk 1 name nullV [], .mk 2 ⟨#[]⟩ (numV n) []]
theorem leaf_at {w : World} (op : Int) (name : ByteArray) (v : Val) : ExAt w (.mk op name v []) [.int .i64 op, .string name, .int .i64 v.k, .int .i64 v.n, .string v.s, .slice none 0 0] := by
  unfold ExAt
  exact ⟨none, 0, 0, [], rfl, ⟨Nat.le_refl _, Nat.zero_le _⟩, fun _ => ⟨rfl, rfl⟩, rfl, by simp, .inl rfl, by unfold ExsAt; trivial⟩
theorem lless_ok (name : ByteArray) (n : Int) (w : World) : Calls Tryd.prog 16 #[.string name, .int .i64 n] w fun e w' => ∃ cs, e = .returned (.agg cs.toArray) ∧ ExAt w' (lessX name n) cs ∧ Ext w w' := by
  apply lless_vc
  unfold lless_T
  intro b1 w2 h1 b4 w5 h4
  have H := ((Hold.start (Ext.rfl (w := w))).new h1).new h4
  have hne : b4 ≠ b1 := H.keys 0 1 _ _ rfl rfl (by decide)
  repeat (first
    | (intro _ _ hS; replace H := H.new hS; clear hS)
    | (intro _ hS; (first | replace H := H.put 0 rfl hS | replace H := H.put 1 rfl hS | replace H := H.put 2 rfl hS | replace H := H.put 3 rfl hS | replace H := H.put 4 rfl hS | replace H := H.put 5 rfl hS | replace H := H.put 6 rfl hS | replace H := H.put 7 rfl hS); clear hS; try simp only [setA, List.setIfInBounds_toArray, List.set_cons_zero, List.set_cons_succ, Nat.zero_add, Nat.reduceAdd] at H)
    | (intro _ hS; replace H := H.step (Drew.ext hS); clear hS)
    | (first | refine ⟨⟨_, H.get 0 rfl rfl⟩, ?_⟩ | refine ⟨⟨_, H.get 1 rfl rfl⟩, ?_⟩ | refine ⟨⟨_, H.get 2 rfl rfl⟩, ?_⟩ | refine ⟨⟨_, H.get 3 rfl rfl⟩, ?_⟩ | refine ⟨⟨_, H.get 4 rfl rfl⟩, ?_⟩ | refine ⟨⟨_, H.get 5 rfl rfl⟩, ?_⟩ | refine ⟨⟨_, H.get 6 rfl rfl⟩, ?_⟩ | refine ⟨⟨_, H.get 7 rfl rfl⟩, ?_⟩)
    | (first | refine ⟨H.frz 0 rfl, ?_⟩ | refine ⟨H.frz 1 rfl, ?_⟩ | refine ⟨H.frz 2 rfl, ?_⟩ | refine ⟨H.frz 3 rfl, ?_⟩ | refine ⟨H.frz 4 rfl, ?_⟩ | refine ⟨H.frz 5 rfl, ?_⟩ | refine ⟨H.frz 6 rfl, ?_⟩ | refine ⟨H.frz 7 rfl, ?_⟩)
    | (first | refine ⟨_, H.get 0 rfl rfl, ?_⟩ | refine ⟨_, H.get 1 rfl rfl, ?_⟩ | refine ⟨_, H.get 2 rfl rfl, ?_⟩ | refine ⟨_, H.get 3 rfl rfl, ?_⟩ | refine ⟨_, H.get 4 rfl rfl, ?_⟩ | refine ⟨_, H.get 5 rfl rfl, ?_⟩ | refine ⟨_, H.get 6 rfl rfl, ?_⟩ | refine ⟨_, H.get 7 rfl rfl, ?_⟩)
    | (first | refine ⟨_, _, _, H.get 0 rfl rfl, ?_⟩ | refine ⟨_, _, _, H.get 1 rfl rfl, ?_⟩ | refine ⟨_, _, _, H.get 2 rfl rfl, ?_⟩ | refine ⟨_, _, _, H.get 3 rfl rfl, ?_⟩ | refine ⟨_, _, _, H.get 4 rfl rfl, ?_⟩ | refine ⟨_, _, _, H.get 5 rfl rfl, ?_⟩ | refine ⟨_, _, _, H.get 6 rfl rfl, ?_⟩ | refine ⟨_, _, _, H.get 7 rfl rfl, ?_⟩))
  refine ⟨[.int .i64 10, .string ⟨#[]⟩, .int .i64 0, .int .i64 0, .string ⟨#[]⟩, .slice (some ⟨b4, 0, none⟩) 2 2], rfl, ?_, H.ext⟩
  have hB := H.blk 0 rfl
  unfold lessX ExAt
  refine ⟨some ⟨b4, 0, none⟩, 2, 2, [[.int .i64 1, .string name, .int .i64 0, .int .i64 0, .string ⟨#[]⟩, .slice none 0 0], [.int .i64 2, .string ⟨#[]⟩, .int .i64 1, .int .i64 n, .string ⟨#[]⟩, .slice none 0 0]], rfl, ⟨Nat.le_refl _, by decide⟩, fun h => (by cases h), rfl, ?_, hB.at, ?_⟩
  · intro x hx
    simp only [List.mem_cons, List.not_mem_nil, or_false] at hx
    rcases hx with rfl | rfl <;> rfl
  · unfold ExsAt
    refine ⟨leaf_at 1 name nullV, ?_⟩
    unfold ExsAt
    exact ⟨leaf_at 2 ⟨#[]⟩ (numV n), by unfold ExsAt; trivial⟩
def shownC : List Col := [⟨⟨#[97]⟩, 1, false⟩]
def shownZ : List Zn := [⟨0, numV 5, numV 9⟩]
theorem shown_a : answersF shownC shownZ 3 (lessX ⟨#[97]⟩ 5) = (1, 0) := by decide +kernel
theorem shown_b : answersF shownC shownZ 3 (lessX ⟨#[97]⟩ 6) = (3, 0) := by decide +kernel
theorem shown16_ok {w : World} (hT : Tab w) : Calls Tryd.prog 7 #[] w fun e w' => e = .returned (.bool true) ∧ Ext w w' := by
  apply shown16_vc
  unfold shown16_T
  intro b1 w2 h1 b4 w5 h4
  have H := ((Hold.start (Ext.rfl (w := w))).new h1).new h4
  have cols : ∀ {W : World} {o : Obj} , Hold w W [(b4, o), (b1, .cells #[.string ⟨#[97]⟩, .int .i64 1, .bool false] 48 (0, 0))] [] → Cols W (some ⟨b1, 0, none⟩) 1 1 shownC := fun H => ⟨rfl, ⟨Nat.le_refl _, by decide⟩, (H.blk 1 rfl).at, fun h => by cases h⟩
  have zones : ∀ {W : World} {o : Nat × Obj}, Hold w W [(b4, .cells #[.int .i64 0, .int .i64 1, .int .i64 5, .string ⟨#[]⟩, .int .i64 1, .int .i64 9, .string ⟨#[]⟩] 50 (0, 0)), o] [] → Zns W (some ⟨b4, 0, none⟩) 1 1 shownZ := fun H => ⟨rfl, ⟨Nat.le_refl _, by decide⟩, (H.blk 0 rfl).at, fun h => by cases h⟩
  refine (lless_ok _ _ _).mono ?_
  rintro e W ⟨cs, rfl, x1, eX⟩
  replace H := H.step eX
  obtain ⟨p1, n1, c1, rfl, _⟩ := x1.six
  refine ⟨_, _, _, _, _, _, _, _, rfl, (pAnswers_ok (m := 3) _ (hT.ext H.ext) (cols H) (zones H) x1).mono ?_⟩
  rintro e W ⟨rfl, eX⟩
  replace H := H.step eX
  refine ⟨_, _, rfl, (lless_ok _ _ _).mono ?_⟩
  rintro e W ⟨cs, rfl, x2, eX⟩
  replace H := H.step eX
  obtain ⟨p2, n2, c2, rfl, _⟩ := x2.six
  refine ⟨_, _, _, _, _, _, _, _, rfl, (pAnswers_ok (m := 3) _ (hT.ext H.ext) (cols H) (zones H) x2).mono ?_⟩
  rintro e W ⟨rfl, eX⟩
  replace H := H.step eX
  refine ⟨_, _, rfl, ?_, H.ext⟩
  rw [shown_a, shown_b]; rfl

end Go.Proofs.YtpjafkcmbinjiaaDoor

/- The contracts of zones of rows: the document's Column, Zone; the law's zonesOf. -/
namespace Go.Proofs.YtpjafkcmbinjiaaDoor
open Go Go.Vc Go.RowKit
set_option maxRecDepth 20000
attribute [local irreducible] Calls Put Drew New

theorem tyVal : tyOf Tryd.prog 25 = some { agg := true, ls := [.int .i64, .int .i64, .str], zero := .agg #[.int .i64 0, .int .i64 0, .string ⟨#[]⟩], bytes := 32, big := false, n := 3 } := by kernel_rfl
theorem undVals : Tryd.prog.underlying 31 = some (.slice 25) := by kernel_rfl
theorem tyZone : tyOf Tryd.prog 50 = some { agg := true, ls := [.int .i64, .int .i64, .int .i64, .str, .int .i64, .int .i64, .str], zero := .agg #[.int .i64 0, .int .i64 0, .int .i64 0, .string ⟨#[]⟩, .int .i64 0, .int .i64 0, .string ⟨#[]⟩], bytes := 72, big := false, n := 7 } := by kernel_rfl
theorem undZones : Tryd.prog.underlying 33 = some (.slice 50) := by kernel_rfl
theorem Zn.cs_one (z : Zn) : ∀ u ∈ z.cs, u.oneCell' = true := by
  intro u hu
  simp only [Zn.cs, List.mem_cons, List.not_mem_nil, or_false] at hu
  rcases hu with rfl | rfl | rfl | rfl | rfl | rfl | rfl <;> rfl
theorem colOf_take {L : List (List Val)} {ci j : Nat} {r : List Val} {v : Val} (hr : L[j]? = some r) (hv : r[ci]? = some v) : colOf (L.take (j + 1)) ci = colOf (L.take j) ci ++ [v] := by
  unfold colOf
  rw [List.take_add_one, hr, List.map_append]
  simp [hv]
theorem rcolumn_ok {L : List (List Val)} {hs : List Sl} {w : World} {p : Option Addr} {n c ci : Nat} (hR : Rws w p n c hs L) (hci : ∀ r ∈ L, ci < r.length) (hn : n ≤ 1024) :
    Calls Tryd.prog 20 #[.slice p n c, .int .i64 (ci : Int)] w fun e w' => ∃ (q : Option Addr) (k d : Nat), e = .returned (.slice q k d) ∧ Vs w' q k d (colOf L ci) ∧ Ext w w' := by
  apply qcolumn_vc
  unfold qcolumn_T
  have hlen := hR.len
  refine ⟨fun q k d i W => ∃ j : Nat, i = (j : Int) ∧ j ≤ n ∧ k = j ∧ Hold w W [] [⟨25, 3, q, k, d, (colOf (L.take j) ci).flatMap Val.cs⟩], fun _ _ _ i _ => n - i.toNat, ⟨0, rfl, Nat.zero_le _, rfl, (Hold.start Ext.rfl).nilRow _ _⟩, ?_⟩
  rintro q j d i W ⟨_, rfl, hj, rfl, H⟩
  refine ⟨fun hlt => ?_, fun hge => ?_⟩
  · have g : L[j]? = some (L[j]'(by omega)) := List.getElem?_eq_getElem _
    generalize L[j]'(by omega) = r at g
    have hcr := hci r (List.mem_of_getElem? g)
    have gv : r[ci]? = some (r[ci]'hcr) := List.getElem?_eq_getElem _
    generalize r[ci]'hcr = v at gv
    obtain ⟨x, hx, hvs, b, o, hp, hcell⟩ := (hR.ext H.ext).get g
    obtain ⟨vb, vo, hvp, c0, c1, c2⟩ := hvs.val gv
    have hvl := hvs.len
    simp only [Int.toNat_natCast]
    refine ⟨b, o, hp, by omega, hlt, _, _, _, hcell, vb, vo, hvp, by omega, by omega, _, c0, _, c1, _, c2, ?_⟩
    intro b20 w21 h20
    have h20' := h20
    replace H := H.step h20.ext
    obtain ⟨p', c', w26, hrn, H26⟩ := H.append (ty := 31) (P := Tryd.prog) (q := some ⟨b20, 0, none⟩) (m := 1) (d' := 1) (news := v.cs) 0 rfl undVals tyVal rfl (by decide) (Blk.new h20').at rfl (fun e => by cases e) v.cs_one (by dsimp only; omega) (by unfold maxLen; omega)
    refine ⟨p', _, c', w26, hrn, ?_⟩
    rw [i64_next (by omega)]
    refine ⟨⟨j + 1, rfl, by omega, rfl, ?_⟩, by simp only [Int.toNat_natCast]; omega⟩
    rw [colOf_take g gv, List.flatMap_append]
    simpa using H26
  · have hjn : j = n := by omega
    subst hjn
    rw [List.take_of_length_le (by omega)] at H
    exact ⟨q, j, d, rfl, (H.row 0 rfl).ls Val.cs_length (by decide), H.ext⟩

theorem zs_ok {l : List Val} (hok : ∀ u ∈ l, u.Ok) (j : Nat) : (zoneS (l.take j)).1.lo.Ok ∧ (zoneS (l.take j)).1.hi.Ok := by
  obtain ⟨_, _, h3, h4⟩ := zoneS_spec (l.take j)
  cases hs : (zoneS (l.take j)).2 with
  | true => rw [(h3 hs).1, (h3 hs).2]; exact ⟨null_ok, null_ok⟩
  | false =>
    obtain ⟨a, b, _⟩ := h4 hs
    exact ⟨hok _ (List.mem_of_mem_take a.1), hok _ (List.mem_of_mem_take b.1)⟩
theorem zs_nulls (l : List Val) (j : Nat) : 0 ≤ (zoneS (l.take j)).1.nulls ∧ (zoneS (l.take j)).1.nulls ≤ l.length := by
  obtain ⟨h1, _⟩ := zoneS_spec (l.take j)
  have := nullsN_le (l.take j)
  rw [List.length_take] at this
  omega
set_option maxHeartbeats 4000000 in
theorem rzone_ok {l : List Val} {w : World} {p : Option Addr} {n c : Nat} (h : Vs w p n c l) (hn : n ≤ 1024) (hok : ∀ u ∈ l, u.Ok) :
    Calls Tryd.prog 19 #[.slice p n c] w fun e w' => e = .returned (.tuple #[.agg (zoneF l).cs.toArray, .int .i64 0]) ∧ Ext w w' := by
  have hlen := h.len
  apply qzone_vc
  unfold qzone_T
  intro b1 w2 h1
  have H := (Hold.start (Ext.rfl (w := w))).new h1
  refine ⟨fun hb => by omega, fun _ => ?_⟩
  intro b22 w23 h22
  replace H := H.new h22
  let F : Zn → List (Nat × Obj) := fun z => [(b22, .cells #[.int .i64 z.nulls, .int .i64 z.lo.k, .int .i64 z.lo.n, .string z.lo.s, .int .i64 z.hi.k, .int .i64 z.hi.n, .string z.hi.s] 50 (0, 0)), (b1, .cells #[.int .i64 0, .int .i64 0, .int .i64 0, .string ⟨#[]⟩, .int .i64 0, .int .i64 0, .string ⟨#[]⟩] 50 (0, 0))]
  refine ⟨fun f i W => ∃ j : Nat, i = (j : Int) ∧ j ≤ n ∧ f = (zoneS (l.take j)).2 ∧ Hold w W (F (zoneS (l.take j)).1) [], fun _ i _ => n - i.toNat, ⟨0, rfl, Nat.zero_le _, rfl, H⟩, ?_⟩
  rintro f i W ⟨j, rfl, hj, rfl, H⟩
  refine ⟨fun hlt => ?_, fun hge => ?_⟩
  · have g : l[j]? = some (l[j]'(by omega)) := List.getElem?_eq_getElem _
    generalize l[j]'(by omega) = v at g
    have hv : v.Ok := hok v (List.mem_of_getElem? g)
    have hz := zs_ok hok j
    have hnl := zs_nulls l j
    have hst := zoneS_take g
    have e1 : rcmpV v (zoneS (l.take j)).1.lo = cmpV v (zoneS (l.take j)).1.lo := rcmpV_eq hv hz.1
    have e2 : rcmpV v (zoneS (l.take j)).1.hi = cmpV v (zoneS (l.take j)).1.hi := rcmpV_eq hv hz.2
    rw [i64_next (by omega)]
    simp only [Int.toNat_natCast]
    have M : (n - ((j + 1 : Nat) : Int).toNat) < n - ((j : Nat) : Int).toNat := by simp only [Int.toNat_natCast]; omega
    have cells : ∀ {W' : World}, Ext w W' → ∃ b o, p = some ⟨b, o, none⟩ ∧ W'.cell? ⟨b, o + j * 3, none⟩ = some (.int .i64 v.k) ∧ W'.cell? ⟨b, o + j * 3 + 1, none⟩ = some (.int .i64 v.n) ∧ W'.cell? ⟨b, o + j * 3 + 2, none⟩ = some (.string v.s) := fun e => (h.ext e).val g
    obtain ⟨b, o, hp, c0, c1, c2⟩ := cells H.ext
    refine ⟨b, o, hp, by omega, hlt, _, c0, _, c1, _, c2, (rvright_ok v _).mono ?_⟩
    rintro e W1 ⟨rfl, eX⟩
    replace H := H.step eX
    refine ⟨_, rfl, fun hf => ?_, fun _ => ?_⟩
    · exfalso
      unfold Val.right at hf
      rw [decide_eq_false_iff_not] at hf
      exact hf hv
    obtain ⟨b, o, hp, c0, c1, c2⟩ := cells H.ext
    refine ⟨b, o, hp, by omega, hlt, _, c0, fun hk => ?_, fun hk => ?_⟩
    · repeat (first
        | (intro _ _ hS; replace H := H.new hS; clear hS)
        | (intro _ hS; (first | replace H := H.put 0 rfl hS | replace H := H.put 1 rfl hS | replace H := H.put 2 rfl hS | replace H := H.put 3 rfl hS | replace H := H.put 4 rfl hS | replace H := H.put 5 rfl hS | replace H := H.put 6 rfl hS | replace H := H.put 7 rfl hS); clear hS; try simp only [setA, List.setIfInBounds_toArray, List.set_cons_zero, List.set_cons_succ, Nat.zero_add, Nat.reduceAdd] at H)
        | (intro _ hS; replace H := H.step (Drew.ext hS); clear hS)
        | (first | refine ⟨⟨_, H.get 0 rfl rfl⟩, ?_⟩ | refine ⟨⟨_, H.get 1 rfl rfl⟩, ?_⟩ | refine ⟨⟨_, H.get 2 rfl rfl⟩, ?_⟩ | refine ⟨⟨_, H.get 3 rfl rfl⟩, ?_⟩ | refine ⟨⟨_, H.get 4 rfl rfl⟩, ?_⟩ | refine ⟨⟨_, H.get 5 rfl rfl⟩, ?_⟩ | refine ⟨⟨_, H.get 6 rfl rfl⟩, ?_⟩ | refine ⟨⟨_, H.get 7 rfl rfl⟩, ?_⟩)
        | (first | refine ⟨H.frz 0 rfl, ?_⟩ | refine ⟨H.frz 1 rfl, ?_⟩ | refine ⟨H.frz 2 rfl, ?_⟩ | refine ⟨H.frz 3 rfl, ?_⟩ | refine ⟨H.frz 4 rfl, ?_⟩ | refine ⟨H.frz 5 rfl, ?_⟩ | refine ⟨H.frz 6 rfl, ?_⟩ | refine ⟨H.frz 7 rfl, ?_⟩)
        | (first | refine ⟨_, H.get 0 rfl rfl, ?_⟩ | refine ⟨_, H.get 1 rfl rfl, ?_⟩ | refine ⟨_, H.get 2 rfl rfl, ?_⟩ | refine ⟨_, H.get 3 rfl rfl, ?_⟩ | refine ⟨_, H.get 4 rfl rfl, ?_⟩ | refine ⟨_, H.get 5 rfl rfl, ?_⟩ | refine ⟨_, H.get 6 rfl rfl, ?_⟩ | refine ⟨_, H.get 7 rfl rfl, ?_⟩)
        | (first | refine ⟨_, _, _, H.get 0 rfl rfl, ?_⟩ | refine ⟨_, _, _, H.get 1 rfl rfl, ?_⟩ | refine ⟨_, _, _, H.get 2 rfl rfl, ?_⟩ | refine ⟨_, _, _, H.get 3 rfl rfl, ?_⟩ | refine ⟨_, _, _, H.get 4 rfl rfl, ?_⟩ | refine ⟨_, _, _, H.get 5 rfl rfl, ?_⟩ | refine ⟨_, _, _, H.get 6 rfl rfl, ?_⟩ | refine ⟨_, _, _, H.get 7 rfl rfl, ?_⟩))
      rw [i64_fit (n := (zoneS (l.take j)).1.nulls + 1) (by omega) (by omega)] at H
      refine ⟨⟨j + 1, rfl, by omega, ?_, ?_⟩, M⟩
      · rw [hst]; unfold zstep; rw [if_pos hk]
      · rw [hst]; unfold zstep; rw [if_pos hk]; exact H
    · intro w67 hD
      replace H := H.step (Drew.ext hD)
      obtain ⟨b, o, hp, c0, c1, c2⟩ := cells H.ext
      refine ⟨b, o, hp, by omega, hlt, _, c0, _, c1, _, c2, ?_⟩
      repeat (first
        | (intro _ _ hS; replace H := H.new hS; clear hS)
        | (intro _ hS; (first | replace H := H.put 0 rfl hS | replace H := H.put 1 rfl hS | replace H := H.put 2 rfl hS | replace H := H.put 3 rfl hS | replace H := H.put 4 rfl hS | replace H := H.put 5 rfl hS | replace H := H.put 6 rfl hS | replace H := H.put 7 rfl hS); clear hS; try simp only [setA, List.setIfInBounds_toArray, List.set_cons_zero, List.set_cons_succ, Nat.zero_add, Nat.reduceAdd] at H)
        | (intro _ hS; replace H := H.step (Drew.ext hS); clear hS)
        | (first | refine ⟨⟨_, H.get 0 rfl rfl⟩, ?_⟩ | refine ⟨⟨_, H.get 1 rfl rfl⟩, ?_⟩ | refine ⟨⟨_, H.get 2 rfl rfl⟩, ?_⟩ | refine ⟨⟨_, H.get 3 rfl rfl⟩, ?_⟩ | refine ⟨⟨_, H.get 4 rfl rfl⟩, ?_⟩ | refine ⟨⟨_, H.get 5 rfl rfl⟩, ?_⟩ | refine ⟨⟨_, H.get 6 rfl rfl⟩, ?_⟩ | refine ⟨⟨_, H.get 7 rfl rfl⟩, ?_⟩)
        | (first | refine ⟨H.frz 0 rfl, ?_⟩ | refine ⟨H.frz 1 rfl, ?_⟩ | refine ⟨H.frz 2 rfl, ?_⟩ | refine ⟨H.frz 3 rfl, ?_⟩ | refine ⟨H.frz 4 rfl, ?_⟩ | refine ⟨H.frz 5 rfl, ?_⟩ | refine ⟨H.frz 6 rfl, ?_⟩ | refine ⟨H.frz 7 rfl, ?_⟩)
        | (first | refine ⟨_, H.get 0 rfl rfl, ?_⟩ | refine ⟨_, H.get 1 rfl rfl, ?_⟩ | refine ⟨_, H.get 2 rfl rfl, ?_⟩ | refine ⟨_, H.get 3 rfl rfl, ?_⟩ | refine ⟨_, H.get 4 rfl rfl, ?_⟩ | refine ⟨_, H.get 5 rfl rfl, ?_⟩ | refine ⟨_, H.get 6 rfl rfl, ?_⟩ | refine ⟨_, H.get 7 rfl rfl, ?_⟩)
        | (first | refine ⟨_, _, _, H.get 0 rfl rfl, ?_⟩ | refine ⟨_, _, _, H.get 1 rfl rfl, ?_⟩ | refine ⟨_, _, _, H.get 2 rfl rfl, ?_⟩ | refine ⟨_, _, _, H.get 3 rfl rfl, ?_⟩ | refine ⟨_, _, _, H.get 4 rfl rfl, ?_⟩ | refine ⟨_, _, _, H.get 5 rfl rfl, ?_⟩ | refine ⟨_, _, _, H.get 6 rfl rfl, ?_⟩ | refine ⟨_, _, _, H.get 7 rfl rfl, ?_⟩))
      refine (rvcompare_ok v (zoneS (l.take j)).1.lo _).mono ?_
      rintro e W2 ⟨rfl, eX⟩
      replace H := H.step eX
      refine ⟨_, rfl, ?_⟩
      intro w80 hD
      replace H := H.step (Drew.ext hD)
      obtain ⟨b, o, hp, c0, c1, c2⟩ := cells H.ext
      refine ⟨b, o, hp, by omega, hlt, _, c0, _, c1, _, c2, ?_⟩
      repeat (first
        | (intro _ _ hS; replace H := H.new hS; clear hS)
        | (intro _ hS; (first | replace H := H.put 0 rfl hS | replace H := H.put 1 rfl hS | replace H := H.put 2 rfl hS | replace H := H.put 3 rfl hS | replace H := H.put 4 rfl hS | replace H := H.put 5 rfl hS | replace H := H.put 6 rfl hS | replace H := H.put 7 rfl hS); clear hS; try simp only [setA, List.setIfInBounds_toArray, List.set_cons_zero, List.set_cons_succ, Nat.zero_add, Nat.reduceAdd] at H)
        | (intro _ hS; replace H := H.step (Drew.ext hS); clear hS)
        | (first | refine ⟨⟨_, H.get 0 rfl rfl⟩, ?_⟩ | refine ⟨⟨_, H.get 1 rfl rfl⟩, ?_⟩ | refine ⟨⟨_, H.get 2 rfl rfl⟩, ?_⟩ | refine ⟨⟨_, H.get 3 rfl rfl⟩, ?_⟩ | refine ⟨⟨_, H.get 4 rfl rfl⟩, ?_⟩ | refine ⟨⟨_, H.get 5 rfl rfl⟩, ?_⟩ | refine ⟨⟨_, H.get 6 rfl rfl⟩, ?_⟩ | refine ⟨⟨_, H.get 7 rfl rfl⟩, ?_⟩)
        | (first | refine ⟨H.frz 0 rfl, ?_⟩ | refine ⟨H.frz 1 rfl, ?_⟩ | refine ⟨H.frz 2 rfl, ?_⟩ | refine ⟨H.frz 3 rfl, ?_⟩ | refine ⟨H.frz 4 rfl, ?_⟩ | refine ⟨H.frz 5 rfl, ?_⟩ | refine ⟨H.frz 6 rfl, ?_⟩ | refine ⟨H.frz 7 rfl, ?_⟩)
        | (first | refine ⟨_, H.get 0 rfl rfl, ?_⟩ | refine ⟨_, H.get 1 rfl rfl, ?_⟩ | refine ⟨_, H.get 2 rfl rfl, ?_⟩ | refine ⟨_, H.get 3 rfl rfl, ?_⟩ | refine ⟨_, H.get 4 rfl rfl, ?_⟩ | refine ⟨_, H.get 5 rfl rfl, ?_⟩ | refine ⟨_, H.get 6 rfl rfl, ?_⟩ | refine ⟨_, H.get 7 rfl rfl, ?_⟩)
        | (first | refine ⟨_, _, _, H.get 0 rfl rfl, ?_⟩ | refine ⟨_, _, _, H.get 1 rfl rfl, ?_⟩ | refine ⟨_, _, _, H.get 2 rfl rfl, ?_⟩ | refine ⟨_, _, _, H.get 3 rfl rfl, ?_⟩ | refine ⟨_, _, _, H.get 4 rfl rfl, ?_⟩ | refine ⟨_, _, _, H.get 5 rfl rfl, ?_⟩ | refine ⟨_, _, _, H.get 6 rfl rfl, ?_⟩ | refine ⟨_, _, _, H.get 7 rfl rfl, ?_⟩))
      refine (rvcompare_ok v (zoneS (l.take j)).1.hi _).mono ?_
      rintro e W3 ⟨rfl, eX⟩
      replace H := H.step eX
      refine ⟨_, rfl, ?_⟩
      rw [e1, e2]
      have hstep : zoneS (l.take (j + 1)) = (⟨(zoneS (l.take j)).1.nulls, if (zoneS (l.take j)).2 = true ∨ cmpV v (zoneS (l.take j)).1.lo < 0 then v else (zoneS (l.take j)).1.lo, if (zoneS (l.take j)).2 = true ∨ 0 < cmpV v (zoneS (l.take j)).1.hi then v else (zoneS (l.take j)).1.hi⟩, false) := by
        rw [hst]; unfold zstep; rw [if_neg hk]
      refine ⟨fun hlo => ?_, fun hlo => ?_⟩
      · obtain ⟨b, o, hp, c0, c1, c2⟩ := cells H.ext
        refine ⟨b, o, hp, by omega, hlt, _, c0, _, c1, _, c2, ?_⟩
        repeat (first
          | (intro _ _ hS; replace H := H.new hS; clear hS)
          | (intro _ hS; (first | replace H := H.put 0 rfl hS | replace H := H.put 1 rfl hS | replace H := H.put 2 rfl hS | replace H := H.put 3 rfl hS | replace H := H.put 4 rfl hS | replace H := H.put 5 rfl hS | replace H := H.put 6 rfl hS | replace H := H.put 7 rfl hS); clear hS; try simp only [setA, List.setIfInBounds_toArray, List.set_cons_zero, List.set_cons_succ, Nat.zero_add, Nat.reduceAdd] at H)
          | (intro _ hS; replace H := H.step (Drew.ext hS); clear hS)
          | (first | refine ⟨⟨_, H.get 0 rfl rfl⟩, ?_⟩ | refine ⟨⟨_, H.get 1 rfl rfl⟩, ?_⟩ | refine ⟨⟨_, H.get 2 rfl rfl⟩, ?_⟩ | refine ⟨⟨_, H.get 3 rfl rfl⟩, ?_⟩ | refine ⟨⟨_, H.get 4 rfl rfl⟩, ?_⟩ | refine ⟨⟨_, H.get 5 rfl rfl⟩, ?_⟩ | refine ⟨⟨_, H.get 6 rfl rfl⟩, ?_⟩ | refine ⟨⟨_, H.get 7 rfl rfl⟩, ?_⟩)
          | (first | refine ⟨H.frz 0 rfl, ?_⟩ | refine ⟨H.frz 1 rfl, ?_⟩ | refine ⟨H.frz 2 rfl, ?_⟩ | refine ⟨H.frz 3 rfl, ?_⟩ | refine ⟨H.frz 4 rfl, ?_⟩ | refine ⟨H.frz 5 rfl, ?_⟩ | refine ⟨H.frz 6 rfl, ?_⟩ | refine ⟨H.frz 7 rfl, ?_⟩)
          | (first | refine ⟨_, H.get 0 rfl rfl, ?_⟩ | refine ⟨_, H.get 1 rfl rfl, ?_⟩ | refine ⟨_, H.get 2 rfl rfl, ?_⟩ | refine ⟨_, H.get 3 rfl rfl, ?_⟩ | refine ⟨_, H.get 4 rfl rfl, ?_⟩ | refine ⟨_, H.get 5 rfl rfl, ?_⟩ | refine ⟨_, H.get 6 rfl rfl, ?_⟩ | refine ⟨_, H.get 7 rfl rfl, ?_⟩)
          | (first | refine ⟨_, _, _, H.get 0 rfl rfl, ?_⟩ | refine ⟨_, _, _, H.get 1 rfl rfl, ?_⟩ | refine ⟨_, _, _, H.get 2 rfl rfl, ?_⟩ | refine ⟨_, _, _, H.get 3 rfl rfl, ?_⟩ | refine ⟨_, _, _, H.get 4 rfl rfl, ?_⟩ | refine ⟨_, _, _, H.get 5 rfl rfl, ?_⟩ | refine ⟨_, _, _, H.get 6 rfl rfl, ?_⟩ | refine ⟨_, _, _, H.get 7 rfl rfl, ?_⟩))
        refine ⟨fun hhi => ?_, fun hhi => ?_⟩
        · obtain ⟨b, o, hp, c0, c1, c2⟩ := cells H.ext
          refine ⟨b, o, hp, by omega, hlt, _, c0, _, c1, _, c2, ?_⟩
          repeat (first
            | (intro _ _ hS; replace H := H.new hS; clear hS)
            | (intro _ hS; (first | replace H := H.put 0 rfl hS | replace H := H.put 1 rfl hS | replace H := H.put 2 rfl hS | replace H := H.put 3 rfl hS | replace H := H.put 4 rfl hS | replace H := H.put 5 rfl hS | replace H := H.put 6 rfl hS | replace H := H.put 7 rfl hS); clear hS; try simp only [setA, List.setIfInBounds_toArray, List.set_cons_zero, List.set_cons_succ, Nat.zero_add, Nat.reduceAdd] at H)
            | (intro _ hS; replace H := H.step (Drew.ext hS); clear hS)
            | (first | refine ⟨⟨_, H.get 0 rfl rfl⟩, ?_⟩ | refine ⟨⟨_, H.get 1 rfl rfl⟩, ?_⟩ | refine ⟨⟨_, H.get 2 rfl rfl⟩, ?_⟩ | refine ⟨⟨_, H.get 3 rfl rfl⟩, ?_⟩ | refine ⟨⟨_, H.get 4 rfl rfl⟩, ?_⟩ | refine ⟨⟨_, H.get 5 rfl rfl⟩, ?_⟩ | refine ⟨⟨_, H.get 6 rfl rfl⟩, ?_⟩ | refine ⟨⟨_, H.get 7 rfl rfl⟩, ?_⟩)
            | (first | refine ⟨H.frz 0 rfl, ?_⟩ | refine ⟨H.frz 1 rfl, ?_⟩ | refine ⟨H.frz 2 rfl, ?_⟩ | refine ⟨H.frz 3 rfl, ?_⟩ | refine ⟨H.frz 4 rfl, ?_⟩ | refine ⟨H.frz 5 rfl, ?_⟩ | refine ⟨H.frz 6 rfl, ?_⟩ | refine ⟨H.frz 7 rfl, ?_⟩)
            | (first | refine ⟨_, H.get 0 rfl rfl, ?_⟩ | refine ⟨_, H.get 1 rfl rfl, ?_⟩ | refine ⟨_, H.get 2 rfl rfl, ?_⟩ | refine ⟨_, H.get 3 rfl rfl, ?_⟩ | refine ⟨_, H.get 4 rfl rfl, ?_⟩ | refine ⟨_, H.get 5 rfl rfl, ?_⟩ | refine ⟨_, H.get 6 rfl rfl, ?_⟩ | refine ⟨_, H.get 7 rfl rfl, ?_⟩)
            | (first | refine ⟨_, _, _, H.get 0 rfl rfl, ?_⟩ | refine ⟨_, _, _, H.get 1 rfl rfl, ?_⟩ | refine ⟨_, _, _, H.get 2 rfl rfl, ?_⟩ | refine ⟨_, _, _, H.get 3 rfl rfl, ?_⟩ | refine ⟨_, _, _, H.get 4 rfl rfl, ?_⟩ | refine ⟨_, _, _, H.get 5 rfl rfl, ?_⟩ | refine ⟨_, _, _, H.get 6 rfl rfl, ?_⟩ | refine ⟨_, _, _, H.get 7 rfl rfl, ?_⟩))
          refine ⟨⟨j + 1, rfl, by omega, by rw [hstep], ?_⟩, M⟩
          rw [hstep, if_pos hlo, if_pos hhi]; exact H
        · refine ⟨⟨j + 1, rfl, by omega, by rw [hstep], ?_⟩, M⟩
          rw [hstep, if_pos hlo, if_neg (by rintro (q | q); rw [hhi.1] at q; cases q; omega)]; exact H
      · refine ⟨fun hhi => ?_, fun hhi => ?_⟩
        · obtain ⟨b, o, hp, c0, c1, c2⟩ := cells H.ext
          refine ⟨b, o, hp, by omega, hlt, _, c0, _, c1, _, c2, ?_⟩
          repeat (first
            | (intro _ _ hS; replace H := H.new hS; clear hS)
            | (intro _ hS; (first | replace H := H.put 0 rfl hS | replace H := H.put 1 rfl hS | replace H := H.put 2 rfl hS | replace H := H.put 3 rfl hS | replace H := H.put 4 rfl hS | replace H := H.put 5 rfl hS | replace H := H.put 6 rfl hS | replace H := H.put 7 rfl hS); clear hS; try simp only [setA, List.setIfInBounds_toArray, List.set_cons_zero, List.set_cons_succ, Nat.zero_add, Nat.reduceAdd] at H)
            | (intro _ hS; replace H := H.step (Drew.ext hS); clear hS)
            | (first | refine ⟨⟨_, H.get 0 rfl rfl⟩, ?_⟩ | refine ⟨⟨_, H.get 1 rfl rfl⟩, ?_⟩ | refine ⟨⟨_, H.get 2 rfl rfl⟩, ?_⟩ | refine ⟨⟨_, H.get 3 rfl rfl⟩, ?_⟩ | refine ⟨⟨_, H.get 4 rfl rfl⟩, ?_⟩ | refine ⟨⟨_, H.get 5 rfl rfl⟩, ?_⟩ | refine ⟨⟨_, H.get 6 rfl rfl⟩, ?_⟩ | refine ⟨⟨_, H.get 7 rfl rfl⟩, ?_⟩)
            | (first | refine ⟨H.frz 0 rfl, ?_⟩ | refine ⟨H.frz 1 rfl, ?_⟩ | refine ⟨H.frz 2 rfl, ?_⟩ | refine ⟨H.frz 3 rfl, ?_⟩ | refine ⟨H.frz 4 rfl, ?_⟩ | refine ⟨H.frz 5 rfl, ?_⟩ | refine ⟨H.frz 6 rfl, ?_⟩ | refine ⟨H.frz 7 rfl, ?_⟩)
            | (first | refine ⟨_, H.get 0 rfl rfl, ?_⟩ | refine ⟨_, H.get 1 rfl rfl, ?_⟩ | refine ⟨_, H.get 2 rfl rfl, ?_⟩ | refine ⟨_, H.get 3 rfl rfl, ?_⟩ | refine ⟨_, H.get 4 rfl rfl, ?_⟩ | refine ⟨_, H.get 5 rfl rfl, ?_⟩ | refine ⟨_, H.get 6 rfl rfl, ?_⟩ | refine ⟨_, H.get 7 rfl rfl, ?_⟩)
            | (first | refine ⟨_, _, _, H.get 0 rfl rfl, ?_⟩ | refine ⟨_, _, _, H.get 1 rfl rfl, ?_⟩ | refine ⟨_, _, _, H.get 2 rfl rfl, ?_⟩ | refine ⟨_, _, _, H.get 3 rfl rfl, ?_⟩ | refine ⟨_, _, _, H.get 4 rfl rfl, ?_⟩ | refine ⟨_, _, _, H.get 5 rfl rfl, ?_⟩ | refine ⟨_, _, _, H.get 6 rfl rfl, ?_⟩ | refine ⟨_, _, _, H.get 7 rfl rfl, ?_⟩))
          refine ⟨⟨j + 1, rfl, by omega, by rw [hstep], ?_⟩, M⟩
          rw [hstep, if_neg (by rintro (q | q); rw [hlo.1] at q; cases q; omega), if_pos hhi]; exact H
        · refine ⟨⟨j + 1, rfl, by omega, by rw [hstep], ?_⟩, M⟩
          rw [hstep, if_neg (by rintro (q | q); rw [hlo.1] at q; cases q; omega), if_neg (by rintro (q | q); rw [hhi.1] at q; cases q; omega)]; exact H
  · have hjn : j = n := by omega
    subst hjn
    rw [List.take_of_length_le (by omega)] at H
    repeat (first
      | (intro _ _ hS; replace H := H.new hS; clear hS)
      | (intro _ hS; (first | replace H := H.put 0 rfl hS | replace H := H.put 1 rfl hS | replace H := H.put 2 rfl hS | replace H := H.put 3 rfl hS | replace H := H.put 4 rfl hS | replace H := H.put 5 rfl hS | replace H := H.put 6 rfl hS | replace H := H.put 7 rfl hS); clear hS; try simp only [setA, List.setIfInBounds_toArray, List.set_cons_zero, List.set_cons_succ, Nat.zero_add, Nat.reduceAdd] at H)
      | (intro _ hS; replace H := H.step (Drew.ext hS); clear hS)
      | (first | refine ⟨⟨_, H.get 0 rfl rfl⟩, ?_⟩ | refine ⟨⟨_, H.get 1 rfl rfl⟩, ?_⟩ | refine ⟨⟨_, H.get 2 rfl rfl⟩, ?_⟩ | refine ⟨⟨_, H.get 3 rfl rfl⟩, ?_⟩ | refine ⟨⟨_, H.get 4 rfl rfl⟩, ?_⟩ | refine ⟨⟨_, H.get 5 rfl rfl⟩, ?_⟩ | refine ⟨⟨_, H.get 6 rfl rfl⟩, ?_⟩ | refine ⟨⟨_, H.get 7 rfl rfl⟩, ?_⟩)
      | (first | refine ⟨H.frz 0 rfl, ?_⟩ | refine ⟨H.frz 1 rfl, ?_⟩ | refine ⟨H.frz 2 rfl, ?_⟩ | refine ⟨H.frz 3 rfl, ?_⟩ | refine ⟨H.frz 4 rfl, ?_⟩ | refine ⟨H.frz 5 rfl, ?_⟩ | refine ⟨H.frz 6 rfl, ?_⟩ | refine ⟨H.frz 7 rfl, ?_⟩)
      | (first | refine ⟨_, H.get 0 rfl rfl, ?_⟩ | refine ⟨_, H.get 1 rfl rfl, ?_⟩ | refine ⟨_, H.get 2 rfl rfl, ?_⟩ | refine ⟨_, H.get 3 rfl rfl, ?_⟩ | refine ⟨_, H.get 4 rfl rfl, ?_⟩ | refine ⟨_, H.get 5 rfl rfl, ?_⟩ | refine ⟨_, H.get 6 rfl rfl, ?_⟩ | refine ⟨_, H.get 7 rfl rfl, ?_⟩)
      | (first | refine ⟨_, _, _, H.get 0 rfl rfl, ?_⟩ | refine ⟨_, _, _, H.get 1 rfl rfl, ?_⟩ | refine ⟨_, _, _, H.get 2 rfl rfl, ?_⟩ | refine ⟨_, _, _, H.get 3 rfl rfl, ?_⟩ | refine ⟨_, _, _, H.get 4 rfl rfl, ?_⟩ | refine ⟨_, _, _, H.get 5 rfl rfl, ?_⟩ | refine ⟨_, _, _, H.get 6 rfl rfl, ?_⟩ | refine ⟨_, _, _, H.get 7 rfl rfl, ?_⟩))
    exact ⟨rfl, H.ext⟩

theorem lzones_ok {cols : List Col} {L : List (List Val)} {hs : List Sl} {w : World} {p rp : Option Addr} {n c rn rc : Nat} (hc : Cols w p n c cols) (hR : Rws w rp rn rc hs L) (hci : ∀ r ∈ L, cols.length ≤ r.length) (hn : rn ≤ 1024) (hcn : n ≤ 1099511627776) (hok : ∀ r ∈ L, ∀ u ∈ r, u.Ok) :
    Calls Tryd.prog 10 #[.slice p n c, .slice rp rn rc] w fun e w' => ∃ (q : Option Addr) (k d : Nat), e = .returned (.slice q k d) ∧ Zns w' q k d (zonesOf cols L) ∧ Ext w w' := by
  have hl := hc.len
  have hRl := hR.len
  apply lzones_vc
  unfold lzones_T
  have hzl : (zonesOf cols L).length = n := by unfold zonesOf; simp [hl]
  refine ⟨fun q k d i W => ∃ j : Nat, i = (j : Int) ∧ j ≤ n ∧ k = j ∧ Hold w W [] [⟨50, 7, q, k, d, ((zonesOf cols L).take j).flatMap Zn.cs⟩], fun _ _ _ i _ => n - i.toNat, ⟨0, rfl, Nat.zero_le _, rfl, (Hold.start Ext.rfl).nilRow _ _⟩, ?_⟩
  rintro q j d i W ⟨_, rfl, hj, rfl, H⟩
  refine ⟨fun hlt => ?_, fun hge => ?_⟩
  · have gc : cols[j]? = some (cols[j]'(by omega)) := List.getElem?_eq_getElem _
    have gz := zonesOf_get (rows := L) gc
    refine (rcolumn_ok (ci := j) (hR.ext H.ext) (fun r hr => by have := hci r hr; omega) hn).mono ?_
    rintro e W1 ⟨cp, ck, cd, rfl, hv, eX⟩
    replace H := H.step eX
    have hcl := hv.len
    have hck : ck ≤ 1024 := by
      have : (colOf L j).length = L.length := by unfold colOf; simp
      omega
    refine ⟨cp, ck, cd, rfl, (rzone_ok hv hck fun u hu => ?_).mono ?_⟩
    · obtain ⟨r, hr, rfl⟩ := List.mem_map.1 hu
      have hjr : j < r.length := by have := hci r hr; omega
      rw [List.getElem?_eq_getElem hjr]
      exact hok r hr _ (List.getElem_mem hjr)
    rintro e W2 ⟨rfl, eX⟩
    replace H := H.step eX
    refine ⟨_, _, _, _, _, _, _, _, rfl, ?_⟩
    repeat (first
      | (intro _ _ hS; replace H := H.new hS; clear hS)
      | (intro _ hS; (first | replace H := H.put 0 rfl hS | replace H := H.put 1 rfl hS | replace H := H.put 2 rfl hS | replace H := H.put 3 rfl hS | replace H := H.put 4 rfl hS | replace H := H.put 5 rfl hS | replace H := H.put 6 rfl hS | replace H := H.put 7 rfl hS); clear hS; try simp only [setA, List.setIfInBounds_toArray, List.set_cons_zero, List.set_cons_succ, Nat.zero_add, Nat.reduceAdd] at H)
      | (intro _ hS; replace H := H.step (Drew.ext hS); clear hS)
      | (first | refine ⟨⟨_, H.get 0 rfl rfl⟩, ?_⟩ | refine ⟨⟨_, H.get 1 rfl rfl⟩, ?_⟩ | refine ⟨⟨_, H.get 2 rfl rfl⟩, ?_⟩ | refine ⟨⟨_, H.get 3 rfl rfl⟩, ?_⟩ | refine ⟨⟨_, H.get 4 rfl rfl⟩, ?_⟩ | refine ⟨⟨_, H.get 5 rfl rfl⟩, ?_⟩ | refine ⟨⟨_, H.get 6 rfl rfl⟩, ?_⟩ | refine ⟨⟨_, H.get 7 rfl rfl⟩, ?_⟩)
      | (first | refine ⟨H.frz 0 rfl, ?_⟩ | refine ⟨H.frz 1 rfl, ?_⟩ | refine ⟨H.frz 2 rfl, ?_⟩ | refine ⟨H.frz 3 rfl, ?_⟩ | refine ⟨H.frz 4 rfl, ?_⟩ | refine ⟨H.frz 5 rfl, ?_⟩ | refine ⟨H.frz 6 rfl, ?_⟩ | refine ⟨H.frz 7 rfl, ?_⟩)
      | (first | refine ⟨_, H.get 0 rfl rfl, ?_⟩ | refine ⟨_, H.get 1 rfl rfl, ?_⟩ | refine ⟨_, H.get 2 rfl rfl, ?_⟩ | refine ⟨_, H.get 3 rfl rfl, ?_⟩ | refine ⟨_, H.get 4 rfl rfl, ?_⟩ | refine ⟨_, H.get 5 rfl rfl, ?_⟩ | refine ⟨_, H.get 6 rfl rfl, ?_⟩ | refine ⟨_, H.get 7 rfl rfl, ?_⟩)
      | (first | refine ⟨_, _, _, H.get 0 rfl rfl, ?_⟩ | refine ⟨_, _, _, H.get 1 rfl rfl, ?_⟩ | refine ⟨_, _, _, H.get 2 rfl rfl, ?_⟩ | refine ⟨_, _, _, H.get 3 rfl rfl, ?_⟩ | refine ⟨_, _, _, H.get 4 rfl rfl, ?_⟩ | refine ⟨_, _, _, H.get 5 rfl rfl, ?_⟩ | refine ⟨_, _, _, H.get 6 rfl rfl, ?_⟩ | refine ⟨_, _, _, H.get 7 rfl rfl, ?_⟩))
    rename_i b44 w45
    obtain ⟨p', c', w26, hrn, H26⟩ := H.append (ty := 33) (P := Tryd.prog) (q := some ⟨b44, 0, none⟩) (m := 1) (d' := 1) (news := (zoneF (colOf L j)).cs) 0 rfl undZones tyZone rfl (by decide) (H.blk 0 rfl).at rfl (fun e => by cases e) (Zn.cs_one _) (by dsimp only; omega) (by unfold maxLen; omega)
    refine ⟨p', _, c', w26, hrn, ?_⟩
    rw [i64_next (by omega)]
    refine ⟨⟨j + 1, rfl, by omega, rfl, ?_⟩, by simp only [Int.toNat_natCast]; omega⟩
    rw [List.take_add_one, gz, List.flatMap_append]
    have H27 := H26.tail.tail
    simpa using H27
  · have hjn : j = n := by omega
    subst hjn
    rw [List.take_of_length_le (by omega)] at H
    exact ⟨q, j, d, rfl, (H.row 0 rfl).ls Zn.cs_length (by decide), H.ext⟩
end Go.Proofs.YtpjafkcmbinjiaaDoor

/- The law that each row's answer is one of those that the condition may have. -/
namespace Go.Proofs.YtpjafkcmbinjiaaDoor
open Go Go.Vc Go.RowKit
set_option maxRecDepth 20000
attribute [local irreducible] Calls Put Drew New

theorem min_nat16 (a b : Nat) : mmI false (a : Int) (b : Int) = ((min a b : Nat) : Int) := by
  unfold mmI
  by_cases h : (b : Int) < (a : Int)
  · simp only [h, if_true]; omega
  · simp only [h, if_false]; omega
theorem fitRows {cols : List Col} {L : List (List Val)} (hf : ∀ r ∈ L, fitsC cols r = true) (hfit : ∀ r ∈ L, FitR r) (hr : rightC cols = true) : FitRows cols L := fun r h => ⟨by rw [← fitsC_iff hr]; exact hf r h, hfit r h⟩
theorem zones_cov {cols : List Col} {L : List (List Val)} (h : FitRows cols L) {r : List Val} (hr : r ∈ L) (i : Nat) (u : Val) (z : Zn) (hu : r[i]? = some u) (hz : (zonesOf cols L)[i]? = some z) : Cov z (L.length : Int) u := by
  have hi : i < cols.length := by
    have := (List.getElem?_eq_some_iff.1 hz).1
    unfold zonesOf at this
    simpa using this
  have hc : cols[i]? = some cols[i] := List.getElem?_eq_getElem hi
  rw [zonesOf_get hc] at hz
  cases hz
  have hm : u ∈ colOf L i := List.mem_map.2 ⟨r, hr, by rw [hu]; rfl⟩
  have hl : (colOf L i).length = L.length := by unfold colOf; simp
  have := (zoneF_fit cols[i] (colOf L i)).cov hm
  rwa [hl] at this
/-- What a row's answer is, and what the condition may have. -/
theorem sound_row {cols : List Col} {L : List (List Val)} {x : Ex} (hf : ∀ r ∈ L, fitsC cols r = true) (hfit : ∀ r ∈ L, FitR r) (hxf : FitX x) (he : (answersF cols (zonesOf cols L) (L.length : Int) x).2 = 0) {r : List Val} (hr : r ∈ L) :
    ((evalF cols r x).2 ≠ 0 ∧ (mayF cols (zonesOf cols L) (L.length : Int) x).1 = true) ∨
    ((evalF cols r x).2 = 0 ∧ GoodV 2 (evalF cols r x).1 ∧ ∃ s : S3, (answersF cols (zonesOf cols L) (L.length : Int) x).1 = s.i ∧ S3.Le (ownS (evalF cols r x).1) s ∧ (s.yes = true → (mayF cols (zonesOf cols L) (L.length : Int) x).1 = true)) := by
  have hpos : 0 < L.length := List.length_pos_of_mem hr
  have h1 : (typeF cols x).2 = 0 := by
    unfold answersF at he
    split at he
    · rename_i q; exact absurd he q
    · rename_i q; omega
  have h2 : (typeF cols x).1 = 2 ∨ (typeF cols x).1 = 0 := by
    unfold answersF at he
    rw [if_neg (by simp [h1])] at he
    split at he
    · exact absurd he (by decide)
    · omega
  have h3 : zonesOk cols (zonesOf cols L) (L.length : Int) = true := by
    unfold answersF at he
    rw [if_neg (by simp [h1]), if_neg (by omega)] at he
    split at he
    · exact absurd he (by decide)
    · rename_i q; simpa using q
  have h4 : answersF cols (zonesOf cols L) (L.length : Int) x = ((ansF cols (zonesOf cols L) (L.length : Int) x).i, 0) := by
    unfold answersF
    rw [if_neg (by simp [h1]), if_neg (by omega), if_neg (by simp [h3]), if_neg (by omega)]
  have h5 : (mayF cols (zonesOf cols L) (L.length : Int) x).1 = (!bareF x || decide ((ansF cols (zonesOf cols L) (L.length : Int) x).i % 4 / 2 = 1)) := by
    unfold mayF
    rw [if_neg (by simp [he]), h4, decide_eq_true (by omega), Bool.true_and]
  obtain ⟨hright, hform, hk⟩ := typeF_right h1
  have hfp : FormedP x := of_decide_eq_true hform
  have hrf := hf r hr
  have hev : evalF cols r x = valueF cols r x := (valueF_eval h1 hrf).symm
  rw [fitsC_iff hright] at hrf
  rw [hk] at h1 h2
  by_cases hv : (valueF cols r x).2 = 0
  · right
    have hg := good_of (hfit r hr) hxf hfp.1 h1 hrf hv
    have hg2 : GoodV 2 (valueF cols r x).1 := ⟨hg.1, hg.2.1, by have := hg.2.2; omega⟩
    rw [hev]
    refine ⟨hv, hg2, _, by rw [h4], ?_, fun hy => ?_⟩
    · have hzl : zonesL cols (zonesOf cols L) (L.length : Int) = true := by
        unfold zonesOk at h3; rw [Bool.and_eq_true] at h3; exact h3.2
      exact ans_sound hrf (hfit r hr) hzl (zones_cov (fitRows hf hfit hright) hr) _ x (Nat.le_refl _) (fun y hy => ⟨hfp.1 y hy, hxf y hy⟩) h1 h2 hv
    · rw [h5]
      have := yes_bit (ansF cols (zonesOf cols L) (L.length : Int) x)
      have hb := S3.bit (ansF cols (zonesOf cols L) (L.length : Int) x)
      rw [hy] at hb
      rw [← this, hb]
      simp
  · left
    rw [hev]
    refine ⟨hv, ?_⟩
    rw [h5]
    have : bareF x = false := by
      cases hb : bareF x with
      | false => rfl
      | true => exact absurd (bare_fine _ x (Nat.le_refl _) hfp.1 hb) hv
    rw [this]; rfl

theorem sound_leaf {s : S3} {v : Val} (hg : GoodV 2 v) (hs2 : S3.Le (ownS v) s) :
    (v.k = 2 → bits .and .i64 s.i (shlI .i64 1 v.n.toNat) ≠ 0 ∧ (shlI .i64 1 v.n.toNat = 2 → s.yes = true)) ∧ (v.k ≠ 2 → bits .and .i64 s.i 4 ≠ 0) := by
  obtain ⟨b1, b2, b4⟩ := s3_bits s
  obtain ⟨a1, a2, a3⟩ := hs2
  rcases three_truths hg with rfl | rfl | rfl
  · refine ⟨fun h => absurd h (by decide), fun _ => ?_⟩
    rw [b4, a3 (by decide)]; decide
  · refine ⟨fun _ => ?_, fun h => absurd (by decide) h⟩
    rw [show shlI .i64 1 (truthV false).n.toNat = 1 from by decide, b1, a1 (by decide)]
    exact ⟨by decide, fun h => absurd h (by decide)⟩
  · refine ⟨fun _ => ?_, fun h => absurd (by decide) h⟩
    rw [show shlI .i64 1 (truthV true).n.toNat = 2 from by decide, b2, a2 (by decide)]
    exact ⟨by decide, fun _ => rfl⟩
theorem good_bit {v : Val} (hg : GoodV 2 v) : 0 ≤ v.n := by
  rcases three_truths hg with rfl | rfl | rfl <;> decide

set_option maxHeartbeats 8000000 in
theorem lawSound_ok (x : Ex) {w : World} {p rp : Option Addr} {n c rn rc : Nat} {cols : List Col} {rows : List (List Val)} {hs : List Sl} {cs : List Value} (hT : Tab w) (hT2 : Tab2 w) (hc : Cols w p n c cols) (hsz : ∀ y ∈ cols, y.name.size ≤ 9223372036854775807) (hcn : n ≤ 1099511627776) (hR : Rws w rp rn rc hs rows) (hx : ExAt w x cs)
    (hfit0 : ∀ r ∈ rows, FitR r) (hxf : FitX x) :
    Calls Tryd.prog 6 #[.slice p n c, .slice rp rn rc, .agg cs.toArray] w fun e w' => e = .returned (.bool true) ∧ Ext w w' := by
  obtain ⟨xp, xn, xc, rfl, _⟩ := hx.six
  apply lawSound_vc
  unfold lawSound_T
  intro b1 w2 h1
  have H := (Hold.start (Ext.rfl (w := w))).new h1
  refine (shown16_ok (hT.ext H.ext)).mono ?_
  rintro e W ⟨rfl, eX⟩
  replace H := H.step eX
  refine ⟨_, rfl, ?_⟩
  have hcap := hR.heads.cap
  rw [show (100 : Int) = ((100 : Nat) : Int) from rfl, min_nat16, Int.toNat_natCast]
  have hR1 := hR.take (k := min rn 100) (Nat.min_le_left _ _)
  have hrl := hR.len
  generalize hm : min rn 100 = m at hR1
  generalize hL : rows.take m = L at hR1
  have hLl := hR1.len
  have hfit : ∀ r ∈ L, FitR r := fun r hr => hfit0 r (by rw [← hL] at hr; exact List.mem_of_mem_take hr)
  let F : List (Nat × Obj) := [(b1, .cells #[.int .i64 x.op, .string x.name, .int .i64 x.v.k, .int .i64 x.v.n, .string x.v.s, .slice xp xn xc] 28 (0, 0))]
  refine ⟨by omega, by omega, fun i W => ∃ j : Nat, i = (j : Int) ∧ j ≤ m ∧ (∀ r ∈ L.take j, fitsC cols r = true) ∧ Hold w W F [], fun i _ => m - i.toNat, ⟨0, rfl, Nat.zero_le _, fun r h => (List.not_mem_nil h).elim, H⟩, ?_⟩
  rintro i W ⟨j, rfl, hj, hall, H⟩
  refine ⟨fun hlt => ?_, fun hge => ?_⟩
  · have g : L[j]? = some (L[j]'(by omega)) := List.getElem?_eq_getElem _
    generalize L[j]'(by omega) = r at g
    obtain ⟨xs, _, hvs, b, o, hp, hcell⟩ := (hR1.ext H.ext).get g
    simp only [Int.toNat_natCast]
    refine ⟨b, o, hp, by omega, hlt, _, _, _, hcell, (r5fits_ok (hc.ext H.ext) hsz hvs).mono ?_⟩
    rintro e W1 ⟨rfl, eX⟩
    replace H := H.step eX
    refine ⟨_, rfl, fun _ => ⟨by first | rfl | trivial, H.ext⟩, fun ht => ?_⟩
    rw [i64_next (by omega)]
    refine ⟨⟨j + 1, rfl, by omega, fun q hq => ?_, H⟩, by simp only [Int.toNat_natCast]; omega⟩
    rw [List.take_add_one, g] at hq
    rcases List.mem_append.1 hq with hq | hq
    · exact hall q hq
    · simp at hq; subst hq; exact ht
  have hjm : j = m := by omega
  subst hjm
  rw [List.take_of_length_le (by omega)] at hall
  have hfl : ∀ r ∈ L, fitsL cols r = true := fun r hr => by
    have := hall r hr
    unfold fitsC at this
    rw [Bool.and_eq_true] at this
    exact this.2
  refine (lzones_ok (hc.ext H.ext) (hR1.ext H.ext) (fun r hr => by rw [fitsL_length (hfl r hr)]; exact Nat.le_refl _) (by omega) hcn (fun r hr u hu => ?_)).mono ?_
  · obtain ⟨i, hi⟩ := List.mem_iff_getElem?.1 hu
    have hlen := fitsL_length (hfl r hr)
    have hil := (List.getElem?_eq_some_iff.1 hi).1
    have := fitsL_get (hfl r hr) (List.getElem?_eq_getElem (by omega : i < cols.length)) hi
    unfold valFits at this
    rw [Bool.and_eq_true] at this
    exact of_decide_eq_true this.1
  rintro e W1 ⟨q, k, d, rfl, hz, eX⟩
  replace H := H.step eX
  refine ⟨_, _, _, rfl, ?_⟩
  have hLm : ((j : Nat) : Int) = (L.length : Int) := by omega
  rw [hLm]
  have cells : ∀ {W : World}, Hold w W F [] → W.cell? ⟨b1, 0, none⟩ = some (.int .i64 x.op) ∧ W.cell? ⟨b1, 1, none⟩ = some (.string x.name) ∧ W.cell? ⟨b1, 2, none⟩ = some (.int .i64 x.v.k) ∧ W.cell? ⟨b1, 3, none⟩ = some (.int .i64 x.v.n) ∧ W.cell? ⟨b1, 4, none⟩ = some (.string x.v.s) ∧ W.cell? ⟨b1, 5, none⟩ = some (.slice xp xn xc) := fun H => Blk.c6 (H.blk 0 rfl)
  obtain ⟨a0, a1, a2, a3, a4, a5⟩ := cells H
  refine ⟨_, a0, _, a1, _, a2, _, a3, _, a4, _, _, _, a5, ?_⟩
  refine (pAnswers_ok (m := (L.length : Int)) x (hT.ext H.ext) (hc.ext H.ext) hz (hx.ext H.ext)).mono ?_
  rintro e W2 ⟨rfl, eX⟩
  replace H := H.step eX
  replace hz := hz.ext eX
  refine ⟨_, _, rfl, ?_⟩
  obtain ⟨a0, a1, a2, a3, a4, a5⟩ := cells H
  refine ⟨_, a0, _, a1, _, a2, _, a3, _, a4, _, _, _, a5, ?_⟩
  refine (pMay_ok (m := (L.length : Int)) x (hT.ext H.ext) (hc.ext H.ext) hz (hx.ext H.ext)).mono ?_
  rintro e W3 ⟨rfl, eX⟩
  replace H := H.step eX
  refine ⟨_, _, rfl, fun hne => ⟨?_, H.ext⟩, fun heq => ?_⟩
  · have : (answersF cols (zonesOf cols L) (L.length : Int) x).2 = (mayF cols (zonesOf cols L) (L.length : Int) x).2 := by
      unfold mayF
      by_cases h0 : (answersF cols (zonesOf cols L) (L.length : Int) x).2 = 0
      · rw [if_neg (by simp [h0])]; exact h0
      · rw [if_pos h0]
    rw [this]; simp
  have rowS := fun r hr => sound_row (x := x) hall hfit hxf heq.1 (r := r) hr
  generalize hans : answersF cols (zonesOf cols L) (L.length : Int) x = ans at rowS
  generalize hmay : mayF cols (zonesOf cols L) (L.length : Int) x = may at rowS
  refine ⟨fun i W => ∃ t : Nat, i = (t : Int) ∧ t ≤ L.length ∧ Hold w W F [], fun i _ => L.length - i.toNat, ⟨0, rfl, Nat.zero_le _, H⟩, ?_⟩
  rintro i W ⟨t, rfl, ht, H⟩
  refine ⟨fun hlt => ?_, fun _ => ⟨rfl, H.ext⟩⟩
  have g : L[t]? = some (L[t]'(by omega)) := List.getElem?_eq_getElem _
  generalize L[t]'(by omega) = r at g
  have hrow := rowS r (List.mem_of_getElem? g)
  intro w61 hD
  replace H := H.step (Drew.ext hD)
  obtain ⟨xs, _, hvs, b, o, hp, hcell⟩ := (hR1.ext H.ext).get g
  have hvs0 : ∀ {W' : World}, Ext w61 W' → Vs W' xs.p xs.n xs.c r := fun e => hvs.ext e
  obtain ⟨a0, a1, a2, a3, a4, a5⟩ := cells H
  simp only [Int.toNat_natCast]
  refine ⟨b, o, hp, by omega, hlt, _, _, _, hcell, _, a0, _, a1, _, a2, _, a3, _, a4, _, _, _, a5, ?_⟩
  have eR : Ext w61 w61 := Ext.rfl
  rw [i64_next (by omega)]
  have M : L.length - ((t + 1 : Nat) : Int).toNat < L.length - ((t : Nat) : Int).toNat := by simp only [Int.toNat_natCast]; omega
  refine ⟨?_, fun b106 w107 hS => ?_⟩
  · refine (xEval_ok x (hT.ext H.ext) (hT2.ext H.ext) (hc.ext H.ext) (hvs0 eR) (hx.ext H.ext) (hfit r (List.mem_of_getElem? g)) hxf).mono ?_
    rintro e W ⟨rfl, eX⟩
    replace H := H.step eX
    refine ⟨_, _, _, _, rfl, ?_⟩
    intro b83 w83 hS
    have eX := hS.ext
    replace H := H.new hS
    refine ⟨eX.same, ?_⟩
    repeat (first
      | (intro _ _ hS; replace H := H.new hS; clear hS)
      | (intro _ hS; (first | replace H := H.put 0 rfl hS | replace H := H.put 1 rfl hS | replace H := H.put 2 rfl hS | replace H := H.put 3 rfl hS | replace H := H.put 4 rfl hS | replace H := H.put 5 rfl hS | replace H := H.put 6 rfl hS | replace H := H.put 7 rfl hS); clear hS; try simp only [setA, List.setIfInBounds_toArray, List.set_cons_zero, List.set_cons_succ, Nat.zero_add, Nat.reduceAdd] at H)
      | (intro _ hS; replace H := H.step (Drew.ext hS); clear hS)
      | (first | refine ⟨⟨_, H.get 0 rfl rfl⟩, ?_⟩ | refine ⟨⟨_, H.get 1 rfl rfl⟩, ?_⟩ | refine ⟨⟨_, H.get 2 rfl rfl⟩, ?_⟩ | refine ⟨⟨_, H.get 3 rfl rfl⟩, ?_⟩ | refine ⟨⟨_, H.get 4 rfl rfl⟩, ?_⟩ | refine ⟨⟨_, H.get 5 rfl rfl⟩, ?_⟩ | refine ⟨⟨_, H.get 6 rfl rfl⟩, ?_⟩ | refine ⟨⟨_, H.get 7 rfl rfl⟩, ?_⟩)
      | (first | refine ⟨H.frz 0 rfl, ?_⟩ | refine ⟨H.frz 1 rfl, ?_⟩ | refine ⟨H.frz 2 rfl, ?_⟩ | refine ⟨H.frz 3 rfl, ?_⟩ | refine ⟨H.frz 4 rfl, ?_⟩ | refine ⟨H.frz 5 rfl, ?_⟩ | refine ⟨H.frz 6 rfl, ?_⟩ | refine ⟨H.frz 7 rfl, ?_⟩)
      | (first | refine ⟨_, H.get 0 rfl rfl, ?_⟩ | refine ⟨_, H.get 1 rfl rfl, ?_⟩ | refine ⟨_, H.get 2 rfl rfl, ?_⟩ | refine ⟨_, H.get 3 rfl rfl, ?_⟩ | refine ⟨_, H.get 4 rfl rfl, ?_⟩ | refine ⟨_, H.get 5 rfl rfl, ?_⟩ | refine ⟨_, H.get 6 rfl rfl, ?_⟩ | refine ⟨_, H.get 7 rfl rfl, ?_⟩)
      | (first | refine ⟨_, _, _, H.get 0 rfl rfl, ?_⟩ | refine ⟨_, _, _, H.get 1 rfl rfl, ?_⟩ | refine ⟨_, _, _, H.get 2 rfl rfl, ?_⟩ | refine ⟨_, _, _, H.get 3 rfl rfl, ?_⟩ | refine ⟨_, _, _, H.get 4 rfl rfl, ?_⟩ | refine ⟨_, _, _, H.get 5 rfl rfl, ?_⟩ | refine ⟨_, _, _, H.get 6 rfl rfl, ?_⟩ | refine ⟨_, _, _, H.get 7 rfl rfl, ?_⟩))
    refine ⟨fun hne => ?_, fun heq2 => ?_⟩
    · rcases hrow with ⟨_, hmy⟩ | ⟨h, _⟩
      · refine ⟨fun hb => ?_, fun _ => ⟨⟨t + 1, rfl, by omega, H.tail⟩, M⟩⟩
        rw [hmy] at hb; cases hb
      · exact absurd h hne
    rcases hrow with ⟨h, _⟩ | ⟨_, hg, s, hs1, hs2, hs3⟩
    · exact absurd heq2 h
    obtain ⟨l1, l2⟩ := sound_leaf hg hs2
    rw [hs1]
    repeat (first
      | (intro _ _ hS; replace H := H.new hS; clear hS)
      | (intro _ hS; (first | replace H := H.put 0 rfl hS | replace H := H.put 1 rfl hS | replace H := H.put 2 rfl hS | replace H := H.put 3 rfl hS | replace H := H.put 4 rfl hS | replace H := H.put 5 rfl hS | replace H := H.put 6 rfl hS | replace H := H.put 7 rfl hS); clear hS; try simp only [setA, List.setIfInBounds_toArray, List.set_cons_zero, List.set_cons_succ, Nat.zero_add, Nat.reduceAdd] at H)
      | (intro _ hS; replace H := H.step (Drew.ext hS); clear hS)
      | (first | refine ⟨⟨_, H.get 0 rfl rfl⟩, ?_⟩ | refine ⟨⟨_, H.get 1 rfl rfl⟩, ?_⟩ | refine ⟨⟨_, H.get 2 rfl rfl⟩, ?_⟩ | refine ⟨⟨_, H.get 3 rfl rfl⟩, ?_⟩ | refine ⟨⟨_, H.get 4 rfl rfl⟩, ?_⟩ | refine ⟨⟨_, H.get 5 rfl rfl⟩, ?_⟩ | refine ⟨⟨_, H.get 6 rfl rfl⟩, ?_⟩ | refine ⟨⟨_, H.get 7 rfl rfl⟩, ?_⟩)
      | (first | refine ⟨H.frz 0 rfl, ?_⟩ | refine ⟨H.frz 1 rfl, ?_⟩ | refine ⟨H.frz 2 rfl, ?_⟩ | refine ⟨H.frz 3 rfl, ?_⟩ | refine ⟨H.frz 4 rfl, ?_⟩ | refine ⟨H.frz 5 rfl, ?_⟩ | refine ⟨H.frz 6 rfl, ?_⟩ | refine ⟨H.frz 7 rfl, ?_⟩)
      | (first | refine ⟨_, H.get 0 rfl rfl, ?_⟩ | refine ⟨_, H.get 1 rfl rfl, ?_⟩ | refine ⟨_, H.get 2 rfl rfl, ?_⟩ | refine ⟨_, H.get 3 rfl rfl, ?_⟩ | refine ⟨_, H.get 4 rfl rfl, ?_⟩ | refine ⟨_, H.get 5 rfl rfl, ?_⟩ | refine ⟨_, H.get 6 rfl rfl, ?_⟩ | refine ⟨_, H.get 7 rfl rfl, ?_⟩)
      | (first | refine ⟨_, _, _, H.get 0 rfl rfl, ?_⟩ | refine ⟨_, _, _, H.get 1 rfl rfl, ?_⟩ | refine ⟨_, _, _, H.get 2 rfl rfl, ?_⟩ | refine ⟨_, _, _, H.get 3 rfl rfl, ?_⟩ | refine ⟨_, _, _, H.get 4 rfl rfl, ?_⟩ | refine ⟨_, _, _, H.get 5 rfl rfl, ?_⟩ | refine ⟨_, _, _, H.get 6 rfl rfl, ?_⟩ | refine ⟨_, _, _, H.get 7 rfl rfl, ?_⟩))
    refine ⟨fun hk => ?_, fun hk => ?_⟩
    · obtain ⟨l3, l4⟩ := l1 hk
      repeat (first
        | (intro _ _ hS; replace H := H.new hS; clear hS)
        | (intro _ hS; (first | replace H := H.put 0 rfl hS | replace H := H.put 1 rfl hS | replace H := H.put 2 rfl hS | replace H := H.put 3 rfl hS | replace H := H.put 4 rfl hS | replace H := H.put 5 rfl hS | replace H := H.put 6 rfl hS | replace H := H.put 7 rfl hS); clear hS; try simp only [setA, List.setIfInBounds_toArray, List.set_cons_zero, List.set_cons_succ, Nat.zero_add, Nat.reduceAdd] at H)
        | (intro _ hS; replace H := H.step (Drew.ext hS); clear hS)
        | (first | refine ⟨⟨_, H.get 0 rfl rfl⟩, ?_⟩ | refine ⟨⟨_, H.get 1 rfl rfl⟩, ?_⟩ | refine ⟨⟨_, H.get 2 rfl rfl⟩, ?_⟩ | refine ⟨⟨_, H.get 3 rfl rfl⟩, ?_⟩ | refine ⟨⟨_, H.get 4 rfl rfl⟩, ?_⟩ | refine ⟨⟨_, H.get 5 rfl rfl⟩, ?_⟩ | refine ⟨⟨_, H.get 6 rfl rfl⟩, ?_⟩ | refine ⟨⟨_, H.get 7 rfl rfl⟩, ?_⟩)
        | (first | refine ⟨H.frz 0 rfl, ?_⟩ | refine ⟨H.frz 1 rfl, ?_⟩ | refine ⟨H.frz 2 rfl, ?_⟩ | refine ⟨H.frz 3 rfl, ?_⟩ | refine ⟨H.frz 4 rfl, ?_⟩ | refine ⟨H.frz 5 rfl, ?_⟩ | refine ⟨H.frz 6 rfl, ?_⟩ | refine ⟨H.frz 7 rfl, ?_⟩)
        | (first | refine ⟨_, H.get 0 rfl rfl, ?_⟩ | refine ⟨_, H.get 1 rfl rfl, ?_⟩ | refine ⟨_, H.get 2 rfl rfl, ?_⟩ | refine ⟨_, H.get 3 rfl rfl, ?_⟩ | refine ⟨_, H.get 4 rfl rfl, ?_⟩ | refine ⟨_, H.get 5 rfl rfl, ?_⟩ | refine ⟨_, H.get 6 rfl rfl, ?_⟩ | refine ⟨_, H.get 7 rfl rfl, ?_⟩)
        | (first | refine ⟨_, _, _, H.get 0 rfl rfl, ?_⟩ | refine ⟨_, _, _, H.get 1 rfl rfl, ?_⟩ | refine ⟨_, _, _, H.get 2 rfl rfl, ?_⟩ | refine ⟨_, _, _, H.get 3 rfl rfl, ?_⟩ | refine ⟨_, _, _, H.get 4 rfl rfl, ?_⟩ | refine ⟨_, _, _, H.get 5 rfl rfl, ?_⟩ | refine ⟨_, _, _, H.get 6 rfl rfl, ?_⟩ | refine ⟨_, _, _, H.get 7 rfl rfl, ?_⟩))
      refine ⟨good_bit hg, fun hq => absurd hq l3, fun _ => ⟨fun hq => ?_, fun _ => ⟨⟨t + 1, rfl, by omega, H.tail⟩, M⟩⟩⟩
      obtain ⟨q1, q2⟩ := hq
      rw [hs3 (l4 q1)] at q2
      cases q2
    · refine ⟨fun hq => absurd hq (l2 hk), fun _ => ⟨fun hq => ?_, fun _ => ⟨⟨t + 1, rfl, by omega, H.tail⟩, M⟩⟩⟩
      exact absurd hq.1 (by decide)
  · have eX := hS.ext
    replace H := H.new hS
    replace eR := eR.trans eX
    refine ⟨eX.same, ?_⟩
    refine (xEval_ok x (hT.ext H.ext) (hT2.ext H.ext) (hc.ext H.ext) (hvs0 eR) (hx.ext H.ext) (hfit r (List.mem_of_getElem? g)) hxf).mono ?_
    rintro e W ⟨rfl, eX⟩
    replace H := H.step eX
    refine ⟨_, _, _, _, rfl, ?_⟩
    repeat (first
      | (intro _ _ hS; replace H := H.new hS; clear hS)
      | (intro _ hS; (first | replace H := H.put 0 rfl hS | replace H := H.put 1 rfl hS | replace H := H.put 2 rfl hS | replace H := H.put 3 rfl hS | replace H := H.put 4 rfl hS | replace H := H.put 5 rfl hS | replace H := H.put 6 rfl hS | replace H := H.put 7 rfl hS); clear hS; try simp only [setA, List.setIfInBounds_toArray, List.set_cons_zero, List.set_cons_succ, Nat.zero_add, Nat.reduceAdd] at H)
      | (intro _ hS; replace H := H.step (Drew.ext hS); clear hS)
      | (first | refine ⟨⟨_, H.get 0 rfl rfl⟩, ?_⟩ | refine ⟨⟨_, H.get 1 rfl rfl⟩, ?_⟩ | refine ⟨⟨_, H.get 2 rfl rfl⟩, ?_⟩ | refine ⟨⟨_, H.get 3 rfl rfl⟩, ?_⟩ | refine ⟨⟨_, H.get 4 rfl rfl⟩, ?_⟩ | refine ⟨⟨_, H.get 5 rfl rfl⟩, ?_⟩ | refine ⟨⟨_, H.get 6 rfl rfl⟩, ?_⟩ | refine ⟨⟨_, H.get 7 rfl rfl⟩, ?_⟩)
      | (first | refine ⟨H.frz 0 rfl, ?_⟩ | refine ⟨H.frz 1 rfl, ?_⟩ | refine ⟨H.frz 2 rfl, ?_⟩ | refine ⟨H.frz 3 rfl, ?_⟩ | refine ⟨H.frz 4 rfl, ?_⟩ | refine ⟨H.frz 5 rfl, ?_⟩ | refine ⟨H.frz 6 rfl, ?_⟩ | refine ⟨H.frz 7 rfl, ?_⟩)
      | (first | refine ⟨_, H.get 0 rfl rfl, ?_⟩ | refine ⟨_, H.get 1 rfl rfl, ?_⟩ | refine ⟨_, H.get 2 rfl rfl, ?_⟩ | refine ⟨_, H.get 3 rfl rfl, ?_⟩ | refine ⟨_, H.get 4 rfl rfl, ?_⟩ | refine ⟨_, H.get 5 rfl rfl, ?_⟩ | refine ⟨_, H.get 6 rfl rfl, ?_⟩ | refine ⟨_, H.get 7 rfl rfl, ?_⟩)
      | (first | refine ⟨_, _, _, H.get 0 rfl rfl, ?_⟩ | refine ⟨_, _, _, H.get 1 rfl rfl, ?_⟩ | refine ⟨_, _, _, H.get 2 rfl rfl, ?_⟩ | refine ⟨_, _, _, H.get 3 rfl rfl, ?_⟩ | refine ⟨_, _, _, H.get 4 rfl rfl, ?_⟩ | refine ⟨_, _, _, H.get 5 rfl rfl, ?_⟩ | refine ⟨_, _, _, H.get 6 rfl rfl, ?_⟩ | refine ⟨_, _, _, H.get 7 rfl rfl, ?_⟩))
    refine ⟨fun hne => ?_, fun heq2 => ?_⟩
    · rcases hrow with ⟨_, hmy⟩ | ⟨h, _⟩
      · refine ⟨fun hb => ?_, fun _ => ⟨⟨t + 1, rfl, by omega, H.tail⟩, M⟩⟩
        rw [hmy] at hb; cases hb
      · exact absurd h hne
    rcases hrow with ⟨h, _⟩ | ⟨_, hg, s, hs1, hs2, hs3⟩
    · exact absurd heq2 h
    obtain ⟨l1, l2⟩ := sound_leaf hg hs2
    rw [hs1]
    repeat (first
      | (intro _ _ hS; replace H := H.new hS; clear hS)
      | (intro _ hS; (first | replace H := H.put 0 rfl hS | replace H := H.put 1 rfl hS | replace H := H.put 2 rfl hS | replace H := H.put 3 rfl hS | replace H := H.put 4 rfl hS | replace H := H.put 5 rfl hS | replace H := H.put 6 rfl hS | replace H := H.put 7 rfl hS); clear hS; try simp only [setA, List.setIfInBounds_toArray, List.set_cons_zero, List.set_cons_succ, Nat.zero_add, Nat.reduceAdd] at H)
      | (intro _ hS; replace H := H.step (Drew.ext hS); clear hS)
      | (first | refine ⟨⟨_, H.get 0 rfl rfl⟩, ?_⟩ | refine ⟨⟨_, H.get 1 rfl rfl⟩, ?_⟩ | refine ⟨⟨_, H.get 2 rfl rfl⟩, ?_⟩ | refine ⟨⟨_, H.get 3 rfl rfl⟩, ?_⟩ | refine ⟨⟨_, H.get 4 rfl rfl⟩, ?_⟩ | refine ⟨⟨_, H.get 5 rfl rfl⟩, ?_⟩ | refine ⟨⟨_, H.get 6 rfl rfl⟩, ?_⟩ | refine ⟨⟨_, H.get 7 rfl rfl⟩, ?_⟩)
      | (first | refine ⟨H.frz 0 rfl, ?_⟩ | refine ⟨H.frz 1 rfl, ?_⟩ | refine ⟨H.frz 2 rfl, ?_⟩ | refine ⟨H.frz 3 rfl, ?_⟩ | refine ⟨H.frz 4 rfl, ?_⟩ | refine ⟨H.frz 5 rfl, ?_⟩ | refine ⟨H.frz 6 rfl, ?_⟩ | refine ⟨H.frz 7 rfl, ?_⟩)
      | (first | refine ⟨_, H.get 0 rfl rfl, ?_⟩ | refine ⟨_, H.get 1 rfl rfl, ?_⟩ | refine ⟨_, H.get 2 rfl rfl, ?_⟩ | refine ⟨_, H.get 3 rfl rfl, ?_⟩ | refine ⟨_, H.get 4 rfl rfl, ?_⟩ | refine ⟨_, H.get 5 rfl rfl, ?_⟩ | refine ⟨_, H.get 6 rfl rfl, ?_⟩ | refine ⟨_, H.get 7 rfl rfl, ?_⟩)
      | (first | refine ⟨_, _, _, H.get 0 rfl rfl, ?_⟩ | refine ⟨_, _, _, H.get 1 rfl rfl, ?_⟩ | refine ⟨_, _, _, H.get 2 rfl rfl, ?_⟩ | refine ⟨_, _, _, H.get 3 rfl rfl, ?_⟩ | refine ⟨_, _, _, H.get 4 rfl rfl, ?_⟩ | refine ⟨_, _, _, H.get 5 rfl rfl, ?_⟩ | refine ⟨_, _, _, H.get 6 rfl rfl, ?_⟩ | refine ⟨_, _, _, H.get 7 rfl rfl, ?_⟩))
    refine ⟨fun hk => ?_, fun hk => ?_⟩
    · obtain ⟨l3, l4⟩ := l1 hk
      repeat (first
        | (intro _ _ hS; replace H := H.new hS; clear hS)
        | (intro _ hS; (first | replace H := H.put 0 rfl hS | replace H := H.put 1 rfl hS | replace H := H.put 2 rfl hS | replace H := H.put 3 rfl hS | replace H := H.put 4 rfl hS | replace H := H.put 5 rfl hS | replace H := H.put 6 rfl hS | replace H := H.put 7 rfl hS); clear hS; try simp only [setA, List.setIfInBounds_toArray, List.set_cons_zero, List.set_cons_succ, Nat.zero_add, Nat.reduceAdd] at H)
        | (intro _ hS; replace H := H.step (Drew.ext hS); clear hS)
        | (first | refine ⟨⟨_, H.get 0 rfl rfl⟩, ?_⟩ | refine ⟨⟨_, H.get 1 rfl rfl⟩, ?_⟩ | refine ⟨⟨_, H.get 2 rfl rfl⟩, ?_⟩ | refine ⟨⟨_, H.get 3 rfl rfl⟩, ?_⟩ | refine ⟨⟨_, H.get 4 rfl rfl⟩, ?_⟩ | refine ⟨⟨_, H.get 5 rfl rfl⟩, ?_⟩ | refine ⟨⟨_, H.get 6 rfl rfl⟩, ?_⟩ | refine ⟨⟨_, H.get 7 rfl rfl⟩, ?_⟩)
        | (first | refine ⟨H.frz 0 rfl, ?_⟩ | refine ⟨H.frz 1 rfl, ?_⟩ | refine ⟨H.frz 2 rfl, ?_⟩ | refine ⟨H.frz 3 rfl, ?_⟩ | refine ⟨H.frz 4 rfl, ?_⟩ | refine ⟨H.frz 5 rfl, ?_⟩ | refine ⟨H.frz 6 rfl, ?_⟩ | refine ⟨H.frz 7 rfl, ?_⟩)
        | (first | refine ⟨_, H.get 0 rfl rfl, ?_⟩ | refine ⟨_, H.get 1 rfl rfl, ?_⟩ | refine ⟨_, H.get 2 rfl rfl, ?_⟩ | refine ⟨_, H.get 3 rfl rfl, ?_⟩ | refine ⟨_, H.get 4 rfl rfl, ?_⟩ | refine ⟨_, H.get 5 rfl rfl, ?_⟩ | refine ⟨_, H.get 6 rfl rfl, ?_⟩ | refine ⟨_, H.get 7 rfl rfl, ?_⟩)
        | (first | refine ⟨_, _, _, H.get 0 rfl rfl, ?_⟩ | refine ⟨_, _, _, H.get 1 rfl rfl, ?_⟩ | refine ⟨_, _, _, H.get 2 rfl rfl, ?_⟩ | refine ⟨_, _, _, H.get 3 rfl rfl, ?_⟩ | refine ⟨_, _, _, H.get 4 rfl rfl, ?_⟩ | refine ⟨_, _, _, H.get 5 rfl rfl, ?_⟩ | refine ⟨_, _, _, H.get 6 rfl rfl, ?_⟩ | refine ⟨_, _, _, H.get 7 rfl rfl, ?_⟩))
      refine ⟨good_bit hg, fun hq => absurd hq l3, fun _ => ⟨fun hq => ?_, fun _ => ⟨⟨t + 1, rfl, by omega, H.tail⟩, M⟩⟩⟩
      obtain ⟨q1, q2⟩ := hq
      rw [hs3 (l4 q1)] at q2
      cases q2
    · refine ⟨fun hq => absurd hq (l2 hk), fun _ => ⟨fun hq => ?_, fun _ => ⟨⟨t + 1, rfl, by omega, H.tail⟩, M⟩⟩⟩
      exact absurd hq.1 (by decide)
end Go.Proofs.YtpjafkcmbinjiaaDoor

/- Tables of tables: what a row's list says of their cells. -/
namespace Go.Vc
open Go

theorem cells_of_arr {H α : Type} {enc : TypeId × Value → H} {P : Program} {w : World} {base : Nat} {sp : Nat → Bool} {held : Bool} {fuel : Nat} {t e : TypeId} {n s : Nat} {cs : List Value} {zs : List α} {p : List MemPlace} {D : α → DataW H} {C : α → List Value}
    (ht : P.underlying t = some (.array n e)) (hce : P.cellsOf e = s) (hct : P.cellsOf t = n * s) (hs : ∀ z, (C z).length = s) (h0 : 0 < s)
    (inner : ∀ fuel cs z p, cs.length = s → DataW.trod enc P w base sp held fuel e cs = some (D z, p) → cs = C z)
    (h : DataW.trod enc P w base sp held fuel t cs = some (.agg (zs.map D), p)) : cs = zs.flatMap C := by
  cases fuel with
  | zero => simp [DataW.trod] at h
  | succ fuel =>
    simp only [DataW.trod, ht, hce, hct] at h
    split at h
    · rename_i hl
      obtain ⟨xs, hm, hx⟩ := Option.map_eq_some_iff.1 h
      have hxs : xs.map (·.1) = zs.map D := by
        have := congrArg Prod.fst hx
        simpa using this
      have hxl : xs.length = n := by simpa using Lib.mapM_length hm
      have hzl : zs.length = n := by
        have := congrArg List.length hxs
        simp at this
        omega
      have key : ∀ i, i < n → ∃ z, zs[i]? = some z ∧ (cs.drop (i * s)).take s = C z := by
        intro i hi
        obtain ⟨b, hb, hf⟩ := Lib.mapM_at hm i i (by simp [hi])
        have h2 : (xs.map (·.1))[i]? = some b.1 := by simp [hb]
        rw [hxs, List.getElem?_map] at h2
        obtain ⟨z, hz, he⟩ := Option.map_eq_some_iff.1 h2
        refine ⟨z, hz, inner fuel _ z b.2 ?_ ?_⟩
        · have hmul : (i + 1) * s ≤ n * s := Nat.mul_le_mul_right _ (by omega)
          have e1 : (i + 1) * s = i * s + s := Nat.succ_mul i s
          simp only [List.length_take, List.length_drop]
          omega
        · rw [hf, he]
      -- both lists, piece by piece
      have go : ∀ (m : Nat) (zs : List α) (cs : List Value), zs.length = m → cs.length = m * s → (∀ i, i < m → ∃ z, zs[i]? = some z ∧ (cs.drop (i * s)).take s = C z) → cs = zs.flatMap C := by
        intro m
        induction m with
        | zero =>
          intro zs cs hz hc _
          rw [List.length_eq_zero_iff] at hz
          rw [Nat.zero_mul, List.length_eq_zero_iff] at hc
          rw [hz, hc]; rfl
        | succ m ih =>
          intro zs cs hz hc hk
          match zs, hz with
          | z :: r, hz =>
            have hcm : (m + 1) * s = m * s + s := Nat.succ_mul m s
            obtain ⟨z', hz', h1⟩ := hk 0 (by omega)
            cases hz'
            rw [Nat.zero_mul, List.drop_zero] at h1
            have := ih r (cs.drop s) (by simpa using hz) (by rw [List.length_drop]; omega) (fun i hi => by
              obtain ⟨y, hy, h2⟩ := hk (i + 1) (by omega)
              refine ⟨y, by simpa using hy, ?_⟩
              rw [List.drop_drop, ← h2]
              congr 2
              rw [Nat.succ_mul]; omega)
            rw [List.flatMap_cons, ← h1, ← this, List.take_append_drop]
      exact go n zs cs hzl (by simpa using hl) key
    · cases h
end Go.Vc

/- A row's list of tables, looked up by name; rows of three numbers. -/
namespace Go.Vc
open Go

theorem laid_get {P : Program} {w : World} : ∀ {laid : List (String × DataW Unit)} {ps : List MemPlace}, DataW.LaidVars P w laid ps → ∀ {n : String} {d : DataW Unit}, (n, d) ∈ laid →
    ∃ g t cs fuel p, P.globalNamed n = some g ∧ (P.globals[g]?).map (·.type) = some t ∧ w.var? P n = some cs ∧ DataW.trod (fun _ => ()) P w 0 (fun _ => true) false fuel t cs.toList = some (d, p)
  | [], _, _, n, d, hm => by cases hm
  | (m, e) :: r, ps, h, n, d, hm => by
    obtain ⟨g, t, cs, fuel, p, q, h1, h2, h3, h4, h5, _⟩ := h
    rcases List.mem_cons.1 hm with hm | hm
    · cases hm; exact ⟨g, t, cs, fuel, p, h1, h2, h3, h4⟩
    · exact laid_get h5 hm
theorem trod_three {H : Type} {enc : TypeId × Value → H} {P : Program} {w : World} {base : Nat} {sp : Nat → Bool} {held : Bool} {fuel : Nat} {e ti : TypeId} {k : IntKind} {cs : List Value} {a b c : Int} {p : List MemPlace}
    (hu : structOf P e = some [(ti, 0), (ti, 1), (ti, 2)]) (hi : P.underlying ti = some (.int k)) (h1 : P.cellsOf ti = 1) (hl : cs.length = 3)
    (h : DataW.trod enc P w base sp held fuel e cs = some (.agg [.lit (.int k a), .lit (.int k b), .lit (.int k c)], p)) : cs = [.int k a, .int k b, .int k c] := by
  cases fuel with
  | zero => simp [DataW.trod] at h
  | succ fuel =>
    unfold structOf at hu
    split at hu
    · rename_i fs hfs
      simp only [DataW.trod, hfs] at h
      split at h
      · cases hm : fs.toList.mapM fun f => DataW.trod enc P w base sp held fuel f.type ((cs.drop f.offset).take (P.cellsOf f.type)) with
        | none => rw [hm] at h; cases h
        | some xs =>
          rw [hm] at h
          simp only [Option.map_some, Option.some.injEq, Prod.mk.injEq] at h hu
          obtain ⟨hx, _⟩ := h
          replace hx : xs.map (·.1) = [.lit (.int k a), .lit (.int k b), .lit (.int k c)] := by first | exact hx | (injection hx)
          have hlen : fs.toList.length = 3 := by have := congrArg List.length hu; simpa using this
          have key : ∀ (i : Nat) (z : Int), i < 3 → (xs.map (·.1))[i]? = some (.lit (.int k z)) → cs[i]? = some (.int k z) := by
            intro i z hi3 hz
            have hf : fs.toList[i]? = some (fs.toList[i]'(by omega)) := List.getElem?_eq_getElem _
            generalize fs.toList[i]'(by omega) = f at hf
            obtain ⟨y, hy, hfy⟩ := Lib.mapM_at hm i f hf
            have hto : f.type = ti ∧ f.offset = i := by
              have := congrArg (·[i]?) hu
              simp only [List.getElem?_map, hf, Option.map_some] at this
              rcases (by omega : i = 0 ∨ i = 1 ∨ i = 2) with rfl | rfl | rfl <;> simpa using this
            rw [hto.1, hto.2, h1] at hfy
            obtain ⟨z', hc, rfl, _⟩ := DataW.trod_int hi hfy
            simp only [List.getElem?_map, hy, Option.map_some, Option.some.injEq, DataW.lit.injEq, Lit.int.injEq, true_and] at hz
            subst hz
            have := congrArg (·[0]?) hc
            simpa [List.getElem?_take, List.getElem?_drop] using this
          have c0 := key 0 a (by decide) (by rw [hx]; rfl)
          have c1 := key 1 b (by decide) (by rw [hx]; rfl)
          have c2 := key 2 c (by decide) (by rw [hx]; rfl)
          obtain ⟨x, y, z, rfl⟩ : ∃ x y z, cs = [x, y, z] := by
            match cs, hl with
            | [x, y, z], _ => exact ⟨x, y, z, rfl⟩
          cases c0
          cases c1
          cases c2
          rfl
      · cases h
    · cases hu
end Go.Vc

/- The tables of package expr, out of a row's list. -/
namespace Go.Proofs.YtpjafkcmbinjiaaDoor
open Go Go.Vc Go.RowKit
set_option maxRecDepth 20000

theorem kind3 : structOf Tryd.prog 96 = some [(3, 0), (3, 1), (3, 2)] := by kernel_rfl
def shapeD (i : Nat) : DataW Unit := .agg [.lit (.int .i64 (manyOf i)), .lit (.int .i64 (wantOf i)), .lit (.int .i64 (kindOf i))]
theorem laid_shapes : Rows.laid_stackyard_expr_shapes (H := Unit) = .agg ((List.range 17).map shapeD) := by kernel_rfl
def rowsD (l : List (List Int)) : DataW Unit := .agg (l.map (Lib.tabData .i64))
theorem laid_ands : Rows.laid_stackyard_expr_ands (H := Unit) = rowsD [[0, 0, 0], [0, 1, 2], [0, 2, 2]] := by kernel_rfl
theorem laid_ors : Rows.laid_stackyard_expr_ors (H := Unit) = rowsD [[0, 1, 2], [1, 1, 1], [2, 1, 2]] := by kernel_rfl
theorem u65 : Tryd.prog.underlying 97 = some (.array 17 96) := by kernel_rfl
theorem u104 : Tryd.prog.underlying 118 = some (.array 3 117) := by kernel_rfl
theorem u103 : Tryd.prog.underlying 117 = some (.array 3 3) := by kernel_rfl
theorem uInt : Tryd.prog.underlying 3 = some (.int .i64) := by kernel_rfl
theorem cInt : Tryd.prog.cellsOf 3 = 1 := by kernel_rfl
theorem rows_cells {W : World} {fuel : Nat} {cs : List Value} {l : List (List Int)} {p : List MemPlace} (hl : ∀ r ∈ l, r.length = 3) (h : DataW.trod (fun _ => ()) Tryd.prog W 0 (fun _ => true) false fuel 118 cs = some (rowsD l, p)) :
    cs = l.flatMap fun r => (r ++ [0, 0, 0]).take 3 |>.map fun z => Value.int .i64 z := by
  have e : l.map (Lib.tabData (H := Unit) .i64) = l.map fun r => Lib.tabData .i64 ((r ++ [0, 0, 0]).take 3) := by
    apply List.map_congr_left
    intro r hr
    rw [List.take_append_of_le_length (by rw [hl r hr]; decide), List.take_of_length_le (by rw [hl r hr]; decide)]
  unfold rowsD at h
  rw [e] at h
  exact cells_of_arr (C := fun r => ((r ++ [0, 0, 0]).take 3).map fun z => Value.int .i64 z) (s := 3) u104 (by kernel_rfl) (by kernel_rfl) (fun z => by simp) (by decide)
    (fun fuel cs z p _ h => Lib.cells_of_tab u103 uInt cInt (by kernel_rfl) h) h
theorem tab_of {L : List (String × DataW Unit)} {W : World} (hm : ("stackyard/expr.shapes", Rows.laid_stackyard_expr_shapes) ∈ L) (h : laidMet Tryd.prog L W) : Tab W := by
  obtain ⟨ps, hl, _⟩ := h
  obtain ⟨g, t, cs, fuel, p, hg, ht, hv, hd⟩ := laid_get hl (n := "stackyard/expr.shapes") (d := Rows.laid_stackyard_expr_shapes) hm
  obtain rfl : g = 0 := Option.some.inj (hg.symm.trans (by kernel_rfl))
  obtain rfl : t = 97 := Option.some.inj (ht.symm.trans (by kernel_rfl))
  rw [laid_shapes] at hd
  have hc := cells_of_arr (C := shapeC) (s := 3) u65 (by kernel_rfl) (by kernel_rfl) (fun _ => rfl) (by decide) (fun fuel cs z p hl h => trod_three kind3 uInt cInt hl h) hd
  have hcs : cs = shapesA := by apply Array.ext'; rw [hc]; rfl
  intro k v hk
  rw [World.var?_cell hg hv, hcs, Nat.zero_add]; exact hk
theorem tab2_of {L : List (String × DataW Unit)} {W : World} (h1 : ("stackyard/expr.ands", Rows.laid_stackyard_expr_ands) ∈ L) (h2 : ("stackyard/expr.ors", Rows.laid_stackyard_expr_ors) ∈ L) (h : laidMet Tryd.prog L W) : Tab2 W := by
  obtain ⟨ps, hl, _⟩ := h
  constructor
  · obtain ⟨g, t, cs, fuel, p, hg, ht, hv, hd⟩ := laid_get hl (n := "stackyard/expr.ands") (d := Rows.laid_stackyard_expr_ands) h1
    obtain rfl : g = 1 := Option.some.inj (hg.symm.trans (by kernel_rfl))
    obtain rfl : t = 118 := Option.some.inj (ht.symm.trans (by kernel_rfl))
    rw [laid_ands] at hd
    have hc := rows_cells (by decide) hd
    have hcs : cs = tabA andI := by apply Array.ext'; rw [hc]; rfl
    intro k v hk
    rw [World.var?_cell hg hv, hcs, Nat.zero_add]; exact hk
  · obtain ⟨g, t, cs, fuel, p, hg, ht, hv, hd⟩ := laid_get hl (n := "stackyard/expr.ors") (d := Rows.laid_stackyard_expr_ors) h2
    obtain rfl : g = 2 := Option.some.inj (hg.symm.trans (by kernel_rfl))
    obtain rfl : t = 118 := Option.some.inj (ht.symm.trans (by kernel_rfl))
    rw [laid_ors] at hd
    have hc := rows_cells (by decide) hd
    have hcs : cs = tabA orJ := by apply Array.ext'; rw [hc]; rfl
    intro k v hk
    rw [World.var?_cell hg hv, hcs, Nat.zero_add]; exact hk
end Go.Proofs.YtpjafkcmbinjiaaDoor

/- An argument that is an expression, opened. -/
namespace Go.Vc
open Go Go.RowKit

theorem ArgF.fields {n : Nat} {P : Program} {w : World} {t : TypeId} {cs : List Value} {l : List (TypeId × Nat)} (hu : structOf P t = some l) (h : ArgF (n + 1) P w t cs) :
    cs.length = P.cellsOf t ∧ ∀ x ∈ l, ArgF n P w x.1 ((cs.drop x.2).take (P.cellsOf x.1)) := by
  unfold structOf at hu
  split at hu
  · rename_i fs hfs
    cases hu
    obtain ⟨h1, h2⟩ := ArgF.struct hfs h
    refine ⟨h1, fun x hx => ?_⟩
    obtain ⟨f, hf, rfl⟩ := List.mem_map.1 hx
    exact h2 f hf
  · cases hu
theorem ExsAt.all {w : World} : ∀ (css : List (List Value)), (∀ c ∈ css, ∃ x, ExAt w x c ∧ ∀ y ∈ nodesT x, fitI y.v.n) → ∃ xs, ExsAt w xs css ∧ ∀ y ∈ nodesTs xs, fitI y.v.n
  | [], _ => ⟨[], by unfold ExsAt; trivial, fun y hy => by unfold nodesTs at hy; cases hy⟩
  | c :: r, h => by
    obtain ⟨x, h1, h2⟩ := h c (by simp)
    obtain ⟨xs, h3, h4⟩ := ExsAt.all r fun q hq => h q (by simp [hq])
    refine ⟨x :: xs, by unfold ExsAt; exact ⟨h1, h3⟩, fun y hy => ?_⟩
    unfold nodesTs at hy
    rcases List.mem_append.1 hy with hy | hy
    · exact h2 y hy
    · exact h4 y hy
theorem arg_ex {P : Program} {w : World} {t ti ts tv tk : TypeId} (hu : structOf P t = some [(ti, 0), (ts, 1), (tv, 2), (tk, 5)]) (hc : P.cellsOf t = 6) (h1 : P.cellsOf ti = 1) (h2 : P.cellsOf ts = 1) (h3 : P.cellsOf tv = 3) (h4 : P.cellsOf tk = 1)
    (u1 : P.underlying ti = some (.int .i64)) (u2 : P.underlying ts = some .string) (u4 : P.underlying tk = some (.slice t)) (hv : ∀ cs, Arg P w tv cs → ∃ v : Val, cs = v.cs ∧ v.fit) :
    ∀ (f : Nat) (cs : List Value), ArgF f P w t cs → ∃ x, ExAt w x cs ∧ ∀ y ∈ nodesT x, fitI y.v.n := by
  intro f
  induction f using Nat.strongRecOn with
  | ind f ih =>
  intro cs h
  obtain ⟨n, rfl⟩ := h.pos
  obtain ⟨hl, hf⟩ := h.fields hu
  rw [hc] at hl
  obtain ⟨a, b, c, d, e, g, rfl⟩ : ∃ a b c d e g, cs = [a, b, c, d, e, g] := by
    match cs, hl with
    | [a, b, c, d, e, g], _ => exact ⟨a, b, c, d, e, g, rfl⟩
  have f1 := hf (ti, 0) (by simp)
  have f2 := hf (ts, 1) (by simp)
  have f3 := hf (tv, 2) (by simp)
  have f4 := hf (tk, 5) (by simp)
  simp only [h1, h2, h3, h4] at f1 f2 f3 f4
  obtain ⟨op, e1, _⟩ := Arg.int u1 f1.arg
  obtain ⟨nm, e2, _⟩ := Arg.string u2 f2.arg
  obtain ⟨v, e3, hvf⟩ := hv _ f3.arg
  obtain ⟨m, rfl⟩ := f4.pos
  obtain ⟨p, k, cap, css, e4, hkc, hcm, _, hcl, hall, hat, hnil⟩ := ArgF.slice u4 (by omega) f4
  simp [Val.cs] at e1 e2 e3 e4
  obtain ⟨rfl, rfl, rfl⟩ := e3
  subst e1 e2 e4
  obtain ⟨xs, hxs, hxf⟩ := ExsAt.all (w := w) (css.take k) fun q hq => ih m (by omega) q (hall q (List.mem_of_mem_take hq)).2
  refine ⟨.mk op nm v xs, ?_, fun y hy => ?_⟩
  · unfold ExAt
    refine ⟨p, k, cap, css.take k, rfl, ⟨hkc, hcm⟩, hnil, by rw [List.length_take]; omega, fun q hq => by rw [(hall q (List.mem_of_mem_take hq)).1, hc], ?_, hxs⟩
    have hsplit : css.flatten = (css.take k).flatten ++ (css.drop k).flatten := by rw [← List.flatten_append, List.take_append_drop]
    have := hat.take ((css.take k).flatten.length)
    rw [hsplit, List.take_left] at this
    exact this
  · unfold nodesT at hy
    rcases List.mem_cons.1 hy with rfl | hy
    · exact hvf.2
    · exact hxf y hy
end Go.Vc

/- The arguments of law16's statements, as they are handed in; the walks. -/
namespace Go.Proofs.YtpjafkcmbinjiaaDoor
open Go Go.Vc Go.RowKit
set_option maxRecDepth 20000

theorem list3 {cs : List Value} (h : cs.length = 3) : ∃ a b d, cs = [a, b, d] := by
  match cs, h with
  | [a, b, d], _ => exact ⟨a, b, d, rfl⟩
theorem arg_value {w : World} {cs : List Value} (h : Arg Tryd.prog w 25 cs) : ∃ v : Val, cs = v.cs ∧ v.fit :=
  arg_val (ti := 3) (tn := 2) (ts := 9) (by kernel_rfl) (by kernel_rfl) (by kernel_rfl) (by kernel_rfl) (by kernel_rfl) (by kernel_rfl) (by kernel_rfl) (by kernel_rfl) h
theorem arg_col {w : World} {cs : List Value} (h : Arg Tryd.prog w 48 cs) : ∃ c : Col, cs = c.cs ∧ c.name.size ≤ 140737488351232 := by
  obtain ⟨hl, hf⟩ := Arg.fields (l := [(9, 0), (3, 1), (4, 2)]) (by kernel_rfl) h
  have h3 : Tryd.prog.cellsOf 48 = 3 := by kernel_rfl
  rw [h3] at hl
  obtain ⟨a, b, d, rfl⟩ := list3 hl
  have f1 := hf (9, 0) (by simp)
  have f2 := hf (3, 1) (by simp)
  have f3 := hf (4, 2) (by simp)
  have c1 : Tryd.prog.cellsOf 9 = 1 := by kernel_rfl
  have c2 : Tryd.prog.cellsOf 3 = 1 := by kernel_rfl
  have c3 : Tryd.prog.cellsOf 4 = 1 := by kernel_rfl
  simp only [c1, c2, c3] at f1 f2 f3
  obtain ⟨s, e1, hs⟩ := Arg.string (by kernel_rfl) f1
  obtain ⟨n, e2, _⟩ := Arg.int (k := .i64) (by kernel_rfl) f2
  obtain ⟨v, e3⟩ := Arg.bool (by kernel_rfl) f3
  simp at e1 e2 e3
  subst e1 e2 e3
  exact ⟨⟨s, n, v⟩, rfl, hs⟩
theorem arg_cols {w : World} {v : Value} (h : Arg Tryd.prog w 22 [v]) : ∃ p n c cols, v = .slice p n c ∧ Cols w p n c cols ∧ ∀ x ∈ cols, x.name.size ≤ 140737488351232 := by
  obtain ⟨p, n, c, l, e, h1, h2, _⟩ := arg_ls (e := 48) (enc := Col.cs) (Q := fun x => x.name.size ≤ 140737488351232) (by kernel_rfl) (by decide +kernel) (fun x hx => arg_col hx) (fun _ => by kernel_rfl) h
  exact ⟨p, n, c, l, e, h1, h2⟩
theorem arg_row {w : World} {v : Value} (h : Arg Tryd.prog w 32 [v]) : ∃ p n c row, v = .slice p n c ∧ Vs w p n c row ∧ ∀ x ∈ row, x.fit := by
  obtain ⟨p, n, c, l, e, h1, h2, _⟩ := arg_ls (e := 25) (enc := Val.cs) (Q := Val.fit) (by kernel_rfl) (by decide +kernel) (fun x hx => arg_value hx) (fun _ => by kernel_rfl) h
  exact ⟨p, n, c, l, e, h1, h2⟩
theorem arg_expr {w : World} {cs : List Value} (h : Arg Tryd.prog w 28 cs) : ∃ x, ExAt w x cs ∧ ∀ y ∈ nodesT x, fitI y.v.n := by
  obtain ⟨f, h⟩ := h.told
  exact arg_ex (ti := 3) (ts := 9) (tv := 25) (tk := 26) (by kernel_rfl) (by kernel_rfl) (by kernel_rfl) (by kernel_rfl) (by kernel_rfl) (by kernel_rfl) (by kernel_rfl) (by kernel_rfl) (by kernel_rfl) (fun cs h => arg_value h) f cs h

end Go.Proofs.YtpjafkcmbinjiaaDoor

/- The arguments of PruneSound's statement, where they are small; the walk. -/
namespace Go.Proofs.YtpjafkcmbinjiaaDoor
open Go Go.Vc Go.RowKit
set_option maxRecDepth 20000

/-- A slice is no longer than its bulk. -/
theorem slice_bulk {H : Type} {enc : TypeId × Value → H} {P : Program} {W : World} {base : Nat} {spare : Nat → Bool} {held : Bool} {t e : TypeId} {p : Option Addr} {n c : Nat} {d : DataW H} {ps : List MemPlace} {m : Nat}
    (ht : P.underlying t = some (.slice e)) (h : DataW.trod enc P W base spare held m t [.slice p n c] = some (d, ps)) : n ≤ Rows.uptoBulk d := by
  have len : ∀ l : List (DataW H), l.length ≤ Rows.uptoBulkAll l := by
    intro l
    induction l with
    | nil => simp [Rows.uptoBulkAll]
    | cons x r ih =>
      have : 1 ≤ Rows.uptoBulk x := by
        cases x with
        | lit l => cases l <;> simp [Rows.uptoBulk]
        | nil => simp [Rows.uptoBulk]
        | ptr d => simp [Rows.uptoBulk]
        | slice elems spare => simp [Rows.uptoBulk]
        | agg parts => simp [Rows.uptoBulk]
        | iface t d => simp [Rows.uptoBulk]
        | map entries => simp [Rows.uptoBulk]
        | held h => simp [Rows.uptoBulk]
      simp only [Rows.uptoBulkAll, List.length_cons]; omega
  rcases Go.Deep.open_slice ht h with ⟨e1, _⟩ | ⟨a, n', cap, m', k, D, Pl, e1, _, _, _, _, e2, _⟩
  · cases e1; omega
  · cases e1
    obtain ⟨rfl, _⟩ := Prod.mk.inj e2
    have := len ((List.range n).map D)
    simp only [List.length_map, List.length_range] at this
    simp only [Rows.uptoBulk]; omega

theorem list_pick {α β : Type} {Q : α → β → Prop} : ∀ {hs : List α}, (∀ x ∈ hs, ∃ r, Q x r) → ∃ L : List β, L.length = hs.length ∧ ∀ (i : Nat) x r, hs[i]? = some x → L[i]? = some r → Q x r
  | [], _ => ⟨[], rfl, fun i x r h => by simp at h⟩
  | x :: hs, h => by
    obtain ⟨r, hr⟩ := h x (by simp)
    obtain ⟨L, hlen, hL⟩ := list_pick (hs := hs) fun y hy => h y (by simp [hy])
    refine ⟨r :: L, by simp [hlen], fun i y s hy hs' => ?_⟩
    cases i with
    | zero => cases hy; cases hs'; exact hr
    | succ i => exact hL i y s (by simpa using hy) (by simpa using hs')
theorem fit_val {v : Val} (h : v.fit) : fitI v.n := by
  have := h.2; unfold i64F at this; unfold fitI; omega
theorem arg_rows {w : World} {v : Value} (h : Arg Tryd.prog w 23 [v]) : ∃ p n c hs L, v = .slice p n c ∧ Rws w p n c hs L ∧ (∀ r ∈ L, FitR r) := by
  obtain ⟨p, n, c, l, rfl, hl, hf, _⟩ := arg_ls (e := 32) (enc := Sl.cs) (Q := fun x => ∃ r, Vs w x.p x.n x.c r ∧ ∀ v ∈ r, v.fit) (by kernel_rfl) (by decide +kernel)
    (fun x hx => by
      obtain ⟨p, n, c, css, he, _⟩ := Arg.slice (e := 25) (by kernel_rfl) (by decide +kernel) hx
      subst he
      obtain ⟨p', n', c', r, he, h1, h2⟩ := arg_row hx
      cases he
      exact ⟨⟨p, n, c⟩, rfl, r, h1, h2⟩) (fun a => by rw [Sl.cs_length]; kernel_rfl) h
  obtain ⟨L, hL, hq⟩ := list_pick hf
  refine ⟨p, n, c, l, L, rfl, ⟨hl, fun i x r hx hr => (hq i x r hx hr).1, by rw [hL, hl.len]⟩, fun r hr u hu => ?_⟩
  obtain ⟨i, hi⟩ := List.mem_iff_getElem?.1 hr
  have hlt := (List.getElem?_eq_some_iff.1 hi).1
  exact fit_val ((hq i _ r (List.getElem?_eq_getElem (by omega)) hi).2 u hu)
theorem sound_walk (W : World) (hT : Tab W ∧ Tab2 W) (v0 v1 : Value) (cs2 : Array Value) (a0 : Arg Tryd.prog W 22 [v0]) (a1 : Arg Tryd.prog W 23 [v1]) (a2 : Arg Tryd.prog W 28 cs2.toList)
    (b0 : ∀ p n c, v0 = .slice p n c → n ≤ 1048576) :
    Calls Tryd.prog 6 #[v0, v1, .agg cs2] W fun e w' => e = .returned (.bool true) ∧ Ext W w' := by
  obtain ⟨p, n, c, cols, rfl, hc, hs⟩ := arg_cols a0
  obtain ⟨rp, rn, rc, heads, L, rfl, hR, hf⟩ := arg_rows a1
  obtain ⟨x, hx, hxf⟩ := arg_expr a2
  have := b0 p n c rfl
  exact lawSound_ok x hT.1 hT.2 hc (fun y hy => by have := hs y hy; omega) (by omega) hR hx hf hxf
theorem tabsS_of {W : World} (h : laidMetH Tryd.prog Rows.pruneSoundUptoRow.laid W) : Tab W ∧ Tab2 W := ⟨tab_of (L := Rows.pruneSoundUptoRow.laid) (by simp [Rows.pruneSoundUptoRow]) h, tab2_of (L := Rows.pruneSoundUptoRow.laid) (by simp [Rows.pruneSoundUptoRow]) (by simp [Rows.pruneSoundUptoRow]) h⟩
end Go.Proofs.YtpjafkcmbinjiaaDoor

/- Three closed facts of the seat's program, asked once: they want much memory. -/
namespace Go.Proofs.YtpjafkcmbinjiaaDoor
set_option maxRecDepth 100000 in
theorem Tryd.entersB : (Tryd.prog.mayEnter && (false == Tryd.prog.liftsFinal) && (Tryd.prog.make == some .cut)) = true := by kernel_rfl
theorem Tryd.enters : Tryd.prog.mayEnter = true ∧ Tryd.prog.liftsFinal = false ∧ Tryd.prog.make = some .cut := by
  have h := Tryd.entersB
  simp only [Bool.and_eq_true, beq_iff_eq] at h
  exact ⟨h.1.1, h.1.2.symm, h.2⟩
end Go.Proofs.YtpjafkcmbinjiaaDoor
