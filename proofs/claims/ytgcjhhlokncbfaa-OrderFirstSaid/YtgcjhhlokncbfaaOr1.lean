/- The contracts of package order and of its document's answer: which rows may be, how two stand, copies. -/
import Derived.Test.YtgcjhhlokncbfaaV15
import Derived.Test.YtgcjhhlokncbfaaVm
import Derived.Test.YtgcjhhlokncbfaaOr0
namespace Go.Proofs.Ytgcjhhlokncbfaa
open Go Go.Vc Go.RowKit

section
variable {w : World} {p kp ap bp : Option Addr} {n c kn kc an ac bn bc : Nat} {r a b : List Val} {ks : List Key}

theorem oright1_ok (w : World) (x : Key) {fv : Nat} {p : Option Addr} {n c : Nat} (h : w.cell? ⟨fv, 0, none⟩ = some (.slice p n c)) :
    Calls Try.prog 34 #[.agg #[.int .i64 x.k, .bool x.d], .pointer (some ⟨fv, 0, none⟩)] w fun e w' => e = .returned (.bool (keyBad n x)) ∧ Ext w w' := by
  apply oright1_vc
  unfold oright1_T
  intro b1 w2 h1
  have hc : w2.cell? ⟨b1, 0, none⟩ = some (.int .i64 x.k) := by rw [(Blk.new h1).cell]; rfl
  refine ⟨_, hc, fun hlt => ⟨?_, h1.ext⟩, fun hge => ⟨_, hc, _, _, _, cell_ext h h1.ext, ?_, h1.ext⟩⟩
  · unfold keyBad; rw [decide_eq_true (.inl hlt)]
  · unfold keyBad
    have : decide ((n : Int) ≤ x.k) = decide (x.k < 0 ∨ (n : Int) ≤ x.k) := by rw [decide_eq_decide]; omega
    rw [this]
theorem ckey_ok (w : World) (hk : Ks w kp kn kc ks) {fv : Nat} (h : w.cell? ⟨fv, 0, none⟩ = some (.slice p n c)) :
    Calls Try.prog 33 #[.slice kp kn kc, .func (.func 34) #[] #[.pointer (some ⟨fv, 0, none⟩)]] w fun e w' => e = .returned (.bool (ks.any (keyBad n))) ∧ Ext w w' := by
  apply ckey_vc
  unfold ckey_T
  apply ikey_vc
  unfold ikey_T
  have hl := hk.len
  have hm : kn ≤ 9223372036854775807 := hk.le
  refine ⟨fun i w' => ∃ k : Nat, i = (k : Int) ∧ k ≤ kn ∧ (ks.drop k).any (keyBad n) = ks.any (keyBad n) ∧ Ext w w', fun i _ => kn - i.toNat, ⟨0, rfl, Nat.zero_le _, by simp, .rfl⟩, ?_⟩
  rintro i w4 ⟨k, rfl, hkn, ha, hx⟩
  refine ⟨fun hlt => ?_, fun hge => ⟨_, rfl, ?_, hx⟩⟩
  · have g : ks[k]? = some (ks[k]'(by omega)) := List.getElem?_eq_getElem _
    have hd := any_drop (f := keyBad n) g
    obtain ⟨b, o, hp, c0, c1⟩ := (hk.ext hx).key g
    simp only [Int.toNat_natCast]
    refine ⟨b, o, hp, by omega, by omega, _, c0, _, c1, (oright1_ok w4 _ (cell_ext h hx)).mono ?_⟩
    rintro e w12 ⟨rfl, e12⟩
    have hx12 := hx.trans e12
    refine ⟨_, rfl, fun hb => ⟨_, rfl, ?_, hx12⟩, fun hb => ?_⟩
    · rw [← ha, hd, hb, decide_eq_true (by omega : (0 : Int) ≤ (k : Int))]; rfl
    · rw [i64_next (by omega)]
      exact ⟨⟨k + 1, rfl, by omega, by rw [← ha, hd, hb]; rfl, hx12⟩, by simp only [Int.toNat_natCast]; omega⟩
  · rw [← ha, List.drop_eq_nil_of_le (by omega)]; rfl

theorem oright_ok (w : World) (h : Vs w p n c r) (hk : Ks w kp kn kc ks) : Calls Try.prog 21 #[.slice p n c, .slice kp kn kc] w fun e w' => e = .returned (.bool (rightR r ks)) ∧ Ext w w' := by
  apply oright_vc
  unfold oright_T
  intro b1 w2 h1
  have hl := h.len
  have hm : n ≤ 9223372036854775807 := h.le
  have hc2 : w2.cell? ⟨b1, 0, none⟩ = some (.slice p n c) := (Blk.new h1).one
  refine ⟨_, _, _, hc2, fun i w' => ∃ k : Nat, i = (k : Int) ∧ k ≤ n ∧ (r.drop k).all Val.right = r.all Val.right ∧ Ext w2 w', fun i _ => n - i.toNat, ⟨0, rfl, Nat.zero_le _, by simp, .rfl⟩, ?_⟩
  rintro i w10 ⟨k, rfl, hkn, ha, hx⟩
  refine ⟨fun hlt => ?_, fun hge => ?_⟩
  · have g : r[k]? = some (r[k]'(by omega)) := List.getElem?_eq_getElem _
    have hd := all_drop (f := Val.right) g
    generalize r[k]'(by omega) = v at g hd
    obtain ⟨b, o, hp, c0, c1, c2⟩ := (h.ext (h1.ext.trans hx)).val g
    simp only [Int.toNat_natCast]
    refine ⟨b, o, hp, by omega, by omega, _, c0, _, c1, _, c2, fun b18 w19 h19 => ?_⟩
    have H := ((Hold.start (w0 := w2) hx).new h19)
    obtain ⟨q0, q1, q2⟩ := (H.blk 0 rfl).c3
    refine ⟨⟨_, q0⟩, (H.blk 0 rfl).frozen _, ⟨_, q1⟩, (H.blk 0 rfl).frozen _, ⟨_, q2⟩, (H.blk 0 rfl).frozen _, fun w24 h24 => ?_⟩
    have H24 := H.put 0 rfl h24
    have B : Blk w24 b18 48 #[.int .i64 v.k, .int .i64 v.n, .string v.s] := H24.blk 0 rfl
    obtain ⟨q0, q1, q2⟩ := B.c3
    refine ⟨_, q0, _, q1, _, q2, (vright_ok v w24).mono ?_⟩
    rintro e w30 ⟨rfl, e30⟩
    have hx30 := (H24.step e30).ext
    refine ⟨_, rfl, fun hb => ⟨?_, h1.ext.trans hx30⟩, fun hb => ?_⟩
    · unfold rightR rightL; rw [← ha, hd, hb]; rfl
    · rw [i64_next (by omega)]
      exact ⟨⟨k + 1, rfl, by omega, by rw [← ha, hd, hb]; rfl, hx30⟩, by simp only [Int.toNat_natCast]; omega⟩
  · refine (ckey_ok w10 (hk.ext (h1.ext.trans hx)) (cell_ext hc2 hx)).mono ?_
    rintro e w36 ⟨rfl, e36⟩
    refine ⟨_, rfl, ?_, (h1.ext.trans hx).trans e36⟩
    have : r.all Val.right = true := by rw [← ha, List.drop_eq_nil_of_le (by omega)]; rfl
    unfold rightR rightL
    rw [this, hl, Bool.true_and]

theorem r15right_ok (w : World) (h : Vs w p n c r) (hk : Ks w kp kn kc ks) : Calls Try.prog 23 #[.slice p n c, .slice kp kn kc] w fun e w' => e = .returned (.bool (rightR r ks)) ∧ Ext w w' := by
  apply r15right_vc
  unfold r15right_T
  have hl := h.len
  have hm : n ≤ 9223372036854775807 := h.le
  have hkl := hk.len
  have hkm : kn ≤ 9223372036854775807 := hk.le
  refine ⟨fun i w' => ∃ k : Nat, i = (k : Int) ∧ k ≤ n ∧ (r.drop k).all Val.right = r.all Val.right ∧ Ext w w', fun i _ => n - i.toNat, ⟨0, rfl, Nat.zero_le _, by simp, .rfl⟩, ?_⟩
  rintro i w10 ⟨k, rfl, hkn, ha, hx⟩
  refine ⟨fun hlt => ?_, fun hge => ?_⟩
  · have g : r[k]? = some (r[k]'(by omega)) := List.getElem?_eq_getElem _
    have hd := all_drop (f := Val.right) g
    generalize r[k]'(by omega) = v at g hd
    obtain ⟨b, o, hp, c0, c1, c2⟩ := (h.ext hx).val g
    simp only [Int.toNat_natCast]
    refine ⟨b, o, hp, by omega, by omega, _, c0, _, c1, _, c2, (rvright_ok v w10).mono ?_⟩
    rintro e w30 ⟨rfl, e30⟩
    have hx30 := hx.trans e30
    refine ⟨_, rfl, fun hb => ⟨?_, hx30⟩, fun hb => ?_⟩
    · unfold rightR rightL; rw [← ha, hd, hb]; rfl
    · rw [i64_next (by omega)]
      exact ⟨⟨k + 1, rfl, by omega, by rw [← ha, hd, hb]; rfl, hx30⟩, by simp only [Int.toNat_natCast]; omega⟩
  · have hall : r.all Val.right = true := by rw [← ha, List.drop_eq_nil_of_le (by omega)]; rfl
    refine ⟨fun i w' => ∃ k : Nat, i = (k : Int) ∧ k ≤ kn ∧ (ks.drop k).any (keyBad n) = ks.any (keyBad n) ∧ Ext w w', fun i _ => kn - i.toNat, ⟨0, rfl, Nat.zero_le _, by simp, hx⟩, ?_⟩
    rintro i w4 ⟨k, rfl, hkn, ha, hx⟩
    refine ⟨fun hlt => ?_, fun hge => ⟨?_, hx⟩⟩
    · have g : ks[k]? = some (ks[k]'(by omega)) := List.getElem?_eq_getElem _
      have hd := any_drop (f := keyBad n) g
      generalize ks[k]'(by omega) = v at g hd
      obtain ⟨b, o, hp, c0, c1⟩ := (hk.ext hx).key g
      simp only [Int.toNat_natCast]
      have no : keyBad n v = true → Ending.returned (Value.bool false) = Ending.returned (Value.bool (rightR r ks)) := by
        intro hb
        have : ks.any (keyBad n) = true := by rw [← ha, hd, hb]; rfl
        unfold rightR; rw [hl, this, Bool.not_true, Bool.and_false]
      refine ⟨b, o, hp, by omega, by omega, _, c0, fun hneg => ⟨no (by unfold keyBad; exact decide_eq_true (.inl hneg)), hx⟩, fun hpos => ⟨b, o, hp, by omega, by omega, _, c0, fun hbig => ⟨no (by unfold keyBad; exact decide_eq_true (.inr hbig)), hx⟩, fun hsm => ?_⟩⟩
      rw [i64_next (by omega)]
      refine ⟨⟨k + 1, rfl, by omega, ?_, hx⟩, by simp only [Int.toNat_natCast]; omega⟩
      have : keyBad n v = false := by unfold keyBad; exact decide_eq_false (by omega)
      rw [← ha, hd, this]; rfl
    · have : ks.any (keyBad n) = false := by rw [← ha, List.drop_eq_nil_of_le (by omega)]; rfl
      unfold rightR rightL; rw [hl, this, hall]; rfl

theorem ostands_ok (w : World) (ha : Vs w ap an ac a) (hb : Vs w bp bn bc b) (hk : Ks w kp kn kc ks) (ra : rightR a ks = true) (rb : rightR b ks = true) :
    Calls Try.prog 22 #[.slice ap an ac, .slice bp bn bc, .slice kp kn kc] w fun e w' => e = .returned (.int .i64 (standsF ks a b)) ∧ Ext w w' := by
  apply ostands_vc
  unfold ostands_T
  have hkl := hk.len
  have hkm : kn ≤ 9223372036854775807 := hk.le
  refine ⟨fun s i w' => ∃ k : Nat, i = (k : Int) ∧ s = 0 ∧ k ≤ kn ∧ standsF (ks.drop k) a b = standsF ks a b ∧ Ext w w', fun _ i _ => kn - i.toNat, ⟨0, rfl, rfl, Nat.zero_le _, by simp, .rfl⟩, ?_⟩
  rintro s i w5 ⟨k, rfl, rfl, hkn, he, hx⟩
  refine ⟨fun hlt => ?_, fun hge => ⟨?_, hx⟩⟩
  · have g : ks[k]? = some (ks[k]'(by omega)) := List.getElem?_eq_getElem _
    have hd := standsF_drop (a := a) (b := b) g
    generalize ks[k]'(by omega) = x at g hd
    have xa := rightR_key ra (List.mem_of_getElem? g)
    have xb := rightR_key rb (List.mem_of_getElem? g)
    obtain ⟨b8, o9, hp, c0, c1⟩ := (hk.ext hx).key g
    simp only [Int.toNat_natCast]
    refine ⟨b8, o9, hp, by omega, by omega, _, c0, _, c1, fun b12 w13 h13 => ?_⟩
    have H := ((Hold.start (w0 := w) hx).new h13)
    have B0 : Blk w13 b12 43 #[.int .i64 0, .bool false] := H.blk 0 rfl
    refine ⟨⟨_, by rw [B0.cell]; rfl⟩, B0.frozen _, ⟨_, by rw [B0.cell]; rfl⟩, B0.frozen _, fun w17 h17 w19 h19 => ?_⟩
    have H19 := (H.put 0 rfl h17).step h19.ext
    have B : Blk w19 b12 43 #[.int .i64 x.k, .bool x.d] := H19.blk 0 rfl
    have q0 : w19.cell? ⟨b12, 0, none⟩ = some (.int .i64 x.k) := by rw [B.cell]; rfl
    obtain ⟨i', hi'⟩ := Int.eq_ofNat_of_zero_le xa.1
    have va : a[i']? = some (a[i']'(by omega)) := List.getElem?_eq_getElem _
    have vb : b[i']? = some (b[i']'(by omega)) := List.getElem?_eq_getElem _
    have la := ha.len
    have lb := hb.len
    generalize a[i']'(by omega) = va' at va
    generalize b[i']'(by omega) = vb' at vb
    obtain ⟨b22, o23, hp1, a0, a1, a2⟩ := (ha.ext H19.ext).val va
    obtain ⟨b28, o29, hp2, d0, d1, d2⟩ := (hb.ext H19.ext).val vb
    have ek : x.k.toNat = i' := by omega
    refine ⟨_, q0, b22, o23, hp1, by omega, by omega, _, by rw [ek]; exact a0, _, by rw [ek]; exact a1, _, by rw [ek]; exact a2, _, q0, b28, o29, hp2, by omega, by omega, _, by rw [ek]; exact d0, _, by rw [ek]; exact d1, _, by rw [ek]; exact d2, (vcompare_ok va' vb' w19).mono ?_⟩
    rintro e w34 ⟨rfl, e34⟩
    have H34 := H19.step e34
    have B' : Blk w34 b12 43 #[.int .i64 x.k, .bool x.d] := H34.blk 0 rfl
    have hr := cmpV_range va' vb'
    have ec : keyC x a b = if x.d then - cmpV va' vb' else cmpV va' vb' := by unfold keyC; rw [ek, getD_of va, getD_of vb]
    have ew : IntKind.i64.wrap (0 - cmpV va' vb') = - cmpV va' vb' := by rw [i64_fit (by omega) (by omega)]; omega
    refine ⟨_, rfl, ?_⟩
    rw [ew]
    refine ⟨_, by rw [B'.cell]; rfl, fun hdesc => ⟨fun hne => ⟨?_, H34.ext⟩, fun h0 => ?_⟩, fun hasc => ⟨fun hne => ⟨?_, H34.ext⟩, fun h0 => ?_⟩⟩
    · rw [hdesc, if_pos rfl] at ec
      rw [← he, hd, ec, if_pos hne]
    · rw [hdesc, if_pos rfl] at ec
      rw [i64_next (by omega)]
      exact ⟨⟨k + 1, rfl, h0, by omega, by rw [← he, hd, ec, if_neg (by simpa using h0)], H34.ext⟩, by simp only [Int.toNat_natCast]; omega⟩
    · rw [hasc, if_neg (by simp)] at ec
      rw [← he, hd, ec, if_pos hne]
    · rw [hasc, if_neg (by simp)] at ec
      rw [i64_next (by omega)]
      exact ⟨⟨k + 1, rfl, h0, by omega, by rw [← he, hd, ec, if_neg (by simpa using h0)], H34.ext⟩, by simp only [Int.toNat_natCast]; omega⟩
  · rw [← he, List.drop_eq_nil_of_le (by omega)]; rfl

theorem r15stands_ok (w : World) (ha : Vs w ap an ac a) (hb : Vs w bp bn bc b) (hk : Ks w kp kn kc ks) (ra : rightR a ks = true) (rb : rightR b ks = true) :
    Calls Try.prog 24 #[.slice ap an ac, .slice bp bn bc, .slice kp kn kc] w fun e w' => e = .returned (.int .i64 (standsF ks a b)) ∧ Ext w w' := by
  apply r15stands_vc
  unfold r15stands_T
  have hkl := hk.len
  have hkm : kn ≤ 9223372036854775807 := hk.le
  refine ⟨fun i w' => ∃ k : Nat, i = (k : Int) ∧ k ≤ kn ∧ standsF (ks.drop k) a b = standsF ks a b ∧ Ext w w', fun i _ => kn - i.toNat, ⟨0, rfl, Nat.zero_le _, by simp, .rfl⟩, ?_⟩
  rintro i w5 ⟨k, rfl, hkn, he, hx⟩
  refine ⟨fun hlt => ?_, fun hge => ⟨?_, hx⟩⟩
  · have g : ks[k]? = some (ks[k]'(by omega)) := List.getElem?_eq_getElem _
    have hd := standsF_drop (a := a) (b := b) g
    generalize ks[k]'(by omega) = x at g hd
    have xa := rightR_key ra (List.mem_of_getElem? g)
    have xb := rightR_key rb (List.mem_of_getElem? g)
    obtain ⟨b8, o9, hp, c0, c1⟩ := (hk.ext hx).key g
    simp only [Int.toNat_natCast]
    refine ⟨b8, o9, hp, by omega, by omega, _, c0, fun w10 h10 => ?_⟩
    have hx10 := hx.trans h10.ext
    obtain ⟨i', hi'⟩ := Int.eq_ofNat_of_zero_le xa.1
    have va : a[i']? = some (a[i']'(by omega)) := List.getElem?_eq_getElem _
    have vb : b[i']? = some (b[i']'(by omega)) := List.getElem?_eq_getElem _
    have la := ha.len
    have lb := hb.len
    generalize a[i']'(by omega) = va' at va
    generalize b[i']'(by omega) = vb' at vb
    obtain ⟨b22, o23, hp1, a0, a1, a2⟩ := (ha.ext hx10).val va
    obtain ⟨b28, o29, hp2, d0, d1, d2⟩ := (hb.ext hx10).val vb
    have ek : x.k.toNat = i' := by omega
    refine ⟨b22, o23, hp1, by omega, by omega, _, by rw [ek]; exact a0, _, by rw [ek]; exact a1, _, by rw [ek]; exact a2, b28, o29, hp2, by omega, by omega, _, by rw [ek]; exact d0, _, by rw [ek]; exact d1, _, by rw [ek]; exact d2, (rvcompare_ok va' vb' w10).mono ?_⟩
    rintro e w34 ⟨rfl, e34⟩
    have hx34 := hx10.trans e34
    rw [rcmpV_eq (rightR_val ra (List.mem_of_getElem? va)) (rightR_val rb (List.mem_of_getElem? vb))]
    have hr := cmpV_range va' vb'
    have ec : keyC x a b = if x.d then - cmpV va' vb' else cmpV va' vb' := by unfold keyC; rw [ek, getD_of va, getD_of vb]
    have ew : IntKind.i64.wrap (0 - cmpV va' vb') = - cmpV va' vb' := by rw [i64_fit (by omega) (by omega)]; omega
    obtain ⟨b26, o27, hp3, c0', c1'⟩ := (hk.ext hx34).key g
    have next : cmpV va' vb' = 0 → _ := fun h0 => show (∃ k' : Nat, ((k + 1 : Nat) : Int) = (k' : Int) ∧ k' ≤ kn ∧ standsF (ks.drop k') a b = standsF ks a b ∧ Ext w w34) ∧ kn - (((k + 1 : Nat) : Int)).toNat < kn - ((k : Int)).toNat from by
      refine ⟨⟨k + 1, rfl, by omega, ?_, hx34⟩, by simp only [Int.toNat_natCast]; omega⟩
      have : keyC x a b = 0 := by rw [ec]; split <;> omega
      rw [← he, hd, if_neg (by simpa using this)]
    refine ⟨_, rfl, ?_⟩
    rw [ew, i64_next (by omega)]
    refine ⟨fun hne => ⟨b26, o27, hp3, by omega, by omega, _, c1', fun hdesc => ⟨?_, hx34⟩, fun hasc => ⟨fun _ => ⟨?_, hx34⟩, fun h0 => absurd h0 hne⟩⟩, fun h0 => ⟨fun hne => absurd h0 hne, fun _ => next h0⟩⟩
    · rw [hdesc, if_pos rfl] at ec
      rw [← he, hd, ec, if_pos (by omega)]
    · rw [hasc, if_neg (by simp)] at ec
      rw [← he, hd, ec, if_pos hne]
  · rw [← he, List.drop_eq_nil_of_le (by omega)]; rfl

/-- What Compare answers. -/
def compareV (ks : List Key) (a b : List Val) : Value := .tuple #[.int .i64 (if rightR a ks && rightR b ks then standsF ks a b else 0), .int .i64 (if rightR a ks && rightR b ks then 0 else 2)]
theorem ocompare_ok (w : World) (ha : Vs w ap an ac a) (hb : Vs w bp bn bc b) (hk : Ks w kp kn kc ks) :
    Calls Try.prog 10 #[.slice ap an ac, .slice bp bn bc, .slice kp kn kc] w fun e w' => e = .returned (compareV ks a b) ∧ Ext w w' := by
  apply ocompare_vc
  unfold ocompare_T
  refine (oright_ok w ha hk).mono ?_
  rintro e w1 ⟨rfl, e1⟩
  have no : (rightR a ks && rightR b ks) = false → Value.tuple #[.int .i64 0, .int .i64 2] = compareV ks a b := by
    intro h; unfold compareV; rw [h]; rfl
  refine ⟨_, rfl, fun hno => ⟨by rw [no (by rw [hno]; rfl)], e1⟩, fun hy => (oright_ok w1 (hb.ext e1) (hk.ext e1)).mono ?_⟩
  rintro e w2 ⟨rfl, e2⟩
  have e12 := e1.trans e2
  refine ⟨_, rfl, fun hno => ⟨by rw [no (by rw [hno, Bool.and_false])], e12⟩, fun hy2 => (ostands_ok w2 (ha.ext e12) (hb.ext e12) (hk.ext e12) hy hy2).mono ?_⟩
  rintro e w3 ⟨rfl, e3⟩
  refine ⟨_, rfl, ?_, e12.trans e3⟩
  unfold compareV; rw [hy, hy2]; rfl
theorem r15compare_ok (w : World) (ha : Vs w ap an ac a) (hb : Vs w bp bn bc b) (hk : Ks w kp kn kc ks) :
    Calls Try.prog 11 #[.slice ap an ac, .slice bp bn bc, .slice kp kn kc] w fun e w' => e = .returned (compareV ks a b) ∧ Ext w w' := by
  apply r15compare_vc
  unfold r15compare_T
  refine (r15right_ok w ha hk).mono ?_
  rintro e w1 ⟨rfl, e1⟩
  refine ⟨_, rfl, (r15right_ok w1 (hb.ext e1) (hk.ext e1)).mono ?_⟩
  rintro e w2 ⟨rfl, e2⟩
  have e12 := e1.trans e2
  refine ⟨_, rfl, fun hno => ⟨?_, e12⟩, fun hyes => (r15stands_ok w2 (ha.ext e12) (hb.ext e12) (hk.ext e12) hyes.1 hyes.2).mono ?_⟩
  · have : (rightR a ks && rightR b ks) = false := by rcases hno with h | h <;> simp [h]
    unfold compareV; rw [this]; rfl
  · rintro e w3 ⟨rfl, e3⟩
    refine ⟨_, rfl, ?_, e12.trans e3⟩
    unfold compareV; rw [hyes.1, hyes.2]; rfl
end
end Go.Proofs.Ytgcjhhlokncbfaa
