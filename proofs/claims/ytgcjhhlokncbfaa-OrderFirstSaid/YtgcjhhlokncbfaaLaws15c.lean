/- The walk of law 15's statement: first. -/
import Derived.Test.YtgcjhhlokncbfaaLaws15
import Derived.Test.YtgcjhhlokncbfaaOr3
namespace Go.Vc
open Go Go.RowKit
def flipK (x : Key) : Key := ⟨x.k, !x.d⟩
theorem keyC_flip (x : Key) (a b : List Val) : keyC (flipK x) a b = - keyC x a b := by
  unfold keyC flipK
  cases x.d <;> simp
theorem standsF_flip : ∀ (ks : List Key) (a b : List Val), standsF (ks.map flipK) a b = - standsF ks a b
  | [], _, _ => rfl
  | x :: ks, a, b => by
    have h := keyC_flip x a b
    have ih := standsF_flip ks a b
    rw [List.map_cons]
    unfold standsF lexC
    rw [h, ih]
    by_cases h0 : keyC x a b = 0
    · rw [if_neg (by omega), if_neg (by omega)]
    · rw [if_pos (by omega), if_pos h0]
theorem rightR_flip (r : List Val) (ks : List Key) : rightR r (ks.map flipK) = rightR r ks := by
  unfold rightR
  rw [List.any_map]
  rfl
theorem allR_flip (ks : List Key) (L : List (List Val)) : allR (ks.map flipK) L = allR ks L := by
  unfold allR
  congr 1
  funext r
  exact rightR_flip r ks
section
variable {α : Type} {c : α → α → Int}
theorem strict_get (hc : Cmp c) {l : List α} (h : ∀ (i : Nat) x y, l[i]? = some x → l[i + 1]? = some y → c x y < 0) : ∀ (i j : Nat) x y, i < j → l[i]? = some x → l[j]? = some y → c x y < 0 := by
  intro i j
  induction j with
  | zero => intro x y h; omega
  | succ j ih =>
    intro x y hij hx hy
    rcases Nat.lt_or_eq_of_le (Nat.lt_succ_iff.1 hij) with hlt | rfl
    · have hj := (List.getElem?_eq_some_iff.1 hy).1
      obtain ⟨z, hz⟩ : ∃ z, l[j]? = some z := ⟨_, List.getElem?_eq_getElem (by omega)⟩
      have h1 := ih x z hlt hx hz
      have h2 := h j z y hz hy
      exact hc.lt_of h1 (by omega)
    · exact h i x y hx hy
/-- Where no two stand alike, turning the comparator round turns the order round. -/
theorem Stab.turned (hc : Cmp c) {d : α → α → Int} (hd : Cmp d) (hcd : ∀ x y, d x y = - c x y) {L A T : List α} (h : Stab c L A) (hs : ∀ (i : Nat) x y, A[i]? = some x → A[i + 1]? = some y → c x y < 0) (ht : Stab d L T) : T = A.reverse := by
  have hst := strict_get hc hs
  have hpw : A.Pairwise fun x y => c x y < 0 := List.pairwise_iff_getElem.2 fun i j hi hj hij => hst i j _ _ hij (List.getElem?_eq_getElem hi) (List.getElem?_eq_getElem hj)
  refine Stab.unique hd ht ⟨?_, fun z => ?_⟩
  · show (A.reverse).Pairwise _
    rw [List.pairwise_reverse]
    refine hpw.imp fun {x y} h => ?_
    have := hcd y x
    have := hc.anti x y
    omega
  · have e : ∀ l : List α, cls d z l = cls c z l := by
      intro l
      refine List.filter_congr fun y _ => ?_
      rw [decide_eq_decide]
      have := hcd z y
      omega
    rw [e, e, h.same z]
    have hrev : cls c z A.reverse = (cls c z A).reverse := by unfold cls; rw [List.filter_reverse]
    rw [hrev]
    have hone : (cls c z A).length ≤ 1 := by
      have hp : (cls c z A).Pairwise fun x y => c x y < 0 := hpw.sublist List.filter_sublist
      have hm : ∀ x ∈ cls c z A, c z x = 0 := fun x hx => by simpa [cls] using (List.mem_filter.1 hx).2
      match hl : cls c z A with
      | [] => simp
      | [x] => simp
      | x :: y :: t =>
        rw [hl] at hp hm
        have h1 := (List.pairwise_cons.1 hp).1 y (by simp)
        have h2 := hc.eq_trans (hc.eq_symm (hm x (by simp))) (hm y (by simp))
        omega
    match hl : cls c z A with
    | [] => rfl
    | [x] => rfl
    | x :: y :: t => rw [hl] at hone; simp at hone
end
end Go.Vc
namespace Go.Proofs.Ytgcjhhlokncbfaa
open Go Go.Vc Go.RowKit
namespace L15
theorem arg_keys' {w : World} {v : Value} (h : Arg Try.prog w 24 [v]) : ∃ p n c ks, v = .slice p n c ∧ Ks w p n c ks ∧ n * 16 ≤ 140737488351232 := by
  obtain ⟨p, n, c, css, he, h1, h2, h3, _⟩ := Arg.slice undKeys (by decide +kernel : 0 < Try.prog.cellsOf 43) h
  obtain ⟨p', n', c', ks, he', hk⟩ := arg_keys h
  cases he
  cases he'
  rw [show Try.prog.bytesOf 43 = 16 by kernel_rfl] at h3
  exact ⟨p, n, c, ks, rfl, hk, by omega⟩

theorem first_walk (w : World) (v0 v1 v2 : Value) (h0 : Arg Try.prog w 31 [v0]) (h1 : Arg Try.prog w 3 [v1]) (h2 : Arg Try.prog w 24 [v2]) :
    Calls Try.prog 6 #[v0, v1, v2] w fun e w' => e = .returned (.bool true) ∧ Ext w w' := by
  obtain ⟨p, n, c, hs, L, rfl, hR0, hsz0, _⟩ := arg_rows h0
  obtain ⟨m, rfl, _⟩ := arg_int h1
  obtain ⟨kp, kn, kc, ks, rfl, hk, hkn⟩ := arg_keys' h2
  apply law15First_vc
  unfold law15First_T
  have hc := standsF_cmp ks
  refine (shown_ok w).mono ?_
  rintro e w2 ⟨rfl, e2⟩
  have hcap := hR0.heads.cap
  rw [show (200 : Int) = ((200 : Nat) : Int) from rfl, min_nat, Int.toNat_natCast]
  have hR := hR0.take (k := min n 200) (Nat.min_le_left _ _)
  have hsz : Sz (L.take (min n 200)) := fun r hr => hsz0 r (List.mem_of_mem_take hr)
  have hn : min n 200 ≤ 200 := Nat.min_le_right _ _
  generalize L.take (min n 200) = L1 at hR hsz
  generalize hk1 : min n 200 = k1 at hR hn
  have lL := hR.len
  refine ⟨_, rfl, by omega, by omega, (osort_ok w2 (hR.ext e2) (hk.ext e2) hsz (by omega)).mono ?_⟩
  rintro e w5 ⟨e5, s1⟩
  have x5 := e2.trans e5
  rcases s1 with ⟨hy, p6, c8, hs1, R1, rfl, st, hR1⟩ | ⟨hno, rfl⟩
  · refine ⟨_, _, _, _, rfl, (ofirst_ok w5 (hR.ext x5) (hk.ext x5) hsz (by omega) m).mono ?_⟩
    rintro e w11 ⟨e11, s2⟩
    have x11 := x5.trans e11
    rcases s2 with ⟨_, hm1, p12, c14, hs2, R2, rfl, st2, hR2⟩ | ⟨hbad, rfl⟩
    · have eR := Stab.unique hc st2 st
      subst eR
      rw [lL] at hR1 hR2 ⊢
      have lR := hR1.len
      generalize hq : (if 0 ≤ m ∧ m < (k1 : Int) then m.toNat else k1) = q at hR2
      have hqk : q ≤ k1 := by rw [← hq]; split <;> omega
      have hyR : allR ks R2 = true := List.all_eq_true.2 fun r hr => allR_mem hy ((st.mem hc).1 hr)
      refine ⟨_, _, _, _, rfl, fun h => (by rcases h with h | h; exact absurd rfl h; omega), fun _ => ?_⟩
      refine ⟨fun i W => i = (q : Int) ∧ Ext w11 W, ⟨fun hout => ⟨by rw [← hq, if_neg (by omega)], .rfl⟩, fun hin => ⟨by rw [← hq]; split <;> omega, .rfl⟩⟩, ?_⟩
      rintro _ w22 ⟨rfl, e22⟩
      have x22 := x11.trans e22
      have hkl := hk.len
      refine ⟨by omega, Int.le_refl _, by omega, by omega, fun b24 w25 h25 => ?_⟩
      have H25 := (Hold.start (Ext.rfl (w := w22))).litRow (s := 2) (cap := kn) h25 (by simp [maxLen]; omega) (by rw [size_madeCells])
      refine ⟨fun i W => ∃ (k : Nat) (rest : List Value), i = (k : Int) ∧ k ≤ kn ∧ rest.length = (kn - k) * 2 ∧ Hold w22 W [] [⟨43, 2, some ⟨b24, 0, none⟩, kn, kn, ((ks.take k).map flipK).flatMap Key.cs ++ rest⟩], fun i _ => kn - i.toNat,
        ⟨0, _, rfl, Nat.zero_le _, by rw [Array.length_toList, size_madeCells]; rfl, H25⟩, ?_⟩
      rintro i w30 ⟨k, rest, rfl, hkk, hrl, H30⟩
      refine ⟨fun hlt w33 h33 => ?_, fun hge => ?_⟩
      · have H33 := H30.step h33.ext
        have g : ks[k]? = some (ks[k]'(by omega)) := List.getElem?_eq_getElem _
        generalize ks[k]'(by omega) = x at g
        obtain ⟨b, o, hp, c0, c1⟩ := (hk.ext (x22.trans H33.ext)).key g
        simp only [Int.toNat_natCast]
        have lA : (((ks.take k).map flipK).flatMap Key.cs).length = k * 2 := by rw [flatMap_length Key.cs_length, List.length_map, List.length_take]; congr 1; omega
        obtain ⟨b', hb', hcell, hput⟩ := H33.putRow 0 (j := k) (us := [.int .i64 x.k, .bool (!x.d)]) rfl (by omega) rfl
        cases hb'
        obtain ⟨a0, f0⟩ := hcell 0 (by decide)
        obtain ⟨a1, f1⟩ := hcell 1 (by decide)
        refine ⟨b, o, hp, by omega, by omega, _, c0, b, o, hp, by omega, by omega, _, c1, b24, 0, rfl, by omega, by omega, by rw [Nat.zero_add]; exact a0, by rw [Nat.zero_add]; exact f0, by rw [Nat.zero_add]; exact a1, by rw [Nat.zero_add]; exact f1, fun w40 h40 => ?_⟩
        rw [Nat.zero_add] at h40
        have H40 := hput w40 h40
        rw [i64_next (by omega)]
        have hr2 : 2 ≤ rest.length := by rw [hrl]; omega
        refine ⟨⟨k + 1, rest.drop 2, rfl, by omega, by rw [List.length_drop, hrl]; omega, ?_⟩, by omega⟩
        have e : (((ks.take k).map flipK).flatMap Key.cs ++ rest).take (k * 2) ++ [.int .i64 x.k, .bool (!x.d)] ++ (((ks.take k).map flipK).flatMap Key.cs ++ rest).drop (k * 2 + 2) = ((ks.take (k + 1)).map flipK).flatMap Key.cs ++ rest.drop 2 := by
          rw [take_snoc g, List.map_append, List.flatMap_append, List.take_left' lA, show k * 2 + 2 = (((ks.take k).map flipK).flatMap Key.cs).length + 2 by rw [lA], ← List.drop_drop, List.drop_left]
          rfl
        rw [← e]
        exact H40
      · have hkk2 : k = kn := by omega
        subst hkk2
        have hr0 : rest = [] := List.length_eq_zero_iff.1 (by rw [hrl]; omega)
        subst hr0
        rw [List.take_of_length_le (by omega), List.append_nil] at H30
        have hk' : Ks w30 (some ⟨b24, 0, none⟩) k k (ks.map flipK) := (H30.row 0 rfl).ls Key.cs_length (by decide)
        have x30 := x22.trans H30.ext
        refine (osort_ok w30 (hR.ext x30) hk' hsz (by omega)).mono ?_
        rintro e w44 ⟨e44, s3⟩
        have x44 := x30.trans e44
        rw [allR_flip] at s3
        rcases s3 with ⟨_, p45, c47, hs3, T, rfl, stT, hT⟩ | ⟨hno, _⟩
        · rw [lL] at hT ⊢
          have lT := hT.len
          refine ⟨_, _, _, _, rfl, fun b i W => ∃ k' : Nat, i = ((k' + 1 : Nat) : Int) ∧ Ext w44 W ∧ (b = true → ∀ (j : Nat) x y, j < k' → R2[j]? = some x → R2[j + 1]? = some y → standsF ks x y < 0), fun _ i _ => k1 + 1 - i.toNat, ⟨0, rfl, .rfl, fun _ j x y hj => by omega⟩, ?_⟩
          rintro ap i w53 ⟨k', rfl, e53, hap⟩
          refine ⟨fun hlt w56 h56 => ?_, fun hge => ?_⟩
          · have e56 := e53.trans h56.ext
            have x56 := x44.trans e56
            have y56 := e11.trans (e22.trans (H30.ext.trans (e44.trans e56)))
            rw [i64_prev (by omega) (by omega), Nat.add_sub_cancel]
            simp only [Int.toNat_natCast]
            have g0 : R2[k']? = some (R2[k']'(by omega)) := List.getElem?_eq_getElem _
            have g1 : R2[k' + 1]? = some (R2[k' + 1]'(by omega)) := List.getElem?_eq_getElem _
            generalize R2[k']'(by omega) = y0 at g0
            generalize R2[k' + 1]'(by omega) = y1 at g1
            obtain ⟨s0, _, hv0, b0, o0, hp0, c0⟩ := (hR1.ext y56).get g0
            obtain ⟨s1, _, hv1, b1, o1, hp1, c1⟩ := (hR1.ext y56).get g1
            refine ⟨b0, o0, hp0, by omega, by omega, _, _, _, c0, b1, o1, hp1, by omega, by omega, _, _, _, c1, (ocompare_ok w56 hv0 hv1 (hk.ext x56)).mono ?_⟩
            rintro e w69 ⟨rfl, e69⟩
            have r0 := allR_mem hyR (List.mem_of_getElem? g0)
            have r1 := allR_mem hyR (List.mem_of_getElem? g1)
            have hcv : compareV ks y0 y1 = .tuple #[.int .i64 (standsF ks y0 y1), .int .i64 0] := by unfold compareV; rw [r0, r1]; rfl
            rw [hcv]
            refine ⟨_, _, rfl, ?_⟩
            rw [i64_next (by omega)]
            refine ⟨⟨k' + 1, rfl, e56.trans e69, fun hb j x y hj hx hy => ?_⟩, by simp only [Int.toNat_natCast]; omega⟩
            simp only [Bool.and_eq_true, decide_eq_true_eq] at hb
            by_cases hjk : j = k'
            · subst hjk
              rw [g0] at hx; cases hx
              rw [g1] at hy; cases hy
              exact hb.1.2
            · exact hap hb.1.1 j x y (by omega) hx hy
          · have hrev : ap = true → T = R2.reverse := fun hb => Stab.turned hc (standsF_cmp _) (standsF_flip ks) st (fun i x y hx hy => hap hb i x y (by have := (List.getElem?_eq_some_iff.1 hy).1; omega) hx hy) stT
            refine ⟨fun i W => ∃ k'' : Nat, i = (k'' : Int) ∧ Ext w53 W, fun i _ => k1 - i.toNat, ⟨0, rfl, .rfl⟩, ?_⟩
            rintro i w76 ⟨k2, rfl, e76⟩
            refine ⟨fun hgo w79 h79 => ?_, fun hstop => ⟨fun _ => ?_, fun hbad => ?_⟩⟩
            · obtain ⟨hlt, hb⟩ := hgo
              have eT := hrev hb
              have e79 := e53.trans (e76.trans h79.ext)
              have y79 := e11.trans (e22.trans (H30.ext.trans (e44.trans e79)))
              have g0 : R2[k2]? = some (R2[k2]'(by omega)) := List.getElem?_eq_getElem _
              generalize R2[k2]'(by omega) = y0 at g0
              have g1 : T[k1 - 1 - k2]? = some y0 := by
                rw [eT, List.getElem?_reverse (by omega), ← g0]
                congr 1; omega
              obtain ⟨s0, _, hv0, b0, o0, hp0, c0⟩ := (hR1.ext y79).get g0
              obtain ⟨s1, _, hv1, b1, o1, hp1, c1⟩ := (hT.ext e79).get g1
              rw [i64_prev (by omega) (by omega), i64_subn (by omega) (by omega)]
              simp only [Int.toNat_natCast]
              refine ⟨b0, o0, hp0, by omega, by omega, _, _, _, c0, b1, o1, hp1, by omega, by omega, _, _, _, c1, (samerow_ok w79 hv0 hv1).mono ?_⟩
              rintro e w92 ⟨rfl, e92⟩
              refine ⟨_, rfl, fun h => (by simp at h), fun _ => ?_⟩
              rw [i64_next (by omega)]
              exact ⟨⟨k2 + 1, rfl, e76.trans (h79.ext.trans e92)⟩, by omega⟩
            · have z76 := e22.trans (H30.ext.trans (e44.trans (e53.trans e76)))
              have hcap1 := hR1.heads.cap
              refine ⟨by omega, by omega, ?_⟩
              rw [Int.toNat_natCast]
              refine (samerows_ok w76 (hR2.ext z76) ((hR1.take hqk).ext (e11.trans z76))).mono ?_
              rintro e w99 ⟨rfl, e99⟩
              exact ⟨_, rfl, by simp, x11.trans (z76.trans e99)⟩
            · rcases hbad with (h | h) | h <;> first | cases h | exact absurd rfl h
        · rw [hy] at hno; cases hno
    · rcases hbad with h | h
      · rw [hy] at h; cases h
      · exact ⟨_, _, _, _, rfl, fun _ => ⟨by simp, x11⟩, fun h' => (by omega)⟩
  · refine ⟨_, _, _, _, rfl, (ofirst_ok w5 (hR.ext x5) (hk.ext x5) hsz (by omega) m).mono ?_⟩
    rintro e w11 ⟨e11, s2⟩
    rcases s2 with ⟨hy, _⟩ | ⟨_, rfl⟩
    · rw [hno] at hy; cases hy
    · exact ⟨_, _, _, _, rfl, fun _ => ⟨by simp, x5.trans e11⟩, fun h => absurd h.1 (by decide)⟩
end L15
end Go.Proofs.Ytgcjhhlokncbfaa
