/- Texts of the proof, one behind the other. -/
import Derived.Test.YtckfedekpkgcdaaMc
import Derived.Test.YtckfedekpkgcdaaRows
import Derived.JoinedOf
set_option linter.unusedVariables false
set_option linter.unusedSimpArgs false
/- A table filled with rows; the law of the order in which they come. -/
namespace Go.Proofs.Ytckfedekpkgcdaa
open Go Go.Vc Go.RowKit
set_option maxRecDepth 20000
attribute [local irreducible] Calls Put Drew New

section
variable {w0 W : World} {fs : List (Nat × Obj)} {ms : List Row}
theorem filled_ok {ap p : Option Addr} {an ac n c : Nat} {l : List Int} {hs : List Pr} {L : List Pt} (H : Hold w0 W fs ms) (hA : At w0 ap (vI .i64 l)) (hl : l.length = an) (hz : ap = none → an = 0 ∧ ac = 0) (han : an < 9223372036854775807)
    (hv : Keeps w0 fs ms fun W => Prs W p n c hs L) (hf : ∀ r ∈ L, ∀ x ∈ r.1, x.fit) (hsz : ∀ r ∈ L, r.1.length ≤ 1048576) (hn : n ≤ 1000) :
    Calls Try.prog 10 #[.slice ap an ac, .slice p n c] W fun e W' => (newOk l = false ∧ e = .returned (.tuple #[.pointer none, .bool false]) ∧ Hold w0 W' fs ms) ∨
      (newOk l = true ∧ ∃ T : Tm, e = .returned (.tuple #[.pointer (some ⟨T.t, 0, none⟩), .bool true]) ∧ Hold w0 W' (T.blks ++ fs) (T.rows ++ ms) ∧ Tok T ∧ T.aggs = l ∧ T.plain = stP l L) := by
  apply filled14_vc
  unfold filled14_T
  refine (gnew_ok H (hA.ext H.ext) hl hz han).mono ?_
  rintro e w2 (⟨hno, rfl, H2⟩ | ⟨hyes, T0, rfl, H2, ok0, ha0, hg0⟩)
  · exact ⟨_, _, rfl, fun _ => .inl ⟨hno, rfl, H2⟩, fun h => by cases h.2⟩
  have hLl := (hv w2 _ _ H2).len
  refine ⟨_, _, rfl, fun h => (by rcases h with h | h; exact absurd rfl h; cases h), fun _ => ⟨fun i W' => ∃ (k : Nat) (T : Tm), i = (k : Int) ∧ k ≤ n ∧ Hold w0 W' (T.blks ++ fs) (T.rows ++ ms) ∧ Tok T ∧ T.t = T0.t ∧ T.aggs = l ∧ T.plain = stP l (L.take k), fun i _ => n - i.toNat,
    ⟨0, T0, rfl, Nat.zero_le _, H2, ok0, rfl, ha0, by unfold Tm.plain; rw [hg0]; rfl⟩, ?_⟩⟩
  rintro i W' ⟨k, T, rfl, hk, HT, ok, ht, ha, hp⟩
  refine ⟨fun hlt w13 h13 => ?_, fun hge => .inr ⟨hyes, T, by rw [ht], HT, ok, ha, ?_⟩⟩
  · have g : L[k]? = some (L[k]'(by omega)) := List.getElem?_eq_getElem _
    have htk := take_snoc' g
    generalize L[k]'(by omega) = r at g htk
    have hrm := List.mem_of_getElem? g
    have H13 := HT.step h13.ext
    obtain ⟨x, hx, hxa, hxb, b, o, hpp, hc, hc2⟩ := (hv w13 _ _ H13).get g
    have hxl := hxa.len
    have hsr := hsz r hrm
    simp only [Int.toNat_natCast]
    refine ⟨b, o, hpp, by omega, by omega, _, _, _, hc, b, o, hpp, by omega, by omega, _, _, _, hc2, ?_⟩
    refine (ht ▸ tadd_ok (vals := r.2) H13 ok hxa (hf r hrm) (by omega) fun W2 gs ns H' => ?_).mono ?_
    · obtain ⟨y, hy, _, hyb, _⟩ := (hv W2 gs ns H').get g
      rw [hx] at hy
      cases hy
      exact hyb
    · rintro e W26 ⟨T', rfl, H26, ok', ht', ha', hp'⟩
      rw [ha] at ha' hp'
      refine ⟨_, rfl, ?_⟩
      rw [i64_next (by omega)]
      refine ⟨⟨k + 1, T', rfl, by omega, H26, ok', ht'.trans ht, ha', ?_⟩, by simp only [Int.toNat_natCast]; omega⟩
      rw [hp', hp, htk, stP_snoc]
  · rw [hp, List.take_of_length_le (by omega)]
end
theorem answer_len (aggs : List Int) (gs : List Grp) : (answerP aggs gs).1.length ≤ gs.length := by
  unfold answerP
  split <;> simp
theorem undPairs : Try.prog.underlying 23 = some (.slice 31) := by kernel_rfl
theorem tyPair : tyOf Try.prog 31 = some { agg := true, ls := [.slc, .slc], zero := .agg #[.slice none 0 0, .slice none 0 0], bytes := 48, big := false, n := 2 } := by kernel_rfl
theorem i64_prev' {k : Nat} (h : k ≤ 1000) : IntKind.i64.wrap ((k : Int) - 1) = (k : Int) - 1 := i64_fit (by omega) (by omega)

set_option maxHeartbeats 4000000 in
theorem order_ok (w : World) {ap p : Option Addr} {an ac n c : Nat} {l : List Int} {hs : List Pr} {L : List Pt} (hA : At w ap (vI .i64 l)) (hl : l.length = an) (hz : ap = none → an = 0 ∧ ac = 0) (han : an < 9223372036854775807)
    (hv0 : Prs w p n c hs L) (hf0 : ∀ r ∈ L, (∀ x ∈ r.1, x.fit) ∧ ∀ x ∈ r.2, x.fit) (hsz0 : ∀ r ∈ L, r.1.length ≤ 1048576 ∧ r.2.length ≤ 1048576) :
    Calls Try.prog 3 #[.slice ap an ac, .slice p n c] w fun e w' => e = .returned (.bool true) ∧ Ext w w' := by
  apply law14Order_vc
  unfold law14Order_T
  refine (shown14_ok w).mono ?_
  rintro e w2 ⟨rfl, e2⟩
  have hM := mmI_min n 200
  rw [show ((200 : Nat) : Int) = 200 from rfl] at hM
  rw [hM, Int.toNat_natCast]
  have hcap := hv0.heads.cap
  have hv := hv0.take (k := min n 200) (by omega)
  have hf : ∀ r ∈ L.take (min n 200), (∀ x ∈ r.1, x.fit) ∧ ∀ x ∈ r.2, x.fit := fun r hr => hf0 r (List.mem_of_mem_take hr)
  have hsz : ∀ r ∈ L.take (min n 200), r.1.length ≤ 1048576 := fun r hr => (hsz0 r (List.mem_of_mem_take hr)).1
  have hN : min n 200 ≤ 200 := by omega
  refine ⟨_, rfl, by omega, by omega, ?_⟩
  clear hcap hv0 hf0 hsz0 hM
  generalize min n 200 = N at *
  generalize L.take N = L at *
  generalize hs.take N = hs at *
  have hLl := hv.len
  have hHl := hv.heads.len
  refine (filled_ok (Hold.start e2) hA hl hz han (Keeps.old (X := fun W => Prs W p N c hs L) fun W e => hv.ext e) (fun r hr => (hf r hr).1) hsz (by omega)).mono ?_
  rintro e w5 (⟨hno, rfl, H5⟩ | ⟨hyes, T, rfl, H5, okT, haT, hpT⟩)
  · exact ⟨_, _, rfl, fun _ => ⟨rfl, H5.ext⟩, fun h => by cases h⟩
  refine ⟨_, _, rfl, fun h => (by cases h), fun _ => ⟨fun i W => ∃ k : Nat, i = (k : Int) ∧ k ≤ N ∧ (∀ (j : Nat) r r0, j < k → L[j]? = some r → L[0]? = some r0 → r.1.length = r0.1.length) ∧ Hold w W (T.blks ++ []) (T.rows ++ []), fun i _ => N - i.toNat, ⟨0, rfl, Nat.zero_le _, fun j r r0 hj => absurd hj (by omega), H5⟩, ?_⟩⟩
  rintro i W ⟨k, rfl, hk, hall, H⟩
  refine ⟨fun hlt w16 h16 => ?_, fun hge => ?_⟩
  · have g : L[k]? = some (L[k]'(by omega)) := List.getElem?_eq_getElem _
    have g0 : L[0]? = some (L[0]'(by omega)) := List.getElem?_eq_getElem _
    generalize L[k]'(by omega) = r at g
    generalize L[0]'(by omega) = r0 at g0
    have H16 := H.step h16.ext
    obtain ⟨x, hx, hxa, _, b, o, hp, hc, _⟩ := (hv.ext H16.ext).get g
    obtain ⟨y, hy, hya, _, b', o', hp', hc', _⟩ := (hv.ext H16.ext).get g0
    have hxl := hxa.len
    have hyl := hya.len
    simp only [Int.toNat_natCast]
    refine ⟨b, o, hp, by omega, by omega, _, _, _, hc, b', o', hp', by omega, by omega, _, _, _, hc', fun _ => ⟨by trivial, H16.ext⟩, fun he => ?_⟩
    rw [i64_next (by omega)]
    refine ⟨⟨k + 1, rfl, by omega, fun j s s0 hj hs hs0 => ?_, H16⟩, by simp only [Int.toNat_natCast]; omega⟩
    rcases Nat.lt_or_ge j k with hjk | hjk
    · exact hall j s s0 hjk hs hs0
    · have : j = k := by omega
      subst this
      rw [g] at hs
      rw [g0] at hs0
      cases hs; cases hs0
      omega
  have hkN : k = N := by omega
  subst hkN
  obtain ⟨m, hm⟩ : ∃ m : Nat, ∀ r ∈ L, r.1.length = m := by
    cases hL : L with
    | nil => exact ⟨0, by simp⟩
    | cons r0 t =>
      refine ⟨r0.1.length, fun r hr => ?_⟩
      rw [← hL] at hr
      obtain ⟨j, hj⟩ := List.mem_iff_getElem?.1 hr
      have hjl := (List.getElem?_eq_some_iff.1 hj).1
      exact hall j r r0 (by omega) hj (by rw [hL]; rfl)
  refine ⟨fun q m d i W => ∃ a : Nat, i = (a : Int) - 1 ∧ a ≤ k ∧ m = k - a ∧ Hold w W (T.blks ++ []) (⟨31, 2, q, m, d, (hs.drop a).reverse.flatMap Pr.cs⟩ :: (T.rows ++ [])), fun _ _ _ i _ => (i + 1).toNat,
    ⟨k, i64_prev' (by omega), Nat.le_refl _, by omega, by rw [List.drop_eq_nil_iff.2 (by omega)]; exact H.nilRow _ _⟩, ?_⟩
  rintro q mm d i W37 ⟨a, rfl, ha, rfl, HB⟩
  refine ⟨fun hpos => ?_, fun hneg => ?_⟩
  · obtain ⟨a, rfl⟩ : ∃ a', a = a' + 1 := ⟨a - 1, by omega⟩
    have g : L[a]? = some (L[a]'(by omega)) := List.getElem?_eq_getElem _
    generalize L[a]'(by omega) = r at g
    obtain ⟨x, hx, hxa, _, b, o, hp, hc, hc2⟩ := (hv.ext HB.ext).get g
    have ea : ((a + 1 : Nat) : Int) - 1 = (a : Int) := by omega
    rw [ea]
    simp only [Int.toNat_natCast]
    refine ⟨b, o, hp, by omega, by omega, _, _, _, hc, _, _, _, hc2, fun b48 w49 h48 => ?_⟩
    have H49 := HB.step h48.ext
    obtain ⟨p51, c53, w54, hrun, H54⟩ := H49.append (ty := 23) (P := Try.prog) (s := 2) (q := some ⟨b48, 0, none⟩) (m := 1) (d' := 1) (news := x.cs) 0 rfl undPairs tyPair rfl (by decide) (Blk.new h48).at rfl (fun e => by cases e)
      (Pr.cs_one _) (by show ((k - (a + 1) + 1) + (k - (a + 1) + 1) / 4 + 192) * 48 ≤ _; omega) (by unfold maxLen; omega)
    refine ⟨p51, _, c53, w54, hrun, ?_⟩
    rw [i64_prev' (by omega)]
    have hdr : hs.drop a = x :: hs.drop (a + 1) := by
      obtain ⟨hlt', e⟩ := List.getElem?_eq_some_iff.1 hx
      rw [List.drop_eq_getElem_cons hlt', e]
    refine ⟨⟨a, rfl, by omega, by omega, ?_⟩, by omega⟩
    have e1 : (hs.drop a).reverse.flatMap Pr.cs = (hs.drop (a + 1)).reverse.flatMap Pr.cs ++ x.cs := by
      rw [hdr, List.reverse_cons, List.flatMap_append, List.flatMap_cons, List.flatMap_nil, List.append_nil]
    have e2 : k - a = k - (a + 1) + 1 := by omega
    rw [e1]
    exact H54
  have ha0 : a = 0 := by omega
  subst ha0
  rw [List.drop_zero, Nat.sub_zero] at HB
  rw [Nat.sub_zero]
  have hback : Keeps w (T.blks ++ []) (⟨31, 2, q, k, d, hs.reverse.flatMap Pr.cs⟩ :: (T.rows ++ [])) fun W => Prs W q k d hs.reverse L.reverse := by
    intro W2 gs ns H2
    refine ⟨(H2.ownM (m := ⟨31, 2, q, k, d, hs.reverse.flatMap Pr.cs⟩) (List.mem_append_right _ List.mem_cons_self)).ls Pr.cs_length (by decide), fun i h r hh hr => ?_, by rw [List.length_reverse]; exact hLl⟩
    have hi := (List.getElem?_eq_some_iff.1 hh).1
    rw [List.length_reverse] at hi
    rw [List.getElem?_reverse hi] at hh
    rw [List.getElem?_reverse (by omega), show L.length - 1 - i = hs.length - 1 - i by omega] at hr
    have := hv.rows _ h r hh hr
    exact ⟨this.1.ext H2.ext, this.2.ext H2.ext⟩
  refine (filled_ok HB hA hl hz han hback (fun r hr => (hf r (List.mem_reverse.1 hr)).1) (fun r hr => hsz r (List.mem_reverse.1 hr)) (by omega)).mono ?_
  rintro e w57 (⟨hno, _⟩ | ⟨_, U, rfl, H57, okU, haU, hpU⟩)
  · rw [hyes] at hno; cases hno
  have HTp : Hold w w57 (T.blks ++ U.blks) (T.rows ++ (⟨31, 2, q, k, d, hs.reverse.flatMap Pr.cs⟩ :: U.rows)) := by
    refine H57.permA ?_ ?_
    · refine perm_of_sum fun f => ?_
      simp only [List.map_append, List.map_nil, List.sum_append, List.sum_nil]; omega
    · refine perm_of_sum fun f => ?_
      simp only [List.map_append, List.map_cons, List.map_nil, List.sum_append, List.sum_cons, List.sum_nil]; omega
  refine ⟨_, _, rfl, (tanswer_ok HTp okT).mono ?_⟩
  rintro e w61 ⟨p1, n1, c1, p2, n2, c2, ks1, ls1, rfl, hR1, hS1, e61⟩
  refine ⟨_, _, _, _, _, _, _, rfl, (tanswer_ok (H57.step e61) okU).mono ?_⟩
  rintro e w70 ⟨p3, n3, c3, p4, n4, c4, ks2, ls2, rfl, hR2, hS2, e70⟩
  have E70 := (H57.ext.trans e61).trans e70
  have hR1 := hR1.ext e70
  have hS1 := hS1.ext e70
  rw [haT, hpT] at hR1 hS1 ⊢
  rw [haU, hpU] at hR2 hS2 ⊢
  refine ⟨_, _, _, _, _, _, _, rfl, ?_⟩
  rcases order_law (aggs := l) hm (by omega) (fun r hr => (hf r hr).2) with ⟨o1, o2⟩ | ⟨K, M, A, hperm, hnd, o1, o2⟩
  · rw [o1] at hR1 hS1 ⊢
    rw [o2] at hR2 hS2 ⊢
    obtain rfl : n1 = 0 := hR1.len.symm
    obtain rfl : n2 = 0 := hS1.len.symm
    obtain rfl : n3 = 0 := hR2.len.symm
    obtain rfl : n4 = 0 := hS2.len.symm
    refine ⟨fun h => ?_, fun _ => ⟨fun i W => 0 ≤ i ∧ Ext w W, fun _ _ => 0, ⟨Int.le_refl _, E70⟩, fun i W hI => ⟨fun hlt => ?_, fun _ => ⟨rfl, hI.2⟩⟩⟩⟩
    · rcases h with ((h | h) | h) | h <;> exact absurd rfl h
    · have := hI.1
      have hlt : i < 0 := hlt
      omega
  · rw [o1] at hR1 hS1 ⊢
    rw [o2] at hR2 hS2 ⊢
    have hKM := hperm.length_eq
    have l1 : K.length = n1 := hR1.len
    have l2 : K.length = n2 := by rw [← hS1.len, List.length_map]
    have l3 : M.length = n3 := hR2.len
    have l4 : M.length = n4 := by rw [← hS2.len, List.length_map]
    have hKl : K.length ≤ 4096 := by
      have h1 := answer_len l (stP l L)
      rw [o1, ← hpT] at h1
      unfold Tm.plain at h1
      rw [List.length_map] at h1
      exact Nat.le_trans h1 okT.len
    refine ⟨fun h => ?_, fun _ => ⟨fun i W => ∃ a : Nat, i = (a : Int) ∧ a ≤ n1 ∧ Ext w70 W, fun i _ => n1 - i.toNat, ⟨0, rfl, Nat.zero_le _, .rfl⟩, ?_⟩⟩
    · rcases h with ((h | h) | h) | h
      · exact absurd rfl h
      · exact absurd (by omega) h
      · exact absurd (by omega) h
      · exact absurd (by omega) h
    rintro i W ⟨a, rfl, ha, eW⟩
    refine ⟨fun hlt => ?_, fun hge => ⟨rfl, E70.trans eW⟩⟩
    have g : K[a]? = some (K[a]'(by omega)) := List.getElem?_eq_getElem _
    generalize K[a]'(by omega) = x at g
    have gA : (K.map A)[a]? = some (A x) := by rw [List.getElem?_map, g]; rfl
    have hone := count_once (A := A) hperm hnd g
    refine ⟨fun met j W2 => ∃ b : Nat, j = (b : Int) ∧ b ≤ n3 ∧ met = ((((M.map fun y => (y, A y)).take b).count (x, A x) : Nat) : Int) ∧ Ext w70 W2, fun _ j _ => n3 - j.toNat, ⟨0, rfl, Nat.zero_le _, by simp, eW⟩, ?_⟩
    rintro met j W2 ⟨b, rfl, hb, rfl, eW2⟩
    have hcle : ((M.map fun y => (y, A y)).take b).count (x, A x) ≤ 1 := by
      rw [← hone]
      exact List.Sublist.count_le _ (List.take_sublist _ _)
    refine ⟨fun hlt2 w93 h93 => ?_, fun hge2 => ?_⟩
    · have gb : M[b]? = some (M[b]'(by omega)) := List.getElem?_eq_getElem _
      generalize M[b]'(by omega) = y at gb
      have gB : (M.map A)[b]? = some (A y) := by rw [List.getElem?_map, gb]; rfl
      have gP : (M.map fun y => (y, A y))[b]? = some (y, A y) := by rw [List.getElem?_map, gb]; rfl
      have e93 := eW2.trans h93.ext
      obtain ⟨z1, _, v1, b1, o1', hp1, hc1⟩ := (hR1.ext e93).get g
      obtain ⟨z2, _, v2, b2, o2', hp2, hc2⟩ := (hR2.ext e93).get gb
      simp only [Int.toNat_natCast]
      refine ⟨b1, o1', hp1, by omega, by omega, _, _, _, hc1, b2, o2', hp2, by omega, by omega, _, _, _, hc2, (samerow_ok w93 v1 v2).mono ?_⟩
      rintro e w106 ⟨rfl, e106⟩
      have e106' := e93.trans e106
      have hstep : ∀ b121 : Bool, b121 = decide ((y, A y) = (x, A x)) → (if b121 then ((((M.map fun y => (y, A y)).take b).count (x, A x) : Nat) : Int) + 1 else ((((M.map fun y => (y, A y)).take b).count (x, A x) : Nat) : Int)) = ((((M.map fun y => (y, A y)).take (b + 1)).count (x, A x) : Nat) : Int) := by
        rintro b121 rfl
        rw [take_snoc' gP, List.count_append, List.count_singleton]
        by_cases he : (y, A y) = (x, A x)
        · simp [he]
        · simp [he]
      refine ⟨_, rfl, fun hs => ?_, fun hs => ?_⟩
      · have hxy : x = y := of_decide_eq_true hs
        obtain ⟨z3, _, v3, b3, o3, hp3, hc3⟩ := (hS1.ext e106').get gA
        obtain ⟨z4, _, v4, b4, o4, hp4, hc4⟩ := (hS2.ext e106').get gB
        refine ⟨b3, o3, hp3, by omega, by omega, _, _, _, hc3, b4, o4, hp4, by omega, by omega, _, _, _, hc4, (samerow_ok w106 v3 v4).mono ?_⟩
        rintro e w120 ⟨rfl, e120⟩
        refine ⟨_, rfl, fun ht => ?_, fun ht => absurd (by rw [hxy]) (of_decide_eq_false ht)⟩
        have := hstep true (by rw [hxy]; simp)
        rw [i64_next (by omega), i64_fit (by omega) (by omega)]
        exact ⟨⟨b + 1, rfl, by omega, this, e106'.trans e120⟩, by simp only [Int.toNat_natCast]; omega⟩
      · have hxy : x ≠ y := of_decide_eq_false hs
        have := hstep false (by symm; rw [decide_eq_false_iff_not]; intro e; exact hxy (congrArg Prod.fst e).symm)
        rw [i64_next (by omega)]
        exact ⟨⟨b + 1, rfl, by omega, this, e106'⟩, by simp only [Int.toNat_natCast]; omega⟩
    · have hbb : b = n3 := by omega
      rw [List.take_of_length_le (by rw [List.length_map]; omega), hone]
      refine ⟨fun h => absurd rfl h, fun _ => ?_⟩
      rw [i64_next (by omega)]
      exact ⟨⟨a + 1, rfl, by omega, eW2⟩, by simp only [Int.toNat_natCast]; omega⟩
theorem order_walk (W : World) (v0 v1 : Value) (a0 : Arg Try.prog W 22 [v0]) (a1 : Arg Try.prog W 23 [v1]) (b1 : ∀ p n c, v1 = .slice p n c → Bulk W 23 [.slice p n c]) :
    Calls Try.prog 3 #[v0, v1] W fun e w' => e = .returned (.bool true) ∧ Ext W w' := by
  obtain ⟨ap, an, ac, l, rfl, hA, hl, hz, han⟩ := arg_ints a0
  obtain ⟨p, n, c, hs, L, rfl, hv, hf⟩ := arg_pairs a1
  exact order_ok W hA hl hz han hv hf (Prs.small hv (b1 p n c rfl))
end Go.Proofs.Ytckfedekpkgcdaa

/- Three closed facts of the seat's program, asked once: they want much memory. -/
namespace Go.Proofs.Ytckfedekpkgcdaa
set_option maxRecDepth 100000 in
theorem Try.entersB : (Try.prog.mayEnter && (false == Try.prog.liftsFinal) && (Try.prog.make == some .cut)) = true := by kernel_rfl
theorem Try.enters : Try.prog.mayEnter = true ∧ Try.prog.liftsFinal = false ∧ Try.prog.make = some .cut := by
  have h := Try.entersB
  simp only [Bool.and_eq_true, beq_iff_eq] at h
  exact ⟨h.1.1, h.1.2.symm, h.2⟩
end Go.Proofs.Ytckfedekpkgcdaa
