/- The contracts of package order and of its document's answer: merging. -/
import Derived.Test.YtgcjhhlokncbfaaOr2
namespace Go.Vc
open Go Go.RowKit

section
variable {α : Type} {c : α → α → Int}
/-- Two lists in order, of which M has been taken; ra, rb are left. -/
structure Mg (c : α → α → Int) (A B M ra rb : List α) : Prop where
  om : Ord c M
  oa : Ord c ra
  ob : Ord c rb
  la : ∀ x ∈ M, ∀ y ∈ ra, c x y ≤ 0
  lb : ∀ x ∈ M, ∀ y ∈ rb, c x y ≤ 0
  same : SameF c (A ++ B) (M ++ ra ++ rb)
theorem Mg.start {A B : List α} (ha : Ord c A) (hb : Ord c B) : Mg c A B [] A B := ⟨List.Pairwise.nil, ha, hb, by simp, by simp, by simpa using SameF.rfl⟩
theorem Mg.done {A B M : List α} (h : Mg c A B M [] []) : Stab c (A ++ B) M := ⟨h.om, by simpa using h.same⟩
theorem Mg.left (hc : Cmp c) {A B M ra rb : List α} {x : α} (h : Mg c A B M (x :: ra) rb) (hx : ∀ y t, rb = y :: t → ¬ c y x < 0) : Mg c A B (M ++ [x]) ra rb := by
  have hpa := List.pairwise_cons.1 h.oa
  have hxb : ∀ y ∈ rb, c x y ≤ 0 := by
    intro y hy
    cases rb with
    | nil => cases hy
    | cons z t =>
      have h1 := hx z t rfl
      have h2 := hc.anti z x
      rcases List.mem_cons.1 hy with rfl | hy
      · omega
      · exact hc.trans x z y (by omega) ((List.pairwise_cons.1 h.ob).1 y hy)
  refine ⟨?_, hpa.2, h.ob, ?_, ?_, by simpa using h.same⟩
  · refine List.pairwise_append.2 ⟨h.om, by simp, fun a ha b hb => ?_⟩
    simp at hb; subst hb
    exact h.la a ha b (by simp)
  · intro a ha y hy
    rcases List.mem_append.1 ha with ha | ha
    · exact h.la a ha y (by simp [hy])
    · simp at ha; subst ha; exact hpa.1 y hy
  · intro a ha y hy
    rcases List.mem_append.1 ha with ha | ha
    · exact h.lb a ha y hy
    · simp at ha; subst ha; exact hxb y hy
theorem Mg.right (hc : Cmp c) {A B M ra rb : List α} {y : α} (h : Mg c A B M ra (y :: rb)) (hy : ∀ x t, ra = x :: t → c y x < 0) : Mg c A B (M ++ [y]) ra rb := by
  have hpb := List.pairwise_cons.1 h.ob
  have hya : ∀ x ∈ ra, c y x < 0 := by
    intro x hx
    cases ra with
    | nil => cases hx
    | cons z t =>
      have h1 := hy z t rfl
      rcases List.mem_cons.1 hx with rfl | hx
      · exact h1
      · exact hc.lt_of h1 ((List.pairwise_cons.1 h.oa).1 x hx)
  refine ⟨?_, h.oa, hpb.2, ?_, ?_, ?_⟩
  · refine List.pairwise_append.2 ⟨h.om, by simp, fun a ha b hb => ?_⟩
    simp at hb; subst hb
    exact h.lb a ha b (by simp)
  · intro a ha x hx
    rcases List.mem_append.1 ha with ha | ha
    · exact h.la a ha x hx
    · simp at ha; subst ha; have := hya x hx; omega
  · intro a ha x hx
    rcases List.mem_append.1 ha with ha | ha
    · exact h.lb a ha x (by simp [hx])
    · simp at ha; subst ha; exact hpb.1 x hx
  · refine h.same.trans ?_
    have hs : SameF c (ra ++ [y]) ([y] ++ ra) := SameF.swap hc fun x hx z hz e => by
      simp at hz; subst hz
      have := hya x hx
      have := hc.anti x z
      omega
    have := SameF.app (SameF.rfl (c := c) (a := M)) (SameF.app hs (SameF.rfl (c := c) (a := rb)))
    simpa using this
theorem ord_adj (hc : Cmp c) {l : List α} (h : ∀ (i : Nat) x y, l[i]? = some x → l[i + 1]? = some y → c x y ≤ 0) : Ord c l := by
  refine (ord_iff hc).2 fun i j => ?_
  induction j with
  | zero => intro x y hij hx hy; have : i = 0 := by omega
            subst this; rw [hx] at hy; cases hy; rw [hc.self]; exact Int.le_refl 0
  | succ j ih =>
    intro x y hij hx hy
    rcases Nat.lt_or_eq_of_le hij with hlt | rfl
    · have hj := (List.getElem?_eq_some_iff.1 hy).1
      obtain ⟨z, hz⟩ : ∃ z, l[j]? = some z := ⟨_, List.getElem?_eq_getElem (by omega)⟩
      exact hc.trans x z y (ih x z (by omega) hx hz) (h j z y hz hy)
    · rw [hx] at hy; cases hy; rw [hc.self]; exact Int.le_refl 0
end

theorem Ls.head0 {W : World} {p : Option Addr} {n c : Nat} {x : Sl} {t : List Sl} (h : Ls Sl.cs W p n c (x :: t)) : ∃ b o, p = some ⟨b, o, none⟩ ∧ 0 < n ∧ W.cell? ⟨b, o + 0, none⟩ = some (.slice x.p x.n x.c) := by
  obtain ⟨b, o, hp, hc⟩ := h.lies.things Sl.cs_length (by decide) (i := 0) (x := x) rfl
  have := h.len
  refine ⟨b, o, hp, by simp at this; omega, ?_⟩
  have := hc 0 _ rfl
  simpa using this
theorem Ls.tail {W : World} {p : Option Addr} {n c : Nat} {x : Sl} {t : List Sl} (h : Ls Sl.cs W p n c (x :: t)) : Ls Sl.cs W (slBase p 1 c 1) (n - 1) (c - 1) t := by
  have hl := h.len
  simp at hl
  have := h.slice Sl.cs_length (lo := 1) (hi := n) (by omega) (Nat.le_refl _)
  rw [List.take_of_length_le (by simp; omega)] at this
  simpa using this
/-- The length of the slice that a box holds. -/
def lenAt (W : World) (b : Nat) : Nat := match W.cell? ⟨b, 0, none⟩ with | some (.slice _ n _) => n | _ => 0
theorem lenAt_of {W : World} {b : Nat} {p : Option Addr} {n c : Nat} (h : W.cell? ⟨b, 0, none⟩ = some (.slice p n c)) : lenAt W b = n := by unfold lenAt; rw [h]
end Go.Vc

namespace Go.Proofs.Ytgcjhhlokncbfaa
open Go Go.Vc Go.RowKit

/-- What Merge answers. -/
def MergeRes (ks : List Key) (A B : List (List Val)) (w : World) (e : Ending) (w' : World) : Prop := Ext w w' ∧
  ((allR ks A = true ∧ allR ks B = true ∧ Vc.Ord (standsF ks) A ∧ Vc.Ord (standsF ks) B ∧ ∃ p c hs R, e = .returned (.tuple #[.slice p (A ++ B).length c, .int .i64 0]) ∧ Stab (standsF ks) (A ++ B) R ∧ Rws w' p (A ++ B).length c hs R) ∨
   ((allR ks A = true → allR ks B = true → Vc.Ord (standsF ks) A → Vc.Ord (standsF ks) B → False) ∧ e = .returned (.tuple #[.slice none 0 0, .int .i64 2])))

theorem omerge1_ok (w : World) {ap bp kp : Option Addr} {an ac bn bc kn kc fv : Nat} {a b : List Val} {ks : List Key} (ha : Vs w ap an ac a) (hb : Vs w bp bn bc b) (hk : Ks w kp kn kc ks) (ra : rightR a ks = true) (rb : rightR b ks = true)
    (hf : w.cell? ⟨fv, 0, none⟩ = some (.slice kp kn kc)) :
    Calls Try.prog 29 #[.slice ap an ac, .slice bp bn bc, .pointer (some ⟨fv, 0, none⟩)] w fun e w' => e = .returned (.int .i64 (standsF ks a b)) ∧ Ext w w' := by
  apply omerge1_vc
  unfold omerge1_T
  refine ⟨_, _, _, hf, (ostands_ok w ha hb hk ra rb).mono ?_⟩
  rintro e w5 ⟨rfl, e5⟩
  exact ⟨_, rfl, rfl, e5⟩

theorem issorted_ok (w : World) {p kp : Option Addr} {n c kn kc fv : Nat} {hs : List Sl} {L : List (List Val)} {ks : List Key} (h : Rws w p n c hs L) (hk : Ks w kp kn kc ks) (hr : allR ks L = true) (hf : w.cell? ⟨fv, 0, none⟩ = some (.slice kp kn kc)) :
    Calls Try.prog 30 #[.slice p n c, .func (.func 29) #[] #[.pointer (some ⟨fv, 0, none⟩)]] w
      fun e w' => ∃ b : Bool, e = .returned (.bool b) ∧ (b = true ↔ Vc.Ord (standsF ks) L) ∧ Ext w w' := by
  apply issorted_vc
  unfold issorted_T
  have hl := h.len
  have hm : n ≤ 9223372036854775807 := h.le
  have hc := standsF_cmp ks
  refine ⟨fun i w' => ∃ k : Nat, (i = (k : Int) ∧ k + 1 = n ∨ i = (k : Int) ∧ k < n ∨ i = -1 ∧ n = 0 ∧ k = 0) ∧ (∀ (j : Nat) x y, k ≤ j → L[j]? = some x → L[j + 1]? = some y → standsF ks x y ≤ 0) ∧ Ext w w', fun i _ => i.toNat, ?_, ?_⟩
  · cases n with
    | zero => exact ⟨0, .inr (.inr ⟨by decide, rfl, rfl⟩), fun j x y _ hx => by have := (List.getElem?_eq_some_iff.1 hx).1; omega, .rfl⟩
    | succ n => exact ⟨n, .inl ⟨by rw [i64_prev (by omega) (by omega)]; omega, rfl⟩, fun j x y hj hx hy => by have := (List.getElem?_eq_some_iff.1 hy).1; omega, .rfl⟩
  rintro i w4 ⟨k, hik, hadj, hx⟩
  refine ⟨fun hpos w7 h7 => ?_, fun hz => ⟨true, rfl, ⟨fun _ => ord_adj hc fun i x y hx hy => hadj i x y (by omega) hx hy, fun _ => rfl⟩, hx⟩⟩
  have hik' : i = (k : Int) ∧ k < n := by omega
  obtain ⟨rfl, hkn⟩ := hik'
  have hx7 := hx.trans h7.ext
  rw [i64_prev (by omega) (by omega)]
  simp only [Int.toNat_natCast]
  have g1 : L[k]? = some (L[k]'(by omega)) := List.getElem?_eq_getElem _
  have g0 : L[k - 1]? = some (L[k - 1]'(by omega)) := List.getElem?_eq_getElem _
  generalize L[k]'(by omega) = y at g1
  generalize L[k - 1]'(by omega) = x at g0
  obtain ⟨s1, _, hv1, b1, o1, hp1, c1⟩ := (h.ext hx7).get g1
  obtain ⟨s0, _, hv0, b0, o0, hp0, c0⟩ := (h.ext hx7).get g0
  refine ⟨b1, o1, hp1, by omega, by omega, _, _, _, c1, b0, o0, hp0, by omega, by omega, _, _, _, c0,
    (omerge1_ok w7 hv1 hv0 (hk.ext hx7) (allR_mem hr (List.mem_of_getElem? g1)) (allR_mem hr (List.mem_of_getElem? g0)) (cell_ext hf hx7)).mono ?_⟩
  rintro e w20 ⟨rfl, e20⟩
  have hanti := hc.anti x y
  refine ⟨_, rfl, fun hneg => ⟨false, rfl, ⟨fun h => (by cases h), fun ho => ?_⟩, hx7.trans e20⟩, fun hnn => ⟨⟨k - 1, .inr (.inl ⟨rfl, by omega⟩), ?_, hx7.trans e20⟩, by omega⟩⟩
  · have := ho.get hc (i := k - 1) (j := k) (by omega) g0 g1
    omega
  · intro j x' y' hj hx' hy'
    by_cases hjk : j = k - 1
    · subst hjk
      rw [g0] at hx'; cases hx'
      rw [show k - 1 + 1 = k by omega, g1] at hy'; cases hy'
      omega
    · exact hadj j x' y' (by omega) hx' hy'

/-- append(append(make(.., 0, len(a)+len(b)), a...), b...). -/
theorem join_rows {w w2 : World} {ap bp : Option Addr} {an ac bn bc b1 : Nat} {ha hb : List Sl} {A B : List (List Val)} (h1 : Rws w ap an ac ha A) (h2 : Rws w bp bn bc hb B) (hsm : an + bn ≤ 1099511627776)
    (hn : New w (.cells (madeCells #[.slice none 0 0] (an + bn)) 23) b1 w2) :
    ∃ p4 c6 w7 p8 c10 w11, (Builtin.append_ #[31, 31] 31 #[.slice (some ⟨b1, 0, none⟩) 0 (an + bn), .slice ap an ac]).run Try.prog w2 = .ok (.slice p4 an c6) w7 ∧
      (Builtin.append_ #[31, 31] 31 #[.slice p4 an c6, .slice bp bn bc]).run Try.prog w7 = .ok (.slice p8 (an + bn) c10) w11 ∧ Ext w w11 ∧ Rws w11 p8 (an + bn) c10 (ha ++ hb) (A ++ B) := by
  have H2 := (Hold.start (Ext.rfl (w := w))).madeRow (s := 1) (cap := an + bn) hn (by simp [maxLen]; omega) (by rw [size_madeCells]; simp)
  obtain ⟨p4, c6, w7, hrun1, H7⟩ := H2.append (ty := 31) (P := Try.prog) (q := ap) (m := an) (d' := ac) (news := ha.flatMap Sl.cs) 0 rfl undRows tyRow rfl (by decide) ((h1.ext H2.ext).heads.lies) (by rw [flatMap_length Sl.cs_length, h1.hlen]) h1.heads.nil
    (flatMap_one Sl.cs_one ha) (by show ((0 + an) + (0 + an) / 4 + 192) * 24 ≤ 281474976710656; omega) (by simp [maxLen]; omega)
  rw [Nat.zero_add] at hrun1 H7
  obtain ⟨p8, c10, w11, hrun2, H11⟩ := H7.append (ty := 31) (P := Try.prog) (q := bp) (m := bn) (d' := bc) (news := hb.flatMap Sl.cs) 0 rfl undRows tyRow rfl (by decide) ((h2.ext H7.ext).heads.lies) (by rw [flatMap_length Sl.cs_length, h2.hlen]) h2.heads.nil
    (flatMap_one Sl.cs_one hb) (by show ((an + bn) + (an + bn) / 4 + 192) * 24 ≤ 281474976710656; omega) (by simp [maxLen]; omega)
  refine ⟨p4, c6, w7, p8, c10, w11, hrun1, hrun2, H11.ext, ?_⟩
  have hm := H11.row 0 rfl
  rw [List.nil_append, ← List.flatMap_append] at hm
  have hl1 := h1.hlen
  have hl2 := h1.len
  refine ⟨hm.ls Sl.cs_length (by decide), fun i x r hx hr => ?_, by rw [List.length_append, h1.len, h2.len]⟩
  rcases Nat.lt_or_ge i an with hi | hi
  · rw [List.getElem?_append_left (by omega)] at hx hr
    exact (h1.rows i x r hx hr).ext H11.ext
  · rw [List.getElem?_append_right (by omega)] at hx hr
    rw [hl1] at hx
    rw [hl2] at hr
    exact (h2.rows _ x r hx hr).ext H11.ext

theorem allR_append (ks : List Key) (A B : List (List Val)) : allR ks (A ++ B) = (allR ks A && allR ks B) := by unfold allR; rw [List.all_append]

theorem r15merge_ok (w : World) {ap bp kp : Option Addr} {an ac bn bc kn kc : Nat} {ha hb : List Sl} {A B : List (List Val)} {ks : List Key} (h1 : Rws w ap an ac ha A) (h2 : Rws w bp bn bc hb B) (hk : Ks w kp kn kc ks) (hsm : an + bn ≤ 1099511627776) :
    Calls Try.prog 19 #[.slice ap an ac, .slice bp bn bc, .slice kp kn kc] w (MergeRes ks A B w) := by
  apply r15merge_vc
  unfold r15merge_T
  have la := h1.len
  have lb := h2.len
  have hc := standsF_cmp ks
  rw [i64_addn (by omega)]
  refine ⟨Int.le_refl 0, by omega, by omega, by omega, fun b1 w2 hn => ?_⟩
  rw [Int.toNat_natCast] at hn ⊢
  obtain ⟨p4, c6, w7, p8, c10, w11, hr1, hr2, e11, hJ⟩ := join_rows h1 h2 hsm hn
  refine ⟨p4, an, c6, w7, hr1, p8, an + bn, c10, w11, hr2, (r15sort_ok w11 hJ (hk.ext e11) hsm).mono ?_⟩
  rintro e w13 ⟨e13, hres⟩
  have x13 := e11.trans e13
  have hlen : (A ++ B).length = an + bn := by rw [List.length_append, la, lb]
  rcases hres with ⟨hy, p14, c16, hs, R, rfl, hst, hR⟩ | ⟨hno, rfl⟩
  · rw [allR_append, Bool.and_eq_true] at hy
    refine ⟨_, _, _, _, rfl, fun h => absurd rfl h, fun _ => ?_⟩
    refine ⟨fun i w' => ∃ k : Nat, i = ((k + 1 : Nat) : Int) ∧ (∀ (j : Nat) x y, j < k → A[j]? = some x → A[j + 1]? = some y → standsF ks x y ≤ 0) ∧ Ext w13 w', fun i _ => an + 1 - i.toNat, ⟨0, rfl, fun j x y hj => by omega, .rfl⟩, ?_⟩
    rintro i w23 ⟨k, rfl, hadj, hx⟩
    refine ⟨fun hlt w26 h26 => ?_, fun hge => ?_⟩
    · have hx26 := hx.trans h26.ext
      rw [i64_prev (by omega) (by omega), Nat.add_sub_cancel]
      simp only [Int.toNat_natCast]
      have g0 : A[k]? = some (A[k]'(by omega)) := List.getElem?_eq_getElem _
      have g1 : A[k + 1]? = some (A[k + 1]'(by omega)) := List.getElem?_eq_getElem _
      generalize A[k]'(by omega) = x at g0
      generalize A[k + 1]'(by omega) = y at g1
      obtain ⟨s0, _, hv0, b0, o0, hp0, c0⟩ := (h1.ext (x13.trans hx26)).get g0
      obtain ⟨s1, _, hv1, b1, o1, hp1, c1⟩ := (h1.ext (x13.trans hx26)).get g1
      refine ⟨b0, o0, hp0, by omega, by omega, _, _, _, c0, b1, o1, hp1, by omega, by omega, _, _, _, c1, (r15stands_ok w26 hv0 hv1 (hk.ext (x13.trans hx26)) (allR_mem hy.1 (List.mem_of_getElem? g0)) (allR_mem hy.1 (List.mem_of_getElem? g1))).mono ?_⟩
      rintro e w39 ⟨rfl, e39⟩
      refine ⟨_, rfl, fun hgt => ⟨x13.trans (hx26.trans e39), .inr ⟨fun _ _ ho _ => ?_, rfl⟩⟩, fun hle => ?_⟩
      · have := ho.get hc (i := k) (j := k + 1) (by omega) g0 g1
        omega
      · rw [i64_next (by omega)]
        refine ⟨⟨k + 1, rfl, fun j x' y' hj hx' hy' => ?_, hx26.trans e39⟩, by omega⟩
        by_cases hjk : j = k
        · subst hjk
          rw [g0] at hx'; cases hx'
          rw [g1] at hy'; cases hy'
          exact hle
        · exact hadj j x' y' (by omega) hx' hy'
    · have oA : Vc.Ord (standsF ks) A := ord_adj hc fun i x y hx hy => hadj i x y (by have := (List.getElem?_eq_some_iff.1 hy).1; omega) hx hy
      have x23 := x13.trans hx
      refine ⟨fun i w' => ∃ k : Nat, i = ((k + 1 : Nat) : Int) ∧ (∀ (j : Nat) x y, j < k → B[j]? = some x → B[j + 1]? = some y → standsF ks x y ≤ 0) ∧ Ext w23 w', fun i _ => bn + 1 - i.toNat, ⟨0, rfl, fun j x y hj => by omega, .rfl⟩, ?_⟩
      rintro i w47 ⟨k, rfl, hadj, hx47⟩
      refine ⟨fun hlt w26 h26 => ?_, fun hge => ?_⟩
      · have hx26 := hx47.trans h26.ext
        rw [i64_prev (by omega) (by omega), Nat.add_sub_cancel]
        simp only [Int.toNat_natCast]
        have g0 : B[k]? = some (B[k]'(by omega)) := List.getElem?_eq_getElem _
        have g1 : B[k + 1]? = some (B[k + 1]'(by omega)) := List.getElem?_eq_getElem _
        generalize B[k]'(by omega) = x at g0
        generalize B[k + 1]'(by omega) = y at g1
        obtain ⟨s0, _, hv0, b0, o0, hp0, c0⟩ := (h2.ext (x23.trans hx26)).get g0
        obtain ⟨s1, _, hv1, b1, o1, hp1, c1⟩ := (h2.ext (x23.trans hx26)).get g1
        refine ⟨b0, o0, hp0, by omega, by omega, _, _, _, c0, b1, o1, hp1, by omega, by omega, _, _, _, c1, (r15stands_ok w26 hv0 hv1 (hk.ext (x23.trans hx26)) (allR_mem hy.2 (List.mem_of_getElem? g0)) (allR_mem hy.2 (List.mem_of_getElem? g1))).mono ?_⟩
        rintro e w39 ⟨rfl, e39⟩
        refine ⟨_, rfl, fun hgt => ⟨x23.trans (hx26.trans e39), .inr ⟨fun _ _ _ ho => ?_, rfl⟩⟩, fun hle => ?_⟩
        · have := ho.get hc (i := k) (j := k + 1) (by omega) g0 g1
          omega
        · rw [i64_next (by omega)]
          refine ⟨⟨k + 1, rfl, fun j x' y' hj hx' hy' => ?_, hx26.trans e39⟩, by omega⟩
          by_cases hjk : j = k
          · subst hjk
            rw [g0] at hx'; cases hx'
            rw [g1] at hy'; cases hy'
            exact hle
          · exact hadj j x' y' (by omega) hx' hy'
      · have oB : Vc.Ord (standsF ks) B := ord_adj hc fun i x y hx hy => hadj i x y (by have := (List.getElem?_eq_some_iff.1 hy).1; omega) hx hy
        exact ⟨x23.trans hx47, .inl ⟨hy.1, hy.2, oA, oB, p14, c16, hs, R, rfl, hst, hR.ext (hx.trans hx47)⟩⟩
  · refine ⟨_, _, _, _, rfl, fun _ => ⟨x13, .inr ⟨fun a b _ _ => ?_, rfl⟩⟩, fun h => absurd h (by decide)⟩
    rw [allR_append, a, b] at hno
    cases hno

/-- Merging: the state between two rounds. -/
structure MgSt (w : World) (r : Nat → Loop) (l d bk bb ba b30 b1 : Nat) (kp : Option Addr) (kn kc : Nat) (A B : List (List Val)) (ks : List Key) (val : Sl → List Val) (W : World) (sa sb : Sl) (ha hb : List Sl) (cl : List Row) (op : Option Addr) (oc : Nat) (M : List (List Val)) : Prop where
  H : Hold w W [(l, .loop (r 0)), (d, .deferred (some [])), (bk, .cells #[.slice kp kn kc] 24 (0, 0)), (bb, .cells #[.slice sb.p sb.n sb.c] 31 (0, 0)), (ba, .cells #[.slice sa.p sa.n sa.c] 31 (0, 0)), (b30, .cells #[.slice op cl.length oc] 31 (0, 0)), (b1, .cells #[.slice kp kn kc] 24 (0, 0))]
    (cl ++ [⟨23, 1, op, cl.length, oc, (cl.reverse.map Row.sl).map Sl.v⟩])
  len : cl.length = M.length
  rows : ∀ (i : Nat) m x, cl.reverse[i]? = some m → M[i]? = some x → m.t = 48 ∧ m.s = 3 ∧ m.vs = x.flatMap Val.cs
  la : Ls Sl.cs w sa.p sa.n sa.c ha
  lb : Ls Sl.cs w sb.p sb.n sb.c hb
  mg : Mg (standsF ks) A B M (ha.map val) (hb.map val)
  ga : ∀ x ∈ ha, Vs w x.p x.n x.c (val x) ∧ rightR (val x) ks = true ∧ x.n ≤ 4398046511104
  gb : ∀ x ∈ hb, Vs w x.p x.n x.c (val x) ∧ rightR (val x) ks = true ∧ x.n ≤ 4398046511104
  small : M.length + sa.n + sb.n ≤ 1099511627776
theorem MgSt.step {w W W' : World} {r : Nat → Loop} {l d bk bb ba b30 b1 : Nat} {kp : Option Addr} {kn kc : Nat} {A B : List (List Val)} {ks : List Key} {val : Sl → List Val} {sa sb : Sl} {ha hb : List Sl} {cl : List Row} {op : Option Addr} {oc : Nat} {M : List (List Val)}
    (h : MgSt w r l d bk bb ba b30 b1 kp kn kc A B ks val W sa sb ha hb cl op oc M) (e : Ext W W') : MgSt w r l d bk bb ba b30 b1 kp kn kc A B ks val W' sa sb ha hb cl op oc M := { h with H := h.H.step e }

theorem rows_snoc {cl : List Row} {M : List (List Val)} {m0 : Row} {x0 : List Val} (hl : cl.length = M.length) (h : ∀ (i : Nat) m x, cl.reverse[i]? = some m → M[i]? = some x → m.t = 48 ∧ m.s = 3 ∧ m.vs = x.flatMap Val.cs)
    (h0 : m0.t = 48 ∧ m0.s = 3 ∧ m0.vs = x0.flatMap Val.cs) : ∀ (i : Nat) m x, (m0 :: cl).reverse[i]? = some m → (M ++ [x0])[i]? = some x → m.t = 48 ∧ m.s = 3 ∧ m.vs = x.flatMap Val.cs := by
  intro i m x hm hx
  rw [List.reverse_cons] at hm
  rcases Nat.lt_or_ge i M.length with hi | hi
  · rw [List.getElem?_append_left (by simp; omega)] at hm
    rw [List.getElem?_append_left hi] at hx
    exact h i m x hm hx
  · rw [List.getElem?_append_right (by simp; omega)] at hm
    rw [List.getElem?_append_right hi] at hx
    have e0 : i - M.length = 0 := by have := (List.getElem?_eq_some_iff.1 hx).1; simp at this; omega
    rw [e0] at hx
    rw [List.length_reverse, hl, e0] at hm
    cases hm; cases hx
    exact h0

set_option maxHeartbeats 1000000 in
theorem omerge_ok (w : World) {ap bp kp : Option Addr} {an ac bn bc kn kc : Nat} {ha hb : List Sl} {A B : List (List Val)} {ks : List Key} (h1 : Rws w ap an ac ha A) (h2 : Rws w bp bn bc hb B) (hk : Ks w kp kn kc ks) (hsm : an + bn ≤ 1099511627776) (sA : Sz A) (sB : Sz B) :
    Calls Try.prog 18 #[.slice ap an ac, .slice bp bn bc, .slice kp kn kc] w (MergeRes ks A B w) := by
  apply omerge_vc
  unfold omerge_T
  have hc := standsF_cmp ks
  intro b1 w2 hb1
  have H2 := (Hold.start (Ext.rfl (w := w))).new hb1
  have c2 : w2.cell? ⟨b1, 0, none⟩ = some (.slice kp kn kc) := (H2.blk 0 rfl).one
  refine ⟨_, _, _, c2, (oall_ok w2 (h1.ext H2.ext) (hk.ext H2.ext)).mono ?_⟩
  rintro e w8 ⟨rfl, e8⟩
  have H8 := H2.step e8
  refine ⟨_, rfl, fun hno => ⟨H8.ext, .inr ⟨fun a _ _ _ => (by rw [a] at hno; cases hno), rfl⟩⟩, fun ya => ⟨_, _, _, (H8.blk 0 rfl).one, (oall_ok w8 (h2.ext H8.ext) (hk.ext H8.ext)).mono ?_⟩⟩
  rintro e w16 ⟨rfl, e16⟩
  have H16 := H8.step e16
  refine ⟨_, rfl, fun hno => ⟨H16.ext, .inr ⟨fun _ a _ _ => (by rw [a] at hno; cases hno), rfl⟩⟩, fun yb => (issorted_ok w16 (h1.ext H16.ext) (hk.ext H16.ext) ya (H16.blk 0 rfl).one).mono ?_⟩
  rintro e w21 ⟨ba', rfl, hoa, e21⟩
  have H21 := H16.step e21
  refine ⟨_, rfl, fun hno => ⟨H21.ext, .inr ⟨fun _ _ a _ => (by rw [hoa.2 a] at hno; cases hno), rfl⟩⟩, fun ysa => (issorted_ok w21 (h2.ext H21.ext) (hk.ext H21.ext) yb (H21.blk 0 rfl).one).mono ?_⟩
  have oA := hoa.1 ysa
  rintro e w26 ⟨bb', rfl, hob, e26⟩
  have H26 := H21.step e26
  refine ⟨_, rfl, fun hno => ⟨H26.ext, .inr ⟨fun _ _ _ a => (by rw [hob.2 a] at hno; cases hno), rfl⟩⟩, fun ysb b30 w31 hb30 => ?_⟩
  have oB := hob.1 ysb
  have H31 := H26.new hb30
  refine ⟨_, _, _, (H31.blk 1 rfl).one, ?_⟩
  apply otogether_vc
  unfold otogether_T
  intro ba wa hba bb wb hbb bk wk hbk
  have Hk := ((H31.new hba).new hbb).new hbk
  refine ⟨_, rfl, 42, _, rfl, by kernel_rfl, fun r d l wl hbeg hround => ?_⟩
  have Hl := (Hk.began hbeg).nilRow 23 1
  obtain ⟨val, hval⟩ := vals_of w
  obtain ⟨va, vax⟩ := h1.vals hval
  obtain ⟨vb, vbx⟩ := h2.vals hval
  have good : ∀ {p n c} {hs : List Sl} {L : List (List Val)}, Rws w p n c hs L → allR ks L = true → Sz L → ∀ x ∈ hs, Vs w x.p x.n x.c (val x) ∧ rightR (val x) ks = true ∧ x.n ≤ 4398046511104 := by
    intro p n c hs L hR hy hS x hx
    obtain ⟨hv, hvx⟩ := hR.vals hval
    have hm : val x ∈ L := by rw [← hv]; exact List.mem_map.2 ⟨x, hx, rfl⟩
    have := (hvx x hx).len
    exact ⟨hvx x hx, allR_mem hy hm, by have := hS _ hm; omega⟩
  have st0 : MgSt w r l d bk bb ba b30 b1 kp kn kc A B ks val wl ⟨ap, an, ac⟩ ⟨bp, bn, bc⟩ ha hb [] none 0 [] :=
    ⟨Hl, rfl, by simp, h1.heads, h2.heads, by rw [va, vb]; exact Mg.start oA oB, good h1 ya sA, good h2 yb sB, by simpa using hsm⟩
  show Calls Try.prog 42 #[.func (.yield l) #[] #[], .pointer (some ⟨ba, 0, none⟩), .pointer (some ⟨bb, 0, none⟩), .pointer (some ⟨bk, 0, none⟩)] wl _
  apply otogether1_vc
  unfold otogether1_T
  refine ⟨fun W => ∃ sa sb ha hb cl op oc M, MgSt w r l d bk bb ba b30 b1 kp kn kc A B ks val W sa sb ha hb cl op oc M, fun W => lenAt W ba + lenAt W bb, ⟨_, _, _, _, _, _, _, _, st0⟩, ?_⟩
  rintro w3 ⟨sa, sb, ha', hb', cl, op, oc, M, st⟩
  have ca3 := (st.H.blk 4 rfl).one
  have cb3 := (st.H.blk 3 rfl).one
  have hsmall := st.small
  have m3 : lenAt w3 ba + lenAt w3 bb = sa.n + sb.n := by rw [lenAt_of ca3, lenAt_of cb3]
  have la' := st.la.len
  have lb' := st.lb.len
  refine ⟨_, _, _, ca3, _, _, _, cb3, fun hpos => ?_, fun hz => ?_⟩
  · rw [i64_addn (by omega)] at hpos
    refine ⟨fun pt W => MgSt w r l d bk bb ba b30 b1 kp kn kc A B ks val W sa sb ha' hb' cl op oc M ∧
      ((pt = some ⟨ba, 0, none⟩ ∧ ∃ x t, ha' = x :: t ∧ ∀ y t', hb' = y :: t' → ¬ standsF ks (val y) (val x) < 0) ∨ (pt = some ⟨bb, 0, none⟩ ∧ ∃ y t, hb' = y :: t ∧ ∀ x t', ha' = x :: t' → standsF ks (val y) (val x) < 0)), fun w13 h13 => ?_, ?_⟩
    · have st13 := st.step h13.ext
      refine ⟨_, _, _, (st13.H.blk 4 rfl).one, fun ha0 => ?_, fun hane => ?_⟩
      · refine ⟨st13, .inr ⟨rfl, ?_⟩⟩
        have : ha' = [] := List.length_eq_zero_iff.1 (by omega)
        subst this
        cases hb' with
        | nil => simp at la' lb'; omega
        | cons y t => exact ⟨y, t, rfl, fun x t' e => (by cases e)⟩
      · obtain ⟨x, t, rfl⟩ : ∃ x t, ha' = x :: t := by cases ha' with | nil => simp at la'; omega | cons x t => exact ⟨x, t, rfl⟩
        refine ⟨_, _, _, (st13.H.blk 3 rfl).one, fun hbp => ?_, fun hb0 => ⟨st13, .inl ⟨rfl, x, t, rfl, fun y t' e => ?_⟩⟩⟩
        · obtain ⟨y, t', rfl⟩ : ∃ y t', hb' = y :: t' := by cases hb' with | nil => simp at lb'; omega | cons y t => exact ⟨y, t, rfl⟩
          obtain ⟨b27, o28, hp27, hn27, c27⟩ := (st13.lb.ext st13.H.ext).head0
          obtain ⟨b35, o36, hp35, hn35, c35⟩ := (st13.la.ext st13.H.ext).head0
          obtain ⟨vx, rx, _⟩ := st13.ga x (by simp)
          obtain ⟨vy, ry, _⟩ := st13.gb y (by simp)
          refine ⟨_, _, _, (st13.H.blk 3 rfl).one, b27, o28, hp27, Int.le_refl 0, by omega, _, _, _, c27, _, _, _, (st13.H.blk 4 rfl).one, b35, o36, hp35, Int.le_refl 0, by omega, _, _, _, c35, _, _, _, (st13.H.blk 2 rfl).one,
            (ostands_ok w13 (vy.ext st13.H.ext) (vx.ext st13.H.ext) (hk.ext st13.H.ext) ry rx).mono ?_⟩
          rintro e w44 ⟨rfl, e44⟩
          refine ⟨_, rfl, fun hneg => ⟨st13.step e44, .inr ⟨rfl, y, t', rfl, fun x2 t2 e2 => by cases e2; exact hneg⟩⟩, fun hnn => ⟨st13.step e44, .inl ⟨rfl, x, t, rfl, fun y2 t2 e2 => by cases e2; omega⟩⟩⟩
        · subst e; simp at lb'; omega
    · rintro pt w50 ⟨st50, hpt⟩
      -- the round, whichever list it is of
      have fin : ∀ (X : World → Prop) (x : Sl) (bx : Nat) (ix : Nat) (sx : Sl) (t : List Sl), pt = some ⟨bx, 0, none⟩ → (Vs w x.p x.n x.c (val x) ∧ rightR (val x) ks = true ∧ x.n ≤ 4398046511104) → Ls Sl.cs w sx.p sx.n sx.c (x :: t) →
          (∀ (fs1 : List (Nat × Obj)) (cl' : List Row) (op' : Option Addr) (oc' : Nat), fs1 = [(l, Obj.loop (r 0)), (d, .deferred (some [])), (bk, .cells #[.slice kp kn kc] 24 (0, 0)), (bb, .cells #[.slice sb.p sb.n sb.c] 31 (0, 0)), (ba, .cells #[.slice sa.p sa.n sa.c] 31 (0, 0)), (b30, .cells #[.slice op' cl'.length oc'] 31 (0, 0)), (b1, .cells #[.slice kp kn kc] 24 (0, 0))] →
            fs1[ix]? = some (bx, .cells #[.slice sx.p sx.n sx.c] 31 (0, 0)) ∧ ∀ W', Hold w W' (fs1.set ix (bx, .cells #[.slice (slBase sx.p 1 sx.c 1) (sx.n - 1) (sx.c - 1)] 31 (0, 0))) (cl' ++ [⟨23, 1, op', cl'.length, oc', (cl'.reverse.map Row.sl).map Sl.v⟩]) →
              cl'.length = (M ++ [val x]).length → (∀ (i : Nat) m y, cl'.reverse[i]? = some m → (M ++ [val x])[i]? = some y → m.t = 48 ∧ m.s = 3 ∧ m.vs = y.flatMap Val.cs) →
              (∃ sa sb ha hb cl op oc M, MgSt w r l d bk bb ba b30 b1 kp kn kc A B ks val W' sa sb ha hb cl op oc M) ∧ lenAt W' ba + lenAt W' bb < lenAt w3 ba + lenAt w3 bb) →
          ∃ (b52 : Nat) (o53 : Nat), pt = some (Addr.mk b52 o53 none) ∧ ∃ (p54 : Option Addr) (n55 : Nat) (c56 : Nat), w50.cell? (Addr.mk b52 o53 none) = some (Value.slice p54 n55 c56) ∧
            ∃ (b57 : Nat) (o58 : Nat), p54 = some (Addr.mk b57 o58 none) ∧ (0 : Int) ≤ 0 ∧ 0 < (↑n55 : Int) ∧ ∃ (p59 : Option Addr) (n60 : Nat) (c61 : Nat), w50.cell? (Addr.mk b57 (o58 + 0) none) = some (Value.slice p59 n60 c61) ∧
            Calls Try.prog 40 #[Value.slice p59 n60 c61] w50 fun (e62 : Ending) (w63 : World) =>
              ∃ (p64 : Option Addr) (n65 : Nat) (c66 : Nat), e62 = Ending.returned (Value.slice p64 n65 c66) ∧ Yield Try.prog l #[Value.slice p64 n65 c66] w63 fun (b67 : Bool) (w68 : World) =>
                (b67 = false → X w68) ∧ (b67 = true → ∃ (b71 : Nat) (o72 : Nat), pt = some (Addr.mk b71 o72 none) ∧ ∃ (p73 : Option Addr) (n74 : Nat) (c75 : Nat), w68.cell? (Addr.mk b71 o72 none) = some (Value.slice p73 n74 c75) ∧ (0 : Int) ≤ 1 ∧ 1 ≤ (↑n74 : Int) ∧
                  ∃ (b76 : Nat) (o77 : Nat), pt = some (Addr.mk b76 o77 none) ∧ (∃ (u78 : Value), w68.cell? (Addr.mk b76 o77 none) = some u78) ∧ w68.frozen? (Addr.mk b76 o77 none) = false ∧
                  ∀ (w79 : World), Put w68 b76 o77 [Value.slice (slBase p73 1 c75 1) (n74 - 1) (c75 - 1)] w79 → (∃ sa sb ha hb cl op oc M, MgSt w r l d bk bb ba b30 b1 kp kn kc A B ks val w79 sa sb ha hb cl op oc M) ∧ lenAt w79 ba + lenAt w79 bb < lenAt w3 ba + lenAt w3 bb) := by
        intro X x bx ix sx t hptx gx lx hK
        obtain ⟨hix0, _⟩ := hK _ cl op oc rfl
        obtain ⟨b57, o58, hp57, hn57, c57⟩ := (lx.ext st50.H.ext).head0
        refine ⟨bx, 0, hptx, _, _, _, (st50.H.blk ix hix0).one, b57, o58, hp57, Int.le_refl 0, by omega, _, _, _, c57, (clonerow_ok w50 (gx.1.ext st50.H.ext) gx.2.2).mono ?_⟩
        rintro e w63 ⟨p', c', rfl, hv', e63, step⟩
        have H63 := step _ _ _ st50.H
        refine ⟨_, _, _, rfl, hround _ _ _ w63 _ (H63.loop 0 rfl) ⟨H63.loop 0 rfl, fun Wb hWb => ?_⟩⟩
        subst hWb
        have Hb := H63.turn 0 1 rfl
        refine ⟨_, _, _, (Hb.blk 5 rfl).one, fun b57 w58 h58 => ?_⟩
        have H58 := Hb.step h58.ext
        have hidx : (⟨48, 3, p', x.n, c', (val x).flatMap Val.cs⟩ :: (cl ++ [(⟨23, 1, op, cl.length, oc, (cl.reverse.map Row.sl).map Sl.v⟩ : Row)]))[cl.length + 1]? = some ⟨23, 1, op, cl.length, oc, (cl.reverse.map Row.sl).map Sl.v⟩ := by simp
        have hMs := st50.small
        have hcM := st50.len
        obtain ⟨p60, c62, w63', hrun, H63'⟩ := H58.append (ty := 31) (P := Try.prog) (s := 1) (q := some ⟨b57, 0, none⟩) (m := 1) (d' := 1) (news := [.slice p' x.n c']) (cl.length + 1) hidx undRows tyRow rfl (by decide) h58.at rfl (fun e => by cases e)
          (by intro u hu; simp at hu; subst hu; rfl) (by show ((cl.length + 1) + (cl.length + 1) / 4 + 192) * 24 ≤ 281474976710656; omega) (by simp [maxLen]; omega)
        refine ⟨p60, cl.length + 1, c62, w63', hrun, ⟨_, (H63'.blk 5 rfl).one⟩, (H63'.blk 5 rfl).frozen 0, fun w65 h65 => ?_⟩
        have H65 := H63'.box 5 rfl h65
        have e : (⟨48, 3, p', x.n, c', (val x).flatMap Val.cs⟩ :: (cl ++ [(⟨23, 1, op, cl.length, oc, (cl.reverse.map Row.sl).map Sl.v⟩ : Row)])).set (cl.length + 1) ⟨23, 1, p60, cl.length + 1, c62, (cl.reverse.map Row.sl).map Sl.v ++ [.slice p' x.n c']⟩
            = (⟨48, 3, p', x.n, c', (val x).flatMap Val.cs⟩ :: cl) ++ [⟨23, 1, p60, ((⟨48, 3, p', x.n, c', (val x).flatMap Val.cs⟩ : Row) :: cl).length, c62, (((⟨48, 3, p', x.n, c', (val x).flatMap Val.cs⟩ : Row) :: cl).reverse.map Row.sl).map Sl.v⟩] := by
          simp [Row.sl, Sl.v]
        rw [e] at H65
        refine ⟨H65.loop 0 rfl, ?_⟩
        have Ht := H65.turn 0 0 rfl
        refine ⟨fun h => (by cases h), fun _ => ?_⟩
        obtain ⟨hix, hend⟩ := hK _ (⟨48, 3, p', x.n, c', (val x).flatMap Val.cs⟩ :: cl) p60 c62 rfl
        have bx' := Ht.blk ix hix
        refine ⟨bx, 0, hptx, _, _, _, bx'.one, by decide, by omega, bx, 0, hptx, ⟨_, bx'.one⟩, bx'.frozen 0, fun w79 h79 => ?_⟩
        exact hend w79 (Ht.box ix hix h79) (by simp [hcM]) (rows_snoc hcM st50.rows ⟨rfl, rfl, rfl⟩)
      rcases hpt with ⟨hpt, x, t, rfl, hlt⟩ | ⟨hpt, y, t, rfl, hlt⟩
      · refine fin _ x ba 4 sa t hpt (st50.ga x (by simp)) st50.la fun fs1 cl' op' oc' hfs => ?_
        subst hfs
        refine ⟨rfl, fun W' H' hl' hr' => ?_⟩
        have hMs := st50.small
        have st' : MgSt w r l d bk bb ba b30 b1 kp kn kc A B ks val W' ⟨slBase sa.p 1 sa.c 1, sa.n - 1, sa.c - 1⟩ sb t hb' cl' op' oc' (M ++ [val x]) :=
          ⟨H', hl', hr', st50.la.tail, st50.lb, by
            have := st50.mg
            rw [List.map_cons] at this
            refine this.left hc fun y t' e => ?_
            cases hb' with
            | nil => cases e
            | cons z u => cases e; exact hlt z u rfl, fun z hz => st50.ga z (by simp [hz]), st50.gb, by rw [List.length_append]; simp only [List.length_cons, List.length_nil] at la' ⊢; omega⟩
        refine ⟨⟨_, _, _, _, _, _, _, _, st'⟩, ?_⟩
        rw [m3, lenAt_of (st'.H.blk 4 rfl).one, lenAt_of (st'.H.blk 3 rfl).one]
        simp only [List.length_cons] at la'
        show sa.n - 1 + sb.n < sa.n + sb.n
        omega
      · refine fin _ y bb 3 sb t hpt (st50.gb y (by simp)) st50.lb fun fs1 cl' op' oc' hfs => ?_
        subst hfs
        refine ⟨rfl, fun W' H' hl' hr' => ?_⟩
        have hMs := st50.small
        have st' : MgSt w r l d bk bb ba b30 b1 kp kn kc A B ks val W' sa ⟨slBase sb.p 1 sb.c 1, sb.n - 1, sb.c - 1⟩ ha' t cl' op' oc' (M ++ [val y]) :=
          ⟨H', hl', hr', st50.la, st50.lb.tail, by
            have := st50.mg
            rw [List.map_cons] at this
            refine this.right hc fun x t' e => ?_
            cases ha' with
            | nil => cases e
            | cons z u => cases e; exact hlt z u rfl, st50.ga, fun z hz => st50.gb z (by simp [hz]), by rw [List.length_append]; simp only [List.length_cons, List.length_nil] at lb' ⊢; omega⟩
        refine ⟨⟨_, _, _, _, _, _, _, _, st'⟩, ?_⟩
        rw [m3, lenAt_of (st'.H.blk 4 rfl).one, lenAt_of (st'.H.blk 3 rfl).one]
        simp only [List.length_cons] at lb'
        show sa.n + (sb.n - 1) < sa.n + sb.n
        omega
  · rw [i64_addn (by omega)] at hz
    have ea : ha' = [] := List.length_eq_zero_iff.1 (by omega)
    have eb : hb' = [] := List.length_eq_zero_iff.1 (by omega)
    subst ea eb
    have hst := st.mg.done
    have hlM := hst.length hc
    have Ht := st.H.turn 0 2 rfl
    refine ⟨⟨_, rfl⟩, .inl ⟨st.H.loop 0 rfl, _, _, _, (Ht.blk 5 rfl).one, Ht.dfr 1 rfl, ?_⟩⟩
    have Hs := Ht.shut 1 rfl
    refine ⟨Hs.ext, .inl ⟨ya, yb, oA, oB, op, oc, cl.reverse.map Row.sl, M, ?_, hst, ?_⟩⟩
    · rw [← hlM, st.len]
    · rw [← hlM, ← st.len]
      have hm := Hs.row cl.length (show (cl ++ [(⟨23, 1, op, cl.length, oc, (cl.reverse.map Row.sl).map Sl.v⟩ : Row)])[cl.length]? = some ⟨23, 1, op, cl.length, oc, (cl.reverse.map Row.sl).map Sl.v⟩ by simp)
      rw [heads_map] at hm
      refine ⟨hm.ls Sl.cs_length (by decide), fun i x y hx hy => ?_, st.len.symm⟩
      rw [List.getElem?_map] at hx
      cases hmi : cl.reverse[i]? with
      | none => rw [hmi] at hx; cases hx
      | some m =>
        rw [hmi] at hx
        cases hx
        obtain ⟨h1', h2', h3'⟩ := st.rows i m y hmi hy
        obtain ⟨j, hj⟩ := List.mem_iff_getElem?.1 (List.mem_reverse.1 (List.mem_of_getElem? hmi))
        have hjlt := (List.getElem?_eq_some_iff.1 hj).1
        have hmm := Hs.own j m (by rw [List.getElem?_append_left hjlt]; exact hj)
        rw [h1', h2', h3'] at hmm
        exact hmm.ls Val.cs_length (by decide)
end Go.Proofs.Ytgcjhhlokncbfaa
