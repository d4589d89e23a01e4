/- The walks of law 15's statements: merges, both, same. -/
import Derived.Test.YtgcjhhlokncbfaaLaws15
import Derived.Test.YtgcjhhlokncbfaaOr3
namespace Go.Vc
open Go Go.RowKit
section
variable {α : Type} {c : α → α → Int}
theorem SameF.perm [DecidableEq α] (hc : Cmp c) {a b : List α} (h : SameF c a b) : a.Perm b := by
  rw [List.perm_iff_count]
  intro x
  have key : ∀ l : List α, l.count x = (cls c x l).count x := fun l => by
    unfold cls
    rw [List.count_filter]
    simp [hc.self]
  rw [key a, key b, h x]
end
/-- Those that are not used yet. -/
def unused {α : Type} : List Bool → List α → List α
  | u :: us, x :: l => if u then unused us l else x :: unused us l
  | _, _ => []
theorem unused_start {α : Type} : ∀ l : List α, unused (List.replicate l.length false) l = l
  | [] => rfl
  | x :: l => by simp [List.replicate_succ, unused, unused_start l]
theorem unused_set {α : Type} : ∀ {us : List Bool} {l : List α} {k : Nat} {x : α}, us[k]? = some false → l[k]? = some x → (unused us l).Perm (x :: unused (us.set k true) l)
  | u :: us, y :: l, 0, x, h, h' => by cases h; cases h'; simp [unused]
  | u :: us, y :: l, k + 1, x, h, h' => by
    have := unused_set (us := us) (l := l) (k := k) (x := x) (by simpa using h) (by simpa using h')
    cases u
    · simp only [List.set_cons_succ, unused]
      exact (this.cons y).trans (List.Perm.swap x y _)
    · simpa [unused] using this
  | [], _, _, _, h, _ => by simp at h
  | _ :: _, [], _, _, _, h => by simp at h
theorem unused_mem {α : Type} : ∀ {us : List Bool} {l : List α} {x : α}, x ∈ unused us l → ∃ k : Nat, us[k]? = some false ∧ l[k]? = some x
  | u :: us, y :: l, x, h => by
    cases u
    · simp only [unused] at h
      rcases List.mem_cons.1 (by simpa using h) with rfl | h
      · exact ⟨0, rfl, rfl⟩
      · obtain ⟨k, h1, h2⟩ := unused_mem h
        exact ⟨k + 1, by simpa using h1, by simpa using h2⟩
    · simp only [unused] at h
      obtain ⟨k, h1, h2⟩ := unused_mem (by simpa using h)
      exact ⟨k + 1, by simpa using h1, by simpa using h2⟩
  | [], _, _, h => by simp [unused] at h
  | _ :: _, [], _, h => by simp [unused] at h
/-- Truths as values. -/
def vBo (l : List Bool) : List Value := l.map .bool
end Go.Vc
namespace Go.Proofs.Ytgcjhhlokncbfaa
open Go Go.Vc Go.RowKit
namespace L15

theorem merges_walk (w : World) (v0 v1 v2 : Value) (h0 : Arg Try.prog w 31 [v0]) (h1 : Arg Try.prog w 31 [v1]) (h2 : Arg Try.prog w 24 [v2]) :
    Calls Try.prog 7 #[v0, v1, v2] w fun e w' => e = .returned (.bool true) ∧ Ext w w' := by
  obtain ⟨ap, an, ac, ha, A, rfl, hA0, sA0, _⟩ := arg_rows h0
  obtain ⟨bp, bn, bc, hb, B, rfl, hB0, sB0, _⟩ := arg_rows h1
  obtain ⟨kp, kn, kc, ks, rfl, hk⟩ := arg_keys h2
  apply law15Merges_vc
  unfold law15Merges_T
  refine (shown_ok w).mono ?_
  rintro e w2 ⟨rfl, e2⟩
  have ca := hA0.heads.cap
  have cb := hB0.heads.cap
  rw [show (300 : Int) = ((300 : Nat) : Int) from rfl, min_nat, min_nat, Int.toNat_natCast, Int.toNat_natCast]
  have hA := hA0.take (k := min an 300) (Nat.min_le_left _ _)
  have hB := hB0.take (k := min bn 300) (Nat.min_le_left _ _)
  have sA : Sz (A.take (min an 300)) := fun r hr => sA0 r (List.mem_of_mem_take hr)
  have sB : Sz (B.take (min bn 300)) := fun r hr => sB0 r (List.mem_of_mem_take hr)
  have la : min an 300 ≤ 300 := Nat.min_le_right _ _
  have lb : min bn 300 ≤ 300 := Nat.min_le_right _ _
  generalize A.take (min an 300) = A1 at hA sA
  generalize B.take (min bn 300) = B1 at hB sB
  generalize hk1 : min an 300 = k1 at hA la
  generalize hk2 : min bn 300 = k2 at hB lb
  refine ⟨_, rfl, by omega, by omega, by omega, by omega, (omerge_ok w2 (hA.ext e2) (hB.ext e2) (hk.ext e2) (by omega) sA sB).mono ?_⟩
  rintro e w5 ⟨e5, s1⟩
  have x5 := e2.trans e5
  rcases s1 with ⟨y1, y2, y3, y4, p6, c8, hs1, R1, rfl, st1, hR1⟩ | ⟨hno, rfl⟩
  · refine ⟨_, _, _, _, rfl, (r15merge_ok w5 (hA.ext x5) (hB.ext x5) (hk.ext x5) (by omega)).mono ?_⟩
    rintro e w11 ⟨e11, s2⟩
    rcases s2 with ⟨_, _, _, _, p12, c14, hs2, R2, rfl, st2, hR2⟩ | ⟨hno, _⟩
    · have eR : R1 = R2 := Stab.unique (standsF_cmp _) st1 st2
      refine ⟨_, _, _, _, rfl, fun _ => (samerows_ok w11 (hR1.ext e11) hR2).mono ?_, fun h => by cases h⟩
      rintro e w18 ⟨rfl, e18⟩
      exact ⟨_, rfl, by simp [eR], x5.trans (e11.trans e18)⟩
    · exact (hno y1 y2 y3 y4).elim
  · refine ⟨_, _, _, _, rfl, (r15merge_ok w5 (hA.ext x5) (hB.ext x5) (hk.ext x5) (by omega)).mono ?_⟩
    rintro e w11 ⟨e11, s2⟩
    rcases s2 with ⟨y1, y2, y3, y4, _⟩ | ⟨_, rfl⟩
    · exact (hno y1 y2 y3 y4).elim
    · refine ⟨_, _, _, _, rfl, fun _ => (samerows_ok w11 (Rws.nothing w11) (Rws.nothing w11)).mono ?_, fun h => by cases h⟩
      rintro e w18 ⟨rfl, e18⟩
      exact ⟨_, rfl, by simp, x5.trans (e11.trans e18)⟩

theorem allR_stab {ks : List Key} {L R : List (List Val)} (h : Stab (standsF ks) L R) (hy : allR ks L = true) : allR ks R = true :=
  List.all_eq_true.2 fun r hr => allR_mem hy ((h.mem (standsF_cmp ks)).1 hr)
theorem Sz_stab {ks : List Key} {L R : List (List Val)} (h : Stab (standsF ks) L R) (hy : Sz L) : Sz R := fun r hr => hy r ((h.mem (standsF_cmp ks)).1 hr)

theorem both_walk (w : World) (v0 v1 v2 : Value) (h0 : Arg Try.prog w 31 [v0]) (h1 : Arg Try.prog w 31 [v1]) (h2 : Arg Try.prog w 24 [v2]) :
    Calls Try.prog 8 #[v0, v1, v2] w fun e w' => e = .returned (.bool true) ∧ Ext w w' := by
  obtain ⟨ap, an, ac, ha, A, rfl, hA0, sA0, _⟩ := arg_rows h0
  obtain ⟨bp, bn, bc, hb, B, rfl, hB0, sB0, _⟩ := arg_rows h1
  obtain ⟨kp, kn, kc, ks, rfl, hk⟩ := arg_keys h2
  apply law15Both_vc
  unfold law15Both_T
  have hc := standsF_cmp ks
  refine (shown_ok w).mono ?_
  rintro e w2 ⟨rfl, e2⟩
  have ca := hA0.heads.cap
  have cb := hB0.heads.cap
  rw [show (300 : Int) = ((300 : Nat) : Int) from rfl, min_nat, min_nat, Int.toNat_natCast, Int.toNat_natCast]
  have hA := hA0.take (k := min an 300) (Nat.min_le_left _ _)
  have hB := hB0.take (k := min bn 300) (Nat.min_le_left _ _)
  have sA : Sz (A.take (min an 300)) := fun r hr => sA0 r (List.mem_of_mem_take hr)
  have sB : Sz (B.take (min bn 300)) := fun r hr => sB0 r (List.mem_of_mem_take hr)
  have la : min an 300 ≤ 300 := Nat.min_le_right _ _
  have lb : min bn 300 ≤ 300 := Nat.min_le_right _ _
  generalize A.take (min an 300) = A1 at hA sA
  generalize B.take (min bn 300) = B1 at hB sB
  generalize hk1 : min an 300 = k1 at hA la
  generalize hk2 : min bn 300 = k2 at hB lb
  have lA := hA.len
  have lB := hB.len
  have sAB : Sz (A1 ++ B1) := fun r hr => by rcases List.mem_append.1 hr with h | h; exact sA r h; exact sB r h
  have lAB : (A1 ++ B1).length = k1 + k2 := by rw [List.length_append, lA, lB]
  refine ⟨_, rfl, by omega, by omega, by omega, by omega, (osort_ok w2 (hA.ext e2) (hk.ext e2) sA (by omega)).mono ?_⟩
  rintro e w5 ⟨e5, s1⟩
  have x5 := e2.trans e5
  obtain ⟨p6, n7, c8, n9, rfl, s1'⟩ : ∃ (p6 : Option Addr) (n7 c8 : Nat) (n9 : Int), e = .returned (.tuple #[.slice p6 n7 c8, .int .i64 n9]) ∧ ((allR ks A1 = true ∧ n9 = 0 ∧ n7 = k1 ∧ ∃ hs R, Stab (standsF ks) A1 R ∧ Rws w5 p6 n7 c8 hs R) ∨ (allR ks A1 = false ∧ n9 = 2)) := by
    rcases s1 with ⟨hy, p, c, hs, R, rfl, st, hR⟩ | ⟨hno, rfl⟩
    · exact ⟨_, _, _, _, rfl, .inl ⟨hy, rfl, lA, hs, R, st, hR⟩⟩
    · exact ⟨_, _, _, _, rfl, .inr ⟨hno, rfl⟩⟩
  refine ⟨_, _, _, _, rfl, (osort_ok w5 (hB.ext x5) (hk.ext x5) sB (by omega)).mono ?_⟩
  rintro e w11 ⟨e11, s2⟩
  have x11 := x5.trans e11
  obtain ⟨p12, n13, c14, n15, rfl, s2'⟩ : ∃ (p6 : Option Addr) (n7 c8 : Nat) (n9 : Int), e = .returned (.tuple #[.slice p6 n7 c8, .int .i64 n9]) ∧ ((allR ks B1 = true ∧ n9 = 0 ∧ n7 = k2 ∧ ∃ hs R, Stab (standsF ks) B1 R ∧ Rws w11 p6 n7 c8 hs R) ∨ (allR ks B1 = false ∧ n9 = 2)) := by
    rcases s2 with ⟨hy, p, c, hs, R, rfl, st, hR⟩ | ⟨hno, rfl⟩
    · exact ⟨_, _, _, _, rfl, .inl ⟨hy, rfl, lB, hs, R, st, hR⟩⟩
    · exact ⟨_, _, _, _, rfl, .inr ⟨hno, rfl⟩⟩
  refine ⟨_, _, _, _, rfl, ?_⟩
  rw [i64_addn (by omega)]
  refine ⟨Int.le_refl 0, by omega, by omega, by omega, fun b16 w17 h17 => ?_⟩
  rw [Int.toNat_natCast] at h17 ⊢
  obtain ⟨p19, c21, w22, p23, c25, w26, hr1, hr2, e26, hJ⟩ := join_rows (hA.ext x11) (hB.ext x11) (by omega) h17
  have x26 := x11.trans e26
  refine ⟨p19, k1, c21, w22, hr1, p23, k1 + k2, c25, w26, hr2, (osort_ok w26 hJ (hk.ext x26) sAB (by omega)).mono ?_⟩
  rintro e w28 ⟨e28, s3⟩
  have x28 := x26.trans e28
  rcases s3 with ⟨y3, p29, c31, hs3, Z, rfl, st3, hZ⟩ | ⟨n3, rfl⟩
  · rw [allR_append, Bool.and_eq_true] at y3
    rcases s1' with ⟨_, rfl, rfl, hs1, X, st1, hX⟩ | ⟨hno, _⟩
    · rcases s2' with ⟨_, rfl, rfl, hs2, Y, st2, hY⟩ | ⟨hno, _⟩
      · refine ⟨_, _, _, _, rfl, fun h => (by rcases h with h | h <;> exact absurd rfl h), fun _ => ?_⟩
        have lX := st1.length hc
        have lY := st2.length hc
        refine (omerge_ok w28 (hX.ext (e11.trans (e26.trans e28))) (hY.ext (e26.trans e28)) (hk.ext x28) (by omega) (Sz_stab st1 sA) (Sz_stab st2 sB)).mono ?_
        rintro e w36 ⟨e36, s4⟩
        have x36 := x28.trans e36
        rcases s4 with ⟨_, _, _, _, p37, c39, hs4, M, rfl, st4, hM⟩ | ⟨hno, _⟩
        · have eM : M = Z := Stab.unique hc (⟨st4.ord, (SameF.app st1.same st2.same).trans st4.same⟩ : Stab (standsF ks) (A1 ++ B1) M) st3
          refine ⟨_, _, _, _, rfl, (osort_ok w36 (hZ.ext e36) (hk.ext x36) (Sz_stab st3 sAB) (by omega)).mono ?_⟩
          rintro e w42 ⟨e42, s5⟩
          have x42 := x36.trans e42
          rcases s5 with ⟨_, p43, c45, hs5, W, rfl, st5, hW⟩ | ⟨hno, _⟩
          · have eW : W = Z := Stab.unique hc st5 st3.ord.stab
            refine ⟨_, _, _, _, rfl, fun _ => (samerows_ok w42 (hM.ext e42) (hZ.ext (e36.trans e42))).mono ?_, fun h => ?_⟩
            · rintro e w49 ⟨rfl, e49⟩
              refine ⟨_, rfl, fun _ => (samerows_ok w49 (hW.ext e49) (hZ.ext (e36.trans (e42.trans e49)))).mono ?_, fun h => ?_⟩
              · rintro e w53 ⟨rfl, e53⟩
                exact ⟨_, rfl, by simp [eW], x42.trans (e49.trans e53)⟩
              · simp [eM] at h
            · rcases h with ((h | h) | h) | h <;> first | cases h | exact absurd rfl h
          · rw [allR_stab st3 (by rw [allR_append, y3.1, y3.2]; rfl)] at hno; cases hno
        · exact (hno (allR_stab st1 y3.1) (allR_stab st2 y3.2) st1.ord st2.ord).elim
      · rw [y3.2] at hno; cases hno
    · rw [y3.1] at hno; cases hno
  · refine ⟨_, _, _, _, rfl, fun _ => ⟨by simp, x28⟩, fun h => ?_⟩
    rw [allR_append, Bool.and_eq_false_iff] at n3
    rcases n3 with n3 | n3
    · rcases s1' with ⟨y, _⟩ | ⟨_, hn9⟩
      · rw [n3] at y; cases y
      · omega
    · rcases s2' with ⟨y, _⟩ | ⟨_, hn15⟩
      · rw [n3] at y; cases y
      · omega

theorem same_walk (w : World) (v0 v1 : Value) (h0 : Arg Try.prog w 31 [v0]) (h1 : Arg Try.prog w 24 [v1]) :
    Calls Try.prog 4 #[v0, v1] w fun e w' => e = .returned (.bool true) ∧ Ext w w' := by
  obtain ⟨p, n, c, hs, L, rfl, hR0, hsz0, _⟩ := arg_rows h0
  obtain ⟨kp, kn, kc, ks, rfl, hk⟩ := arg_keys h1
  apply law15Same_vc
  unfold law15Same_T
  have hc := standsF_cmp ks
  refine (shown_ok w).mono ?_
  rintro e w2 ⟨rfl, e2⟩
  have hcap := hR0.heads.cap
  rw [show (300 : Int) = ((300 : Nat) : Int) from rfl, min_nat, Int.toNat_natCast]
  have hR := hR0.take (k := min n 300) (Nat.min_le_left _ _)
  have hsz : Sz (L.take (min n 300)) := fun r hr => hsz0 r (List.mem_of_mem_take hr)
  have hn : min n 300 ≤ 300 := Nat.min_le_right _ _
  generalize L.take (min n 300) = L1 at hR hsz
  generalize hk1 : min n 300 = k1 at hR hn
  have lL := hR.len
  refine ⟨_, rfl, by omega, by omega, (osort_ok w2 (hR.ext e2) (hk.ext e2) hsz (by omega)).mono ?_⟩
  rintro e w5 ⟨e5, s1⟩
  have x5 := e2.trans e5
  rcases s1 with ⟨hy, p6, c8, hs1, R1, rfl, st, hR1⟩ | ⟨hno, rfl⟩
  · refine ⟨_, _, _, _, rfl, fun h => absurd rfl h, fun _ => ⟨fun h => (by omega), fun _ => ?_⟩⟩
    rw [lL] at hR1 ⊢
    have lR := hR1.len
    refine ⟨by omega, Int.le_refl _, by omega, by omega, fun b14 w15 h14 => ?_⟩
    have hperm : L1.Perm R1 := st.same.perm hc
    have emk : madeCells #[Value.bool false] k1 = (vBo (List.replicate k1 false)).toArray := by
      apply Array.ext
      · rw [size_madeCells]; simp [vBo]
      · intro i h1 h2
        simp [madeCells, vBo, Nat.mod_one]
    rw [emk] at h14
    have H15 := (Hold.start (Ext.rfl (w := w5))).new h14
    refine ⟨fun i W => ∃ (k : Nat) (u : List Bool), i = (k : Int) ∧ k ≤ k1 ∧ u.length = k1 ∧ Hold w5 W [(b14, .cells (vBo u).toArray 4 (0, 0))] [] ∧ (unused u R1).Perm (L1.drop k), fun i _ => k1 - i.toNat, ⟨0, List.replicate k1 false, rfl, Nat.zero_le _, by simp, H15, by rw [← lR, unused_start]; exact hperm.symm⟩, ?_⟩
    rintro i w20 ⟨k, u, rfl, hkk, lu, H20, hpm⟩
    have hyR := allR_stab st hy
    refine ⟨fun hlt => ?_, fun hge => ⟨by trivial, x5.trans H20.ext⟩⟩
    have gx : L1[k]? = some (L1[k]'(by omega)) := List.getElem?_eq_getElem _
    generalize L1[k]'(by omega) = x at gx
    have hdr : L1.drop k = x :: L1.drop (k + 1) := by rw [List.drop_eq_getElem_cons (by omega)]; congr 1; exact (List.getElem?_eq_some_iff.1 gx).2
    refine ⟨fun met j W => ∃ (j' : Nat) (u' : List Bool), j = (j' : Int) ∧ j' ≤ k1 ∧ u'.length = k1 ∧ Hold w5 W [(b14, .cells (vBo u').toArray 4 (0, 0))] [] ∧ ((met = false ∧ u' = u ∧ ∀ q : Nat, q < j' → u[q]? = some false → R1[q]? = some x → False) ∨ (met = true ∧ (unused u' R1).Perm (L1.drop (k + 1)))),
      fun _ j _ => k1 - j.toNat, ⟨0, u, rfl, Nat.zero_le _, lu, H20, .inl ⟨rfl, rfl, fun q hq => by omega⟩⟩, ?_⟩
    rintro met j w27 ⟨j, u', rfl, hj, lu', H27, hmet⟩
    simp only [Int.toNat_natCast]
    have keep : ∀ {W}, Hold w5 W [(b14, .cells (vBo u').toArray 4 (0, 0))] [] → ∀ {i : Nat} {r}, R1[i]? = some r → ∃ y : Sl, Vs W y.p y.n y.c r ∧ ∃ b o, p6 = some ⟨b, o, none⟩ ∧ W.cell? ⟨b, o + i, none⟩ = some (.slice y.p y.n y.c) := by
      intro W H i r hr
      obtain ⟨y, hy1, hy2, b, o, hp, hcell⟩ := (hR1.ext H.ext).get hr
      exact ⟨y, hy2, b, o, hp, hcell⟩
    refine ⟨fun hgo w30 h30 => ?_, fun hstop => ?_⟩
    · obtain ⟨hjlt, rfl⟩ := hgo
      have hjk : j < k1 := by omega
      rcases hmet with ⟨_, rfl, hno⟩ | ⟨hm, _⟩
      · have H30 := H27.step h30.ext
        have gu : u'[j]? = some (u'[j]'(by omega)) := List.getElem?_eq_getElem _
        generalize u'[j]'(by omega) = bj at gu
        have cu : (vBo u').toArray[j]? = some (.bool bj) := by simp [vBo, gu]
        have cell := (H30.blk 0 rfl).cell j
        rw [cu] at cell
        refine ⟨b14, 0, rfl, by omega, by omega, bj, by rw [Nat.zero_add]; exact cell, fun hf => ?_, fun ht => ?_⟩
        · subst hf
          obtain ⟨sx, _, hvx, bx, ox, hpx, cx⟩ := (hR.ext (x5.trans H30.ext)).get gx
          have gr : R1[j]? = some (R1[j]'(by omega)) := List.getElem?_eq_getElem _
          generalize R1[j]'(by omega) = y at gr
          obtain ⟨sy, hvy, by', oy, hpy, cy⟩ := keep H30 gr
          refine ⟨bx, ox, hpx, by omega, by omega, _, _, _, cx, by', oy, hpy, by omega, by omega, _, _, _, cy, (samerow_ok w30 hvx hvy).mono ?_⟩
          rintro e w47 ⟨rfl, e47⟩
          have H47 := H30.step e47
          refine ⟨_, rfl, fun hs => ?_, fun hs => ?_⟩
          · have hxy : x = y := of_decide_eq_true hs
            subst hxy
            have cell := (H47.blk 0 rfl).cell j
            rw [cu] at cell
            refine ⟨b14, 0, rfl, by omega, by omega, ⟨_, by rw [Nat.zero_add]; exact cell⟩, by rw [Nat.zero_add]; exact (H47.blk 0 rfl).frozen j, fun w53 h53 => ?_⟩
            rw [Nat.zero_add] at h53
            have H53 := H47.put 0 rfl h53
            have es : setA (vBo u').toArray j [Value.bool true] = (vBo (u'.set j true)).toArray := by
              simp [setA, vBo, List.map_set]
            rw [es] at H53
            rw [i64_next (by omega)]
            refine ⟨⟨j + 1, u'.set j true, rfl, by omega, by simpa using lu', H53, .inr ⟨by trivial, ?_⟩⟩, by simp only [Int.toNat_natCast]; omega⟩
            have := unused_set gu gr
            rw [hdr] at hpm
            exact List.Perm.cons_inv (this.symm.trans hpm)
          · have hxy : ¬ x = y := of_decide_eq_false hs
            rw [i64_next (by omega)]
            refine ⟨⟨j + 1, u', rfl, by omega, lu', H47, .inl ⟨rfl, rfl, fun q hq h1 h2 => ?_⟩⟩, by simp only [Int.toNat_natCast]; omega⟩
            by_cases hqj : q = j
            · subst hqj; rw [gr] at h2; cases h2; exact hxy rfl
            · exact hno q (by omega) h1 h2
        · subst ht
          rw [i64_next (by omega)]
          refine ⟨⟨j + 1, u', rfl, by omega, lu', H30, .inl ⟨rfl, rfl, fun q hq h1 h2 => ?_⟩⟩, by simp only [Int.toNat_natCast]; omega⟩
          by_cases hqj : q = j
          · subst hqj; rw [gu] at h1; cases h1
          · exact hno q (by omega) h1 h2
      · cases hm
    · rcases hmet with ⟨rfl, rfl, hno⟩ | ⟨rfl, hpm'⟩
      · exfalso
        have hjk : k1 ≤ j := by rcases hstop with h | h; omega; cases h
        rw [hdr] at hpm
        obtain ⟨q, h1', h2'⟩ := unused_mem (hpm.mem_iff.2 (List.mem_cons_self ..))
        exact hno q (by have := (List.getElem?_eq_some_iff.1 h2').1; omega) h1' h2'
      · refine ⟨fun h => (by cases h), fun _ => ⟨fun hpos w61 h61 => ?_, fun hz => ?_⟩⟩
        · have H61 := H27.step h61.ext
          rw [i64_prev (by omega) (by omega)]
          simp only [Int.toNat_natCast]
          have g0 : R1[k - 1]? = some (R1[k - 1]'(by omega)) := List.getElem?_eq_getElem _
          have g1 : R1[k]? = some (R1[k]'(by omega)) := List.getElem?_eq_getElem _
          generalize R1[k - 1]'(by omega) = y0 at g0
          generalize R1[k]'(by omega) = y1 at g1
          obtain ⟨s0, hv0, b0, o0, hp0, c0⟩ := keep H61 g0
          obtain ⟨s1, hv1, b1, o1, hp1, c1⟩ := keep H61 g1
          refine ⟨b0, o0, hp0, by omega, by omega, _, _, _, c0, b1, o1, hp1, by omega, by omega, _, _, _, c1, (ocompare_ok w61 hv0 hv1 (hk.ext (x5.trans H61.ext))).mono ?_⟩
          rintro e w74 ⟨rfl, e74⟩
          have r0 := allR_mem hyR (List.mem_of_getElem? g0)
          have r1 := allR_mem hyR (List.mem_of_getElem? g1)
          have hle := st.ord.get hc (i := k - 1) (j := k) (by omega) g0 g1
          have hcv : compareV ks y0 y1 = .tuple #[.int .i64 (standsF ks y0 y1), .int .i64 0] := by unfold compareV; rw [r0, r1]; rfl
          rw [hcv]
          refine ⟨_, _, rfl, fun hbad => ?_, fun _ => ?_⟩
          · rcases hbad with h | h
            · exact absurd rfl h
            · omega
          · rw [i64_next (by omega)]
            exact ⟨⟨k + 1, u', rfl, by omega, lu', H61.step e74, hpm'⟩, by simp only [Int.toNat_natCast]; omega⟩
        · rw [i64_next (by omega)]
          exact ⟨⟨k + 1, u', rfl, by omega, lu', H27, hpm'⟩, by simp only [Int.toNat_natCast]; omega⟩
  · exact ⟨_, _, _, _, rfl, fun _ => ⟨by simp, x5⟩, fun h => absurd h (by decide)⟩
end L15
end Go.Proofs.Ytgcjhhlokncbfaa
