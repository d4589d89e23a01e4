/- The walks of law 15's statements: what is handed in, the head, stands, sorts. -/
import Derived.Test.YtgcjhhlokncbfaaOr2
import Derived.Test.YtgcjhhlokncbfaaOpen
namespace Go.Proofs.Ytgcjhhlokncbfaa
open Go Go.Vc Go.RowKit

namespace L15
theorem undInt : Try.prog.underlying 3 = some (.int .i64) := by kernel_rfl
theorem undI64 : Try.prog.underlying 2 = some (.int .i64) := by kernel_rfl
theorem undBool : Try.prog.underlying 4 = some .bool := by kernel_rfl
theorem undStr : Try.prog.underlying 9 = some .string := by kernel_rfl
theorem undKeys : Try.prog.underlying 24 = some (.slice 43) := by kernel_rfl
theorem stVal : structOf Try.prog 48 = some [(3, 0), (2, 1), (9, 2)] := by kernel_rfl
theorem stKey : structOf Try.prog 43 = some [(3, 0), (4, 1)] := by kernel_rfl

theorem arg_value {w : World} {cs : List Value} (h : Arg Try.prog w 48 cs) : ∃ v : Val, cs = v.cs ∧ v.fit :=
  arg_val stVal (by kernel_rfl) (by kernel_rfl) (by kernel_rfl) (by kernel_rfl) undInt undI64 undStr h
theorem arg_row {w : World} {v : Value} (h : Arg Try.prog w 23 [v]) : ∃ p n c r, v = .slice p n c ∧ Vs w p n c r ∧ r.length ≤ 4398046511104 ∧ ∀ x ∈ r, x.fit := by
  obtain ⟨p, n, c, l, rfl, hl, hf, hb⟩ := arg_ls (enc := Val.cs) (Q := Val.fit) undRow (by decide +kernel : 0 < Try.prog.cellsOf 48) (fun x hx => arg_value hx) (fun a => by rw [Val.cs_length]; kernel_rfl) h
  rw [show Try.prog.bytesOf 48 = 32 by kernel_rfl] at hb
  have := hl.cap
  exact ⟨p, n, c, l, rfl, hl, by rw [hl.len]; omega, hf⟩
theorem list_pick {α β : Type} {Q : α → β → Prop} : ∀ {hs : List α}, (∀ x ∈ hs, ∃ r, Q x r) → ∃ L : List β, L.length = hs.length ∧ ∀ (i : Nat) x r, hs[i]? = some x → L[i]? = some r → Q x r
  | [], _ => ⟨[], rfl, by simp⟩
  | x :: hs, h => by
    obtain ⟨r, hr⟩ := h x (by simp)
    obtain ⟨L, hl, hL⟩ := list_pick (hs := hs) fun y hy => h y (by simp [hy])
    refine ⟨r :: L, by simp [hl], fun i y s hy hs' => ?_⟩
    cases i with
    | zero => cases hy; cases hs'; exact hr
    | succ i => exact hL i y s (by simpa using hy) (by simpa using hs')
theorem arg_rows {w : World} {v : Value} (h : Arg Try.prog w 31 [v]) : ∃ p n c hs L, v = .slice p n c ∧ Rws w p n c hs L ∧ Sz L ∧ (∀ r ∈ L, ∀ x ∈ r, x.fit) ∧ n ≤ 5864062014805 := by
  obtain ⟨p, n, c, l, rfl, hl, hf, hb⟩ := arg_ls (enc := Sl.cs) (Q := fun x => ∃ r, Vs w x.p x.n x.c r ∧ r.length ≤ 4398046511104 ∧ ∀ v ∈ r, v.fit) undRows (by decide +kernel : 0 < Try.prog.cellsOf 23)
    (fun x hx => by
      obtain ⟨p, n, c, css, he, _⟩ := Arg.slice undRow (by decide +kernel : 0 < Try.prog.cellsOf 48) hx
      subst he
      obtain ⟨p', n', c', r, he, h1, h2, h3⟩ := arg_row hx
      cases he
      exact ⟨⟨p, n, c⟩, rfl, r, h1, h2, h3⟩) (fun a => by rw [Sl.cs_length]; kernel_rfl) h
  rw [show Try.prog.bytesOf 23 = 24 by kernel_rfl] at hb
  have := hl.cap
  obtain ⟨L, hL, hq⟩ := list_pick hf
  have pick : ∀ r ∈ L, ∃ x : Sl, Vs w x.p x.n x.c r ∧ r.length ≤ 4398046511104 ∧ ∀ v ∈ r, v.fit := by
    intro r hr
    obtain ⟨i, hi⟩ := List.mem_iff_getElem?.1 hr
    have hlt := (List.getElem?_eq_some_iff.1 hi).1
    exact ⟨_, hq i _ r (List.getElem?_eq_getElem (by omega)) hi⟩
  refine ⟨p, n, c, l, L, rfl, ⟨hl, fun i x r hx hr => (hq i x r hx hr).1, by rw [hL, hl.len]⟩, fun r hr => ?_, fun r hr => ?_, by omega⟩
  · obtain ⟨_, _, h1, _⟩ := pick r hr; exact h1
  · obtain ⟨_, _, _, h2⟩ := pick r hr; exact h2
theorem arg_keys {w : World} {v : Value} (h : Arg Try.prog w 24 [v]) : ∃ p n c ks, v = .slice p n c ∧ Ks w p n c ks := by
  obtain ⟨p, n, c, l, rfl, hl, _, _⟩ := arg_ls (enc := Key.cs) (Q := fun _ => True) undKeys (by decide +kernel : 0 < Try.prog.cellsOf 43)
    (fun x hx => by
      obtain ⟨hl, hf⟩ := Arg.fields stKey hx
      rw [show Try.prog.cellsOf 43 = 2 by kernel_rfl] at hl
      obtain ⟨a, b, rfl⟩ : ∃ a b, x = [a, b] := by
        match x, hl with
        | [a, b], _ => exact ⟨a, b, rfl⟩
      have f1 := hf (3, 0) (by simp)
      have f2 := hf (4, 1) (by simp)
      simp only [show Try.prog.cellsOf 3 = 1 by kernel_rfl, show Try.prog.cellsOf 4 = 1 by kernel_rfl] at f1 f2
      obtain ⟨k, e1, _⟩ := Arg.int undInt f1
      obtain ⟨d, e2⟩ := Arg.bool undBool f2
      simp at e1 e2
      subst e1 e2
      exact ⟨⟨k, d⟩, rfl, trivial⟩) (fun a => by rw [Key.cs_length]; kernel_rfl) h
  exact ⟨p, n, c, l, rfl, hl⟩
theorem arg_int {w : World} {v : Value} (h : Arg Try.prog w 3 [v]) : ∃ n : Int, v = .int .i64 n ∧ i64F n := by
  obtain ⟨n, he, hwf⟩ := Arg.int undInt h
  cases he
  exact ⟨n, rfl, wf_i64 hwf⟩

/-! ### The head -/
theorem shown1_ok (w : World) (x : Int) : Calls Try.prog 20 #[.int .i64 x] w fun e w' => e = .returned (numV x).agg ∧ Ext w w' := by
  apply shown151_vc
  unfold shown151_T
  intro b1 w2 h1
  have H1 := (Hold.start (Ext.rfl (w := w))).new h1
  have B0 : Blk w2 b1 48 #[.int .i64 0, .int .i64 0, .string ⟨#[]⟩] := H1.blk 0 rfl
  obtain ⟨p0, p1, p2⟩ := B0.c3
  refine ⟨⟨_, p0⟩, B0.frozen _, ⟨_, p1⟩, B0.frozen _, ⟨_, p2⟩, B0.frozen _, fun w7 h7 => ?_⟩
  have H7 := H1.put 0 rfl h7
  have B : Blk w7 b1 48 #[.int .i64 1, .int .i64 x, .string ⟨#[]⟩] := H7.blk 0 rfl
  obtain ⟨q0, q1, q2⟩ := B.c3
  exact ⟨_, q0, _, q1, _, q2, rfl, H7.ext⟩
theorem shown_stab : Stab (standsF [⟨0, false⟩]) [[numV 2, numV 7], [numV 1, numV 8], [numV 2, numV 6]] [[numV 1, numV 8], [numV 2, numV 7], [numV 2, numV 6]] := by
  have hc := standsF_cmp [⟨0, false⟩]
  have c1 : standsF [⟨0, false⟩] [numV 1, numV 8] [numV 2, numV 7] = -1 := by decide +kernel
  have c2 : standsF [⟨0, false⟩] [numV 1, numV 8] [numV 2, numV 6] = -1 := by decide +kernel
  have c3 : standsF [⟨0, false⟩] [numV 2, numV 7] [numV 2, numV 6] = 0 := by decide +kernel
  refine ⟨?_, ?_⟩
  · refine List.pairwise_cons.2 ⟨fun y hy => ?_, List.pairwise_cons.2 ⟨fun y hy => ?_, List.pairwise_cons.2 ⟨fun y hy => (by cases hy), List.Pairwise.nil⟩⟩⟩
    · rcases List.mem_cons.1 hy with rfl | hy
      · rw [c1]; decide
      · rcases List.mem_cons.1 hy with rfl | hy
        · rw [c2]; decide
        · cases hy
    · rcases List.mem_cons.1 hy with rfl | hy
      · rw [c3]; decide
      · cases hy
  · have := SameF.app (SameF.swap hc (u := [[numV 2, numV 7]]) (v := [[numV 1, numV 8]]) fun x hx y hy e => by
      rcases List.mem_singleton.1 hx with rfl
      rcases List.mem_singleton.1 hy with rfl
      have h1 := hc.anti [numV 1, numV 8] [numV 2, numV 7]
      omega) (SameF.rfl (c := standsF [⟨0, false⟩]) (a := [[numV 2, numV 6]]))
    exact this
theorem shown_ok (w : World) : Calls Try.prog 9 #[] w fun e w' => e = .returned (.bool true) ∧ Ext w w' := by
  apply shown15_vc
  unfold shown15_T
  refine (shown1_ok w 2).mono ?_
  rintro e w2 ⟨rfl, e2⟩
  refine ⟨_, _, _, rfl, (shown1_ok w2 7).mono ?_⟩
  rintro e w7 ⟨rfl, e7⟩
  refine ⟨_, _, _, rfl, fun b11 w12 h11 => (shown1_ok w12 1).mono ?_⟩
  have v11 : Vs w12 (some ⟨b11, 0, none⟩) 2 2 [numV 2, numV 7] := ⟨rfl, ⟨Nat.le_refl _, by decide⟩, h11.at, fun e => by cases e⟩
  rintro e w15 ⟨rfl, e15⟩
  refine ⟨_, _, _, rfl, (shown1_ok w15 8).mono ?_⟩
  rintro e w20 ⟨rfl, e20⟩
  refine ⟨_, _, _, rfl, fun b24 w25 h24 => (shown1_ok w25 2).mono ?_⟩
  have v24 : Vs w25 (some ⟨b24, 0, none⟩) 2 2 [numV 1, numV 8] := ⟨rfl, ⟨Nat.le_refl _, by decide⟩, h24.at, fun e => by cases e⟩
  rintro e w28 ⟨rfl, e28⟩
  refine ⟨_, _, _, rfl, (shown1_ok w28 6).mono ?_⟩
  rintro e w33 ⟨rfl, e33⟩
  refine ⟨_, _, _, rfl, fun b37 w38 h37 b40 w41 h40 b43 w44 h43 => ?_⟩
  have v37 : Vs w38 (some ⟨b37, 0, none⟩) 2 2 [numV 2, numV 6] := ⟨rfl, ⟨Nat.le_refl _, by decide⟩, h37.at, fun e => by cases e⟩
  have e12 := e2.trans (e7.trans h11.ext)
  have e25 := e15.trans (e20.trans h24.ext)
  have e38 := e28.trans (e33.trans h37.ext)
  have e44 := h40.ext.trans h43.ext
  have k44 : Ks w44 (some ⟨b43, 0, none⟩) 1 1 [⟨0, false⟩] := ⟨rfl, ⟨Nat.le_refl _, by decide⟩, h43.at, fun e => by cases e⟩
  have r44 : Rws w44 (some ⟨b40, 0, none⟩) 3 3 [⟨some ⟨b11, 0, none⟩, 2, 2⟩, ⟨some ⟨b24, 0, none⟩, 2, 2⟩, ⟨some ⟨b37, 0, none⟩, 2, 2⟩] [[numV 2, numV 7], [numV 1, numV 8], [numV 2, numV 6]] := by
    have ha : Ls Sl.cs w41 (some ⟨b40, 0, none⟩) 3 3 [⟨some ⟨b11, 0, none⟩, 2, 2⟩, ⟨some ⟨b24, 0, none⟩, 2, 2⟩, ⟨some ⟨b37, 0, none⟩, 2, 2⟩] := ⟨rfl, ⟨Nat.le_refl _, by decide⟩, h40.at, fun e => by cases e⟩
    refine ⟨ha.ext h43.ext, fun i x r hx hr => ?_, rfl⟩
    match i, hx, hr with
    | 0, hx, hr => cases hx; cases hr; exact v11.ext (e25.trans (e38.trans e44))
    | 1, hx, hr => cases hx; cases hr; exact v24.ext (e38.trans e44)
    | 2, hx, hr => cases hx; cases hr; exact v37.ext e44
    | i + 3, hx, _ => simp at hx
  refine (osort_ok w44 r44 k44 (by intro r hr; simp at hr; rcases hr with rfl | rfl | rfl <;> decide) (by decide)).mono ?_
  rintro e w47 ⟨e47, hh⟩
  rcases hh with ⟨_, p, c, hs, R, rfl, hst, hR⟩ | ⟨hno, _⟩
  · have hRe := Stab.unique (standsF_cmp _) hst shown_stab
    subst hRe
    refine ⟨_, _, _, _, rfl, fun w52 h52 => ⟨fun _ => ?_, fun hbad => ?_⟩⟩
    · have hR := hR.ext h52.ext
      obtain ⟨x, _, hv, b, o, hp, c0⟩ := hR.get (i := 0) rfl
      have hvl := hv.len
      obtain ⟨b6, o6, hp6, d0, d1, d2⟩ := hv.val (i := 1) rfl
      refine ⟨b, o, hp, Int.le_refl 0, by decide, _, _, _, c0, b6, o6, hp6, by decide, by rw [← hvl]; decide, _, d0, _, d1, _, d2, (shown1_ok w52 8).mono ?_⟩
      rintro e w66 ⟨rfl, e66⟩
      have hR := hR.ext e66
      refine ⟨_, _, _, rfl, e66.same, fun _ => ?_, fun hbad => ?_⟩
      · obtain ⟨x, _, hv, b, o, hp, c0⟩ := hR.get (i := 1) rfl
        have hvl := hv.len
        obtain ⟨b6, o6, hp6, d0, d1, d2⟩ := hv.val (i := 1) rfl
        refine ⟨b, o, hp, by decide, by decide, _, _, _, c0, b6, o6, hp6, by decide, by rw [← hvl]; decide, _, d0, _, d1, _, d2, (shown1_ok w66 7).mono ?_⟩
        rintro e w82 ⟨rfl, e82⟩
        have hR := hR.ext e82
        refine ⟨_, _, _, rfl, e82.same, fun _ => ?_, fun hbad => ?_⟩
        · obtain ⟨x, _, hv, b, o, hp, c0⟩ := hR.get (i := 2) rfl
          have hvl := hv.len
          obtain ⟨b6, o6, hp6, d0, d1, d2⟩ := hv.val (i := 1) rfl
          refine ⟨b, o, hp, by decide, by decide, _, _, _, c0, b6, o6, hp6, by decide, by rw [← hvl]; decide, _, d0, _, d1, _, d2, (shown1_ok w82 6).mono ?_⟩
          rintro e w98 ⟨rfl, e98⟩
          refine ⟨_, _, _, rfl, e98.same, ?_, ?_⟩
          · rw [sEq_self]; simp
          · exact (e12.trans (e25.trans (e38.trans e44))).trans (e47.trans (h52.ext.trans (e66.trans (e82.trans e98))))
        · rcases hbad with h | h | h <;> exact absurd rfl h
      · rcases hbad with h | h | h <;> exact absurd rfl h
    · rcases hbad with h | h <;> exact absurd rfl h
  · exact absurd hno (by decide +kernel)

theorem stands_walk (w : World) (v0 v1 v2 : Value) (h0 : Arg Try.prog w 23 [v0]) (h1 : Arg Try.prog w 23 [v1]) (h2 : Arg Try.prog w 24 [v2]) :
    Calls Try.prog 3 #[v0, v1, v2] w fun e w' => e = .returned (.bool true) ∧ Ext w w' := by
  obtain ⟨ap, an, ac, a, rfl, ha, _⟩ := arg_row h0
  obtain ⟨bp, bn, bc, b, rfl, hb, _⟩ := arg_row h1
  obtain ⟨kp, kn, kc, ks, rfl, hk⟩ := arg_keys h2
  apply law15Stands_vc
  unfold law15Stands_T
  refine (shown_ok w).mono ?_
  rintro e w2 ⟨rfl, e2⟩
  refine ⟨_, rfl, (ocompare_ok w2 (ha.ext e2) (hb.ext e2) (hk.ext e2)).mono ?_⟩
  rintro e w5 ⟨rfl, e5⟩
  have e25 := e2.trans e5
  refine ⟨_, _, rfl, (r15compare_ok w5 (ha.ext e25) (hb.ext e25) (hk.ext e25)).mono ?_⟩
  rintro e w9 ⟨rfl, e9⟩
  exact ⟨_, _, rfl, by simp, e25.trans e9⟩

theorem min_nat (n : Nat) (k : Nat) : mmI false (n : Int) (k : Int) = ((min n k : Nat) : Int) := by
  unfold mmI; simp only []
  split <;> omega

theorem sorts_walk (w : World) (v0 v1 v2 : Value) (h0 : Arg Try.prog w 31 [v0]) (h1 : Arg Try.prog w 3 [v1]) (h2 : Arg Try.prog w 24 [v2]) :
    Calls Try.prog 5 #[v0, v1, v2] w fun e w' => e = .returned (.bool true) ∧ Ext w w' := by
  obtain ⟨p, n, c, hs, L, rfl, hR0, hsz0, _⟩ := arg_rows h0
  obtain ⟨m, rfl, _⟩ := arg_int h1
  obtain ⟨kp, kn, kc, ks, rfl, hk⟩ := arg_keys h2
  apply law15Sorts_vc
  unfold law15Sorts_T
  refine (shown_ok w).mono ?_
  rintro e w2 ⟨rfl, e2⟩
  have hcap := hR0.heads.cap
  rw [show (500 : Int) = ((500 : Nat) : Int) from rfl, min_nat, Int.toNat_natCast]
  have hR := hR0.take (k := min n 500) (Nat.min_le_left _ _)
  have hsz : Sz (L.take (min n 500)) := fun r hr => hsz0 r (List.mem_of_mem_take hr)
  have hn : min n 500 ≤ 1099511627776 := Nat.le_trans (Nat.min_le_right _ _) (by decide)
  generalize hL1 : L.take (min n 500) = L1 at hR hsz
  generalize hk1 : min n 500 = k1 at hR hn
  have hk1c : k1 ≤ c := by omega
  refine ⟨_, rfl, by omega, by omega, (osort_ok w2 (hR.ext e2) (hk.ext e2) hsz hn).mono ?_⟩
  rintro e w5 ⟨e5, s1⟩
  have x5 := e2.trans e5
  have hlL := hR.len
  rcases s1 with ⟨hy, p6, c8, hs1, R1, rfl, st1, hR1⟩ | ⟨hno, rfl⟩
  · refine ⟨_, _, _, _, rfl, (r15sort_ok w5 (hR.ext x5) (hk.ext x5) hn).mono ?_⟩
    rintro e w11 ⟨e11, s2⟩
    have x11 := x5.trans e11
    rcases s2 with ⟨_, p12, c14, hs2, R2, rfl, st2, hR2⟩ | ⟨hno, _⟩
    · have eR : R1 = R2 := Stab.unique (standsF_cmp _) st1 st2
      refine ⟨_, _, _, _, rfl, (ofirst_ok w11 (hR.ext x11) (hk.ext x11) hsz hn m).mono ?_⟩
      rintro e w17 ⟨e17, s3⟩
      have x17 := x11.trans e17
      rcases s3 with ⟨_, hm1, p18, c20, hs3, R3, rfl, st3, hR3⟩ | ⟨hbad, rfl⟩
      · refine ⟨_, _, _, _, rfl, (r15first_ok w17 (hR.ext x17) (hk.ext x17) hn m).mono ?_⟩
        rintro e w23 ⟨e23, s4⟩
        have x23 := x17.trans e23
        rcases s4 with ⟨_, _, p24, c26, hs4, R4, rfl, st4, hR4⟩ | ⟨hbad, _⟩
        · have eR2 : R3 = R4 := Stab.unique (standsF_cmp _) st3 st4
          refine ⟨_, _, _, _, rfl, fun _ => ?_, fun h => by cases h⟩
          refine (samerows_ok w23 (hR1.ext (e11.trans (e17.trans e23))) (hR2.ext (e17.trans e23))).mono ?_
          rintro e w30 ⟨rfl, e30⟩
          refine ⟨_, rfl, fun _ => (samerows_ok w30 (hR3.ext (e23.trans e30)) (hR4.ext e30)).mono ?_, fun hbad => ?_⟩
          · rintro e w34 ⟨rfl, e34⟩
            exact ⟨_, rfl, by simp [eR2], x23.trans (e30.trans e34)⟩
          · rcases hbad with h | h
            · simp [eR] at h
            · exact absurd rfl h
        · rcases hbad with h | h
          · rw [hy] at h; cases h
          · omega
      · refine ⟨_, _, _, _, rfl, (r15first_ok w17 (hR.ext x17) (hk.ext x17) hn m).mono ?_⟩
        rintro e w23 ⟨e23, s4⟩
        have x23 := x17.trans e23
        rcases s4 with ⟨_, hm2, _⟩ | ⟨_, rfl⟩
        · rcases hbad with h | h
          · rw [hy] at h; cases h
          · omega
        · refine ⟨_, _, _, _, rfl, fun _ => ?_, fun h => by cases h⟩
          refine (samerows_ok w23 (hR1.ext (e11.trans (e17.trans e23))) (hR2.ext (e17.trans e23))).mono ?_
          rintro e w30 ⟨rfl, e30⟩
          refine ⟨_, rfl, fun _ => (samerows_ok w30 (Rws.nothing w30) (Rws.nothing w30)).mono ?_, fun hbad => ?_⟩
          · rintro e w34 ⟨rfl, e34⟩
            exact ⟨_, rfl, by simp, x23.trans (e30.trans e34)⟩
          · rcases hbad with h | h
            · simp [eR] at h
            · exact absurd rfl h
    · rw [hy] at hno; cases hno
  · refine ⟨_, _, _, _, rfl, (r15sort_ok w5 (hR.ext x5) (hk.ext x5) hn).mono ?_⟩
    rintro e w11 ⟨e11, s2⟩
    have x11 := x5.trans e11
    rcases s2 with ⟨hy, _⟩ | ⟨_, rfl⟩
    · rw [hno] at hy; cases hy
    · refine ⟨_, _, _, _, rfl, (ofirst_ok w11 (hR.ext x11) (hk.ext x11) hsz hn m).mono ?_⟩
      rintro e w17 ⟨e17, s3⟩
      have x17 := x11.trans e17
      rcases s3 with ⟨hy, _⟩ | ⟨_, rfl⟩
      · rw [hno] at hy; cases hy
      · refine ⟨_, _, _, _, rfl, (r15first_ok w17 (hR.ext x17) (hk.ext x17) hn m).mono ?_⟩
        rintro e w23 ⟨e23, s4⟩
        have x23 := x17.trans e23
        rcases s4 with ⟨hy, _⟩ | ⟨_, rfl⟩
        · rw [hno] at hy; cases hy
        · refine ⟨_, _, _, _, rfl, fun _ => ?_, fun h => by cases h⟩
          refine (samerows_ok w23 (Rws.nothing w23) (Rws.nothing w23)).mono ?_
          rintro e w30 ⟨rfl, e30⟩
          refine ⟨_, rfl, fun _ => (samerows_ok w30 (Rws.nothing w30) (Rws.nothing w30)).mono ?_, fun hbad => ?_⟩
          · rintro e w34 ⟨rfl, e34⟩
            exact ⟨_, rfl, by simp, x23.trans (e30.trans e34)⟩
          · rcases hbad with h | h
            · simp at h
            · exact absurd rfl h
end L15
end Go.Proofs.Ytgcjhhlokncbfaa
