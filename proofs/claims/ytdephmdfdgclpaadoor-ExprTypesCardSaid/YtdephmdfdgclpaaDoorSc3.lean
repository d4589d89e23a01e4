/- The contracts of package schema: rows that fit; the document's answer for them. -/
import Derived.Test.YtdephmdfdgclpaaDoorSc2
namespace Go.Proofs.YtdephmdfdgclpaaDoor
open Go Go.Vc Go.RowKit

section
variable {w : World} {p rp : Option Addr} {n c rn rc : Nat} {cols : List Col} {row : List Val}

theorem r5right_ok (h : Cols w p n c cols) (hs : ∀ x ∈ cols, x.name.size ≤ 9223372036854775807) : Calls Tryd.prog 29 #[.slice p n c] w fun e w' => e = .returned (.bool (rightC cols)) ∧ Ext w w' := by
  apply r5right_vc
  unfold r5right_T
  have hl := h.len
  have hm : n ≤ 9223372036854775807 := h.le
  refine ⟨fun hb => ⟨?_, .rfl⟩, fun hg => ?_⟩
  · have : rightC cols = false := by
      unfold rightC
      rw [decide_eq_false (by omega)]; rfl
    rw [this]
  refine ⟨fun i w' => ∃ k : Nat, i = (k : Int) ∧ k ≤ n ∧ colsOk [] (cols.take k) = true ∧ Ext w w', fun i _ => n - i.toNat, ⟨0, rfl, Nat.zero_le _, by simp [colsOk], .rfl⟩, ?_⟩
  rintro i w6 ⟨k, rfl, hk, hok, hx⟩
  refine ⟨fun hlt => ?_, fun hge => ⟨?_, hx⟩⟩
  · have g : cols[k]? = some (cols[k]'(by omega)) := List.getElem?_eq_getElem _
    generalize cols[k]'(by omega) = x at g
    obtain ⟨b, o, hp, c0, c1, c2⟩ := (h.ext hx).col g
    have hdec : colRef cols k x = false → rightC cols = false := by
      intro hv
      rw [colRef_eq g] at hv
      unfold rightC
      have hc : cols = cols.take k ++ x :: cols.drop (k + 1) := by
        obtain ⟨hk', rfl⟩ := List.getElem?_eq_some_iff.1 g
        rw [← List.drop_eq_getElem_cons hk', List.take_append_drop]
      have : colsOk [] cols = false := by
        conv => lhs; rw [hc, colsOk_append]
        rw [hok, List.nil_append]
        unfold colsOk
        rw [hv]; rfl
      rw [this, Bool.and_false]
    simp only [Int.toNat_natCast]
    refine ⟨b, o, hp, by omega, by omega, _, c0, (r5isname_ok x.name (hs x (List.mem_of_getElem? g)) w6).mono ?_⟩
    rintro e w13 ⟨rfl, e13⟩
    have hx13 := hx.trans e13
    refine ⟨_, rfl, fun hn => ⟨by rw [hdec (by unfold colRef; rw [hn]; rfl)], hx13⟩, fun hn => ?_⟩
    refine ⟨b, o, hp, by omega, by omega, _, cell_ext c0 e13, (r5find_ok (h.ext hx13) x.name).mono ?_⟩
    rintro e w21 ⟨rfl, e21⟩
    have hx21 := hx13.trans e21
    refine ⟨_, rfl, fun hne => ⟨by rw [hdec (by unfold colRef; rw [decide_eq_false hne, Bool.and_false]; rfl)], hx21⟩, fun he => ?_⟩
    have c1' := cell_ext (cell_ext c1 e13) e21
    refine ⟨b, o, hp, by omega, by omega, _, c1', fun hlow => ⟨by rw [hdec (by unfold colRef; rw [decide_eq_false (by omega : ¬ (1 ≤ x.kind ∧ x.kind ≤ 3)), Bool.and_false])], hx21⟩, fun hge => ?_⟩
    refine ⟨b, o, hp, by omega, by omega, _, c1', fun hhi => ⟨by rw [hdec (by unfold colRef; rw [decide_eq_false (by omega : ¬ (1 ≤ x.kind ∧ x.kind ≤ 3)), Bool.and_false])], hx21⟩, fun hle => ?_⟩
    rw [i64_next (by omega)]
    refine ⟨⟨k + 1, rfl, by omega, ?_, hx21⟩, by simp only [Int.toNat_natCast]; omega⟩
    have htk : cols.take (k + 1) = cols.take k ++ [x] := by rw [List.take_add_one, g]; rfl
    rw [htk, colsOk_append, hok, List.nil_append]
    unfold colsOk
    rw [← colRef_eq g]
    unfold colRef
    rw [hn, decide_eq_true he, decide_eq_true (by omega)]; rfl
  · have hk' : k = n := by omega
    subst hk'
    rw [List.take_of_length_le (by omega)] at hok
    unfold rightC
    rw [hok, decide_eq_true (by omega)]; rfl

/-! ### Rows that fit -/
theorem spairs_ok (w : World) : Calls Tryd.prog 75 #[.slice p n c, .slice rp rn rc] w fun e w' => ∃ b1 b4, e = .returned (.func (.func 99) #[] #[.pointer (some ⟨b1, 0, none⟩), .pointer (some ⟨b4, 0, none⟩)]) ∧
    ∀ fs ms w0, Hold w0 w fs ms → Hold w0 w' ((b4, .cells #[.slice rp rn rc] 24) :: (b1, .cells #[.slice p n c] 22) :: fs) ms := by
  apply spairs_vc
  unfold spairs_T
  intro b1 w2 h1 b4 w5 h4
  exact ⟨b1, b4, rfl, fun fs ms w0 h => (h.new h1).new h4⟩

theorem spairs1_ok {l0 fv0 fv1 : Nat} (w0 : World) (h : Cols w0 p n c cols) (hr : Vs w0 rp rn rc row) (hlen : rn = n) (Inv : Nat → World → Prop) (Stop : World → Prop) {w : World} (h0 : Inv 0 w)
    (hex : ∀ k W, Inv k W → Ext w0 W) (hc0 : ∀ k W, Inv k W → W.cell? ⟨fv0, 0, none⟩ = some (.slice p n c)) (hc1 : ∀ k W, Inv k W → W.cell? ⟨fv1, 0, none⟩ = some (.slice rp rn rc))
    (hstep : ∀ k W W', Inv k W → Ext W W' → Inv k W')
    (hy : ∀ k x v W (R : Bool → World → Prop), k < n → cols[k]? = some x → row[k]? = some v → Inv k W → (∀ W', Inv (k + 1) W' → R true W') → (∀ W', Stop W' → R false W') → Yield Tryd.prog l0 #[x.agg, v.agg] W R) :
    Calls Tryd.prog 99 #[.func (.yield l0) #[] #[], .pointer (some ⟨fv0, 0, none⟩), .pointer (some ⟨fv1, 0, none⟩)] w fun e W' => e = .returned (.tuple #[]) ∧ (Inv n W' ∨ Stop W') := by
  apply spairs1_vc
  unfold spairs1_T
  subst hlen
  have hl := h.len
  have hrl := hr.len
  have hm : rn ≤ 9223372036854775807 := h.le
  refine ⟨_, _, _, hc0 _ _ h0, fun i W => ∃ k : Nat, i = (k : Int) ∧ k ≤ rn ∧ Inv k W, fun i _ => rn - i.toNat, ⟨0, rfl, Nat.zero_le _, h0⟩, ?_⟩
  rintro i w7 ⟨k, rfl, hk, hI⟩
  refine ⟨fun hlt => ?_, fun hge => ?_⟩
  · have g : cols[k]? = some (cols[k]'(by omega)) := List.getElem?_eq_getElem _
    generalize cols[k]'(by omega) = x at g
    have gv : row[k]? = some (row[k]'(by omega)) := List.getElem?_eq_getElem _
    generalize row[k]'(by omega) = v at gv
    obtain ⟨b, o, hp, c0, c1, c2⟩ := (h.ext (hex _ _ hI)).col g
    simp only [Int.toNat_natCast]
    refine ⟨b, o, hp, by omega, by omega, _, c0, _, c1, _, c2, fun b15 w16 h16 => ?_⟩
    have H16 := (Hold.start (Ext.rfl (w := w7))).new h16
    obtain ⟨q0, q1, q2⟩ := (H16.blk 0 rfl).c3
    refine ⟨⟨_, q0⟩, (H16.blk 0 rfl).frozen _, ⟨_, q1⟩, (H16.blk 0 rfl).frozen _, ⟨_, q2⟩, (H16.blk 0 rfl).frozen _, fun w21 h21 w23 h23 => ?_⟩
    have H21 := (H16.put 0 rfl h21).step h23.ext
    have B : Blk w23 b15 50 #[.string x.name, .int .i64 x.kind, .bool x.null] := H21.blk 0 rfl
    obtain ⟨q0, q1, q2⟩ := B.c3
    have hI23 := hstep _ _ _ hI H21.ext
    obtain ⟨b2, o2, hp2, d0, d1, d2⟩ := (hr.ext (hex _ _ hI23)).val gv
    refine ⟨_, q0, _, q1, _, q2, _, _, _, hc1 _ _ hI23, b2, o2, hp2, by omega, by omega, _, d0, _, d1, _, d2, ?_⟩
    refine hy k x v w23 _ (by omega) g gv hI23 (fun W' hI' => ⟨fun h => (by cases h), fun _ => ?_⟩) fun W' hS => ⟨fun _ => ⟨by trivial, .inr hS⟩, fun h => (by cases h)⟩
    rw [i64_next (by omega)]
    exact ⟨⟨k + 1, rfl, by omega, hI'⟩, by simp only [Int.toNat_natCast]; omega⟩
  · have : k = rn := by omega
    subst this
    exact ⟨rfl, .inl hI⟩

theorem sfits0_ok (h : Cols w p n c cols) (hr : Vs w rp rn rc row) : Calls Tryd.prog 50 #[.slice p n c, .slice rp rn rc] w fun e w' => e = .returned (.bool (fitsL cols row)) ∧ Ext w w' := by
  apply sfits0_vc
  unfold sfits0_T
  intro b1 w2 h1
  have hl := h.len
  have hrl := hr.len
  have hm : n ≤ 9223372036854775807 := h.le
  have H1 := (Hold.start (Ext.rfl (w := w))).new h1
  refine ⟨fun hne => ?_, fun heq => (spairs_ok w2).mono ?_⟩
  · have B1 := H1.blk 0 rfl
    refine ⟨⟨_, B1.one⟩, B1.frozen 0, fun w6 h6 => ?_⟩
    have H6 := H1.box 0 rfl h6
    refine ⟨_, (H6.blk 0 rfl).one, ?_, H6.ext⟩
    have : fitsL cols row = false := by
      rw [← Bool.not_eq_true]
      intro hf
      have := fitsL_length hf
      omega
    rw [this]
  · rintro e w11 ⟨bc, br, rfl, hH⟩
    have H11 := hH _ _ _ H1
    refine ⟨_, rfl, _, _, rfl, by kernel_rfl, fun r d l w18 hB hY => ?_⟩
    have HB := H11.began hB
    let fs : Nat → Bool → List (Nat × Obj) := fun q v => [(l, .loop (r q)), (d, .deferred (some [])), (br, .cells #[.slice rp rn rc] 24), (bc, .cells #[.slice p n c] 22), (b1, .cells #[.bool v] 4)]
    refine (spairs1_ok (cols := cols) (row := row) w h hr (by omega) (fun k W => (fitsL (cols.drop k) (row.drop k) = fitsL cols row) ∧ Hold w W (fs 0 false) []) (fun W => fitsL cols row = false ∧ Hold w W (fs 3 false) []) ⟨rfl, HB⟩ (fun k W hI => hI.2.ext) (fun k W hI => (hI.2.blk 3 rfl).one) (fun k W hI => (hI.2.blk 2 rfl).one) (fun k W W' hI e => ⟨hI.1, hI.2.step e⟩) ?_).mono ?_
    · rintro k x v W R hk g gv ⟨hf, H⟩ yes no
      have hfd := fitsL_drop g gv
      refine hY _ _ _ _ _ _ W R (H.loop 0 rfl) fun b29 w30 h30 => ?_
      have H30 := H.new h30
      obtain ⟨q0, q1, q2⟩ := (H30.blk 0 rfl).c3
      refine ⟨⟨_, q0⟩, (H30.blk 0 rfl).frozen _, ⟨_, q1⟩, (H30.blk 0 rfl).frozen _, ⟨_, q2⟩, (H30.blk 0 rfl).frozen _, fun w35 h35 b37 w38 h38 => ?_⟩
      have H38 := (H30.put 0 rfl h35).new h38
      obtain ⟨q0, q1, q2⟩ := (H38.blk 0 rfl).c3
      refine ⟨⟨_, q0⟩, (H38.blk 0 rfl).frozen _, ⟨_, q1⟩, (H38.blk 0 rfl).frozen _, ⟨_, q2⟩, (H38.blk 0 rfl).frozen _, fun w43 h43 => ?_⟩
      have H43 := H38.put 0 rfl h43
      refine ⟨H43.loop 2 rfl, ?_⟩
      rintro Wb rfl
      have H45 := H43.turn 2 1 rfl
      have Bv : Blk (turn r l 1 w43) b37 26 #[.int .i64 v.k, .int .i64 v.n, .string v.s] := H45.blk 0 rfl
      obtain ⟨v0, v1, v2⟩ := Bv.c3
      refine ⟨_, v0, _, v1, _, v2, (vright_ok v _).mono ?_⟩
      rintro e w51 ⟨rfl, e51⟩
      have H51 := H45.step e51
      have Bv : Blk w51 b37 26 #[.int .i64 v.k, .int .i64 v.n, .string v.s] := H51.blk 0 rfl
      have Bc : Blk w51 b29 50 #[.string x.name, .int .i64 x.kind, .bool x.null] := H51.blk 1 rfl
      obtain ⟨v0, v1, v2⟩ := Bv.c3
      obtain ⟨c0, c1, c2⟩ := Bc.c3
      have B1 : Blk w51 b1 4 #[.bool false] := H51.blk 6 rfl
      -- a value that does not fit
      have stop : valFits x v = false → (∃ u, w51.cell? ⟨b1, 0, none⟩ = some u) ∧ w51.frozen? ⟨b1, 0, none⟩ = false ∧ ∀ w55 : World, Put w51 b1 0 [.bool false] w55 → Rec r l 1 w55 ∧ R false (turn r l 3 w55) := by
        intro hb
        refine ⟨⟨_, B1.one⟩, B1.frozen 0, fun w55 h55 => ?_⟩
        have H55 := H51.box 6 rfl h55
        refine ⟨H55.loop 2 rfl, no _ ⟨?_, (H55.turn 2 3 rfl).tail.tail⟩⟩
        rw [← hf, hfd, hb]; rfl
      have go : valFits x v = true → Rec r l 1 w51 ∧ R true (turn r l 0 w51) := by
        intro hb
        refine ⟨H51.loop 2 rfl, yes _ ⟨?_, (H51.turn 2 0 rfl).tail.tail⟩⟩
        rw [← hf, hfd, hb]; rfl
      refine ⟨_, rfl, fun hb => stop (by unfold valFits; rw [hb]; rfl), fun hb => ⟨_, v0, _, c1, fun hne => ⟨_, c2, fun hnull => ⟨_, v0, fun h0 => stop ?_, fun h0 => go ?_⟩, fun hnull => stop ?_⟩, fun he => go ?_⟩⟩
      · unfold valFits; rw [hb, decide_eq_false hne, hnull, decide_eq_false h0]; rfl
      · unfold valFits; rw [hb, decide_eq_false hne, hnull, decide_eq_true h0]; rfl
      · unfold valFits; rw [hb, decide_eq_false hne, hnull]; rfl
      · unfold valFits; rw [hb, decide_eq_true he]; rfl
    · rintro e W ⟨rfl, hI | hS⟩
      · obtain ⟨hf, H⟩ := hI
        refine ⟨⟨_, rfl⟩, .inl ⟨H.loop 0 rfl, ?_⟩⟩
        have H2 := H.turn 0 2 rfl
        have B1 : Blk (turn r l 2 W) b1 4 #[.bool false] := H2.blk 4 rfl
        refine ⟨⟨_, B1.one⟩, B1.frozen 0, fun w82 h82 => ?_⟩
        have H82 := H2.box 4 rfl h82
        have H83 := H82.shut 1 rfl
        refine ⟨H82.dfr 1 rfl, _, (H83.blk 4 rfl).one, ?_, H83.ext⟩
        rw [← hf, List.drop_eq_nil_of_le (by omega), List.drop_eq_nil_of_le (by omega)]; rfl
      · obtain ⟨hf, H⟩ := hS
        refine ⟨⟨_, rfl⟩, .inr (.inl ⟨H.loop 0 rfl, ?_⟩)⟩
        have H2 := H.turn 0 4 rfl
        have H83 := H2.shut 1 rfl
        refine ⟨H2.dfr 1 rfl, _, (H83.blk 4 rfl).one, ?_, H83.ext⟩
        rw [hf]
theorem sfits_ok (h : Cols w p n c cols) (hr : Vs w rp rn rc row) : Calls Tryd.prog 34 #[.slice p n c, .slice rp rn rc] w fun e w' => e = .returned (.bool (fitsC cols row)) ∧ Ext w w' := by
  apply sfits_vc
  unfold sfits_T
  refine (sright_ok h).mono ?_
  rintro e w2 ⟨rfl, e2⟩
  refine ⟨_, rfl, fun hb => (sfits0_ok (h.ext e2) (hr.ext e2)).mono ?_, fun hb => ⟨by unfold fitsC; rw [hb]; rfl, e2⟩⟩
  rintro e w6 ⟨rfl, e6⟩
  exact ⟨_, rfl, by unfold fitsC; rw [hb]; rfl, e2.trans e6⟩
theorem r5fits_ok (h : Cols w p n c cols) (hs : ∀ x ∈ cols, x.name.size ≤ 9223372036854775807) (hr : Vs w rp rn rc row) : Calls Tryd.prog 13 #[.slice p n c, .slice rp rn rc] w fun e w' => e = .returned (.bool (fitsC cols row)) ∧ Ext w w' := by
  apply r5fits_vc
  unfold r5fits_T
  have hl := h.len
  have hrl := hr.len
  have hm : n ≤ 9223372036854775807 := h.le
  refine (r5right_ok h hs).mono ?_
  rintro e w2 ⟨rfl, e2⟩
  refine ⟨_, rfl, fun hb => ⟨?_, e2⟩, fun ⟨hb, heq⟩ => ?_⟩
  · have : fitsC cols row = false := by
      unfold fitsC
      rcases hb with hb | hb
      · rw [hb]; rfl
      · have : fitsL cols row = false := by
          rw [← Bool.not_eq_true]
          intro hf
          have := fitsL_length hf
          omega
        rw [this, Bool.and_false]
    rw [this]
  refine ⟨fun i w' => ∃ k : Nat, i = (k : Int) ∧ k ≤ n ∧ fitsL (cols.drop k) (row.drop k) = fitsL cols row ∧ Ext w w', fun i _ => n - i.toNat, ⟨0, rfl, Nat.zero_le _, rfl, e2⟩, ?_⟩
  rintro i w9 ⟨k, rfl, hk, hf, hx⟩
  have hfc : fitsC cols row = fitsL cols row := by unfold fitsC; rw [hb]; rfl
  refine ⟨fun hlt => ?_, fun hge => ⟨?_, hx⟩⟩
  · have g : cols[k]? = some (cols[k]'(by omega)) := List.getElem?_eq_getElem _
    generalize cols[k]'(by omega) = x at g
    have gv : row[k]? = some (row[k]'(by omega)) := List.getElem?_eq_getElem _
    generalize row[k]'(by omega) = v at gv
    have hfd := fitsL_drop g gv
    obtain ⟨b, o, hp, c0, c1, c2⟩ := (h.ext hx).col g
    obtain ⟨b2, o2, hp2, d0, d1, d2⟩ := (hr.ext hx).val gv
    simp only [Int.toNat_natCast]
    refine ⟨b2, o2, hp2, by omega, by omega, _, d0, _, d1, _, d2, (rvright_ok v w9).mono ?_⟩
    rintro e w18 ⟨rfl, e18⟩
    refine ⟨_, rfl, fun w20 h20 => ?_⟩
    have e20 := e18.trans h20.ext
    have hx20 := hx.trans e20
    have no : valFits x v = false → Ending.returned (Value.bool false) = Ending.returned (Value.bool (fitsC cols row)) ∧ Ext w w20 := by
      intro hv
      refine ⟨?_, hx20⟩
      rw [hfc, ← hf, hfd, hv]; rfl
    have yes : valFits x v = true → (∃ k' : Nat, IntKind.i64.wrap ((k : Int) + 1) = (k' : Int) ∧ k' ≤ n ∧ fitsL (cols.drop k') (row.drop k') = fitsL cols row ∧ Ext w w20) ∧ n - (IntKind.i64.wrap ((k : Int) + 1)).toNat < n - k := by
      intro hv
      rw [i64_next (by omega)]
      exact ⟨⟨k + 1, rfl, by omega, by rw [← hf, hfd, hv]; rfl, hx20⟩, by simp only [Int.toNat_natCast]; omega⟩
    have d0' := cell_ext d0 e20
    refine ⟨fun hv => no (by unfold valFits; rw [hv]; rfl), fun hv => ⟨b2, o2, hp2, by omega, by omega, _, d0', b, o, hp, by omega, by omega, _, cell_ext c1 e20, fun hne => ⟨b2, o2, hp2, by omega, by omega, _, d0', fun h0 => no ?_, fun h0 => ⟨b, o, hp, by omega, by omega, _, cell_ext c2 e20, fun hnull => no ?_, fun hnull => yes ?_⟩⟩, fun he => yes ?_⟩⟩
    · unfold valFits; rw [hv, decide_eq_false hne, decide_eq_false h0]; simp
    · unfold valFits; rw [hv, decide_eq_false hne, hnull]; rfl
    · unfold valFits; rw [hv, decide_eq_false hne, hnull, decide_eq_true h0]; rfl
    · unfold valFits; rw [hv, decide_eq_true he]; rfl
  · rw [hfc, ← hf, List.drop_eq_nil_of_le (by omega), List.drop_eq_nil_of_le (by omega)]; rfl
end
end Go.Proofs.YtdephmdfdgclpaaDoor
