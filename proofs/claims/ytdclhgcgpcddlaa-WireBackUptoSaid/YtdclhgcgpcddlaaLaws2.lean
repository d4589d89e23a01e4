/- The walks of law 02's statements. -/
import Derived.Test.YtdclhgcgpcddlaaLay
import Derived.Test.YtdclhgcgpcddlaaOpen
namespace Go.Proofs.Ytdclhgcgpcddlaa
open Go Go.Vc Go.RowKit

theorem und48 : Try.prog.underlying 48 = some (.int .u64) := by kernel_rfl
theorem und2 : Try.prog.underlying 2 = some (.int .i64) := by kernel_rfl
theorem und5 : Try.prog.underlying 5 = some (.int .u8) := by kernel_rfl

/-- A slice of bytes that came in. -/
theorem arg_bytes {w : World} {v : Value} (h : Arg Try.prog w 30 [v]) : ∃ p n c l, v = .slice p n c ∧ In w p n c l ∧ n ≤ 140737488351232 ∧ ∃ full, At w p (vB full) ∧ full.length = c ∧ l = full.take n := by
  obtain ⟨p, n, c, css, he, h1, h2, h3, h4, h5, h6, h7⟩ := Arg.slice und30 (by decide +kernel : 0 < Try.prog.cellsOf 5) h
  cases he
  have hb : Try.prog.bytesOf 5 = 1 := by kernel_rfl
  have hsz : Try.prog.cellsOf 5 = 1 := by kernel_rfl
  rw [hb] at h3
  rw [hsz] at h5
  have : ∃ full : List UInt8, css.flatten = vB full ∧ full.length = css.length := by
    clear h4 h6
    induction css with
    | nil => exact ⟨[], rfl, rfl⟩
    | cons x r ih =>
      obtain ⟨full, hf, hl⟩ := ih fun y hy => h5 y (by simp [hy])
      obtain ⟨n, rfl, hwf⟩ := Arg.int und5 (h5 x (by simp)).2
      obtain ⟨a0, a1⟩ := wf_u8 hwf
      refine ⟨UInt8.ofNat n.toNat :: full, ?_, by simp [hl]⟩
      have : (((UInt8.ofNat n.toNat).toNat : Nat) : Int) = n := by rw [u8_toNat (by omega)]; omega
      simp only [List.flatten_cons, hf, vB, List.map_cons, this]
      rfl
  obtain ⟨full, hf, hl⟩ := this
  rw [hf] at h6
  refine ⟨p, n, c, full.take n, rfl, ⟨by simp; omega, ⟨h1, h2⟩, by rw [← vB_take]; exact h6.take n, h7⟩, by omega, full, h6, by omega, rfl⟩

theorem arg_u64 {w : World} {v : Value} (h : Arg Try.prog w 48 [v]) : ∃ n : Nat, v = .int .u64 (n : Int) ∧ n < 18446744073709551616 := by
  obtain ⟨n, he, hwf⟩ := Arg.int und48 h
  cases he
  obtain ⟨a0, a1⟩ := wf_u64 hwf
  exact ⟨n.toNat, by rw [Int.toNat_of_nonneg a0], by omega⟩
theorem arg_i64 {w : World} {v : Value} (h : Arg Try.prog w 2 [v]) : ∃ n : Int, v = .int .i64 n ∧ -9223372036854775808 ≤ n ∧ n ≤ 9223372036854775807 := by
  obtain ⟨n, he, hwf⟩ := Arg.int und2 h
  cases he
  exact ⟨n, rfl, wf_i64 hwf⟩
theorem arg_int {w : World} {v : Value} (h : Arg Try.prog w 3 [v]) : ∃ n : Int, v = .int .i64 n ∧ -9223372036854775808 ≤ n ∧ n ≤ 9223372036854775807 := by
  obtain ⟨n, he, hwf⟩ := Arg.int und3 h
  cases he
  exact ⟨n, rfl, wf_i64 hwf⟩
theorem arg_string {w : World} {v : Value} (h : Arg Try.prog w 9 [v]) : ∃ s : ByteArray, v = .string s ∧ s.size ≤ 140737488351232 := by
  obtain ⟨s, he, hs⟩ := Arg.string und9 h
  cases he
  exact ⟨s, rfl, hs⟩

theorem numbers_walk (w : World) (v0 v1 v2 v3 : Value) (h0 : Arg Try.prog w 30 [v0]) (h1 : Arg Try.prog w 48 [v1]) (h2 : Arg Try.prog w 2 [v2]) (h3 : Arg Try.prog w 3 [v3]) :
    Calls Try.prog 12 #[v0, v1, v2, v3] w fun e w' => e = .returned (.bool true) ∧ Ext w w' := by
  obtain ⟨p, n, c, l, rfl, hin, hn47, _⟩ := arg_bytes h0
  obtain ⟨m, rfl, hm⟩ := arg_u64 h1
  obtain ⟨x, rfl, x0, x1⟩ := arg_i64 h2
  obtain ⟨pos, rfl, p0, p1⟩ := arg_int h3
  apply lawNumbers_vc
  unfold lawNumbers_T
  refine (shown2_ok w).mono ?_
  rintro e wa ⟨rfl, ea⟩
  refine ⟨true, rfl, (takeNumber_ok wa p n c l pos hin.len hin.cap.1 hin.le (hin.ext ea).lies).mono ?_⟩
  rintro e wb ⟨rfl, eb⟩
  have eb := ea.trans eb
  obtain ⟨a1, a2, a3, hV⟩ : ∃ a1 a2 a3 : Int, takeV l pos = .tuple #[.int .u64 a1, .int .i64 a2, .int .i64 a3] := by unfold takeV; split <;> exact ⟨_, _, _, rfl⟩
  obtain ⟨s1, s2, s3, hS⟩ : ∃ s1 s2 s3 : Int, takeS l pos = .tuple #[.int .i64 s1, .int .i64 s2, .int .i64 s3] := by unfold takeS; split <;> exact ⟨_, _, _, rfl⟩
  refine ⟨a1, a2, a3, by rw [hV], (refTakeNumber_ok wb p n c l pos p1 hin.len hin.le (hin.ext eb).lies).mono ?_⟩
  rintro e wc ⟨rfl, ec⟩
  have ec := eb.trans ec
  refine ⟨a1, a2, a3, by rw [hV], (takeSigned_ok wc p n c l pos hin.len hin.cap.1 hin.le (hin.ext ec).lies).mono ?_⟩
  rintro e wd ⟨rfl, ed⟩
  have ed := ec.trans ed
  refine ⟨s1, s2, s3, by rw [hS], (refTakeSigned_ok wd p n c l pos p1 hin.len hin.le (hin.ext ed).lies).mono ?_⟩
  rintro e we ⟨rfl, ee⟩
  have ee := ed.trans ee
  refine ⟨s1, s2, s3, by rw [hS], fun wf hdr => ⟨fun _ => ?_, fun h => by cases h⟩⟩
  have ef := ee.trans hdr.ext
  refine (number_out wf (hin.ext ef) (by omega) hm).mono ?_
  rintro e wg ⟨q1, n1, c1, rfl, o1, eg⟩
  have eg' := ef.trans eg
  refine ⟨q1, n1, c1, rfl, _, o1.bytes, (refNumber_out wg (hin.ext eg') (by omega) hm).mono ?_⟩
  rintro e wh ⟨q2, n2, c2, rfl, o2, eh⟩
  have eh' := eg'.trans eh
  refine ⟨q2, n2, c2, rfl, eh.same, _, o2.bytes, fun _ => ?_, fun h => absurd rfl h⟩
  refine (signed_out wh (hin.ext eh') (by omega) x0 x1).mono ?_
  rintro e wi ⟨q3, n3, c3, rfl, o3, ei⟩
  have ei' := eh'.trans ei
  refine ⟨q3, n3, c3, rfl, _, o3.bytes, (refSigned_out wi (hin.ext ei') (by omega) x0 x1).mono ?_⟩
  rintro e wj ⟨q4, n4, c4, rfl, o4, ej⟩
  refine ⟨q4, n4, c4, rfl, ej.same, _, o4.bytes, ?_, ei'.trans ej⟩
  simp [sEq_self]


theorem one_walk (w : World) (v0 v1 : Value) (h0 : Arg Try.prog w 30 [v0]) (h1 : Arg Try.prog w 3 [v1]) :
    Calls Try.prog 13 #[v0, v1] w fun e w' => e = .returned (.bool true) ∧ Ext w w' := by
  obtain ⟨p, n, c, l, rfl, hin, hn47, _⟩ := arg_bytes h0
  obtain ⟨pos, rfl, p0, p1⟩ := arg_int h1
  apply lawOne_vc
  unfold lawOne_T
  refine (shown2_ok w).mono ?_
  rintro e wa ⟨rfl, ea⟩
  refine ⟨true, rfl, (takeNumber_ok wa p n c l pos hin.len hin.cap.1 hin.le (hin.ext ea).lies).mono ?_⟩
  rintro e wb ⟨rfl, eb⟩
  have eb := ea.trans eb
  cases ht : takeN l pos with
  | none =>
    have hV : takeV l pos = .tuple #[.int .u64 0, .int .i64 0, .int .i64 20] := by unfold takeV; rw [ht]
    have hS : takeS l pos = .tuple #[.int .i64 0, .int .i64 0, .int .i64 20] := by unfold takeS; rw [ht]
    refine ⟨0, 0, 20, by rw [hV], (takeSigned_ok wb p n c l pos hin.len hin.cap.1 hin.le (hin.ext eb).lies).mono ?_⟩
    rintro e wc ⟨rfl, ec⟩
    exact ⟨0, 0, 20, by rw [hS], fun _ => ⟨rfl, eb.trans ec⟩, fun h => absurd h.1 (by decide)⟩
  | some r =>
    obtain ⟨v, k⟩ := r
    have hV : takeV l pos = .tuple #[.int .u64 (v : Int), .int .i64 (k : Int), .int .i64 0] := by unfold takeV; rw [ht]
    have hS : takeS l pos = .tuple #[.int .i64 (unzig v), .int .i64 (k : Int), .int .i64 0] := by unfold takeS; rw [ht]
    obtain ⟨k0, k1, k2, k3, _⟩ := takeN_spec ht
    have hback := takeN_back ht
    have hfit := unzig_fit k1
    refine ⟨_, _, _, by rw [hV], (takeSigned_ok wb p n c l pos hin.len hin.cap.1 hin.le (hin.ext eb).lies).mono ?_⟩
    rintro e wc ⟨rfl, ec⟩
    have ec := eb.trans ec
    refine ⟨_, _, _, by rw [hS], fun h => by rcases h with h | h <;> exact absurd rfl h, fun _ => (number_out wc (In.nothing wc) (by omega) k1).mono ?_⟩
    rintro e wd ⟨q1, n1, c1, rfl, o1, ed⟩
    refine ⟨q1, n1, c1, rfl, (signed_out wd (In.nothing wd) (by omega) hfit.1 hfit.2).mono ?_⟩
    rintro e we ⟨q2, n2, c2, rfl, o2, ee⟩
    rw [zig_unzig] at o2
    have ed := ec.trans ed
    refine ⟨q2, n2, c2, rfl, fun wf hdr => ⟨fun _ => ?_, fun h => by rcases h with h | h; cases h; exact absurd rfl h⟩⟩
    have hlen := hin.len
    have hcap := hin.cap.1
    have ef := (ed.trans ee).trans hdr.ext
    have hat := (hin.ext ef).lies.slice pos.toNat k c 1 (by omega)
    rw [Nat.mul_one, Nat.mul_one, vB_take, vB_drop, hback] at hat
    have hlu : (uvar v).length = k - pos.toNat := by rw [← hback]; simp; omega
    have hb := hat.bytes' hlu
    refine ⟨_, ((o1.ext ee).ext hdr.ext).bytes, by omega, by omega, by omega, uvar v, by simpa using hb, fun _ => ?_, fun h => absurd rfl h⟩
    refine ⟨_, (o2.ext hdr.ext).bytes, by omega, by omega, by omega, uvar v, by simpa using hb, ?_, ef⟩
    simp [sEq_self]

theorem texts_walk (w : World) (v0 v1 v2 v3 : Value) (h0 : Arg Try.prog w 30 [v0]) (h1 : Arg Try.prog w 9 [v1]) (h2 : Arg Try.prog w 3 [v2]) (h3 : Arg Try.prog w 3 [v3]) :
    Calls Try.prog 14 #[v0, v1, v2, v3] w fun e w' => e = .returned (.bool true) ∧ Ext w w' := by
  obtain ⟨p, n, c, l, rfl, hin, hn47, _⟩ := arg_bytes h0
  obtain ⟨s, rfl, hs⟩ := arg_string h1
  obtain ⟨pos, rfl, p0, p1⟩ := arg_int h2
  obtain ⟨most, rfl, m0, m1⟩ := arg_int h3
  apply lawTexts_vc
  unfold lawTexts_T
  have hM : mmI false (s.size : Int) 2000000 = ((min s.size 2000000 : Nat) : Int) := by unfold mmI; dsimp only; split <;> omega
  rw [hM, Int.toNat_natCast]
  refine (shown2_ok w).mono ?_
  rintro e wa ⟨rfl, ea⟩
  refine ⟨true, rfl, by omega, by omega, (text_out wa (hin.ext ea) (by omega)).mono ?_⟩
  rintro e wb ⟨q1, n1, c1, rfl, o1, eb⟩
  have eb' := ea.trans eb
  refine ⟨q1, n1, c1, _, rfl, (refText_out wb (hin.ext eb') (by omega)).mono ?_⟩
  rintro e wc ⟨q2, n2, c2, rfl, o2, ec⟩
  have ec' := eb'.trans ec
  obtain ⟨t1, t2, t3, hT⟩ : ∃ t1 t2 t3, takeT l pos most = .tuple #[.string t1, .int .i64 t2, .int .i64 t3] := by
    unfold takeT
    split
    · split <;> exact ⟨_, _, _, rfl⟩
    · exact ⟨_, _, _, rfl⟩
  refine ⟨q2, n2, c2, _, rfl, (takeText_ok wc (hin.ext ec') m1).mono ?_⟩
  rintro e wd ⟨rfl, ed⟩
  have ed' := ec'.trans ed
  refine ⟨t1, t2, t3, by rw [hT], (refTakeText_ok wd (hin.ext ed') p1 m1).mono ?_⟩
  rintro e we ⟨rfl, ee⟩
  refine ⟨t1, t2, t3, by rw [hT], fun _ => ⟨_, (((o1.ext ec).ext ed).ext ee).bytes, _, ((o2.ext ed).ext ee).bytes, ?_, ed'.trans ee⟩, fun h => by cases h⟩
  simp [sEq_self]

theorem keeps_walk (w : World) (v0 v1 : Value) (h0 : Arg Try.prog w 30 [v0]) (h1 : Arg Try.prog w 48 [v1]) :
    Calls Try.prog 11 #[v0, v1] w fun e w' => e = .returned (.bool true) ∧ Ext w w' := by
  obtain ⟨p, n, c, l, rfl, hin, hn47, _⟩ := arg_bytes h0
  obtain ⟨m, rfl, hm⟩ := arg_u64 h1
  have hlen := hin.len
  apply lawKeeps_vc
  unfold lawKeeps_T
  have e1 : IntKind.i64.wrap ((n : Int) + 20) = ((n + 20 : Nat) : Int) := by rw [i64_fit (by omega) (by omega)]; omega
  rw [e1, Int.toNat_natCast]
  refine (shown2_ok w).mono ?_
  rintro e w2 ⟨rfl, ea⟩
  refine ⟨true, rfl, by omega, by omega, by omega, by omega, fun b w5 hnew => ?_⟩
  have hmade := made_bytes hnew (by simp [maxLen]; omega)
  obtain ⟨p7, c9, w10, hrun, hmine, hg⟩ := append_bytes hmade ((hin.ext ea).lies.ext hnew.ext) hlen hin.nil hnew.ext.size (by omega)
  have hx10 : Ext w2 w10 := hmade.below hg hnew.ext (Nat.le_refl _) hnew.ext.size
  rw [List.nil_append, Nat.zero_add] at hmine
  rw [Nat.zero_add] at hrun
  have hcap := hmine.cap
  have hc63 : c9 ≤ 9223372036854775807 := hcap.2
  refine ⟨p7, n, c9, w10, hrun, by omega, by omega, ?_⟩
  -- the row by itself
  have hrow : (p7 = none ∧ n = 0 ∧ c9 = 0) ∨ ∃ b cur, p7 = some ⟨b, 0, none⟩ ∧ w2.heap.size ≤ b ∧ Blk w10 b 5 cur ∧ cur.size = c9 ∧ cur.toList.take n = vB l := by
    by_cases hp : p7 = none
    · have := hmine.isNil hp; exact .inl ⟨hp, this.1, this.2⟩
    · obtain ⟨b, cur, e1, e2, e3, e4, e5⟩ := hmine.blk (.inr hp)
      exact .inr ⟨b, cur, e1, e2, e3, by omega, by simpa using e5⟩
  let Row : World → Nat → Prop := fun w' k => (p7 = none ∧ n = 0 ∧ c9 = 0) ∨ ∃ b cur, p7 = some ⟨b, 0, none⟩ ∧ w2.heap.size ≤ b ∧ Blk w' b 5 cur ∧ cur.size = c9 ∧ cur.toList.take n = vB l ∧ ∀ j, n ≤ j → j < k → cur[j]? = some (.int .u8 77)
  have rowIn : ∀ w' k, Row w' k → In w' p7 n c9 l := by
    rintro w' k (⟨hp, hn, hc⟩ | ⟨b, cur, hp, _, hb, hs, ht, _⟩)
    · have hl0 : l = [] := List.eq_nil_of_length_eq_zero (by omega)
      exact ⟨hlen, hcap, by rw [hl0]; exact At.nil _ _, fun _ => ⟨hn, hc⟩⟩
    · exact ⟨hlen, hcap, by rw [hp, ← ht]; exact hb.at.take n, fun e => by rw [hp] at e; cases e⟩
  have rowExt : ∀ w' w'' k, Row w' k → Ext w' w'' → Row w'' k := by
    rintro w' w'' k (h | ⟨b, cur, h1, h2, h3, h4, h5, h6⟩) he
    · exact .inl h
    · exact .inr ⟨b, cur, h1, h2, h3.ext he, h4, h5, h6⟩
  refine ⟨fun i w' => ∃ k : Nat, i = (k : Int) ∧ n ≤ k ∧ k ≤ c9 ∧ Row w' k ∧ Ext w2 w', fun i _ => c9 - i.toNat, ⟨n, rfl, Nat.le_refl _, hcap.1, ?_, hx10⟩, ?_⟩
  · rcases hrow with h | ⟨b, cur, h1, h2, h3, h4, h5⟩
    · exact .inl h
    · exact .inr ⟨b, cur, h1, h2, h3, h4, h5, fun j h6 h7 => by omega⟩
  rintro i w' ⟨k, rfl, hnk, hkc, hR, hx⟩
  refine ⟨fun hlt => ?_, fun hge => ?_⟩
  · rcases hR with ⟨_, _, h⟩ | ⟨b, cur, h1, h2, h3, h4, h5, h6⟩
    · omega
    · refine ⟨b, 0, h1, by omega, by omega, ⟨cur[k]'(by omega), by rw [h3.cell]; simp⟩, h3.frozen _, fun w3 hput => ?_⟩
      simp only [Nat.zero_add, Int.toNat_natCast] at hput
      rw [i64_succ (by omega) (by omega)]
      refine ⟨⟨k + 1, by simp, by omega, by omega, .inr ⟨b, _, h1, h2, h3.put1 hput, by simpa using h4, ?_, fun j hj1 hj2 => ?_⟩, (hx.below.but hput.but h2 hx.size)⟩, by simp only [Int.toNat_natCast]; omega⟩
      · rw [Array.toList_setIfInBounds, List.take_set, List.set_eq_of_length_le (by simp; omega), h5]
      · rw [Array.getElem?_setIfInBounds]
        split
        · rw [if_pos (by omega)]
        · exact h6 j hj1 (by omega)
  · have hk : k = c9 := by omega
    subst hk
    refine (number_out w' (rowIn _ _ hR) (by omega) hm).mono ?_
    rintro e w24 ⟨p25, n26, c27, rfl, o25, e24⟩
    have hR24 := rowExt _ _ _ hR e24
    refine ⟨p25, n26, c27, rfl, (signed_out w24 (rowIn _ _ hR24) (by omega) (by decide) (by decide)).mono ?_⟩
    rintro e w29 ⟨p30, n31, c32, rfl, _, e29⟩
    have hR29 := rowExt _ _ _ hR24 e29
    refine ⟨p30, n31, c32, rfl, (text_out w29 (rowIn _ _ hR29) (by omega)).mono ?_⟩
    rintro e w34 ⟨p35, n36, c37, rfl, _, e34⟩
    have hR34 := rowExt _ _ _ hR29 e34
    refine ⟨p35, n36, c37, _, rfl, ?_⟩
    have hx34 : Ext w2 w34 := ((hx.trans e24).trans e29).trans e34
    refine ⟨fun i w3 => ∃ (j : Nat) (vs : List Value), i = (j : Int) ∧ j ≤ n26 ∧ Mine w'.heap.size 5 1 w3 p25 n26 c27 vs ∧ Row w3 k ∧ Ext w2 w3 ∧ w'.heap.size ≤ w3.heap.size, fun i _ => n26 - i.toNat,
      ⟨0, _, rfl, Nat.zero_le _, (o25.2.ext e29).ext e34, hR34, hx34, Nat.le_trans (Nat.le_trans e24.size e29.size) e34.size⟩, ?_⟩
    rintro i w3 ⟨j, vs, rfl, hj, hmine3, hR3, hx3, hs3⟩
    have hn63 : n26 ≤ 9223372036854775807 := Nat.le_trans hmine3.cap.1 hmine3.cap.2
    refine ⟨fun hlt => ?_, fun hge => ?_⟩
    · obtain ⟨b, hp, hB, hblt, hcell, hput⟩ := hmine3.put (i := j) (us := [.int .u8 1]) (by omega) rfl
      obtain ⟨hc0, hf0⟩ := hcell 0 (by omega)
      simp only [Nat.mul_one, Nat.add_zero] at hc0 hf0 hput
      refine ⟨b, 0, hp, by omega, by omega, by simpa using hc0, by simpa using hf0, fun w4 hp4 => ?_⟩
      simp only [Nat.zero_add, Int.toNat_natCast] at hp4
      rw [i64_succ (by omega) (by omega)]
      have hxs := hx.size
      refine ⟨⟨j + 1, _, by simp, by omega, hput w4 hp4, ?_, hx3.below.but hp4.but (by omega) hx3.size, by rw [hp4.size]; exact hs3⟩, by simp only [Int.toNat_natCast]; omega⟩
      rcases hR3 with h | ⟨b', cur, h1, h2, h3, h4, h5, h6⟩
      · exact .inl h
      · refine .inr ⟨b', cur, h1, h2, h3.but hp4.but ?_, h4, h5, h6⟩
        rcases hR with ⟨e, _⟩ | ⟨b'', cur'', g1, _, g3, _⟩
        · rw [h1] at e; cases e
        · rw [h1] at g1; cases g1
          have := g3.lt
          omega
    · refine ⟨fun i w4 => ∃ j : Nat, i = (j : Int) ∧ n ≤ j ∧ j ≤ k ∧ w4 = w3, fun i _ => k - i.toNat, ⟨n, rfl, Nat.le_refl _, hcap.1, rfl⟩, ?_⟩
      rintro i w4 ⟨q, rfl, hq1, hq2, hw4⟩
      subst hw4
      refine ⟨fun hlt => ?_, fun hge3 w63 hdr => ⟨fun _ => ?_, fun h => by cases h⟩⟩
      · rcases hR3 with ⟨_, _, h⟩ | ⟨b', cur, h1, h2, h3, h4, h5, h6⟩
        · omega
        · refine ⟨b', 0, h1, by omega, by omega, 77, by rw [h3.cell, Nat.zero_add, Int.toNat_natCast]; exact h6 q hq1 (by omega), fun h => absurd rfl h, fun _ => ?_⟩
          rw [i64_succ (by omega) (by omega)]
          exact ⟨⟨q + 1, by simp, by omega, by omega, rfl⟩, by simp only [Int.toNat_natCast]; omega⟩
      · have hin7 := (rowIn _ _ hR3).ext hdr.ext
        refine ⟨by omega, by omega, l, hin7.bytes, l, ((hin.ext ea).ext (hx3.trans hdr.ext)).bytes, ?_, ea.trans (hx3.trans hdr.ext)⟩
        rw [sEq_self]

theorem sums_walk (w : World) (v0 : Value) (h0 : Arg Try.prog w 42 [v0]) : Calls Try.prog 9 #[v0] w fun e w' => e = .returned (.bool true) ∧ Ext w w' := by
  obtain ⟨p, n, c, css, he, h1, h2, h3, h4, h5, h6, h7⟩ := Arg.slice (by kernel_rfl : Try.prog.underlying 42 = some (.slice 30)) (by decide +kernel : 0 < Try.prog.cellsOf 30) h0
  cases he
  have hsz : Try.prog.cellsOf 30 = 1 := by kernel_rfl
  rw [hsz] at h5
  -- the parts
  have hall : ∃ bs : List (List UInt8), bs.length = css.length ∧ ∀ (k : Nat) l, bs[k]? = some l → ∃ q m d, css[k]? = some [.slice q m d] ∧ In w q m d l ∧ m ≤ 140737488351232 := by
    clear h4 h6
    induction css with
    | nil => exact ⟨[], rfl, fun k l hk => by simp at hk⟩
    | cons x r ih =>
      obtain ⟨bs, hl, hb⟩ := ih fun y hy => h5 y (by simp [hy])
      obtain ⟨hx1, hx2⟩ := h5 x (by simp)
      obtain ⟨v, rfl⟩ := List.length_eq_one_iff.1 hx1
      obtain ⟨q, m, d, l, rfl, hin, hm, _⟩ := arg_bytes hx2
      refine ⟨l :: bs, by simp [hl], fun k y hk => ?_⟩
      cases k with
      | zero => simp at hk; subst hk; exact ⟨q, m, d, rfl, hin, hm⟩
      | succ k => simp at hk; obtain ⟨q', m', d', g1, g2⟩ := hb k y hk; exact ⟨q', m', d', by simpa using g1, g2⟩
  obtain ⟨bs0, hbl, hbs⟩ := hall
  have hc63 : c ≤ 9223372036854775807 := h2
  obtain ⟨bs, hbsd⟩ : ∃ bs, bs = bs0.take n := ⟨_, rfl⟩
  have hbn : bs.length = n := by rw [hbsd]; simp; omega
  have part : ∀ (k : Nat) l, bs[k]? = some l → ∃ b o q m d, p = some ⟨b, o, none⟩ ∧ w.cell? ⟨b, o + k, none⟩ = some (.slice q m d) ∧ In w q m d l ∧ m ≤ 140737488351232 := by
    intro k l hk
    have hk0 : bs0[k]? = some l := by rw [hbsd, List.getElem?_take] at hk; split at hk <;> simp_all
    obtain ⟨q, m, d, g1, g2, g3⟩ := hbs k l hk0
    have hf : css.flatten[k]? = some (.slice q m d) := by
      have := flatten_get (css := css) (s := 1) (fun x hx => (h5 x hx).1) (i := k) (j := 0) (by omega)
      simp only [Nat.mul_one, Nat.add_zero] at this
      rw [this, g1]; rfl
    rcases h6 with h | ⟨b, o, hp, hc⟩
    · rw [h] at hf; simp at hf
    · exact ⟨b, o, q, m, d, hp, hc k _ hf, g2, g3⟩
  have hparts : Parts w p bs := by
    by_cases hb0 : bs = []
    · exact .inl hb0
    · obtain ⟨x, r, hxr⟩ := List.exists_cons_of_ne_nil hb0
      obtain ⟨b, o, _, _, _, hp, _⟩ := part 0 x (by rw [hxr]; rfl)
      refine .inr ⟨b, o, hp, fun k l hk => ?_⟩
      obtain ⟨b', o', q, m, d, hp', hc, hin, hm⟩ := part k l hk
      rw [hp] at hp'; cases hp'
      have := hin.len
      subst this
      exact ⟨q, d, hc, hin.lies, hin.le, fun e => ⟨List.eq_nil_of_length_eq_zero (hin.nil e).1, (hin.nil e).2⟩⟩
  apply lawSums_vc
  unfold lawSums_T
  refine (shown2_ok w).mono ?_
  rintro e w2 ⟨rfl, ea⟩
  refine ⟨true, rfl, fun q m d i w' => ∃ k : Nat, i = (k : Int) ∧ k ≤ n ∧ Out w2.heap.size w' q m d (bs.take k).flatten ∧ m ≤ 100000 ∧ Ext w2 w', fun _ _ _ i _ => n - i.toNat, ⟨0, rfl, Nat.zero_le _, ⟨rfl, Mine.nil _ _ _ _⟩, by omega, .rfl⟩, ?_⟩
  rintro q m d i w' ⟨k, rfl, hk, ho, hm, hx⟩
  refine ⟨fun hlt => ?_, fun hge => ⟨fun _ => ?_, fun h => by cases h⟩⟩
  · obtain ⟨l, hl⟩ : ∃ l, bs[k]? = some l := ⟨_, List.getElem?_eq_getElem (by omega)⟩
    obtain ⟨b, o, q1, m1, d1, hp, hc, hin, hm1⟩ := part k l hl
    have hex := ea.trans hx
    refine ⟨b, o, hp, by omega, by omega, q1, m1, d1, by simp only [Int.toNat_natCast]; exact cell_ext hc hex, ?_⟩
    obtain ⟨p3, c3, w3, hrun, hmine3, hg⟩ := append_bytes ho.2 (hin.ext hex).lies hin.len hin.nil hx.size (by omega)
    have hx3 : Ext w2 w3 := ho.2.below hg hx (Nat.le_refl _) hx.size
    refine ⟨p3, _, c3, w3, hrun, fun _ => ⟨rfl, ea.trans hx3⟩, fun hle => ?_⟩
    rw [i64_succ (by omega) (by omega)]
    rw [← take_succ_flat hl] at hmine3
    refine ⟨⟨k + 1, by simp, by omega, ⟨?_, hmine3⟩, by omega, hx3⟩, by simp only [Int.toNat_natCast]; omega⟩
    rw [take_succ_flat hl, List.length_append, ho.1, hin.len]
  · have hk' : k = n := by omega
    subst hk'
    rw [List.take_of_length_le (by omega)] at ho
    refine (wireSum_ok w' p k c bs hbn (by omega) (hparts.ext (ea.trans hx))).mono ?_
    rintro e w27 ⟨rfl, e27⟩
    refine ⟨_, rfl, (refSum_ok w27 q m d bs.flatten ho.1 (Nat.le_trans ho.2.cap.1 ho.2.cap.2) (ho.ext e27).2.at).mono ?_⟩
    rintro e w30 ⟨rfl, e30⟩
    exact ⟨_, rfl, by simp, (ea.trans hx).trans (e27.trans e30)⟩

end Go.Proofs.Ytdclhgcgpcddlaa
