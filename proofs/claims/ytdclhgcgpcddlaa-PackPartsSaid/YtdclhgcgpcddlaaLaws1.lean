/- The walks of law 01's statements. -/
import Derived.Test.YtdclhgcgpcddlaaPk4
import Derived.Test.YtdclhgcgpcddlaaV1b
import Derived.Test.YtdclhgcgpcddlaaOpen
namespace Go.Proofs.Ytdclhgcgpcddlaa
open Go Go.Vc Go.RowKit

namespace L1
theorem und30 : Try.prog.underlying 30 = some (.slice 5) := by kernel_rfl
theorem und22 : Try.prog.underlying 22 = some (.slice 48) := by kernel_rfl
theorem und48 : Try.prog.underlying 48 = some (.int .u64) := by kernel_rfl
theorem und3 : Try.prog.underlying 3 = some (.int .i64) := by kernel_rfl
theorem und5 : Try.prog.underlying 5 = some (.int .u8) := by kernel_rfl
theorem ty48 : ∃ z, tyOf Try.prog 48 = some z ∧ z.ls.length = 1 ∧ z.bytes = 8 := ⟨_, (by kernel_rfl : tyOf Try.prog 48 = some ⟨false, [.int .u64], .int .u64 0, 8⟩), rfl, rfl⟩

theorem arg_bytes {w : World} {v : Value} (h : Arg Try.prog w 30 [v]) : ∃ p n c l, v = .slice p n c ∧ InB w p n c l ∧ n ≤ 140737488351232 := by
  obtain ⟨p, n, c, css, he, h1, h2, h3, h4, h5, h6, h7⟩ := Arg.slice und30 (by decide +kernel : 0 < Try.prog.cellsOf 5) h
  cases he
  have hb : Try.prog.bytesOf 5 = 1 := by kernel_rfl
  have hsz : Try.prog.cellsOf 5 = 1 := by kernel_rfl
  rw [hb] at h3
  rw [hsz] at h5
  have : ∃ full : List UInt8, css.flatten = vB full ∧ full.length = css.length := by
    clear h4 h6
    induction css with
    | nil => exact ⟨[], rfl, rfl⟩
    | cons x r ih =>
      obtain ⟨full, hf, hl⟩ := ih fun y hy => h5 y (by simp [hy])
      obtain ⟨n, rfl, hwf⟩ := Arg.int und5 (h5 x (by simp)).2
      obtain ⟨a0, a1⟩ := wf_u8 hwf
      refine ⟨UInt8.ofNat n.toNat :: full, ?_, by simp [hl]⟩
      have : (((UInt8.ofNat n.toNat).toNat : Nat) : Int) = n := by simp; omega
      simp only [List.flatten_cons, hf, vB, List.map_cons, this]
      rfl
  obtain ⟨full, hf, hl⟩ := this
  rw [hf] at h6
  exact ⟨p, n, c, full.take n, rfl, ⟨by simp; omega, ⟨h1, h2⟩, by rw [← vB_take]; exact h6.take n, h7⟩, by omega⟩
theorem arg_nats {w : World} {v : Value} (h : Arg Try.prog w 22 [v]) : ∃ p n c l, v = .slice p n c ∧ Us w p n c l ∧ n ≤ 17592186043904 := by
  obtain ⟨p, n, c, css, he, h1, h2, h3, h4, h5, h6, h7⟩ := Arg.slice und22 (by decide +kernel : 0 < Try.prog.cellsOf 48) h
  cases he
  have hb : Try.prog.bytesOf 48 = 8 := by kernel_rfl
  have hsz : Try.prog.cellsOf 48 = 1 := by kernel_rfl
  rw [hb] at h3
  rw [hsz] at h5
  have : ∃ full : List Nat, css.flatten = vN .u64 full ∧ full.length = css.length ∧ ∀ x ∈ full, x < 18446744073709551616 := by
    clear h4 h6
    induction css with
    | nil => exact ⟨[], rfl, rfl, by simp⟩
    | cons x r ih =>
      obtain ⟨full, hf, hl, ha⟩ := ih fun y hy => h5 y (by simp [hy])
      obtain ⟨n, rfl, hwf⟩ := Arg.int und48 (h5 x (by simp)).2
      obtain ⟨a0, a1⟩ := wf_u64 hwf
      refine ⟨n.toNat :: full, ?_, by simp [hl], fun y hy => ?_⟩
      · have : ((n.toNat : Nat) : Int) = n := by omega
        simp only [List.flatten_cons, hf, vN, List.map_cons, this]
        rfl
      · rcases List.mem_cons.1 hy with rfl | hy
        · omega
        · exact ha y hy
  obtain ⟨full, hf, hl, ha⟩ := this
  rw [hf] at h6
  exact ⟨p, n, c, full.take n, rfl, ⟨by simp; omega, ⟨h1, h2⟩, by have := h6.take n; unfold vN at this ⊢; rwa [← List.map_take] at this, h7, fun x hx => ha x (List.mem_of_mem_take hx)⟩, by omega⟩
theorem arg_int {w : World} {v : Value} (h : Arg Try.prog w 3 [v]) : ∃ n : Int, v = .int .i64 n ∧ -9223372036854775808 ≤ n ∧ n ≤ 9223372036854775807 := by
  obtain ⟨n, he, hwf⟩ := Arg.int und3 h
  cases he
  exact ⟨n, rfl, wf_i64 hwf⟩

theorem widths_walk (w : World) (v0 v1 v2 : Value) (h0 : Arg Try.prog w 22 [v0]) (h1 : Arg Try.prog w 3 [v1]) (h2 : Arg Try.prog w 3 [v2]) :
    Calls Try.prog 3 #[v0, v1, v2] w fun e w' => e = .returned (.bool true) ∧ Ext w w' := by
  obtain ⟨p, n, c, l, rfl, hl, hn⟩ := arg_nats h0
  obtain ⟨m, rfl, m0, m1⟩ := arg_int h1
  obtain ⟨x, rfl, x0, x1⟩ := arg_int h2
  apply lawWidths_vc
  unfold lawWidths_T
  refine (shown1_ok w).mono ?_
  rintro e wa ⟨rfl, ea⟩
  obtain ⟨a1, a2, hV⟩ : ∃ a1 a2 : Int, sizeV m x = .tuple #[.int .i64 a1, .int .i64 a2] := by unfold sizeV; split <;> exact ⟨_, _, rfl⟩
  refine ⟨true, rfl, (size_ok wa m x).mono ?_⟩
  rintro e wb ⟨rfl, eb⟩
  have eb := ea.trans eb
  refine ⟨a1, a2, by rw [hV], (rsize_ok wb m x).mono ?_⟩
  rintro e wc ⟨rfl, ec⟩
  have ec := eb.trans ec
  refine ⟨a1, a2, by rw [hV], fun _ => (width_ok wc (hl.ext ec)).mono ?_, fun h => Bool.noConfusion h⟩
  rintro e wd ⟨rfl, ed⟩
  have ed := ec.trans ed
  refine ⟨_, rfl, (rwidth_ok wd (hl.ext ed)).mono ?_⟩
  rintro e we ⟨rfl, ee⟩
  exact ⟨_, rfl, by simp, ed.trans ee⟩

theorem words_walk (w : World) (v0 v1 : Value) (h0 : Arg Try.prog w 3 [v0]) (h1 : Arg Try.prog w 22 [v1]) :
    Calls Try.prog 4 #[v0, v1] w fun e w' => e = .returned (.bool true) ∧ Ext w w' := by
  obtain ⟨x, rfl, x0, x1⟩ := arg_int h0
  obtain ⟨p, n, c, l, rfl, hl, hn⟩ := arg_nats h1
  apply lawWords_vc
  unfold lawWords_T
  refine (shown1_ok w).mono ?_
  rintro e wa ⟨rfl, ea⟩
  refine ⟨true, rfl, (pack_ok wa (hl.ext ea) x).mono ?_⟩
  rintro e wb ⟨q1, m1, d1, rfl, o1, eb⟩
  have eb := ea.trans eb
  refine ⟨q1, m1, d1, _, rfl, (rpack_ok wb (hl.ext eb) x x1).mono ?_⟩
  rintro e wc ⟨q2, m2, d2, rfl, o2, ec⟩
  exact ⟨q2, m2, d2, _, rfl, fun _ => ⟨_, (o1.ext ec).bytes, _, o2.bytes, by simp [sEq_self], eb.trans ec⟩, fun h => Bool.noConfusion h⟩

theorem reads_walk (w : World) (v0 v1 v2 : Value) (h0 : Arg Try.prog w 30 [v0]) (h1 : Arg Try.prog w 3 [v1]) (h2 : Arg Try.prog w 3 [v2]) :
    Calls Try.prog 7 #[v0, v1, v2] w fun e w' => e = .returned (.bool true) ∧ Ext w w' := by
  obtain ⟨p, n, c, b, rfl, hb, hn⟩ := arg_bytes h0
  obtain ⟨m, rfl, m0, m1⟩ := arg_int h1
  obtain ⟨x, rfl, x0, x1⟩ := arg_int h2
  apply lawReads_vc
  unfold lawReads_T
  refine (shown1_ok w).mono ?_
  rintro e wa ⟨rfl, ea⟩
  refine ⟨true, rfl, (unpack_ok wa (hb.ext ea) m x).mono ?_⟩
  rintro e wb ⟨q1, m1, d1, rfl, o1, eb⟩
  have eb := ea.trans eb
  refine ⟨q1, m1, d1, _, rfl, (runpack_ok wb (hb.ext eb) m x x1).mono ?_⟩
  rintro e wc ⟨q2, m2, d2, rfl, o2, ec⟩
  refine ⟨q2, m2, d2, _, rfl, fun _ => (same_ok wc (o1.ext ec).us o2.us).mono ?_, fun h => Bool.noConfusion h⟩
  rintro e wd ⟨rfl, ed⟩
  exact ⟨_, rfl, by simp, (eb.trans ec).trans ed⟩

theorem least_walk (w : World) (v0 : Value) (h0 : Arg Try.prog w 22 [v0]) : Calls Try.prog 6 #[v0] w fun e w' => e = .returned (.bool true) ∧ Ext w w' := by
  obtain ⟨p, n, c, l, rfl, hl, hn⟩ := arg_nats h0
  have hlen := hl.len
  apply lawLeast_vc
  unfold lawLeast_T
  refine (shown1_ok w).mono ?_
  rintro e wa ⟨rfl, ea⟩
  refine ⟨true, rfl, fun _ => ⟨rfl, ea⟩, fun hle => (width_ok wa (hl.ext ea)).mono ?_⟩
  rintro e wb ⟨rfl, eb⟩
  have eb := ea.trans eb
  have h64 : widthN l ≤ 64 := widthN_le.2 hl.lt
  have hyes : packOk l (widthN l : Int) = true := by rw [packOk_iff]; omega
  have hno : packOk l ((widthN l : Int) - 1) = false := by rw [← Bool.not_eq_true, packOk_iff]; omega
  refine ⟨_, rfl, (pack_ok wb (hl.ext eb) _).mono ?_⟩
  rintro e wc ⟨q1, m1, d1, rfl, o1, ec⟩
  have ec := eb.trans ec
  have e0 : packE l (widthN l : Int) = 0 := by simp [packE, hyes]
  have e2 : packE l ((widthN l : Int) - 1) = 2 := by simp [packE, hno]
  refine ⟨q1, m1, d1, _, rfl, fun h => by omega, fun _ => ?_⟩
  rw [i64_fit (by omega) (by omega)]
  refine (pack_ok wc (hl.ext ec) _).mono ?_
  rintro e wd ⟨q2, m2, d2, rfl, o2, ed⟩
  exact ⟨q2, m2, d2, _, rfl, by simp [e2], ec.trans ed⟩

/-- What was unpacked is packed again as it was. -/
theorem pack_un {b : List UInt8} {n w : Int} (h : unE b n w = 0) : ((unL b n w).length : Int) = n ∧ packE (unL b n w) w = 0 ∧ packB (unL b n w) w = b := by
  unfold unE at h
  by_cases hok : unOk b n w = true
  · rw [if_pos hok] at h
    by_cases hf : unFit b n w = true
    · have hs : (0 ≤ n ∧ n ≤ 4096) ∧ 0 ≤ w ∧ w ≤ 64 := of_decide_eq_true hok
      obtain ⟨u, rfl⟩ := Int.eq_ofNat_of_zero_le hs.2.1
      obtain ⟨n, rfl⟩ := Int.eq_ofNat_of_zero_le hs.1.1
      simp only [unFit, Int.toNat_natCast, Bool.and_eq_true, decide_eq_true_eq] at hf
      have hL : unL b n u = digits u n (ofBytes b) := by simp only [unL, hok, unFit, Int.toNat_natCast, hf.1, hf.2, decide_true, Bool.and_self, if_true]
      have hyes : packOk (digits u n (ofBytes b)) u = true := by rw [packOk_iff, digits_length]; exact ⟨by omega, by omega, by omega, widthN_le.2 (by simpa using digits_lt)⟩
      rw [hL]
      refine ⟨by rw [digits_length], by simp [packE, hyes], ?_⟩
      simp only [packB, hyes, if_true, digits_length, Int.toNat_natCast]
      rw [value_digits, Nat.mul_comm u n, Nat.mod_eq_of_lt hf.2, ← hf.1, bytesOf_ofBytes]
    · rw [if_neg hf] at h; cases h
  · rw [if_neg hok] at h; cases h
theorem un_err {b : List UInt8} {n w : Int} (h : unE b n w ≠ 0) : unL b n w = [] := by
  unfold unE at h
  unfold unL
  by_cases hok : unOk b n w = true
  · rw [if_pos hok] at h
    by_cases hf : unFit b n w = true
    · rw [if_pos hf] at h; exact absurd rfl h
    · rw [if_neg]; simp [hok, hf]
  · rw [if_neg]; simp [hok]
/-- What was packed is unpacked as it was. -/
theorem un_pack {l : List Nat} {w : Int} (h : packE l w = 0) : unE (packB l w) l.length w = 0 ∧ unL (packB l w) l.length w = l := by
  unfold packE at h
  by_cases hok : packOk l w = true
  · obtain ⟨h1, h2, h3, h4⟩ := packOk_iff.1 hok
    obtain ⟨u, rfl⟩ := Int.eq_ofNat_of_zero_le h2
    rw [Int.toNat_natCast] at h4
    have hfit : ∀ x ∈ l, x < 2 ^ u := widthN_le.1 h4
    have hlt := value_lt hfit
    have hB : packB l u = bytesOf ((l.length * u + 7) / 8) (value u l) := by simp [packB, hok]
    have hv : ofBytes (packB l u) = value u l := by
      rw [hB, ofBytes_bytesOf, Nat.mod_eq_of_lt]
      exact Nat.lt_of_lt_of_le hlt (Nat.pow_le_pow_right (by decide) (by rw [Nat.mul_comm u]; omega))
    have hu : unOk (packB l u) l.length u = true := decide_eq_true (by omega)
    have hf : unFit (packB l u) l.length u = true := by
      simp only [unFit, Int.toNat_natCast, Bool.and_eq_true, decide_eq_true_eq, hv]
      exact ⟨by rw [hB, bytesOf_length], by rw [Nat.mul_comm]; exact hlt⟩
    refine ⟨by simp [unE, hu, hf], ?_⟩
    simp only [unL, hu, hf, Bool.and_self, if_true, Int.toNat_natCast, hv]
    exact digits_value hfit
  · rw [if_neg hok] at h; cases h

theorem back_walk (w : World) (v0 v1 v2 v3 : Value) (h0 : Arg Try.prog w 3 [v0]) (h1 : Arg Try.prog w 22 [v1]) (h2 : Arg Try.prog w 30 [v2]) (h3 : Arg Try.prog w 3 [v3]) :
    Calls Try.prog 8 #[v0, v1, v2, v3] w fun e w' => e = .returned (.bool true) ∧ Ext w w' := by
  obtain ⟨x, rfl, x0, x1⟩ := arg_int h0
  obtain ⟨p, n, c, l, rfl, hl, hn⟩ := arg_nats h1
  obtain ⟨pb, bn, bc, b, rfl, hb, hbn⟩ := arg_bytes h2
  obtain ⟨m, rfl, m0, m1⟩ := arg_int h3
  have hlen := hl.len
  apply lawBack_vc
  unfold lawBack_T
  refine (shown1_ok w).mono ?_
  rintro e wa ⟨rfl, ea⟩
  refine ⟨true, rfl, (pack_ok wa (hl.ext ea) x).mono ?_⟩
  rintro e wb ⟨q1, m1, d1, rfl, o1, eb⟩
  have eb := ea.trans eb
  refine ⟨q1, m1, d1, _, rfl, fun hz => ?_, fun hnz => ?_⟩
  · obtain ⟨u1, u2⟩ := un_pack hz
    rw [hlen] at u1 u2
    refine (unpack_ok wb o1.inn n x).mono ?_
    rintro e wc ⟨q2, m2, d2, rfl, o2, ec⟩
    have ec := eb.trans ec
    refine ⟨q2, m2, d2, _, rfl, fun h => absurd u1 h, fun _ => (same_ok wc o2.us (hl.ext ec)).mono ?_⟩
    rintro e wd ⟨rfl, ed⟩
    have ed := ec.trans ed
    rw [u2]
    refine ⟨_, rfl, fun h => by simp at h, fun _ => (unpack_ok wd (hb.ext ed) m x).mono ?_⟩
    rintro e we ⟨q3, m3, d3, rfl, o3, ee⟩
    have ee := ed.trans ee
    refine ⟨q3, m3, d3, _, rfl, fun hne => ⟨?_, ee⟩, fun h0 => ?_⟩
    · have := o3.1
      rw [un_err hne] at this
      simp at this
      subst this
      rfl
    · obtain ⟨t1, t2, t3⟩ := pack_un h0
      refine (pack_ok we o3.us x).mono ?_
      rintro e wf ⟨q4, m4, d4, rfl, o4, ef⟩
      have ef := ee.trans ef
      have hm3 := o3.1
      refine ⟨q4, m4, d4, _, rfl, fun _ => ⟨_, o4.bytes, _, (hb.ext ef).bytes, by rw [t3, sEq_self], ef⟩, fun h => ?_⟩
      rcases h with (h | h) | h
      · cases h
      · exact absurd (by rw [← hm3]; exact t1) h
      · exact absurd t2 h
  · refine (unpack_ok wb (hb.ext eb) m x).mono ?_
    rintro e we ⟨q3, m3, d3, rfl, o3, ee⟩
    have ee := eb.trans ee
    refine ⟨q3, m3, d3, _, rfl, fun hne => ⟨?_, ee⟩, fun h0 => ?_⟩
    · have := o3.1
      rw [un_err hne] at this
      simp at this
      subst this
      rfl
    · obtain ⟨t1, t2, t3⟩ := pack_un h0
      refine (pack_ok we o3.us x).mono ?_
      rintro e wf ⟨q4, m4, d4, rfl, o4, ef⟩
      have ef := ee.trans ef
      have hm3 := o3.1
      refine ⟨q4, m4, d4, _, rfl, fun _ => ⟨_, o4.bytes, _, (hb.ext ef).bytes, by rw [t3, sEq_self], ef⟩, fun h => ?_⟩
      rcases h with (h | h) | h
      · cases h
      · exact absurd (by rw [← hm3]; exact t1) h
      · exact absurd t2 h

end L1
end Go.Proofs.Ytdclhgcgpcddlaa
