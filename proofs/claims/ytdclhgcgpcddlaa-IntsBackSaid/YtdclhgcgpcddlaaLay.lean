/- Numbers, signed numbers and texts as bytes: the contracts of both programs. -/
import Derived.Test.YtdclhgcgpcddlaaTake
namespace Go.Vc
open Go
/-- A text's bytes behind others, and the error's number. -/
def textL (l : List UInt8) (s : List UInt8) : List UInt8 × Int := if s.length ≤ 1048576 then (l ++ (uvar s.length ++ s), 0) else ([], 2)

theorem uvar_pos (n : Nat) : 0 < (uvar n).length := by
  by_cases h : n < 128
  · rw [uvar_small h]; simp
  · rw [uvar_big (by omega)]; simp
/-- What TakeText hands back. -/
def takeT (l : List UInt8) (pos most : Int) : Value :=
  match takeN l pos with
  | some (v, k) => if v ≤ 1048576 ∧ (v : Int) ≤ most ∧ v ≤ l.length - k then .tuple #[.string ⟨((l.drop k).take v).toArray⟩, .int .i64 ((k + v : Nat) : Int), .int .i64 0] else .tuple #[.string ⟨#[]⟩, .int .i64 0, .int .i64 20]
  | none => .tuple #[.string ⟨#[]⟩, .int .i64 0, .int .i64 20]
end Go.Vc

namespace Go.Proofs.Ytdclhgcgpcddlaa
open Go Go.Vc Go.RowKit

/-- Bytes in a row of our own. -/
def Out (B : Nat) (w : World) (p : Option Addr) (n c : Nat) (l : List UInt8) : Prop := l.length = n ∧ Mine B 5 1 w p n c (vB l)
/-- Bytes that are handed in. -/
structure In (w : World) (p : Option Addr) (n c : Nat) (l : List UInt8) : Prop where
  len : l.length = n
  cap : n ≤ c ∧ c ≤ maxLen
  lies : At w p (vB l)
  nil : p = none → n = 0 ∧ c = 0

theorem Out.ext {B : Nat} {w w' : World} {p : Option Addr} {n c : Nat} {l : List UInt8} (h : Out B w p n c l) (e : Ext w w') : Out B w' p n c l := ⟨h.1, h.2.ext e⟩
theorem Out.mono {B B' : Nat} {w : World} {p : Option Addr} {n c : Nat} {l : List UInt8} (h : Out B w p n c l) (hB : B' ≤ B) : Out B' w p n c l := ⟨h.1, h.2.mono hB⟩
theorem Out.inn {B : Nat} {w : World} {p : Option Addr} {n c : Nat} {l : List UInt8} (h : Out B w p n c l) : In w p n c l := ⟨h.1, h.2.cap, h.2.at, h.2.isNil⟩
theorem Out.bytes {B : Nat} {w : World} {p : Option Addr} {n c : Nat} {l : List UInt8} (h : Out B w p n c l) : BytesAt w p n l := h.2.at.bytes' h.1
theorem In.ext {w w' : World} {p : Option Addr} {n c : Nat} {l : List UInt8} (h : In w p n c l) (e : Ext w w') : In w' p n c l := ⟨h.len, h.cap, h.lies.ext e, h.nil⟩
theorem In.nothing (w : World) : In w none 0 0 [] := ⟨rfl, ⟨Nat.le_refl _, Nat.zero_le _⟩, At.nil _ _, fun _ => ⟨rfl, rfl⟩⟩
theorem In.bytes {w : World} {p : Option Addr} {n c : Nat} {l : List UInt8} (h : In w p n c l) : BytesAt w p n l := h.lies.bytes' h.len
theorem In.le {w : World} {p : Option Addr} {n c : Nat} {l : List UInt8} (h : In w p n c l) : n ≤ maxLen := Nat.le_trans h.cap.1 h.cap.2

theorem number_out (w : World) {p : Option Addr} {n c : Nat} {l : List UInt8} {m : Nat} (h : In w p n c l) (hroom : n + 10 ≤ 211106232532992) (hm : m < 18446744073709551616) :
    Calls Try.prog 35 #[.slice p n c, .int .u64 (m : Int)] w fun e w' => ∃ p' n' c', e = .returned (.slice p' n' c') ∧ Out w.heap.size w' p' n' c' (l ++ uvar m) ∧ Ext w w' := by
  refine (number_ok w p n c l m h.len h.lies h.nil hroom hm).mono ?_
  rintro e w' ⟨p', c', rfl, hm, he⟩
  exact ⟨p', _, c', rfl, ⟨rfl, hm⟩, he⟩

theorem signed_out (w : World) {p : Option Addr} {n c : Nat} {l : List UInt8} {x : Int} (h : In w p n c l) (hroom : n + 10 ≤ 211106232532992) (h0 : -9223372036854775808 ≤ x) (h1 : x ≤ 9223372036854775807) :
    Calls Try.prog 36 #[.slice p n c, .int .i64 x] w fun e w' => ∃ p' n' c', e = .returned (.slice p' n' c') ∧ Out w.heap.size w' p' n' c' (l ++ uvar (zigN x)) ∧ Ext w w' := by
  apply wireSigned_vc
  unfold wireSigned_T
  rw [zig_prog h0 h1]
  refine (number_out w h hroom (zig_lt h0 h1)).mono ?_
  rintro e w' ⟨p', n', c', rfl, ho, he⟩
  exact ⟨p', n', c', rfl, p', n', c', rfl, ho, he⟩

theorem made_bytes {w w' : World} {b cap : Nat} (h : New w (.cells (madeCells #[.int .u8 0] cap) 5) b w') (hm : cap ≤ maxLen) : Mine w.heap.size 5 1 w' (some ⟨b, 0, none⟩) 0 cap (vB []) :=
  Mine.made h (Nat.le_refl _) hm (by rw [size_madeCells]; omega)

theorem refNumber_out (w : World) {p : Option Addr} {n c : Nat} {l : List UInt8} {m : Nat} (h : In w p n c l) (hroom : n + 10 ≤ 211106232532992) (hm : m < 18446744073709551616) :
    Calls Try.prog 42 #[.slice p n c, .int .u64 (m : Int)] w fun e w' => ∃ p' n' c', e = .returned (.slice p' n' c') ∧ Out w.heap.size w' p' n' c' (l ++ uvar m) ∧ Ext w w' := by
  apply refNumber_vc
  unfold refNumber_T
  have e1 : IntKind.i64.wrap ((n : Int) + 10) = ((n + 10 : Nat) : Int) := by rw [i64_fit (by omega) (by omega)]; omega
  rw [e1]
  refine ⟨by omega, by omega, by omega, by omega, fun b w1 hnew => ?_⟩
  have hl10 := uvar_len10 hm
  have hlen := h.len
  have hmade := made_bytes hnew (by simp [maxLen]; omega)
  obtain ⟨p1, c1, w2, hrun, hmine, hg⟩ := append_bytes hmade (h.lies.ext hnew.ext) hlen h.nil hnew.ext.size (by omega)
  have hx2 : Ext w w2 := hmade.below hg hnew.ext (Nat.le_refl _) hnew.ext.size
  refine ⟨p1, _, c1, w2, hrun, ?_⟩
  rw [List.nil_append, Nat.zero_add] at *
  refine ⟨fun p q c i w' => ∃ (k : Nat) (pre : List UInt8), i = (k : Int) ∧ k ≤ m ∧ pre ++ uvar k = uvar m ∧ (l ++ pre).length = q ∧ Mine w.heap.size 5 1 w' p q c (vB (l ++ pre)) ∧ Ext w w', fun _ _ _ i _ => i.toNat,
    ⟨m, [], rfl, Nat.le_refl _, rfl, by simpa using hlen, by simpa using hmine, hx2⟩, ?_⟩
  rintro p q c i w' ⟨k, pre, rfl, hk, hpre, hl, hown, hext⟩
  have hkn : k < 18446744073709551616 := by omega
  have hlen2 : pre.length + (uvar k).length ≤ 10 := by have := congrArg List.length hpre; simp at this; omega
  have hq : q = n + pre.length := by simp at hl; omega
  have hB := hext.size
  have hpos := uvar_pos k
  rw [rem128, u8_fit (n := ((k % 128 : Nat) : Int)) (by omega) (by omega), u8_fit (n := ((k % 128 : Nat) : Int) + 128) (by omega) (by omega), quo128_u64 hkn]
  refine ⟨fun hz b w3 hnew => ?_, fun hz b w3 hnew => ?_⟩
  · obtain ⟨p', c', w4, hrun, hown2, hg⟩ := append_byte (UInt8.ofNat (k % 128 + 128)) hown hnew (by rw [u8_toNat (by omega)]; omega) hB (by omega)
    refine ⟨p', q + 1, c', w4, hrun, ⟨k / 128, pre ++ [UInt8.ofNat (k % 128 + 128)], rfl, by omega, ?_, by simp at hl ⊢; omega, by rw [← List.append_assoc]; exact hown2, (hown.ext hnew.ext).below hg (hext.trans hnew.ext) (Nat.le_refl _) (Nat.le_trans hB hnew.ext.size)⟩, by simp only [Int.toNat_natCast]; omega⟩
    rw [← hpre, uvar_big (n := k) (by omega)]; simp
  · rw [u8_fit (by omega) (by omega)] at hnew
    obtain ⟨p', c', w4, hrun, hown2, hg⟩ := append_byte (UInt8.ofNat k) hown hnew (by rw [u8_toNat (by omega)]) hB (by omega)
    have e : pre ++ [UInt8.ofNat k] = uvar m := by rw [← hpre, uvar_small (by omega)]
    refine ⟨p', q + 1, c', w4, hrun, p', _, c', rfl, ⟨?_, ?_⟩, (hown.ext hnew.ext).below hg (hext.trans hnew.ext) (Nat.le_refl _) (Nat.le_trans hB hnew.ext.size)⟩
    · rw [← e]; simp at hl ⊢; omega
    · rw [← e, ← List.append_assoc]; exact hown2

theorem zig_ok (w : World) {x : Int} (h0 : -9223372036854775808 ≤ x) (h1 : x ≤ 9223372036854775807) : Calls Try.prog 61 #[.int .i64 x] w fun e w' => e = .returned (.int .u64 (zigN x : Int)) ∧ Ext w w' := by
  apply zigT_vc
  unfold zigT_T
  exact ⟨fun h => ⟨by rw [zig_ref_neg h0 h], .rfl⟩, fun h => ⟨by rw [zig_ref_pos h1 h], .rfl⟩⟩

theorem refSigned_out (w : World) {p : Option Addr} {n c : Nat} {l : List UInt8} {x : Int} (h : In w p n c l) (hroom : n + 10 ≤ 211106232532992) (h0 : -9223372036854775808 ≤ x) (h1 : x ≤ 9223372036854775807) :
    Calls Try.prog 43 #[.slice p n c, .int .i64 x] w fun e w' => ∃ p' n' c', e = .returned (.slice p' n' c') ∧ Out w.heap.size w' p' n' c' (l ++ uvar (zigN x)) ∧ Ext w w' := by
  apply refSigned_vc
  unfold refSigned_T
  refine (zig_ok w h0 h1).mono ?_
  rintro e w1 ⟨rfl, hx⟩
  refine ⟨_, rfl, (refNumber_out w1 (h.ext hx) hroom (zig_lt h0 h1)).mono ?_⟩
  rintro e w' ⟨p', n', c', rfl, ho, he⟩
  exact ⟨p', n', c', rfl, p', n', c', rfl, ho.mono hx.size, hx.trans he⟩

theorem und9 : Try.prog.underlying 9 = some .string := by kernel_rfl

/-- append(b, s...) onto bytes of one's own. -/
theorem append_string {B : Nat} {w : World} {p : Option Addr} {n c : Nat} {l : List UInt8} (s : ByteArray) (h : Out B w p n c l) (hs : s.size ≤ 1048576) (hB : B ≤ w.heap.size) (hroom : n + s.size ≤ 211106232532992) :
    ∃ p' c' w', (Builtin.append_ #[30, 9] 30 #[.slice p n c, .string s]).run Try.prog w = .ok (.slice p' (n + s.size) c') w' ∧ Out B w' p' (n + s.size) c' (l ++ tB s) ∧ w.grownBy w' (Value.slice p n c).ownBlock := by
  obtain ⟨p', c', w', hrun, hown, hg⟩ := append_str und30 und9 (by kernel_rfl : tyOf Try.prog 5 = some ⟨false, [.int .u8], .int .u8 0, 1⟩) rfl rfl h.2 s (by omega) hB hroom (ty := 30)
  rw [strCells_eq, ← vB_append] at hown
  exact ⟨p', c', w', hrun, ⟨by rw [List.length_append, h.1, tB_length], hown⟩, hg⟩

theorem text_out (w : World) {p : Option Addr} {n c : Nat} {l : List UInt8} {s : ByteArray} (h : In w p n c l) (hroom : n + 2000000 ≤ 211106232532992) :
    Calls Try.prog 37 #[.slice p n c, .string s] w fun e w' => ∃ p' n' c', e = .returned (.tuple #[.slice p' n' c', .int .i64 (textL l (tB s)).2]) ∧ Out w.heap.size w' p' n' c' (textL l (tB s)).1 ∧ Ext w w' := by
  apply wireText_vc
  unfold wireText_T textL
  rw [tB_length]
  refine ⟨fun hs => ?_, fun hs => ?_⟩
  · rw [if_neg (by omega)]
    exact ⟨none, 0, 0, rfl, ⟨rfl, Mine.nil _ _ _ _⟩, .rfl⟩
  · rw [if_pos (by omega), u64_fit (by omega) (by omega)]
    have hl10 := uvar_len10 (n := s.size) (by omega)
    refine (digits_ok w s.size (by omega)).mono ?_
    rintro e w2 ⟨p2, c2, rfl, hmine, hx2⟩
    refine ⟨p2, _, c2, rfl, fun cs b w3 hcs hnew b2 w4 hnew2 => ?_⟩
    have hx3 : Ext w2 w3 := (drew_ext w2).trans hnew.ext
    have hat : At w3 (some ⟨b, 0, none⟩) (vB (tB s)) := by rw [← bytesRow_take s cs]; exact hnew.at.take _
    have hlen := h.len
    have hparts : Parts w4 (some ⟨b2, 0, none⟩) [l, uvar s.size, tB s] := parts_new hnew2 (by
      intro k x hx
      match k, hx with
      | 0, hx => cases hx; exact ⟨p, c, by simp [hlen], (h.lies.ext hx2).ext hx3, by simp [maxLen]; omega, fun e => by obtain ⟨h1, h2⟩ := h.nil e; exact ⟨List.eq_nil_of_length_eq_zero (by omega), h2⟩⟩
      | 1, hx =>
        cases hx
        exact ⟨p2, c2, by simp, hmine.at.ext hx3, by simp [maxLen]; omega, fun e => by obtain ⟨h1, h2⟩ := hmine.isNil e; exact ⟨List.eq_nil_of_length_eq_zero h1, h2⟩⟩
      | 2, hx => cases hx; exact ⟨some ⟨b, 0, none⟩, cs, by simp [tB_length], hat, by rw [tB_length]; simp [maxLen]; omega, fun e => by cases e⟩
      | k + 3, hx => simp at hx)
    have hx4 : Ext w w4 := (hx2.trans hx3).trans hnew2.ext
    refine (concat_ok _ _ 3 3 [l, uvar s.size, tB s] rfl (by simp [maxLen]) hparts (by simp [tB_length]; omega)).mono ?_
    rintro e w5 ⟨p3, c3, rfl, hmine3, hx5⟩
    have e1 : [l, uvar s.size, tB s].flatten = l ++ (uvar s.size ++ tB s) := by simp
    rw [e1] at hmine3 ⊢
    exact ⟨p3, _, c3, rfl, p3, _, c3, rfl, ⟨rfl, hmine3.mono hx4.size⟩, hx4.trans hx5⟩

theorem refText_out (w : World) {p : Option Addr} {n c : Nat} {l : List UInt8} {s : ByteArray} (h : In w p n c l) (hroom : n + 2000000 ≤ 211106232532992) :
    Calls Try.prog 44 #[.slice p n c, .string s] w fun e w' => ∃ p' n' c', e = .returned (.tuple #[.slice p' n' c', .int .i64 (textL l (tB s)).2]) ∧ Out w.heap.size w' p' n' c' (textL l (tB s)).1 ∧ Ext w w' := by
  apply refText_vc
  unfold refText_T textL
  rw [tB_length]
  refine ⟨fun hs => ?_, fun hs => ?_⟩
  · rw [if_neg (by omega)]
    exact ⟨none, 0, 0, rfl, ⟨rfl, Mine.nil _ _ _ _⟩, .rfl⟩
  · rw [if_pos (by omega), u64_fit (by omega) (by omega)]
    have hl10 := uvar_len10 (n := s.size) (by omega)
    refine (refNumber_out w h (by omega) (by omega)).mono ?_
    rintro e w2 ⟨p2, n2, c2, rfl, ho, hx2⟩
    have hn2 := ho.1
    have hlen := h.len
    simp at hn2
    obtain ⟨p3, c3, w3, hrun, ho3, hg⟩ := append_string s ho (by omega) hx2.size (by omega)
    refine ⟨p2, n2, c2, rfl, p3, _, c3, w3, hrun, p3, _, c3, rfl, ?_, ho.2.below hg hx2 (Nat.le_refl _) hx2.size⟩
    rw [← List.append_assoc]; exact ho3

theorem takeText_vals {w : World} {p : Option Addr} {n c : Nat} {l : List UInt8} {pos most : Int} (h : In w p n c l) (hm1 : most ≤ 9223372036854775807) {R : Ending → World → Prop} {w2 : World} (hx : Ext w w2)
    (hR : R (.returned (takeT l pos most)) w2) :
    ∃ n3 n4 n5 : Int, Ending.returned (takeV l pos) = .returned (.tuple #[.int .u64 n3, .int .i64 n4, .int .i64 n5]) ∧
      ((((n5 ≠ 0 ∨ 1048576 < n3) ∨ most < IntKind.i64.wrap n3) ∨ IntKind.i64.wrap ((n : Int) - n4) < IntKind.i64.wrap n3 → R (.returned (.tuple #[.string ⟨#[]⟩, .int .i64 0, .int .i64 20])) w2) ∧
      (((n5 = 0 ∧ n3 ≤ 1048576) ∧ IntKind.i64.wrap n3 ≤ most) ∧ IntKind.i64.wrap n3 ≤ IntKind.i64.wrap ((n : Int) - n4) →
        0 ≤ n4 ∧ n4 ≤ IntKind.i64.wrap (n4 + IntKind.i64.wrap n3) ∧ IntKind.i64.wrap (n4 + IntKind.i64.wrap n3) ≤ (c : Int) ∧
        ∃ l8 : List UInt8, BytesAt w2 (slBase p n4.toNat c 1) ((IntKind.i64.wrap (n4 + IntKind.i64.wrap n3)).toNat - n4.toNat) l8 ∧
          R (.returned (.tuple #[.string ⟨l8.toArray⟩, .int .i64 (IntKind.i64.wrap (n4 + IntKind.i64.wrap n3)), .int .i64 0])) w2)) := by
  have hn63 : n ≤ 9223372036854775807 := h.le
  have hlen := h.len
  have hcap := h.cap.1
  unfold takeV
  unfold takeT at hR
  cases ht : takeN l pos with
  | none =>
    rw [ht] at hR
    exact ⟨0, 0, 20, rfl, fun _ => hR, fun hh => absurd hh.1.1.1 (by decide)⟩
  | some r =>
    obtain ⟨v, k⟩ := r
    rw [ht] at hR
    simp only at hR
    obtain ⟨h0, hv, hk0, hk1, _⟩ := takeN_spec ht
    refine ⟨(v : Int), (k : Int), 0, rfl, fun hh => ?_, fun hh => ?_⟩
    · rw [if_neg] at hR
      · exact hR
      · rintro ⟨a1, a2, a3⟩
        rw [i64_fit (n := (v : Int)) (by omega) (by omega), i64_fit (by omega) (by omega)] at hh
        omega
    · obtain ⟨⟨⟨_, b1⟩, b2⟩, b3⟩ := hh
      rw [i64_fit (n := (v : Int)) (by omega) (by omega)] at b2 b3 ⊢
      rw [i64_fit (by omega) (by omega)] at b3
      have e : IntKind.i64.wrap ((k : Int) + (v : Int)) = ((k + v : Nat) : Int) := by rw [i64_fit (by omega) (by omega)]; omega
      rw [e]
      rw [if_pos (by omega)] at hR
      refine ⟨by omega, by omega, by omega, (l.drop k).take v, ?_, hR⟩
      have hat := (h.lies.ext hx).slice k (k + v) c 1 (by omega)
      rw [Nat.mul_one, Nat.mul_one, vB_take, vB_drop] at hat
      have e2 : (l.take (k + v)).drop k = (l.drop k).take v := by rw [List.drop_take]; simp
      rw [e2] at hat
      exact hat.bytes' (by simp; omega)

theorem takeText_ok (w : World) {p : Option Addr} {n c : Nat} {l : List UInt8} {pos most : Int} (h : In w p n c l) (hm1 : most ≤ 9223372036854775807) :
    Calls Try.prog 45 #[.slice p n c, .int .i64 pos, .int .i64 most] w fun e w' => e = .returned (takeT l pos most) ∧ Ext w w' := by
  apply takeText_vc
  unfold takeText_T
  refine (takeNumber_ok w p n c l pos h.len h.cap.1 h.le h.lies).mono ?_
  rintro e w2 ⟨rfl, h2⟩
  exact takeText_vals (R := fun e w' => e = .returned (takeT l pos most) ∧ Ext w w') h hm1 h2 ⟨rfl, h2⟩

theorem refTakeText_ok (w : World) {p : Option Addr} {n c : Nat} {l : List UInt8} {pos most : Int} (h : In w p n c l) (hp1 : pos ≤ 9223372036854775807) (hm1 : most ≤ 9223372036854775807) :
    Calls Try.prog 46 #[.slice p n c, .int .i64 pos, .int .i64 most] w fun e w' => e = .returned (takeT l pos most) ∧ Ext w w' := by
  apply refTakeText_vc
  unfold refTakeText_T
  refine (refTakeNumber_ok w p n c l pos hp1 h.len h.le h.lies).mono ?_
  rintro e w2 ⟨rfl, h2⟩
  exact takeText_vals (R := fun e w' => e = .returned (takeT l pos most) ∧ Ext w w') h hm1 h2 ⟨rfl, h2⟩

end Go.Proofs.Ytdclhgcgpcddlaa
