/- Numbers as bytes: the contracts of the functions that lay them. -/
import Derived.Test.YtdclhgcgpcddlaaL02s
namespace Go.Vc
open Go

/-- A number's bytes. -/
def uvar (n : Nat) : List UInt8 := if h : n < 128 then [UInt8.ofNat n] else UInt8.ofNat (n % 128 + 128) :: uvar (n / 128)
termination_by n
decreasing_by omega

theorem uvar_small {n : Nat} (h : n < 128) : uvar n = [UInt8.ofNat n] := by rw [uvar, dif_pos h]
theorem uvar_big {n : Nat} (h : 128 ≤ n) : uvar n = UInt8.ofNat (n % 128 + 128) :: uvar (n / 128) := by rw [uvar, dif_neg (by omega)]

theorem uvar_len : ∀ (k n : Nat), n < 128 ^ (k + 1) → (uvar n).length ≤ k + 1
  | 0, n, h => by rw [uvar_small (by simpa using h)]; simp
  | k + 1, n, h => by
    by_cases hs : n < 128
    · rw [uvar_small hs]; simp
    · rw [uvar_big (by omega)]
      have := uvar_len k (n / 128) (by rw [Nat.div_lt_iff_lt_mul (by decide), ← Nat.pow_succ]; exact h)
      simp; omega

theorem uvar_len10 {n : Nat} (h : n < 18446744073709551616) : (uvar n).length ≤ 10 := uvar_len 9 n (Nat.lt_of_lt_of_le h (by decide))

theorem shr7_u64 (n : Nat) : shrI .u64 (n : Int) 7 = ((n / 128 : Nat) : Int) := by
  have : shrI .u64 (n : Int) 7 = Int.fdiv (n : Int) 128 := rfl
  rw [this, Int.fdiv_eq_ediv_of_nonneg _ (by decide)]
  omega

theorem and127_u64 (n : Nat) (h : n < 18446744073709551616) : bits .and .u64 (n : Int) 127 = ((n % 128 : Nat) : Int) := by
  have := bits_mask .u64 64 (by decide) (fun m h0 h1 => by simp [IntKind.wrap, IntKind.bits, IntKind.signed]; omega) 7 (by decide) (n : Int) (by omega) (by show (n : Int) < 18446744073709551616; omega)
  rw [show ((2 : Int) ^ 7 - 1) = 127 from rfl, show ((2 : Int) ^ 7) = 128 from rfl] at this
  rw [this]; omega

theorem wrap_u8_small (n : Nat) (h : n < 256) : IntKind.u8.wrap (n : Int) = (n : Int) := by rw [IntKind.wrap_u8]; omega

theorem or128_u8 (n : Nat) (h : n < 128) : bits .or .u8 (n : Int) 128 = ((n + 128 : Nat) : Int) := by
  have hx : 128 ||| n = 128 + n := by
    have := Nat.two_pow_add_eq_or_of_lt (i := 7) (b := n) (by simpa using h) 1
    simpa using this.symm
  rw [show (128 : Int) = ((128 : Nat) : Int) from rfl, (bits_nat .u8 8 (by decide) (fun m h0 h1 => by rw [IntKind.wrap_u8]; omega) n 128 (by omega) (by decide)).2]
  rw [Nat.or_comm, hx, Nat.add_comm]

theorem u8_toNat {n : Nat} (h : n < 256) : (UInt8.ofNat n).toNat = n := by simp; omega
end Go.Vc

namespace Go.Proofs.Ytdclhgcgpcddlaa
open Go Go.Vc Go.RowKit

theorem und30 : Try.prog.underlying 30 = some (.slice 5) := by kernel_rfl
theorem ty5 : ∃ z, tyOf Try.prog 5 = some z ∧ z.ls.length = 1 ∧ z.bytes = 1 := ⟨_, (by kernel_rfl : tyOf Try.prog 5 = some ⟨false, [.int .u8], .int .u8 0, 1⟩), rfl, rfl⟩

/-- append of bytes onto bytes of one's own. -/
theorem append_bytes {B : Nat} {w : World} {p q : Option Addr} {n c m d : Nat} {xs ys : List UInt8} (hown : Mine B 5 1 w p n c (vB xs)) (hat : At w q (vB ys)) (hm : ys.length = m) (hq : q = none → m = 0 ∧ d = 0)
    (hB : B ≤ w.heap.size) (hroom : n + m ≤ 211106232532992) :
    ∃ p' c' w', (Builtin.append_ #[30, 30] 30 #[.slice p n c, .slice q m d]).run Try.prog w = .ok (.slice p' (n + m) c') w' ∧ Mine B 5 1 w' p' (n + m) c' (vB (xs ++ ys)) ∧ w.grownBy w' (Value.slice p n c).ownBlock := by
  obtain ⟨z, hz, h1, hb⟩ := ty5
  rw [vB_append]
  exact append_own und30 hz h1 (by decide) hown hat (by rw [vB_length]; omega) hq vB_one hB (by rw [hb]; omega) (by simp [maxLen]; omega)

/-- append(b, x) where x has just been laid in a block of its own. -/
theorem append_byte {B : Nat} {w w1 : World} {p : Option Addr} {n c b : Nat} {xs : List UInt8} {x : Int} (y : UInt8) (hown : Mine B 5 1 w p n c (vB xs)) (hnew : New w (.cells #[.int .u8 x] 5) b w1) (hx : x = ((y.toNat : Nat) : Int))
    (hB : B ≤ w.heap.size) (hroom : n + 1 ≤ 211106232532992) :
    ∃ p' c' w', (Builtin.append_ #[30, 30] 30 #[.slice p n c, .slice (some ⟨b, 0, none⟩) 1 1]).run Try.prog w1 = .ok (.slice p' (n + 1) c') w' ∧ Mine B 5 1 w' p' (n + 1) c' (vB (xs ++ [y])) ∧ w1.grownBy w' (Value.slice p n c).ownBlock := by
  have hat : At w1 (some ⟨b, 0, none⟩) (vB [y]) := by have := hnew.at; rw [hx] at this; exact this
  have := hnew.ext.size
  exact append_bytes (d := 1) (hown.ext hnew.ext) hat rfl (fun e => by cases e) (by omega) hroom

theorem digits_ok (w : World) (n : Nat) (hn : n < 18446744073709551616) :
    Calls Try.prog 60 #[.int .u64 (n : Int)] w fun e w' => ∃ p c, e = .returned (.slice p (uvar n).length c) ∧ Mine w.heap.size 5 1 w' p (uvar n).length c (vB (uvar n)) ∧ Ext w w' := by
  have hl10 := uvar_len10 hn
  apply digits_vc
  unfold digits_T
  refine ⟨fun i p l c w' => ∃ (k : Nat) (pre : List UInt8), i = (k : Int) ∧ k ≤ n ∧ pre ++ uvar k = uvar n ∧ pre.length = l ∧ Mine w.heap.size 5 1 w' p l c (vB pre) ∧ Ext w w', fun i _ _ _ _ => i.toNat,
    ⟨n, [], rfl, Nat.le_refl _, rfl, rfl, Mine.nil _ _ _ _, .rfl⟩, ?_⟩
  rintro i p l c w' ⟨k, pre, rfl, hk, hpre, hl, hown, hext⟩
  have hkn : k < 18446744073709551616 := by omega
  have hlen : pre.length + (uvar k).length ≤ 10 := by have := congrArg List.length hpre; simp at this; omega
  rw [shr7_u64, and127_u64 k hkn, wrap_u8_small _ (by omega), or128_u8 _ (by omega)]
  have hB := hext.size
  refine ⟨fun hz b w1 hnew => ?_, fun hz b w1 hnew => ?_⟩
  · have hk0 : k < 128 := by omega
    obtain ⟨p', c', w2, hrun, hown2, hg⟩ := append_byte (UInt8.ofNat k) hown hnew (by rw [u8_toNat (by omega), Nat.mod_eq_of_lt hk0]) hB (by omega)
    have e : pre ++ [UInt8.ofNat k] = uvar n := by rw [← hpre, uvar_small hk0]
    have el : l + 1 = (uvar n).length := by rw [← e]; simp [hl]
    exact ⟨p', l + 1, c', w2, hrun, p', c', by rw [el], by rw [← el, ← e]; exact hown2, (hown.ext hnew.ext).below hg (hext.trans hnew.ext) (Nat.le_refl _) (Nat.le_trans hB hnew.ext.size)⟩
  · have hk0 : 128 ≤ k := by omega
    obtain ⟨p', c', w2, hrun, hown2, hg⟩ := append_byte (UInt8.ofNat (k % 128 + 128)) hown hnew (by rw [u8_toNat (by omega)]) hB (by omega)
    refine ⟨p', l + 1, c', w2, hrun, ⟨k / 128, pre ++ [UInt8.ofNat (k % 128 + 128)], rfl, by omega, ?_, by simp [hl], hown2, (hown.ext hnew.ext).below hg (hext.trans hnew.ext) (Nat.le_refl _) (Nat.le_trans hB hnew.ext.size)⟩, by simp only [Int.toNat_natCast]; omega⟩
    rw [← hpre, uvar_big hk0]; simp

theorem und3 : Try.prog.underlying 3 = some (.int .i64) := by kernel_rfl

theorem grow_nil (w : World) (n : Nat) (hn : n ≤ 211106232532992) :
    Calls Try.prog 76 #[.slice none 0 0, .int .i64 (n : Int)] w fun e w' => ∃ p c, e = .returned (.slice p 0 c) ∧ Mine w.heap.size 5 1 w' p 0 c [] ∧ Ext w w' := by
  apply grow_vc
  unfold grow_T
  have hz : IntKind.i64.wrap ((n : Int) - IntKind.i64.wrap ((0 : Nat) - (0 : Nat))) = (n : Int) := by
    rw [show IntKind.i64.wrap (((0 : Nat) : Int) - ((0 : Nat) : Int)) = 0 from by decide +kernel, IntKind.wrap_i64]; omega
  refine ⟨fun h => by omega, fun _ => ?_⟩
  rw [hz]
  refine ⟨fun h => ?_, fun h => ?_⟩
  · have h0 : 0 < n := by omega
    obtain ⟨z, hz5, h1, hb⟩ := ty5
    obtain ⟨c, w', hrun, hc, hmine, hext⟩ := append_zeros_nil (B := w.heap.size) (w := w) (ty := 30) und30 und3 hz5 h1 (Nat.le_refl _) h0 (by rw [hb]; omega) (by simp [maxLen]; omega)
    refine ⟨by omega, by omega, _, _, _, _, hrun, by omega, by omega, ?_⟩
    exact ⟨_, _, rfl, hmine, hext⟩
  · exact ⟨none, 0, rfl, Mine.nil _ _ _ _, .rfl⟩

theorem concat_ok (w : World) (p : Option Addr) (n c : Nat) (bs : List (List UInt8)) (hn : bs.length = n) (hm : n ≤ maxLen) (hp : Parts w p bs) (htot : bs.flatten.length ≤ 211106232532992) :
    Calls Try.prog 59 #[.slice p n c] w fun e w' => ∃ p' c', e = .returned (.slice p' bs.flatten.length c') ∧ Mine w.heap.size 5 1 w' p' bs.flatten.length c' (vB bs.flatten) ∧ Ext w w' := by
  have hm' : n ≤ 9223372036854775807 := by simpa [maxLen] using hm
  have upto : ∀ k, (bs.take k).flatten.length ≤ bs.flatten.length := by
    intro k
    have := congrArg List.length (congrArg List.flatten (List.take_append_drop k bs))
    rw [List.flatten_append, List.length_append] at this
    omega
  apply concat_vc
  unfold concat_T
  refine ⟨fun s i w' => ∃ k : Nat, i = (k : Int) ∧ k ≤ n ∧ w' = w ∧ s = (((bs.take k).flatten.length : Nat) : Int), fun _ i _ => n - i.toNat, ⟨0, rfl, Nat.zero_le _, rfl, by simp⟩, ?_⟩
  rintro s i w' ⟨k, rfl, hk, hw, rfl⟩
  subst hw
  have part : ∀ k, k < n → ∃ l b o q d, p = some ⟨b, o, none⟩ ∧ bs[k]? = some l ∧ w'.cell? ⟨b, o + k, none⟩ = some (.slice q l.length d) ∧ At w' q (vB l) ∧ (q = none → l = [] ∧ d = 0) := by
    intro k hk
    obtain ⟨l, hl⟩ : ∃ l, bs[k]? = some l := ⟨_, List.getElem?_eq_getElem (by omega)⟩
    rcases hp with hp | ⟨b, o, rfl, hp⟩
    · subst hp; simp at hl
    obtain ⟨q, d, hc, hq, _, hqn⟩ := hp k l hl
    exact ⟨l, b, o, q, d, rfl, hl, hc, hq, hqn⟩
  refine ⟨fun hlt => ?_, fun hge => ?_⟩
  · have hlt' : k < n := by omega
    obtain ⟨l, b, o, q, d, hpp, hl, hc, hq, hqn⟩ := part k hlt'
    have hf := take_succ_flat hl
    have hfl := congrArg List.length hf
    have hu := upto (k + 1)
    rw [List.length_append] at hfl
    refine ⟨b, o, hpp, by omega, by omega, q, l.length, d, by simpa using hc, ?_⟩
    have e : IntKind.i64.wrap ((((bs.take k).flatten.length : Nat) : Int) + ((l.length : Nat) : Int)) = (((bs.take (k + 1)).flatten.length : Nat) : Int) := by rw [IntKind.wrap_i64]; omega
    rw [e, i64_succ (by omega) (by omega)]
    exact ⟨fun h => by omega, fun _ => ⟨⟨k + 1, by simp, hlt', rfl, rfl⟩, by simp only [Int.toNat_natCast]; omega⟩⟩
  · have hk' : k = n := by omega
    subst hk'
    have htake : bs.take k = bs := List.take_of_length_le (by omega)
    rw [htake]
    refine (grow_nil w' bs.flatten.length htot).mono ?_
    rintro e w1 ⟨p1, c1, rfl, hmine, hbel⟩
    refine ⟨p1, 0, c1, rfl, ?_⟩
    refine ⟨fun p l c i w2 => ∃ j : Nat, i = (j : Int) ∧ j ≤ k ∧ l = (bs.take j).flatten.length ∧ Mine w'.heap.size 5 1 w2 p l c (vB (bs.take j).flatten) ∧ Ext w' w2, fun _ _ _ i _ => k - i.toNat,
      ⟨0, rfl, Nat.zero_le _, by simp, by simpa [vB] using hmine, hbel⟩, ?_⟩
    rintro p2 l2 c2 i w2 ⟨j, rfl, hj, rfl, hmine2, hbel2⟩
    refine ⟨fun hlt => ?_, fun hge2 => ?_⟩
    · have hlt' : j < k := by omega
      obtain ⟨l, b, o, q, d, hpp, hl, hc, hq, hqn⟩ := part j hlt'
      have hf := take_succ_flat hl
      have hfl := congrArg List.length hf
      have hu := upto (j + 1)
      rw [List.length_append] at hfl
      refine ⟨b, o, hpp, by omega, by omega, q, l.length, d, ?_, ?_⟩
      · simp only [Int.toNat_natCast]; exact cell_ext hc hbel2
      obtain ⟨p3, c3, w3, hrun, hmine3, hg⟩ := append_bytes (d := d) hmine2 (hq.ext hbel2) rfl (fun e => by obtain ⟨h1, h2⟩ := hqn e; subst h1; exact ⟨rfl, h2⟩) hbel2.size (by omega)
      refine ⟨p3, _, c3, w3, hrun, ?_, by simp only [i64_succ (n := (j : Int)) (by omega) (by omega)]; omega⟩
      rw [i64_succ (by omega) (by omega)]
      refine ⟨j + 1, by simp, hlt', hfl.symm, ?_, hmine2.below hg hbel2 (Nat.le_refl _) hbel2.size⟩
      rw [hf]; exact hmine3
    · have hj' : j = k := by omega
      subst hj'
      rw [htake] at hmine2 ⊢
      exact ⟨_, _, rfl, hmine2, hbel2⟩

theorem Parts.ext {w w' : World} {p : Option Addr} {bs : List (List UInt8)} (h : Parts w p bs) (e : Ext w w') : Parts w' p bs := by
  rcases h with h | ⟨b, o, hp, h⟩
  · exact .inl h
  · refine .inr ⟨b, o, hp, fun k l hl => ?_⟩
    obtain ⟨q, d, h1, h2, h3, h4⟩ := h k l hl
    exact ⟨q, d, cell_ext h1 e, h2.ext e, h3, h4⟩

/-- Slices laid in a new block. -/
theorem parts_new {w w' : World} {b : Nat} {t : TypeId} {cs : Array Value} {bs : List (List UInt8)} (hnew : New w (.cells cs t) b w')
    (h : ∀ (k : Nat) (l : List UInt8), bs[k]? = some l → ∃ (q : Option Addr) (d : Nat), cs[k]? = some (Value.slice q l.length d) ∧ At w q (vB l) ∧ l.length ≤ maxLen ∧ (q = none → l = [] ∧ d = 0)) :
    Parts w' (some ⟨b, 0, none⟩) bs := by
  refine .inr ⟨_, _, rfl, fun k l hl => ?_⟩
  obtain ⟨q, d, hc, hq, hm, hn⟩ := h k l hl
  refine ⟨q, d, ?_, hq.ext hnew.ext, hm, hn⟩
  rw [(Blk.new hnew).cell, Nat.zero_add]; exact hc
theorem parts_one {w w' : World} {b : Nat} {t : TypeId} {q : Option Addr} {n d : Nat} {l : List UInt8} (hnew : New w (.cells #[.slice q n d] t) b w') (hq : At w q (vB l)) (hn : l.length = n) (hm : n ≤ maxLen) (h0 : q = none → n = 0 ∧ d = 0) :
    Parts w' (some ⟨b, 0, none⟩) [l] := parts_new hnew (by
  intro k x hx
  match k, hx with
  | 0, hx => cases hx; exact ⟨q, d, by simp [hn], hq, by omega, fun e => by obtain ⟨h1, h2⟩ := h0 e; exact ⟨List.eq_nil_of_length_eq_zero (by omega), h2⟩⟩
  | k + 1, hx => simp at hx)

theorem number_ok (w : World) (p : Option Addr) (n c : Nat) (l : List UInt8) (m : Nat) (hn : l.length = n) (hp : At w p (vB l)) (hnil : p = none → n = 0 ∧ c = 0) (hroom : n + 10 ≤ 211106232532992) (hm : m < 18446744073709551616) :
    Calls Try.prog 35 #[.slice p n c, .int .u64 (m : Int)] w fun e w' => ∃ p' c', e = .returned (.slice p' (l ++ uvar m).length c') ∧ Mine w.heap.size 5 1 w' p' (l ++ uvar m).length c' (vB (l ++ uvar m)) ∧ Ext w w' := by
  apply wireNumber_vc
  unfold wireNumber_T
  refine (digits_ok w m hm).mono ?_
  rintro e w2 ⟨p2, c2, rfl, hmine, hbel⟩
  have hlen := uvar_len10 hm
  refine ⟨p2, _, c2, rfl, fun b w3 hnew => ?_⟩
  have hparts : Parts w3 (some ⟨b, 0, none⟩) [l, uvar m] := parts_new hnew (by
    intro k x hx
    match k, hx with
    | 0, hx => cases hx; exact ⟨p, c, by simp [hn], hp.ext hbel, by simp [maxLen]; omega, fun e => by obtain ⟨h1, h2⟩ := hnil e; exact ⟨List.eq_nil_of_length_eq_zero (by omega), h2⟩⟩
    | 1, hx =>
      cases hx
      refine ⟨p2, c2, by simp, hmine.at, by simp [maxLen]; omega, fun e => ?_⟩
      obtain ⟨h1, h2⟩ := hmine.isNil e
      exact ⟨List.eq_nil_of_length_eq_zero h1, h2⟩
    | k + 2, hx => simp at hx)
  refine (concat_ok _ _ 2 2 [l, uvar m] rfl (by simp [maxLen]) hparts (by simp; omega)).mono ?_
  rintro e w4 ⟨p3, c3, rfl, hmine3, hbel3⟩
  have e1 : [l, uvar m].flatten = l ++ uvar m := by simp
  rw [e1] at hmine3 ⊢
  exact ⟨p3, _, c3, rfl, p3, c3, rfl, hmine3.mono (hbel.trans hnew.ext).size, (hbel.trans hnew.ext).trans hbel3⟩

theorem shown_bytes : uvar 300 = [172, 2] := by rw [uvar_big (by decide), uvar_small (by decide)]; decide
theorem shown_sum : crcOf [49, 50, 51, 52, 53, 54, 55, 56, 57] = 3808858755 := by decide +kernel

theorem shown2_ok (w : World) : Calls Try.prog 32 #[] w fun e w' => e = .returned (.bool true) ∧ Ext w w' := by
  apply shown2_vc
  unfold shown2_T
  refine (number_ok w none 0 0 [] 300 rfl (At.nil _ _) (fun _ => ⟨rfl, rfl⟩) (by decide) (by decide)).mono ?_
  rintro e w2 ⟨p2, c2, rfl, hmine, hbel⟩
  rw [List.nil_append, shown_bytes] at hmine ⊢
  refine ⟨p2, _, c2, rfl, [172, 2], hmine.at.bytes, fun _ b w3 hnew => ?_, fun h => absurd rfl h⟩
  refine ⟨b, 0, _, _, _, rfl, hnew.obj, fun b2 w4 hnew2 => ?_⟩
  have hat : At (w3.freeze ⟨b, 9, none⟩ 1) (some ⟨b, 0, none⟩) (vB [49, 50, 51, 52, 53, 54, 55, 56, 57]) := At.freeze hnew.at _ _
  have hb0 : Ext w (w3.freeze ⟨b, 9, none⟩ 1) := by
    have h1 := hbel.trans hnew.ext
    exact (h1.below).but (freeze_but w3 ⟨b, 9, none⟩ 1) (by have := hnew.1; have := hbel.size; show w.heap.size ≤ b; omega) h1.size
  have hparts := parts_one hnew2 hat rfl (by simp [maxLen]) (fun e => by cases e)
  refine (wireSum_ok _ _ 1 1 _ rfl (by simp [maxLen]) hparts).mono ?_
  rintro e w5 ⟨rfl, h5⟩
  refine ⟨_, rfl, ?_, (hb0.trans hnew2.ext).trans h5⟩
  rw [show [[49, 50, 51, 52, 53, 54, 55, 56, 57]].flatten = ([49, 50, 51, 52, 53, 54, 55, 56, 57] : List UInt8) from rfl, shown_sum]
  rfl

end Go.Proofs.Ytdclhgcgpcddlaa
