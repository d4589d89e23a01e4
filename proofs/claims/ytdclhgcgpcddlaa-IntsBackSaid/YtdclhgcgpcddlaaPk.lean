/- The contracts of package pack and of its document's answer: sizes, widths, places. -/
import Derived.Test.YtdclhgcgpcddlaaV1
import Derived.Test.YtdclhgcgpcddlaaBits
import Derived.Test.YtdclhgcgpcddlaaFrame
namespace Go.Proofs.Ytdclhgcgpcddlaa
open Go Go.Vc Go.RowKit

/-- What Size answers. -/
def sizeV (n w : Int) : Value := if (0 ≤ n ∧ n ≤ 4096) ∧ 0 ≤ w ∧ w ≤ 64 then .tuple #[.int .i64 ((n * w + 7) / 8), .int .i64 0] else .tuple #[.int .i64 0, .int .i64 2]
theorem size_arith {n w : Int} (h1 : 0 ≤ n ∧ n ≤ 4096) (h2 : 0 ≤ w ∧ w ≤ 64) : quoI .i64 (IntKind.i64.wrap (IntKind.i64.wrap (n * w) + 7)) 8 = (n * w + 7) / 8 := by
  obtain ⟨a, rfl⟩ := Int.eq_ofNat_of_zero_le h1.1
  obtain ⟨b, rfl⟩ := Int.eq_ofNat_of_zero_le h2.1
  have h : a * b ≤ 4096 * 64 := Nat.mul_le_mul (by omega) (by omega)
  have e : (a : Int) * (b : Int) = ((a * b : Nat) : Int) := by simp
  rw [e]
  rw [i64_nat (by omega), show ((a * b : Nat) : Int) + 7 = ((a * b + 7 : Nat) : Int) by omega, i64_nat (by omega)]
  have := quo_i64 (a := a * b + 7) 8 (by omega)
  rw [show (8 : Int) = ((8 : Nat) : Int) from rfl, this]
  omega

theorem size_ok (w : World) (n w_ : Int) : Calls Try.prog 23 #[.int .i64 n, .int .i64 w_] w fun e w' => e = .returned (sizeV n w_) ∧ Ext w w' := by
  apply size_vc
  unfold size_T sizeV
  refine ⟨fun h => ⟨by rw [if_neg (by omega)], .rfl⟩, fun h => ⟨?_, .rfl⟩⟩
  rw [if_pos (by omega), size_arith (by omega) (by omega)]

theorem rsize_ok (w : World) (n w_ : Int) : Calls Try.prog 24 #[.int .i64 n, .int .i64 w_] w fun e w' => e = .returned (sizeV n w_) ∧ Ext w w' := by
  apply rsize_vc
  unfold rsize_T sizeV
  apply isWidth_vc
  unfold isWidth_T
  refine ⟨_, rfl, fun h => ⟨?_, .rfl⟩, fun h => ⟨?_, .rfl⟩⟩
  · rw [if_neg]
    rintro ⟨h1, h2⟩
    simp only [Bool.and_eq_false_iff, decide_eq_false_iff_not] at h
    omega
  · simp only [Bool.and_eq_true, decide_eq_true_eq] at h
    rw [if_pos (by omega), size_arith (by omega) (by omega)]

/-! ### Widths -/
theorem lenTab (k : Nat) (h : k < 256) : bAt (ByteArray.mk #[0, 1, 2, 2, 3, 3, 3, 3, 4, 4, 4, 4, 4, 4, 4, 4, 5, 5, 5, 5, 5, 5, 5, 5, 5, 5, 5, 5, 5, 5, 5, 5, 6, 6, 6, 6, 6, 6, 6, 6, 6, 6, 6, 6, 6, 6, 6, 6, 6, 6, 6, 6, 6, 6, 6, 6, 6, 6, 6, 6, 6, 6, 6, 6, 7, 7, 7, 7, 7, 7, 7, 7, 7, 7, 7, 7, 7, 7, 7, 7, 7, 7, 7, 7, 7, 7, 7, 7, 7, 7, 7, 7, 7, 7, 7, 7, 7, 7, 7, 7, 7, 7, 7, 7, 7, 7, 7, 7, 7, 7, 7, 7, 7, 7, 7, 7, 7, 7, 7, 7, 7, 7, 7, 7, 7, 7, 7, 7, 8, 8, 8, 8, 8, 8, 8, 8, 8, 8, 8, 8, 8, 8, 8, 8, 8, 8, 8, 8, 8, 8, 8, 8, 8, 8, 8, 8, 8, 8, 8, 8, 8, 8, 8, 8, 8, 8, 8, 8, 8, 8, 8, 8, 8, 8, 8, 8, 8, 8, 8, 8, 8, 8, 8, 8, 8, 8, 8, 8, 8, 8, 8, 8, 8, 8, 8, 8, 8, 8, 8, 8, 8, 8, 8, 8, 8, 8, 8, 8, 8, 8, 8, 8, 8, 8, 8, 8, 8, 8, 8, 8, 8, 8, 8, 8, 8, 8, 8, 8, 8, 8, 8, 8, 8, 8, 8, 8, 8, 8, 8, 8, 8, 8, 8, 8, 8, 8, 8, 8, 8, 8, 8, 8, 8, 8, 8, 8]) k = ((bl k : Nat) : Int) := by
  have : ∀ k : Fin 256, bAt (ByteArray.mk #[0, 1, 2, 2, 3, 3, 3, 3, 4, 4, 4, 4, 4, 4, 4, 4, 5, 5, 5, 5, 5, 5, 5, 5, 5, 5, 5, 5, 5, 5, 5, 5, 6, 6, 6, 6, 6, 6, 6, 6, 6, 6, 6, 6, 6, 6, 6, 6, 6, 6, 6, 6, 6, 6, 6, 6, 6, 6, 6, 6, 6, 6, 6, 6, 7, 7, 7, 7, 7, 7, 7, 7, 7, 7, 7, 7, 7, 7, 7, 7, 7, 7, 7, 7, 7, 7, 7, 7, 7, 7, 7, 7, 7, 7, 7, 7, 7, 7, 7, 7, 7, 7, 7, 7, 7, 7, 7, 7, 7, 7, 7, 7, 7, 7, 7, 7, 7, 7, 7, 7, 7, 7, 7, 7, 7, 7, 7, 7, 8, 8, 8, 8, 8, 8, 8, 8, 8, 8, 8, 8, 8, 8, 8, 8, 8, 8, 8, 8, 8, 8, 8, 8, 8, 8, 8, 8, 8, 8, 8, 8, 8, 8, 8, 8, 8, 8, 8, 8, 8, 8, 8, 8, 8, 8, 8, 8, 8, 8, 8, 8, 8, 8, 8, 8, 8, 8, 8, 8, 8, 8, 8, 8, 8, 8, 8, 8, 8, 8, 8, 8, 8, 8, 8, 8, 8, 8, 8, 8, 8, 8, 8, 8, 8, 8, 8, 8, 8, 8, 8, 8, 8, 8, 8, 8, 8, 8, 8, 8, 8, 8, 8, 8, 8, 8, 8, 8, 8, 8, 8, 8, 8, 8, 8, 8, 8, 8, 8, 8, 8, 8, 8, 8, 8, 8, 8, 8]) k.val = ((bl k.val : Nat) : Int) := by decide +kernel
  exact this ⟨k, h⟩
theorem len_leaf {v u c : Nat} {C : Int} (hC : C = ((c : Nat) : Int)) (hu : u < 256) (hc : c ≤ 56) (hb : bl v = c + bl u) :
    IntKind.i64.wrap (C + IntKind.i64.wrap (bAt (ByteArray.mk #[0, 1, 2, 2, 3, 3, 3, 3, 4, 4, 4, 4, 4, 4, 4, 4, 5, 5, 5, 5, 5, 5, 5, 5, 5, 5, 5, 5, 5, 5, 5, 5, 6, 6, 6, 6, 6, 6, 6, 6, 6, 6, 6, 6, 6, 6, 6, 6, 6, 6, 6, 6, 6, 6, 6, 6, 6, 6, 6, 6, 6, 6, 6, 6, 7, 7, 7, 7, 7, 7, 7, 7, 7, 7, 7, 7, 7, 7, 7, 7, 7, 7, 7, 7, 7, 7, 7, 7, 7, 7, 7, 7, 7, 7, 7, 7, 7, 7, 7, 7, 7, 7, 7, 7, 7, 7, 7, 7, 7, 7, 7, 7, 7, 7, 7, 7, 7, 7, 7, 7, 7, 7, 7, 7, 7, 7, 7, 7, 8, 8, 8, 8, 8, 8, 8, 8, 8, 8, 8, 8, 8, 8, 8, 8, 8, 8, 8, 8, 8, 8, 8, 8, 8, 8, 8, 8, 8, 8, 8, 8, 8, 8, 8, 8, 8, 8, 8, 8, 8, 8, 8, 8, 8, 8, 8, 8, 8, 8, 8, 8, 8, 8, 8, 8, 8, 8, 8, 8, 8, 8, 8, 8, 8, 8, 8, 8, 8, 8, 8, 8, 8, 8, 8, 8, 8, 8, 8, 8, 8, 8, 8, 8, 8, 8, 8, 8, 8, 8, 8, 8, 8, 8, 8, 8, 8, 8, 8, 8, 8, 8, 8, 8, 8, 8, 8, 8, 8, 8, 8, 8, 8, 8, 8, 8, 8, 8, 8, 8, 8, 8, 8, 8, 8, 8, 8, 8]) (IntKind.u8.wrap (u : Int)).toNat)) = ((bl v : Nat) : Int) := by
  have h8 : bl u ≤ 8 := bl_le.2 hu
  rw [u8_nat hu, Int.toNat_natCast, lenTab u hu, hC, i64_nat (by omega), hb, show ((c : Nat) : Int) + ((bl u : Nat) : Int) = ((c + bl u : Nat) : Int) by omega, i64_nat (by omega)]

set_option maxRecDepth 100000 in
theorem len64_ok (w : World) (v : Nat) (hv : v < 18446744073709551616) : Calls Try.prog 56 #[.int .u64 (v : Int)] w fun e w' => e = .returned (.int .i64 ((bl v : Nat) : Int)) ∧ Ext w w' := by
  apply len64_vc
  unfold len64_T
  have s32 : ∀ x : Nat, shrI .u64 (x : Int) 32 = ((x / 2 ^ 32 : Nat) : Int) := fun x => shr_nat .u64 x 32 (by decide)
  have s16 : ∀ x : Nat, shrI .u64 (x : Int) 16 = ((x / 2 ^ 16 : Nat) : Int) := fun x => shr_nat .u64 x 16 (by decide)
  have s8 : ∀ x : Nat, shrI .u64 (x : Int) 8 = ((x / 2 ^ 8 : Nat) : Int) := fun x => shr_nat .u64 x 8 (by decide)
  simp only [s32, s16, s8]
  refine ⟨fun h1 => ?_, fun h1 => ?_⟩
  · have b32 : bl v = 32 + bl (v / 2 ^ 32) := bl_shift (by omega)
    refine ⟨fun h2 => ?_, fun h2 => ?_⟩
    · have b16 : bl (v / 2 ^ 32) = 16 + bl (v / 2 ^ 32 / 2 ^ 16) := bl_shift (by omega)
      refine ⟨fun h3 => ?_, fun h3 => ?_⟩
      · have b8 : bl (v / 2 ^ 32 / 2 ^ 16) = 8 + bl (v / 2 ^ 32 / 2 ^ 16 / 2 ^ 8) := bl_shift (by omega)
        have hu : v / 2 ^ 32 / 2 ^ 16 / 2 ^ 8 < 256 := by omega
        refine ⟨by rw [u8_nat hu]; omega, by rw [u8_nat hu]; omega, congrArg (fun x => Ending.returned (Value.int .i64 x)) (len_leaf (c := 56) rfl hu (by decide) (by omega)), .rfl⟩
      · have hu : v / 2 ^ 32 / 2 ^ 16 < 256 := by omega
        refine ⟨by rw [u8_nat hu]; omega, by rw [u8_nat hu]; omega, congrArg (fun x => Ending.returned (Value.int .i64 x)) (len_leaf (c := 48) rfl hu (by decide) (by omega)), .rfl⟩
    · refine ⟨fun h3 => ?_, fun h3 => ?_⟩
      · have b8 : bl (v / 2 ^ 32) = 8 + bl (v / 2 ^ 32 / 2 ^ 8) := bl_shift (by omega)
        have hu : v / 2 ^ 32 / 2 ^ 8 < 256 := by omega
        refine ⟨by rw [u8_nat hu]; omega, by rw [u8_nat hu]; omega, congrArg (fun x => Ending.returned (Value.int .i64 x)) (len_leaf (c := 40) rfl hu (by decide) (by omega)), .rfl⟩
      · have hu : v / 2 ^ 32 < 256 := by omega
        refine ⟨by rw [u8_nat hu]; omega, by rw [u8_nat hu]; omega, congrArg (fun x => Ending.returned (Value.int .i64 x)) (len_leaf (c := 32) rfl hu (by decide) (by omega)), .rfl⟩
  · refine ⟨fun h2 => ?_, fun h2 => ?_⟩
    · have b16 : bl v = 16 + bl (v / 2 ^ 16) := bl_shift (by omega)
      refine ⟨fun h3 => ?_, fun h3 => ?_⟩
      · have b8 : bl (v / 2 ^ 16) = 8 + bl (v / 2 ^ 16 / 2 ^ 8) := bl_shift (by omega)
        have hu : v / 2 ^ 16 / 2 ^ 8 < 256 := by omega
        refine ⟨by rw [u8_nat hu]; omega, by rw [u8_nat hu]; omega, congrArg (fun x => Ending.returned (Value.int .i64 x)) (len_leaf (c := 24) rfl hu (by decide) (by omega)), .rfl⟩
      · have hu : v / 2 ^ 16 < 256 := by omega
        refine ⟨by rw [u8_nat hu]; omega, by rw [u8_nat hu]; omega, congrArg (fun x => Ending.returned (Value.int .i64 x)) (len_leaf (c := 16) rfl hu (by decide) (by omega)), .rfl⟩
    · refine ⟨fun h3 => ?_, fun h3 => ?_⟩
      · have b8 : bl v = 8 + bl (v / 2 ^ 8) := bl_shift (by omega)
        have hu : v / 2 ^ 8 < 256 := by omega
        refine ⟨by rw [u8_nat hu]; omega, by rw [u8_nat hu]; omega, congrArg (fun x => Ending.returned (Value.int .i64 x)) (len_leaf (c := 8) rfl hu (by decide) (by omega)), .rfl⟩
      · have hu : v < 256 := by omega
        refine ⟨by rw [u8_nat hu]; omega, by rw [u8_nat hu]; omega, congrArg (fun x => Ending.returned (Value.int .i64 x)) (len_leaf (c := 0) rfl hu (by decide) (by omega)), .rfl⟩

theorem orL_fit {l : List Nat} (h : ∀ x ∈ l, x < 18446744073709551616) : orL l < 18446744073709551616 := (orL_lt (k := 64) l).2 h

theorem width_ok (w : World) {p : Option Addr} {n c : Nat} {l : List Nat} (h : Us w p n c l) : Calls Try.prog 25 #[.slice p n c] w fun e w' => e = .returned (.int .i64 ((widthN l : Nat) : Int)) ∧ Ext w w' := by
  apply width_vc
  unfold width_T
  have hlen := h.len
  have hle : n ≤ 9223372036854775807 := h.le
  refine ⟨fun a i w' => ∃ k : Nat, i = (k : Int) ∧ k ≤ n ∧ a = ((orL (l.take k) : Nat) : Int) ∧ Ext w w', fun _ i _ => n - i.toNat, ⟨0, rfl, Nat.zero_le _, rfl, .rfl⟩, ?_⟩
  rintro a i w' ⟨k, rfl, hk, rfl, hx⟩
  have hfit : ∀ k, orL (l.take k) < 18446744073709551616 := fun k => orL_fit fun x hx => h.lt x (List.mem_of_mem_take hx)
  refine ⟨fun hlt => ?_, fun hge => ?_⟩
  · obtain ⟨x, hxk⟩ : ∃ x, l[k]? = some x := ⟨_, List.getElem?_eq_getElem (by omega)⟩
    obtain ⟨b, o, hp, hc⟩ := (h.ext hx).lies.getN hxk
    refine ⟨b, o, hp, by omega, by omega, _, by rw [Int.toNat_natCast]; exact hc, ?_⟩
    rw [or_u64 (hfit k) (h.lt x (List.mem_of_getElem? hxk)), ← orL_snoc, ← take_snoc hxk, i64_next (by omega)]
    exact ⟨⟨k + 1, rfl, by omega, rfl, hx⟩, by simp only [Int.toNat_natCast]; omega⟩
  · have : k = n := by omega
    subst this
    have hf := hfit k
    rw [List.take_of_length_le (by omega)] at hf ⊢
    refine (len64_ok w' _ hf).mono ?_
    rintro e w13 ⟨rfl, e13⟩
    exact ⟨_, rfl, rfl, hx.trans e13⟩

theorem of_ok (w : World) (x : Nat) (hx : x < 18446744073709551616) (w_ : Int) (hw : w_ ≤ 9223372036854775807) : Calls Try.prog 57 #[.int .u64 (x : Int), .int .i64 w_] w fun e w' => e = .returned (.bool (decide (x < 2 ^ w_.toNat))) ∧ Ext w w' := by
  apply of_vc
  unfold of_T
  refine ⟨fun a i w' => ∃ k : Nat, i = (k : Int) ∧ k ≤ w_.toNat ∧ a = ((x / 2 ^ k : Nat) : Int) ∧ Ext w w', fun _ i _ => w_.toNat - i.toNat, ⟨0, rfl, Nat.zero_le _, by simp, .rfl⟩, ?_⟩
  rintro a i w' ⟨k, rfl, hk, rfl, he⟩
  refine ⟨fun hlt => ?_, fun hge => ⟨?_, he⟩⟩
  · have hle : x / 2 ^ k ≤ x := Nat.div_le_self _ _
    rw [show (2 : Int) = ((2 : Nat) : Int) from rfl, quo_u64 2 (by omega), i64_next (by omega)]
    exact ⟨⟨k + 1, rfl, by omega, by rw [Nat.div_div_eq_div_mul, Nat.pow_succ], he⟩, by simp only [Int.toNat_natCast]; omega⟩
  · have : k = w_.toNat := by omega
    subst this
    have e : decide (((x / 2 ^ w_.toNat : Nat) : Int) = 0) = decide (x < 2 ^ w_.toNat) := by
      rw [decide_eq_decide, show ((((x / 2 ^ w_.toNat : Nat) : Int) = 0) ↔ x / 2 ^ w_.toNat = 0) by omega, Nat.div_eq_zero_iff_lt (Nat.two_pow_pos _)]
    rw [e]

theorem rwidth_ok (w : World) {p : Option Addr} {n c : Nat} {l : List Nat} (h : Us w p n c l) : Calls Try.prog 26 #[.slice p n c] w fun e w' => e = .returned (.int .i64 ((widthN l : Nat) : Int)) ∧ Ext w w' := by
  apply rwidth_vc
  unfold rwidth_T
  have hlen := h.len
  have hle : n ≤ 9223372036854775807 := h.le
  have h64 : ∀ k, widthN (l.take k) ≤ 64 := fun k => widthN_le.2 fun x hx => h.lt x (List.mem_of_mem_take hx)
  refine ⟨fun a i w' => ∃ k : Nat, i = (k : Int) ∧ k ≤ n ∧ a = ((widthN (l.take k) : Nat) : Int) ∧ Ext w w', fun _ i _ => n - i.toNat, ⟨0, rfl, Nat.zero_le _, rfl, .rfl⟩, ?_⟩
  rintro a i w' ⟨k, rfl, hk, rfl, hx⟩
  have hk64 := h64 k
  refine ⟨fun hlt => ?_, fun hge => ?_⟩
  · obtain ⟨x, hxk⟩ : ∃ x, l[k]? = some x := ⟨_, List.getElem?_eq_getElem (by omega)⟩
    have hx64 := h.lt x (List.mem_of_getElem? hxk)
    have hnext : ∀ m, widthN (l.take (k + 1)) ≤ m ↔ widthN (l.take k) ≤ m ∧ x < 2 ^ m := fun m => by
      rw [widthN_le, widthN_le, take_snoc hxk]
      constructor
      · exact fun h => ⟨fun y hy => h y (by simp [hy]), h x (by simp)⟩
      · rintro ⟨h1, h2⟩ y hy
        rcases List.mem_append.1 hy with hy | hy
        · exact h1 y hy
        · simp at hy; subst hy; exact h2
    obtain ⟨b, o, hp, hc⟩ := (h.ext hx).lies.getN hxk
    refine ⟨b, o, hp, by omega, by omega, _, by rw [Int.toNat_natCast]; exact hc, (of_ok w' x hx64 _ (by omega)).mono ?_⟩
    rintro e w12 ⟨rfl, e12⟩
    refine ⟨_, rfl, fun v b w'' => ∃ m : Nat, v = (m : Int) ∧ b = decide (x < 2 ^ m) ∧ widthN (l.take k) ≤ m ∧ m ≤ widthN (l.take (k + 1)) ∧ Ext w w'', fun v b _ => widthN (l.take (k + 1)) - v.toNat,
      ⟨widthN (l.take k), rfl, by rw [Int.toNat_natCast], Nat.le_refl _, ((hnext _).1 (Nat.le_refl _)).1, hx.trans e12⟩, ?_⟩
    rintro v b17 w18 ⟨m, rfl, rfl, hm1, hm2, hx18⟩
    have hm64 : m ≤ 64 := Nat.le_trans hm2 (h64 (k + 1))
    refine ⟨fun hb => ?_, fun hb => ?_⟩
    · have hb' : ¬ x < 2 ^ m := by simpa using hb
      have hlt2 : m < widthN (l.take (k + 1)) := Nat.lt_of_not_le fun hle => hb' ((hnext m).1 hle).2
      obtain ⟨b, o, hp, hc⟩ := (h.ext hx18).lies.getN hxk
      rw [i64_next (by omega)]
      refine ⟨b, o, hp, by omega, by omega, _, by rw [Int.toNat_natCast]; exact hc, (of_ok w18 x hx64 _ (by omega)).mono ?_⟩
      rintro e w25 ⟨rfl, e25⟩
      exact ⟨_, rfl, ⟨m + 1, rfl, by rw [Int.toNat_natCast], by omega, by omega, hx18.trans e25⟩, by simp only [Int.toNat_natCast]; omega⟩
    · have hb' : x < 2 ^ m := by simpa using hb
      have : m = widthN (l.take (k + 1)) := Nat.le_antisymm hm2 ((hnext m).2 ⟨hm1, hb'⟩)
      rw [i64_next (by omega)]
      exact ⟨⟨k + 1, rfl, by omega, by rw [this], hx18⟩, by simp only [Int.toNat_natCast]; omega⟩
  · have : k = n := by omega
    subst this
    rw [List.take_of_length_le (by omega)]
    exact ⟨rfl, hx⟩

/-! ### Places -/
theorem places_ok (w : World) (n w_ : Int) : Calls Try.prog 58 #[.int .i64 n, .int .i64 w_] w fun e w' => ∃ b1 b4, e = .returned (.func (.func 75) #[] #[.pointer (some ⟨b1, 0, none⟩), .pointer (some ⟨b4, 0, none⟩)]) ∧
    ∀ fs ms w0, Hold w0 w fs ms → Hold w0 w' ((b4, .cells #[.int .i64 w_] 3) :: (b1, .cells #[.int .i64 n] 3) :: fs) ms := by
  apply places_vc
  unfold places_T
  intro b1 w2 h1 b4 w5 h4
  exact ⟨b1, b4, rfl, fun fs ms w0 h => (h.new h1).new h4⟩

/-- The rounds over all places: what holds of the world before each round holds at the end. -/
theorem rounds_ok {l b1 b4 : Nat} {n w_ : Nat} (hb : n * w_ < 9223372036854775808) (Inv : Nat → World → Prop) (w : World) (h0 : Inv 0 w)
    (hcell : ∀ k W, Inv k W → W.cell? ⟨b1, 0, none⟩ = some (.int .i64 (n : Int)) ∧ W.cell? ⟨b4, 0, none⟩ = some (.int .i64 (w_ : Int)))
    (hext : ∀ k W W', Inv k W → Drew W W' → Inv k W')
    (hy : ∀ k W (R : Bool → World → Prop), k < n * w_ → Inv k W → (∀ W', Inv (k + 1) W' → R true W') → Yield Try.prog l #[.int .i64 ((k / w_ : Nat) : Int), .int .i64 ((k % w_ : Nat) : Int)] W R) :
    Calls Try.prog 75 #[.func (.yield l) #[] #[], .pointer (some ⟨b1, 0, none⟩), .pointer (some ⟨b4, 0, none⟩)] w fun e w' => e = .returned (.tuple #[]) ∧ Inv (n * w_) w' := by
  apply places1_vc
  unfold places1_T
  refine ⟨fun i w' => ∃ k : Nat, i = (k : Int) ∧ k ≤ n * w_ ∧ Inv k w', fun i _ => n * w_ - i.toNat, ⟨0, rfl, Nat.zero_le _, h0⟩, ?_⟩
  rintro i w' ⟨k, rfl, hk, hI⟩
  have em : IntKind.i64.wrap ((n : Int) * (w_ : Int)) = ((n * w_ : Nat) : Int) := by rw [show (n : Int) * (w_ : Int) = ((n * w_ : Nat) : Int) by simp, i64_nat hb]
  refine ⟨_, (hcell k w' hI).1, _, (hcell k w' hI).2, fun hlt w9 hd => ?_, fun hge => ?_⟩
  · rw [em] at hlt
    have hI9 := hext k w' w9 hI hd
    have hw0 : w_ ≠ 0 := by rintro rfl; simp at hlt; omega
    refine ⟨_, (hcell k w9 hI9).2, by omega, _, (hcell k w9 hI9).2, by omega, ?_⟩
    rw [quo_i64 w_ (by omega), rem_nat]
    refine hy k w9 _ (by omega) hI9 fun W' hI' => ⟨fun h => Bool.noConfusion h, fun _ => ?_⟩
    rw [i64_next (by omega)]
    exact ⟨⟨k + 1, rfl, by omega, hI'⟩, by simp only [Int.toNat_natCast]; omega⟩
  · rw [em] at hge
    have : k = n * w_ := by omega
    subst this
    exact ⟨rfl, hI⟩

end Go.Proofs.Ytdclhgcgpcddlaa
