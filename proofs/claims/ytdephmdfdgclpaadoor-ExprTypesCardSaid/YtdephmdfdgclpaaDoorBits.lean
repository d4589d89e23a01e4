/- Numbers as digits of 2^s, and how one bit more turns them: plain Lean. -/
import Derived.Test.YtdephmdfdgclpaaDoorArith
namespace Go.Vc
open Go Go.RowKit

/-- The n digits of N, of s bits each, the least one first. -/
def digits (s n N : Nat) : List Nat := (List.range n).map fun i => N / 2 ^ (s * i) % 2 ^ s
/-- The number that digits of s bits are. -/
def value (s : Nat) : List Nat → Nat
  | [] => 0
  | x :: l => x + 2 ^ s * value s l
/-- Numbers as values. -/
def vN (k : IntKind) (l : List Nat) : List Value := l.map fun (x : Nat) => .int k (x : Int)

theorem digits_length (s n N : Nat) : (digits s n N).length = n := by simp [digits]
theorem digits_get {s n N i : Nat} (h : i < n) : (digits s n N)[i]? = some (N / 2 ^ (s * i) % 2 ^ s) := by simp [digits, h]
theorem digits_lt {s n N : Nat} : ∀ x ∈ digits s n N, x < 2 ^ s := by
  intro x hx
  obtain ⟨i, _, rfl⟩ := List.mem_map.1 hx
  exact Nat.mod_lt _ (Nat.two_pow_pos s)
theorem value_lt {s : Nat} : ∀ {l : List Nat}, (∀ x ∈ l, x < 2 ^ s) → value s l < 2 ^ (s * l.length)
  | [], _ => by simp [value]
  | x :: l, h => by
    have h1 := h x (by simp)
    have h2 := value_lt (l := l) fun y hy => h y (by simp [hy])
    simp only [value, List.length_cons, Nat.mul_succ, Nat.pow_add]
    have h3 : value s l + 1 ≤ 2 ^ (s * l.length) := h2
    have h4 := Nat.mul_le_mul_left (2 ^ s) h3
    rw [Nat.mul_add, Nat.mul_one] at h4
    rw [Nat.mul_comm (2 ^ (s * l.length))]
    omega
theorem digits_succ (s n N : Nat) : digits s (n + 1) N = N % 2 ^ s :: digits s n (N / 2 ^ s) := by
  unfold digits
  rw [List.range_succ_eq_map]
  simp only [List.map_cons, List.map_map, Nat.mul_zero, Nat.pow_zero, Nat.div_one, List.cons.injEq, true_and]
  refine List.map_congr_left fun i _ => ?_
  simp only [Function.comp, Nat.mul_succ]
  rw [Nat.div_div_eq_div_mul, ← Nat.pow_add, Nat.add_comm s]
theorem digits_value {s : Nat} : ∀ {l : List Nat}, (∀ x ∈ l, x < 2 ^ s) → digits s l.length (value s l) = l
  | [], _ => by simp [digits]
  | x :: l, h => by
    have h1 := h x (by simp)
    rw [List.length_cons, digits_succ, value, Nat.add_mul_mod_self_left, Nat.mod_eq_of_lt h1, Nat.add_mul_div_left _ _ (Nat.two_pow_pos s), Nat.div_eq_of_lt h1, Nat.zero_add,
      digits_value fun y hy => h y (by simp [hy])]
theorem value_digits (s : Nat) : ∀ (n N : Nat), value s (digits s n N) = N % 2 ^ (s * n)
  | 0, N => by simp [digits, value, Nat.mod_one]
  | n + 1, N => by
    rw [digits_succ, value, value_digits s n, Nat.mul_succ, Nat.add_comm (s * n), Nat.pow_add, Nat.mod_mul]
theorem digits_mod (s n N : Nat) : digits s n (N % 2 ^ (s * n)) = digits s n N := by
  have h := digits_value (s := s) (l := digits s n N) digits_lt
  rw [digits_length, value_digits] at h
  exact h
theorem digits_inj {s n M N : Nat} (hM : M < 2 ^ (s * n)) (hN : N < 2 ^ (s * n)) (h : digits s n M = digits s n N) : M = N := by
  have := congrArg (value s) h
  rwa [value_digits, value_digits, Nat.mod_eq_of_lt hM, Nat.mod_eq_of_lt hN] at this
theorem value_inj {s : Nat} {a b : List Nat} (ha : ∀ x ∈ a, x < 2 ^ s) (hb : ∀ x ∈ b, x < 2 ^ s) (hl : a.length = b.length) (h : value s a = value s b) : a = b := by
  rw [← digits_value ha, ← digits_value hb, hl, h]
theorem value_append (s : Nat) : ∀ (a b : List Nat), value s (a ++ b) = value s a + 2 ^ (s * a.length) * value s b
  | [], b => by simp [value]
  | x :: a, b => by
    simp only [List.cons_append, value, value_append s a b, List.length_cons, Nat.mul_succ, Nat.pow_add, Nat.mul_add]
    rw [Nat.mul_comm (2 ^ (s * a.length)) (2 ^ s), Nat.mul_assoc]
    omega
theorem digits_zero (s n : Nat) : digits s n 0 = List.replicate n 0 := by
  apply List.ext_getElem?
  intro i
  by_cases h : i < n
  · rw [digits_get h]; simp [h]
  · rw [List.getElem?_eq_none (by rw [digits_length]; omega), List.getElem?_eq_none (by simp; omega)]
theorem digits_append (s a b N : Nat) : digits s (a + b) N = digits s a N ++ digits s b (N / 2 ^ (s * a)) := by
  unfold digits
  rw [List.range_add, List.map_append, List.map_map]
  congr 1
  refine List.map_congr_left fun i _ => ?_
  simp only [Function.comp, Nat.mul_add]
  rw [Nat.div_div_eq_div_mul, ← Nat.pow_add]

/-- One bit more. -/
theorem digits_step {s n N at_ : Nat} (h0 : 0 < s) (h : at_ < s * n) :
    digits s n (N % 2 ^ (at_ + 1)) = (digits s n (N % 2 ^ at_)).set (at_ / s) ((N % 2 ^ at_) / 2 ^ (s * (at_ / s)) % 2 ^ s ||| (N / 2 ^ at_ % 2) <<< (at_ % s)) := by
  have hi : at_ / s < n := (Nat.div_lt_iff_lt_mul h0).2 (by rw [Nat.mul_comm]; exact h)
  have hd := Nat.div_add_mod at_ s
  have hm := Nat.mod_lt at_ h0
  have hbit : N / 2 ^ at_ % 2 = (N.testBit at_).toNat := by rw [Nat.testBit_eq_decide_div_mod_eq]; have := Nat.mod_two_eq_zero_or_one (N / 2 ^ at_); rcases this with e | e <;> rw [e] <;> rfl
  apply List.ext_getElem?
  intro i
  rw [List.getElem?_set]
  by_cases hn : i < n
  · rw [digits_get hn]
    by_cases he : at_ / s = i
    · rw [if_pos he, if_pos (by rw [digits_length]; omega)]
      subst he
      congr 1
      apply Nat.eq_of_testBit_eq
      intro j
      rw [hbit]
      simp only [Nat.testBit_mod_two_pow, Nat.testBit_div_two_pow, Nat.testBit_or, Nat.testBit_shiftLeft]
      by_cases hj : j < s
      · by_cases hj2 : j < at_ % s
        · have e1 : j + s * (at_ / s) < at_ := by omega
          simp [hj, e1, show j + s * (at_ / s) < at_ + 1 by omega, show ¬ at_ % s ≤ j by omega]
        · by_cases hj3 : j = at_ % s
          · subst hj3
            have e1 : at_ % s + s * (at_ / s) = at_ := by omega
            rw [e1]
            cases N.testBit at_ <;> simp [hm]
          · have e1 : ¬ j + s * (at_ / s) < at_ + 1 := by omega
            simp only [e1, hj, show ¬ j + s * (at_ / s) < at_ by omega]
            have : ((N.testBit at_).toNat).testBit (j - at_ % s) = false := by
              obtain ⟨q, hq⟩ : ∃ q, j - at_ % s = q + 1 := ⟨j - at_ % s - 1, by omega⟩
              rw [hq]
              cases N.testBit at_ <;> simp [Nat.testBit_succ]
            simp [this]
      · have : ((N.testBit at_).toNat).testBit (j - at_ % s) = false := by
          obtain ⟨q, hq⟩ : ∃ q, j - at_ % s = q + 1 := ⟨j - at_ % s - 1, by omega⟩
          rw [hq]
          cases N.testBit at_ <;> simp [Nat.testBit_succ]
        simp [hj, this]
    · rw [if_neg he, digits_get hn]
      congr 1
      apply Nat.eq_of_testBit_eq
      intro j
      simp only [Nat.testBit_mod_two_pow, Nat.testBit_div_two_pow]
      by_cases hj : j < s
      · rcases Nat.lt_or_gt_of_ne he with hlt | hgt
        · have : s * (at_ / s + 1) ≤ s * i := Nat.mul_le_mul_left s hlt
          rw [Nat.mul_succ] at this
          simp [hj, show ¬ j + s * i < at_ + 1 by omega, show ¬ j + s * i < at_ by omega]
        · have : s * (i + 1) ≤ s * (at_ / s) := Nat.mul_le_mul_left s hgt
          rw [Nat.mul_succ] at this
          simp [hj, show j + s * i < at_ + 1 by omega, show j + s * i < at_ by omega]
      · simp [hj]
  · rw [List.getElem?_eq_none (by rw [digits_length]; omega)]
    split
    · rw [if_neg (by rw [digits_length]; omega)]
    · rw [List.getElem?_eq_none (by rw [digits_length]; omega)]
/-- One bit more that is not set. -/
theorem digits_step0 {s n N at_ : Nat} (h : N / 2 ^ at_ % 2 = 0) : digits s n (N % 2 ^ (at_ + 1)) = digits s n (N % 2 ^ at_) := by
  rw [Nat.mod_pow_succ, h, Nat.mul_zero, Nat.add_zero]
/-- A bit of a digit. -/
theorem digit_bit {s N i k : Nat} (hk : k < s) : N / 2 ^ (s * i) % 2 ^ s / 2 ^ k % 2 = N / 2 ^ (s * i + k) % 2 := by
  have key : ∀ M, M / 2 ^ k % 2 = (M.testBit k).toNat := fun M => by
    rw [Nat.testBit_eq_decide_div_mod_eq]; have := Nat.mod_two_eq_zero_or_one (M / 2 ^ k); rcases this with e | e <;> rw [e] <;> rfl
  rw [key, Nat.testBit_mod_two_pow, Nat.testBit_div_two_pow]
  have h2 : N / 2 ^ (s * i + k) % 2 = (N.testBit (s * i + k)).toNat := by
    rw [Nat.testBit_eq_decide_div_mod_eq]; have := Nat.mod_two_eq_zero_or_one (N / 2 ^ (s * i + k)); rcases this with e | e <;> rw [e] <;> rfl
  rw [h2, Nat.add_comm k]
  simp [hk]

theorem vN_length (k : IntKind) (l : List Nat) : (vN k l).length = l.length := by simp [vN]
theorem vN_append (k : IntKind) (a b : List Nat) : vN k (a ++ b) = vN k a ++ vN k b := by simp [vN]
theorem vN_set (k : IntKind) (l : List Nat) (i x : Nat) : vN k (l.set i x) = (vN k l).set i (.int k (x : Int)) := by simp [vN, List.map_set]
theorem vN_get (k : IntKind) {l : List Nat} {i x : Nat} (h : l[i]? = some x) : (vN k l)[i]? = some (.int k (x : Int)) := by simp [vN, h]
theorem vN_bytes {l : List Nat} (h : ∀ x ∈ l, x < 256) : vN .u8 l = vB (l.map UInt8.ofNat) := by
  unfold vN vB
  rw [List.map_map]
  refine List.map_congr_left fun x hx => ?_
  simp only [Function.comp, UInt8.toNat_ofNat']
  rw [Nat.mod_eq_of_lt (h x hx)]
theorem vB_nats (l : List UInt8) : vB l = vN .u8 (l.map UInt8.toNat) := by simp [vB, vN]
/-- n bytes of N. -/
def bytesOf (n N : Nat) : List UInt8 := (digits 8 n N).map UInt8.ofNat
/-- The number that bytes are. -/
def ofBytes (l : List UInt8) : Nat := value 8 (l.map UInt8.toNat)
theorem bytesOf_length (n N : Nat) : (bytesOf n N).length = n := by simp [bytesOf, digits_length]
theorem vB_bytesOf (n N : Nat) : vB (bytesOf n N) = vN .u8 (digits 8 n N) := (vN_bytes fun x hx => digits_lt (s := 8) x hx).symm
theorem bytes_lt (l : List UInt8) : ∀ x ∈ l.map UInt8.toNat, x < 2 ^ 8 := by
  intro x hx
  obtain ⟨y, _, rfl⟩ := List.mem_map.1 hx
  exact y.toNat_lt
theorem ofBytes_lt (l : List UInt8) : ofBytes l < 2 ^ (8 * l.length) := by
  have := value_lt (bytes_lt l)
  rwa [List.length_map] at this
theorem digits_ofBytes (l : List UInt8) : digits 8 l.length (ofBytes l) = l.map UInt8.toNat := by
  have := digits_value (bytes_lt l)
  rwa [List.length_map] at this
theorem bytesOf_ofBytes (l : List UInt8) : bytesOf l.length (ofBytes l) = l := by
  unfold bytesOf
  rw [digits_ofBytes, List.map_map]
  conv => rhs; rw [← List.map_id l]
  refine List.map_congr_left fun x _ => ?_
  simp
theorem ofBytes_bytesOf (n N : Nat) : ofBytes (bytesOf n N) = N % 2 ^ (8 * n) := by
  unfold ofBytes bytesOf
  rw [List.map_map, ← value_digits]
  congr 1
  conv => rhs; rw [← List.map_id (digits 8 n N)]
  refine List.map_congr_left fun x hx => ?_
  have := digits_lt (s := 8) x hx
  simp only [Function.comp, UInt8.toNat_ofNat', id]
  omega

/-! ### The machine's operations -/
theorem shr_nat (k : IntKind) (v c : Nat) (hc : c ≤ k.bits) : shrI k (v : Int) c = ((v / 2 ^ c : Nat) : Int) := by
  unfold shrI
  rw [Nat.min_eq_left hc, Int.fdiv_eq_ediv_of_nonneg _ (by exact Int.le_of_lt (Int.pow_pos (by decide)))]
  simp
theorem shl_two (k : IntKind) (v c : Nat) (hc : c ≤ k.bits) (hf : k.wrap ((v * 2 ^ c : Nat) : Int) = ((v * 2 ^ c : Nat) : Int)) : shlI k (v : Int) c = ((v * 2 ^ c : Nat) : Int) := by
  unfold shlI
  rw [Nat.min_eq_left hc, ← hf]
  simp
theorem u64_nat {n : Nat} (h : n < 18446744073709551616) : IntKind.u64.wrap (n : Int) = (n : Int) := u64_fit (by omega) (by omega)
theorem u8_nat {n : Nat} (h : n < 256) : IntKind.u8.wrap (n : Int) = (n : Int) := u8_fit (by omega) (by omega)
theorem i64_nat {n : Nat} (h : n < 9223372036854775808) : IntKind.i64.wrap (n : Int) = (n : Int) := i64_fit (by omega) (by omega)
theorem or_u64 {a b : Nat} (ha : a < 18446744073709551616) (hb : b < 18446744073709551616) : bits .or .u64 (a : Int) (b : Int) = ((a ||| b : Nat) : Int) := (bits_nat .u64 64 (by decide) (fun n h0 h1 => u64_fit h0 h1) a b ha hb).2
theorem and_u64 {a b : Nat} (ha : a < 18446744073709551616) (hb : b < 18446744073709551616) : bits .and .u64 (a : Int) (b : Int) = ((a &&& b : Nat) : Int) := (bits_nat .u64 64 (by decide) (fun n h0 h1 => u64_fit h0 h1) a b ha hb).1
theorem or_u8 {a b : Nat} (ha : a < 256) (hb : b < 256) : bits .or .u8 (a : Int) (b : Int) = ((a ||| b : Nat) : Int) := (bits_nat .u8 8 (by decide) (fun n h0 h1 => u8_fit h0 h1) a b ha hb).2
theorem and_u8 {a b : Nat} (ha : a < 256) (hb : b < 256) : bits .and .u8 (a : Int) (b : Int) = ((a &&& b : Nat) : Int) := (bits_nat .u8 8 (by decide) (fun n h0 h1 => u8_fit h0 h1) a b ha hb).1
theorem and_i64 {a b : Nat} (ha : a < 9223372036854775808) (hb : b < 9223372036854775808) : bits .and .i64 (a : Int) (b : Int) = ((a &&& b : Nat) : Int) := (bits_nat .i64 63 (by decide) (fun n h0 h1 => i64_fit (by omega) (by simp at h1; omega)) a b ha hb).1
theorem quo_i64 {a : Nat} (b : Nat) (h : a < 9223372036854775808) : quoI .i64 (a : Int) (b : Int) = ((a / b : Nat) : Int) := quo_nat .i64 a b (i64_nat (Nat.lt_of_le_of_lt (Nat.div_le_self a b) h))
theorem quo_u64 {a : Nat} (b : Nat) (h : a < 18446744073709551616) : quoI .u64 (a : Int) (b : Int) = ((a / b : Nat) : Int) := quo_nat .u64 a b (u64_nat (Nat.lt_of_le_of_lt (Nat.div_le_self a b) h))

theorem i64_next {n : Nat} (h : n < 9223372036854775807) : IntKind.i64.wrap ((n : Int) + 1) = ((n + 1 : Nat) : Int) := i64_fit (by omega) (by omega)
theorem take_snoc {α : Type} {l : List α} {k : Nat} {x : α} (h : l[k]? = some x) : l.take (k + 1) = l.take k ++ [x] := by rw [List.take_add_one, h]; rfl

/-- A bit set in a byte, in a word. -/
theorem byte_or {a b j : Nat} (ha : a < 256) (hb : b < 2) (hj : j < 8) : bits .or .u8 (a : Int) (shlI .u8 (b : Int) j) = ((a ||| b <<< j : Nat) : Int) := by
  have hp : 2 ^ j ≤ 128 := Nat.pow_le_pow_right (n := 2) (j := 7) (by decide) (by omega)
  have hlt : b * 2 ^ j < 256 := by rcases (by omega : b = 0 ∨ b = 1) with rfl | rfl <;> omega
  rw [shl_two .u8 b j (Nat.le_of_lt hj) (u8_nat hlt), or_u8 ha hlt, Nat.shiftLeft_eq]
theorem word_or {a b j : Nat} (ha : a < 18446744073709551616) (hb : b < 2) (hj : j < 64) : bits .or .u64 (a : Int) (shlI .u64 (b : Int) j) = ((a ||| b <<< j : Nat) : Int) := by
  have hp : 2 ^ j ≤ 9223372036854775808 := Nat.pow_le_pow_right (n := 2) (j := 63) (by decide) (by omega)
  have hlt : b * 2 ^ j < 18446744073709551616 := by rcases (by omega : b = 0 ∨ b = 1) with rfl | rfl <;> omega
  rw [shl_two .u64 b j (Nat.le_of_lt hj) (u64_nat hlt), or_u64 ha hlt, Nat.shiftLeft_eq]

/-! ### How many bits a number needs -/
def bl (v : Nat) : Nat := if v = 0 then 0 else v.log2 + 1
theorem bl_le {v k : Nat} : bl v ≤ k ↔ v < 2 ^ k := by
  unfold bl
  split
  · rename_i h; subst h; simp [Nat.two_pow_pos]
  · rename_i h; rw [← Nat.log2_lt h]; omega
theorem bl_unique {v m : Nat} (h : ∀ k, m ≤ k ↔ v < 2 ^ k) : bl v = m := Nat.le_antisymm (bl_le.2 ((h m).1 (Nat.le_refl _))) ((h (bl v)).2 (bl_le.1 (Nat.le_refl _)))
theorem bl_shift {v c : Nat} (h : 2 ^ c ≤ v) : bl v = c + bl (v / 2 ^ c) := by
  refine bl_unique fun k => ?_
  by_cases hk : c ≤ k
  · obtain ⟨d, rfl⟩ := Nat.exists_eq_add_of_le hk
    rw [Nat.add_le_add_iff_left, bl_le, Nat.div_lt_iff_lt_mul (Nat.two_pow_pos c), Nat.pow_add, Nat.mul_comm]
  · have h1 : ¬ v < 2 ^ k := fun hlt => by have := Nat.pow_le_pow_right (n := 2) (by decide) (Nat.le_of_lt (Nat.lt_of_not_le hk)); omega
    exact ⟨fun h2 => absurd (Nat.le_trans (Nat.le_add_right _ _) h2) hk, fun h2 => absurd h2 h1⟩
/-- All numbers' bits together. -/
def orL (l : List Nat) : Nat := l.foldl (· ||| ·) 0
theorem foldl_or_lt {k : Nat} : ∀ (l : List Nat) (a : Nat), l.foldl (· ||| ·) a < 2 ^ k ↔ a < 2 ^ k ∧ ∀ x ∈ l, x < 2 ^ k
  | [], a => by simp
  | x :: l, a => by
    rw [List.foldl_cons, foldl_or_lt l (a ||| x)]
    constructor
    · rintro ⟨h1, h2⟩
      have ha : a < 2 ^ k := Nat.lt_of_le_of_lt Nat.left_le_or h1
      have hx : x < 2 ^ k := Nat.lt_of_le_of_lt Nat.right_le_or h1
      exact ⟨ha, by simpa using ⟨hx, h2⟩⟩
    · rintro ⟨ha, h2⟩
      exact ⟨Nat.or_lt_two_pow ha (h2 x (by simp)), fun y hy => h2 y (by simp [hy])⟩
theorem orL_lt {k : Nat} (l : List Nat) : orL l < 2 ^ k ↔ ∀ x ∈ l, x < 2 ^ k := by unfold orL; rw [foldl_or_lt]; simp [Nat.two_pow_pos]
theorem orL_snoc (l : List Nat) (x : Nat) : orL (l ++ [x]) = orL l ||| x := by simp [orL]
/-- The least width of numbers. -/
def widthN (l : List Nat) : Nat := bl (orL l)
theorem widthN_le {l : List Nat} {k : Nat} : widthN l ≤ k ↔ ∀ x ∈ l, x < 2 ^ k := by unfold widthN; rw [bl_le, orL_lt]

/-! ### Numbers that lie in a row -/
/-- A slice of 64-bit numbers that came in. -/
structure Us (w : World) (p : Option Addr) (n c : Nat) (l : List Nat) : Prop where
  len : l.length = n
  cap : n ≤ c ∧ c ≤ maxLen
  lies : At w p (vN .u64 l)
  nil : p = none → n = 0 ∧ c = 0
  lt : ∀ x ∈ l, x < 18446744073709551616
theorem Us.ext {w w' : World} {p : Option Addr} {n c : Nat} {l : List Nat} (h : Us w p n c l) (e : Ext w w') : Us w' p n c l := ⟨h.len, h.cap, h.lies.ext e, h.nil, h.lt⟩
theorem Us.le {w : World} {p : Option Addr} {n c : Nat} {l : List Nat} (h : Us w p n c l) : n ≤ maxLen := Nat.le_trans h.cap.1 h.cap.2
theorem Us.nothing (w : World) : Us w none 0 0 [] := ⟨rfl, ⟨Nat.le_refl _, Nat.zero_le _⟩, .inl rfl, fun _ => ⟨rfl, rfl⟩, by simp⟩
theorem At.getN {w : World} {p : Option Addr} {k : IntKind} {l : List Nat} (h : At w p (vN k l)) {i x : Nat} (hi : l[i]? = some x) : ∃ b o, p = some ⟨b, o, none⟩ ∧ w.cell? ⟨b, o + i, none⟩ = some (.int k (x : Int)) := by
  rcases h with h | ⟨b, o, hp, hc⟩
  · have := vN_get k hi; rw [h] at this; cases this
  · exact ⟨b, o, hp, hc i _ (vN_get k hi)⟩
/-- Bytes of our own; numbers of our own. -/
def OutB (B : Nat) (t : TypeId) (w : World) (p : Option Addr) (n c : Nat) (l : List UInt8) : Prop := l.length = n ∧ Mine B t 1 w p n c (vB l)
def OutU (B : Nat) (t : TypeId) (w : World) (p : Option Addr) (n c : Nat) (l : List Nat) : Prop := l.length = n ∧ (∀ x ∈ l, x < 18446744073709551616) ∧ Mine B t 1 w p n c (vN .u64 l)
/-- Bytes that came in. -/
structure InB (w : World) (p : Option Addr) (n c : Nat) (l : List UInt8) : Prop where
  len : l.length = n
  cap : n ≤ c ∧ c ≤ maxLen
  lies : At w p (vB l)
  nil : p = none → n = 0 ∧ c = 0
theorem InB.ext {w w' : World} {p : Option Addr} {n c : Nat} {l : List UInt8} (h : InB w p n c l) (e : Ext w w') : InB w' p n c l := ⟨h.len, h.cap, h.lies.ext e, h.nil⟩
theorem InB.bytes {w : World} {p : Option Addr} {n c : Nat} {l : List UInt8} (h : InB w p n c l) : BytesAt w p n l := h.lies.bytes' h.len
theorem InB.le {w : World} {p : Option Addr} {n c : Nat} {l : List UInt8} (h : InB w p n c l) : n ≤ maxLen := Nat.le_trans h.cap.1 h.cap.2
theorem OutB.ext {B : Nat} {t : TypeId} {w w' : World} {p : Option Addr} {n c : Nat} {l : List UInt8} (h : OutB B t w p n c l) (e : Ext w w') : OutB B t w' p n c l := ⟨h.1, h.2.ext e⟩
theorem OutB.inn {B : Nat} {t : TypeId} {w : World} {p : Option Addr} {n c : Nat} {l : List UInt8} (h : OutB B t w p n c l) : InB w p n c l := ⟨h.1, h.2.cap, h.2.at, h.2.isNil⟩
theorem OutB.bytes {B : Nat} {t : TypeId} {w : World} {p : Option Addr} {n c : Nat} {l : List UInt8} (h : OutB B t w p n c l) : BytesAt w p n l := h.2.at.bytes' h.1
theorem OutU.ext {B : Nat} {t : TypeId} {w w' : World} {p : Option Addr} {n c : Nat} {l : List Nat} (h : OutU B t w p n c l) (e : Ext w w') : OutU B t w' p n c l := ⟨h.1, h.2.1, h.2.2.ext e⟩
theorem OutU.us {B : Nat} {t : TypeId} {w : World} {p : Option Addr} {n c : Nat} {l : List Nat} (h : OutU B t w p n c l) : Us w p n c l := ⟨h.1, h.2.2.cap, h.2.2.at, h.2.2.isNil, h.2.1⟩
/-- A block of our own, as a row. -/
theorem Blk.mine {w : World} {b B cap s : Nat} {t : TypeId} {cs : Array Value} (h : Blk w b t cs) (hB : B ≤ b) (hs : cs.size = cap * s) (hm : cap ≤ maxLen) : Mine B t s w (some ⟨b, 0, none⟩) cap cap cs.toList :=
  ⟨by simp [hs], .inr ⟨b, cap, cs, rfl, hB, h, Nat.le_refl _, hm, hs, by rw [List.take_of_length_le (by simp [hs])]⟩⟩
theorem madeCells_nat (k : IntKind) (n : Nat) : madeCells #[.int k 0] n = (vN k (List.replicate n 0)).toArray := by
  apply Array.ext'
  apply List.ext_getElem?
  intro i
  simp only [madeCells, vN, List.map_replicate]
  by_cases h : i < n
  · simp [h, Nat.mod_one]
  · rw [List.getElem?_eq_none (by simp; omega), List.getElem?_eq_none (by simp; omega)]
end Go.Vc
