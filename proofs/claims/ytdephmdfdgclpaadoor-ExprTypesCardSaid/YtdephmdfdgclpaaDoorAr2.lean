/- Numbers: signs of bitwise operations; products of 64 bits; which results are numbers of 64 bits. -/
import Derived.Test.YtdephmdfdgclpaaDoorBits
namespace Go.Vc
open Go

theorem wrap_bv (v : BitVec 64) : IntKind.i64.wrap ((v.toNat : Nat) : Int) = v.toInt := by
  rw [IntKind.wrap_i64, BitVec.toInt_eq_toNat_cond]
  have := v.isLt
  split <;> omega
theorem toInt_of {a : Int} (h0 : -9223372036854775808 ≤ a) (h1 : a ≤ 9223372036854775807) : (BitVec.ofInt 64 a).toInt = a := by
  rw [BitVec.toInt_ofInt, Int.bmod_def]
  split <;> omega
theorem and_i64_bv (a b : Int) : bits .and .i64 a b = (BitVec.ofInt 64 a &&& BitVec.ofInt 64 b).toInt := by
  rw [← wrap_bv]; rfl
theorem xor_i64_bv (a b : Int) : bits .xor .i64 a b = (BitVec.ofInt 64 a ^^^ BitVec.ofInt 64 b).toInt := by
  rw [← wrap_bv]; rfl
theorem i64_range (v : BitVec 64) : -9223372036854775808 ≤ v.toInt ∧ v.toInt ≤ 9223372036854775807 := by
  rw [BitVec.toInt_eq_toNat_cond]
  have := v.isLt
  split <;> omega
theorem and_neg {a b : Int} (a0 : -9223372036854775808 ≤ a) (a1 : a ≤ 9223372036854775807) (b0 : -9223372036854775808 ≤ b) (b1 : b ≤ 9223372036854775807) : bits .and .i64 a b < 0 ↔ a < 0 ∧ b < 0 := by
  have h := BitVec.msb_and (x := BitVec.ofInt 64 a) (y := BitVec.ofInt 64 b)
  rw [BitVec.msb_eq_toInt, BitVec.msb_eq_toInt, BitVec.msb_eq_toInt, toInt_of a0 a1, toInt_of b0 b1] at h
  rw [and_i64_bv, ← decide_eq_true_iff (p := BitVec.toInt _ < 0), h]; simp
theorem xor_neg {a b : Int} (a0 : -9223372036854775808 ≤ a) (a1 : a ≤ 9223372036854775807) (b0 : -9223372036854775808 ≤ b) (b1 : b ≤ 9223372036854775807) : bits .xor .i64 a b < 0 ↔ ¬ (a < 0 ↔ b < 0) := by
  have h := BitVec.msb_xor (x := BitVec.ofInt 64 a) (y := BitVec.ofInt 64 b)
  rw [BitVec.msb_eq_toInt, BitVec.msb_eq_toInt, BitVec.msb_eq_toInt, toInt_of a0 a1, toInt_of b0 b1] at h
  rw [xor_i64_bv, ← decide_eq_true_iff (p := BitVec.toInt _ < 0), h]
  by_cases ha : a < 0 <;> by_cases hb : b < 0 <;> simp [ha, hb]
theorem xor_range (a b : Int) : -9223372036854775808 ≤ bits .xor .i64 a b ∧ bits .xor .i64 a b ≤ 9223372036854775807 := by rw [xor_i64_bv]; exact i64_range _

/-- A number of 64 bits. -/
def fitI (x : Int) : Prop := -9223372036854775808 ≤ x ∧ x ≤ 9223372036854775807
instance (x : Int) : Decidable (fitI x) := by unfold fitI; exact inferInstance
theorem add_over {a b : Int} (ha : fitI a) (hb : fitI b) : bits .and .i64 (bits .xor .i64 a (IntKind.i64.wrap (a + b))) (bits .xor .i64 b (IntKind.i64.wrap (a + b))) < 0 ↔ ¬ fitI (a + b) := by
  unfold fitI at *
  have hw := IntKind.wrap_i64 (a + b)
  obtain ⟨x0, x1⟩ := xor_range a (IntKind.i64.wrap (a + b))
  obtain ⟨y0, y1⟩ := xor_range b (IntKind.i64.wrap (a + b))
  rw [and_neg x0 x1 y0 y1, xor_neg ha.1 ha.2 (by omega) (by omega), xor_neg hb.1 hb.2 (by omega) (by omega)]
  omega
theorem sub_over {a b : Int} (ha : fitI a) (hb : fitI b) : bits .and .i64 (bits .xor .i64 a b) (bits .xor .i64 a (IntKind.i64.wrap (a - b))) < 0 ↔ ¬ fitI (a - b) := by
  unfold fitI at *
  have hw := IntKind.wrap_i64 (a - b)
  obtain ⟨x0, x1⟩ := xor_range a b
  obtain ⟨y0, y1⟩ := xor_range a (IntKind.i64.wrap (a - b))
  rw [and_neg x0 x1 y0 y1, xor_neg ha.1 ha.2 hb.1 hb.2, xor_neg ha.1 ha.2 (by omega) (by omega)]
  omega

theorem shr32_u64 (v : Nat) : shrI .u64 (v : Int) 32 = ((v / 4294967296 : Nat) : Int) := by
  have : shrI .u64 (v : Int) 32 = Int.fdiv (v : Int) 4294967296 := rfl
  rw [this, Int.fdiv_eq_ediv_of_nonneg _ (by decide)]; omega
theorem and32_u64 {v : Nat} (h : v < 18446744073709551616) : bits .and .u64 (v : Int) 4294967295 = ((v % 4294967296 : Nat) : Int) := by
  have := bits_mask .u64 64 (by decide) (fun m h0 h1 => by simp [IntKind.wrap, IntKind.bits, IntKind.signed]; omega) 32 (by decide) (v : Int) (by omega) (by show (v : Int) < 18446744073709551616; omega)
  rw [show ((2 : Int) ^ 32 - 1) = 4294967295 from rfl, show ((2 : Int) ^ 32) = 4294967296 from rfl] at this
  rw [this]; omega
/-- The product of two numbers of 64 bits, in two words. -/
theorem mul64_hi {x y : Nat} (hx : x < 18446744073709551616) (hy : y < 18446744073709551616) :
    (IntKind.u64.wrap (IntKind.u64.wrap (IntKind.u64.wrap (shrI .u64 (x : Int) 32 * shrI .u64 (y : Int) 32) + shrI .u64 (IntKind.u64.wrap (IntKind.u64.wrap (shrI .u64 (x : Int) 32 * bits .and .u64 (y : Int) 4294967295) + shrI .u64 (IntKind.u64.wrap (bits .and .u64 (x : Int) 4294967295 * bits .and .u64 (y : Int) 4294967295)) 32)) 32) +
      shrI .u64 (IntKind.u64.wrap (bits .and .u64 (IntKind.u64.wrap (IntKind.u64.wrap (shrI .u64 (x : Int) 32 * bits .and .u64 (y : Int) 4294967295) + shrI .u64 (IntKind.u64.wrap (bits .and .u64 (x : Int) 4294967295 * bits .and .u64 (y : Int) 4294967295)) 32)) 4294967295 + IntKind.u64.wrap (bits .and .u64 (x : Int) 4294967295 * shrI .u64 (y : Int) 32))) 32)) = ((x * y / 18446744073709551616 : Nat) : Int) := by
  rw [shr32_u64, shr32_u64, and32_u64 hx, and32_u64 hy]
  have hxd : x = x / 4294967296 * 4294967296 + x % 4294967296 := by omega
  have hyd : y = y / 4294967296 * 4294967296 + y % 4294967296 := by omega
  have hx1 : x / 4294967296 ≤ 4294967295 := by omega
  have hy1 : y / 4294967296 ≤ 4294967295 := by omega
  have hx0 : x % 4294967296 ≤ 4294967295 := by omega
  have hy0 : y % 4294967296 ≤ 4294967295 := by omega
  generalize x / 4294967296 = a at *
  generalize x % 4294967296 = b at *
  generalize y / 4294967296 = c at *
  generalize y % 4294967296 = d at *
  have p11 := Nat.mul_le_mul hx1 hy1
  have p10 := Nat.mul_le_mul hx1 hy0
  have p01 := Nat.mul_le_mul hx0 hy1
  have p00 := Nat.mul_le_mul hx0 hy0
  have hxy : x * y = a * c * 18446744073709551616 + (a * d + b * c) * 4294967296 + b * d := by
    rw [hxd, hyd]
    simp only [Nat.add_mul, Nat.mul_add]
    have e1 : a * 4294967296 * (c * 4294967296) = a * c * 18446744073709551616 := by rw [Nat.mul_mul_mul_comm]
    have e2 : a * 4294967296 * d = a * d * 4294967296 := by rw [Nat.mul_right_comm]
    have e3 : b * (c * 4294967296) = b * c * 4294967296 := by rw [Nat.mul_assoc]
    rw [e1, e2, e3]; omega
  rw [hxy, ← Int.natCast_mul, ← Int.natCast_mul, ← Int.natCast_mul, ← Int.natCast_mul]
  generalize a * c = p at *
  generalize a * d = q at *
  generalize b * c = r at *
  generalize b * d = s at *
  rw [u64_fit (n := (s : Int)) (by omega) (by omega), shr32_u64, u64_fit (n := (q : Int)) (by omega) (by omega), ← Int.natCast_add, u64_fit (n := ((q + s / 4294967296 : Nat) : Int)) (by omega) (by omega), shr32_u64, and32_u64 (by omega), u64_fit (n := (r : Int)) (by omega) (by omega), ← Int.natCast_add,
    u64_fit (n := (((q + s / 4294967296) % 4294967296 + r : Nat) : Int)) (by omega) (by omega), shr32_u64, u64_fit (n := (p : Int)) (by omega) (by omega)]
  rw [← Int.natCast_add, u64_fit (n := ((p + (q + s / 4294967296) / 4294967296 : Nat) : Int)) (by omega) (by omega), ← Int.natCast_add, u64_fit (by omega) (by omega)]
  omega
end Go.Vc
