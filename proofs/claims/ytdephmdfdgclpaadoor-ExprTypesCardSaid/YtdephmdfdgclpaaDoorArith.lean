/- Numbers: bits, shifts, signed numbers as unsigned ones and back. -/
import Derived.Test.YtdephmdfdgclpaaDoorMem
namespace Go.Vc
open Go

theorem ofInt_neg1 : BitVec.ofInt 64 (-1) = BitVec.allOnes 64 := by decide
theorem xor_neg1_i64 {a : Int} (h0 : -9223372036854775808 ≤ a) (h1 : a ≤ 9223372036854775807) : bits .xor .i64 a (-1) = -1 - a := by
  have e : bits .xor .i64 a (-1) = IntKind.i64.wrap (((BitVec.ofInt 64 a ^^^ BitVec.ofInt 64 (-1)).toNat : Nat) : Int) := rfl
  rw [e, ofInt_neg1, BitVec.xor_allOnes, BitVec.toNat_not, BitVec.toNat_ofInt, IntKind.wrap_i64]
  have : ((2 ^ 64 - 1 - (a % ((2 ^ 64 : Nat) : Int)).toNat : Nat) : Int) = 18446744073709551615 - a % 18446744073709551616 := by omega
  omega
theorem xor_zero_i64 {a : Int} (h0 : -9223372036854775808 ≤ a) (h1 : a ≤ 9223372036854775807) : bits .xor .i64 a 0 = a := by
  have e : bits .xor .i64 a 0 = IntKind.i64.wrap (((BitVec.ofInt 64 a ^^^ 0#64).toNat : Nat) : Int) := rfl
  rw [e, BitVec.xor_zero, BitVec.toNat_ofInt, IntKind.wrap_i64]
  omega
theorem xor_ones_u64 {a : Nat} (h1 : a < 18446744073709551616) : bits .xor .u64 (a : Int) 18446744073709551615 = ((18446744073709551615 - a : Nat) : Int) := by
  have e : bits .xor .u64 (a : Int) 18446744073709551615 = IntKind.u64.wrap (((BitVec.ofInt 64 a ^^^ BitVec.allOnes 64).toNat : Nat) : Int) := rfl
  rw [e, BitVec.xor_allOnes, BitVec.toNat_not, BitVec.toNat_ofInt, u64_fit (by omega) (by omega)]
  omega
theorem xor_zero_u64 {a : Nat} (h1 : a < 18446744073709551616) : bits .xor .u64 (a : Int) 0 = (a : Int) := by
  have e : bits .xor .u64 (a : Int) 0 = IntKind.u64.wrap (((BitVec.ofInt 64 a ^^^ 0#64).toNat : Nat) : Int) := rfl
  rw [e, BitVec.xor_zero, BitVec.toNat_ofInt, u64_fit (by omega) (by omega)]
  omega

theorem u64_wrap (n : Int) : IntKind.u64.wrap n = n % 18446744073709551616 := by simp [IntKind.wrap, IntKind.bits, IntKind.signed]
theorem u32_wrap (n : Int) : IntKind.u32.wrap n = n % 4294967296 := IntKind.wrap_u32 n

/-! ### Signed numbers as unsigned ones -/
def zigN (x : Int) : Nat := if x < 0 then (-2 * x - 1).toNat else (2 * x).toNat
def unzig (v : Nat) : Int := if v % 2 = 1 then -((v / 2 : Nat) : Int) - 1 else ((v / 2 : Nat) : Int)

theorem zig_lt {x : Int} (h0 : -9223372036854775808 ≤ x) (h1 : x ≤ 9223372036854775807) : zigN x < 18446744073709551616 := by unfold zigN; split <;> omega
theorem unzig_fit {v : Nat} (h : v < 18446744073709551616) : -9223372036854775808 ≤ unzig v ∧ unzig v ≤ 9223372036854775807 := by unfold unzig; split <;> omega
theorem unzig_zig (x : Int) : unzig (zigN x) = x := by unfold unzig zigN; split <;> split <;> omega
theorem zig_unzig (v : Nat) : zigN (unzig v) = v := by unfold unzig zigN; split <;> split <;> omega
theorem unzig_inj {a b : Nat} (h : unzig a = unzig b) : a = b := by rw [← zig_unzig a, h, zig_unzig]

theorem shl1_i64 {x : Int} : shlI .i64 x 1 = IntKind.i64.wrap (x * 2) := rfl
theorem shr63_i64 {x : Int} (h0 : -9223372036854775808 ≤ x) (h1 : x ≤ 9223372036854775807) : shrI .i64 x 63 = if x < 0 then -1 else 0 := by
  have : shrI .i64 x 63 = Int.fdiv x 9223372036854775808 := rfl
  rw [this, Int.fdiv_eq_ediv_of_nonneg _ (by decide)]
  split <;> omega

/-- The program's way. -/
theorem zig_prog {x : Int} (h0 : -9223372036854775808 ≤ x) (h1 : x ≤ 9223372036854775807) :
    bits .xor .u64 (IntKind.u64.wrap (shlI .i64 x 1)) (IntKind.u64.wrap (shrI .i64 x 63)) = (zigN x : Int) := by
  rw [shl1_i64, shr63_i64 h0 h1, IntKind.wrap_i64, u64_wrap]
  by_cases hx : x < 0
  · rw [if_pos hx, show IntKind.u64.wrap (-1) = 18446744073709551615 from by decide +kernel]
    have : ((x * 2 + 9223372036854775808) % 18446744073709551616 - 9223372036854775808) % 18446744073709551616 = (((18446744073709551616 + 2 * x).toNat : Nat) : Int) := by omega
    rw [this, xor_ones_u64 (by omega)]
    unfold zigN; rw [if_pos hx]; omega
  · rw [if_neg hx, show IntKind.u64.wrap 0 = 0 from by decide +kernel]
    have : ((x * 2 + 9223372036854775808) % 18446744073709551616 - 9223372036854775808) % 18446744073709551616 = (((2 * x).toNat : Nat) : Int) := by omega
    rw [this, xor_zero_u64 (by omega)]
    unfold zigN; rw [if_neg hx]

theorem shr1_u64 (v : Nat) : shrI .u64 (v : Int) 1 = ((v / 2 : Nat) : Int) := by
  have : shrI .u64 (v : Int) 1 = Int.fdiv (v : Int) 2 := rfl
  rw [this, Int.fdiv_eq_ediv_of_nonneg _ (by decide)]; omega
theorem and1_u64 (n : Nat) (h : n < 18446744073709551616) : bits .and .u64 (n : Int) 1 = ((n % 2 : Nat) : Int) := by
  have := bits_mask .u64 64 (by decide) (fun m h0 h1 => by simp [IntKind.wrap, IntKind.bits, IntKind.signed]; omega) 1 (by decide) (n : Int) (by omega) (by show (n : Int) < 18446744073709551616; omega)
  rw [show ((2 : Int) ^ 1 - 1) = 1 from rfl, show ((2 : Int) ^ 1) = 2 from rfl] at this
  rw [this]; omega

theorem unzig_prog {v : Nat} (h : v < 18446744073709551616) :
    bits .xor .i64 (IntKind.i64.wrap (shrI .u64 (v : Int) 1)) (IntKind.i64.wrap (0 - IntKind.i64.wrap (bits .and .u64 (v : Int) 1))) = unzig v := by
  rw [shr1_u64, and1_u64 v h, i64_fit (n := ((v / 2 : Nat) : Int)) (by omega) (by omega)]
  unfold unzig
  by_cases hv : v % 2 = 1
  · rw [if_pos hv, hv, show IntKind.i64.wrap (0 - IntKind.i64.wrap ((1 : Nat) : Int)) = -1 from by decide +kernel, xor_neg1_i64 (by omega) (by omega)]; omega
  · rw [if_neg hv, show v % 2 = 0 by omega, show IntKind.i64.wrap (0 - IntKind.i64.wrap ((0 : Nat) : Int)) = 0 from by decide +kernel, xor_zero_i64 (by omega) (by omega)]

theorem quo_nat (k : IntKind) (a b : Nat) (h : k.wrap ((a / b : Nat) : Int) = ((a / b : Nat) : Int)) : quoI k (a : Int) (b : Int) = ((a / b : Nat) : Int) := by
  unfold quoI
  rw [← Int.ofNat_tdiv]; exact h
theorem rem_nat (a b : Nat) : remI (a : Int) (b : Int) = ((a % b : Nat) : Int) := by unfold remI; rw [← Int.ofNat_tmod]
theorem quo2_u64 {v : Nat} (h : v < 18446744073709551616) : quoI .u64 (v : Int) 2 = ((v / 2 : Nat) : Int) := quo_nat .u64 v 2 (u64_fit (by omega) (by omega))
theorem rem2 (v : Nat) : remI (v : Int) 2 = ((v % 2 : Nat) : Int) := rem_nat v 2
theorem quo128_u64 {v : Nat} (h : v < 18446744073709551616) : quoI .u64 (v : Int) 128 = ((v / 128 : Nat) : Int) := quo_nat .u64 v 128 (u64_fit (by omega) (by omega))
theorem rem128 (v : Nat) : remI (v : Int) 128 = ((v % 128 : Nat) : Int) := rem_nat v 128

theorem unzig_ref {v : Nat} (h : v < 18446744073709551616) (ho : v % 2 = 1) : IntKind.i64.wrap (IntKind.i64.wrap (0 - IntKind.i64.wrap (quoI .u64 (v : Int) 2)) - 1) = unzig v := by
  rw [quo2_u64 h, i64_fit (n := ((v / 2 : Nat) : Int)) (by omega) (by omega), i64_fit (n := 0 - ((v / 2 : Nat) : Int)) (by omega) (by omega), i64_fit (by omega) (by omega)]
  unfold unzig; rw [if_pos ho]; omega

theorem zig_ref_neg {x : Int} (h0 : -9223372036854775808 ≤ x) (hx : x < 0) : IntKind.u64.wrap (IntKind.u64.wrap (2 * IntKind.u64.wrap (IntKind.i64.wrap (0 - IntKind.i64.wrap (x + 1)))) + 1) = (zigN x : Int) := by
  rw [i64_fit (n := x + 1) (by omega) (by omega), i64_fit (by omega) (by omega), u64_fit (n := 0 - (x + 1)) (by omega) (by omega), u64_fit (n := 2 * _) (by omega) (by omega), u64_fit (by omega) (by omega)]
  unfold zigN; rw [if_pos hx]; omega
theorem zig_ref_pos {x : Int} (h1 : x ≤ 9223372036854775807) (hx : 0 ≤ x) : IntKind.u64.wrap (2 * IntKind.u64.wrap x) = (zigN x : Int) := by
  rw [u64_fit (n := x) (by omega) (by omega), u64_fit (by omega) (by omega)]
  unfold zigN; rw [if_neg (by omega)]; omega

/-! ### Texts as bytes -/
def tB (s : ByteArray) : List UInt8 := s.data.toList
theorem tB_length (s : ByteArray) : (tB s).length = s.size := Array.length_toList
theorem tB_mk (l : List UInt8) : tB ⟨l.toArray⟩ = l := by simp [tB]
theorem mk_tB (s : ByteArray) : (⟨(tB s).toArray⟩ : ByteArray) = s := by cases s; simp [tB]
theorem mk_inj {a b : List UInt8} : (ByteArray.mk a.toArray = ByteArray.mk b.toArray) ↔ a = b := by
  constructor
  · intro h; have := congrArg tB h; rwa [tB_mk, tB_mk] at this
  · rintro rfl; rfl
theorem tB_inj {s t : ByteArray} : tB s = tB t ↔ s = t := by
  constructor
  · intro h; rw [← mk_tB s, h, mk_tB]
  · rintro rfl; rfl
theorem sEq_mk (a b : List UInt8) : sEq ⟨a.toArray⟩ ⟨b.toArray⟩ = decide (a = b) := by
  cases h : sEq ⟨a.toArray⟩ ⟨b.toArray⟩ with
  | true => exact (decide_eq_true (mk_inj.1 (sEq_iff.1 h))).symm
  | false => symm; rw [decide_eq_false_iff_not]; rintro rfl; rw [sEq_iff.2 rfl] at h; cases h
theorem sEq_self (s : ByteArray) : sEq s s = true := sEq_iff.2 rfl
theorem tB_extract (s : ByteArray) (i j : Nat) : tB (s.extract i j) = ((tB s).take j).drop i := by
  show (s.extract i j).data.toList = _
  rw [ByteArray.data_extract]
  simp [tB, List.extract_eq_take_drop, List.drop_take]
theorem bAt_eq (s : ByteArray) (i : Nat) (h : i < s.size) : bAt s i = (((tB s)[i]'(by rw [tB_length]; exact h)).toNat : Int) := by
  have h' : i < s.data.toList.length := by simpa using h
  simp [bAt, tB, List.getD, List.getElem?_eq_getElem h']
theorem bytesRow_take (s : ByteArray) (c : Nat) : (bytesRow s c).toList.take s.size = vB (tB s) := by
  unfold bytesRow vB tB
  have hl : (s.data.map fun b => Value.int .u8 b.toNat).toList.length = s.size := by rw [Array.length_toList, Array.size_map]; rfl
  rw [Array.toList_append, List.take_append_of_le_length (Nat.le_of_eq hl.symm), List.take_of_length_le (Nat.le_of_eq hl)]
  simp
theorem strCells_eq (s : ByteArray) : Lib.strCells s = vB (tB s) := by unfold Lib.strCells vB tB; simp

end Go.Vc
