/- The check sum, as plain mathematics: one bit's step, a byte, bytes; it takes apart what differs in one byte. -/
import Derived.Test.YtdclhgcgpcddlaaMem
namespace Go.Vc
open Go

def crcPoly : BitVec 32 := 0x82f63b78#32
def stepB (r : BitVec 32) : BitVec 32 := (r >>> 1) ^^^ (bif r.getLsbD 0 then crcPoly else 0#32)
def stepN : Nat → BitVec 32 → BitVec 32
  | 0, r => r
  | k + 1, r => stepB (stepN k r)
def crcB (r : BitVec 32) (b : UInt8) : BitVec 32 := stepN 8 (r ^^^ BitVec.ofNat 32 b.toNat)
def crc (r : BitVec 32) (l : List UInt8) : BitVec 32 := l.foldl crcB r

theorem stepB_top (r : BitVec 32) : (stepB r).getLsbD 31 = r.getLsbD 0 := by
  unfold stepB
  cases h : r.getLsbD 0 <;> simp [crcPoly]

theorem stepB_inj {r s : BitVec 32} (h : stepB r = stepB s) : r = s := by
  have h0 : r.getLsbD 0 = s.getLsbD 0 := by rw [← stepB_top, ← stepB_top, h]
  have h1 : r >>> 1 = s >>> 1 := by
    unfold stepB at h
    rw [h0] at h
    have := congrArg (fun x => x ^^^ (bif s.getLsbD 0 then crcPoly else 0#32)) h
    simpa [BitVec.xor_assoc] using this
  apply BitVec.eq_of_getLsbD_eq
  intro i hi
  cases i with
  | zero => exact h0
  | succ i =>
    have := congrArg (fun x => x.getLsbD i) h1
    simpa [BitVec.getLsbD_ushiftRight, Nat.add_comm] using this

theorem stepN_inj : ∀ (k : Nat) {r s : BitVec 32}, stepN k r = stepN k s → r = s
  | 0, _, _, h => h
  | k + 1, _, _, h => stepN_inj k (stepB_inj h)

theorem crc_inj : ∀ (l : List UInt8) {r s : BitVec 32}, crc r l = crc s l → r = s
  | [], _, _, h => h
  | b :: l, _, _, h => by
    have := stepN_inj 8 (crc_inj l h)
    exact (BitVec.xor_left_inj _).1 this

theorem crc_append (r : BitVec 32) (a b : List UInt8) : crc r (a ++ b) = crc (crc r a) b := by simp [crc]

theorem crc_snoc (r : BitVec 32) (a : List UInt8) (x : UInt8) : crc r (a ++ [x]) = stepN 8 (crc r a ^^^ BitVec.ofNat 32 x.toNat) := by rw [crc_append]; rfl

theorem crc_turn {a b : List UInt8} {x y : UInt8} {r : BitVec 32} (h : crc r (a ++ x :: b) = crc r (a ++ y :: b)) : x = y := by
  rw [crc_append, crc_append] at h
  have h1 : crcB (crc r a) x = crcB (crc r a) y := crc_inj b h
  have h2 := (BitVec.xor_right_inj _).1 (stepN_inj 8 h1)
  have h3 := congrArg BitVec.toNat h2
  simp only [BitVec.toNat_ofNat] at h3
  have hx := x.toNat_lt
  have hy := y.toNat_lt
  apply UInt8.toNat_inj.1
  omega

/-! ### The program's words for it -/
theorem bv_ofInt (a : BitVec 32) : BitVec.ofInt 32 ((a.toNat : Nat) : Int) = a := by simp
theorem bits_xor32 (a b : BitVec 32) : bits .xor .u32 ((a.toNat : Nat) : Int) ((b.toNat : Nat) : Int) = (((a ^^^ b).toNat : Nat) : Int) := by
  show IntKind.u32.wrap ((BitVec.ofInt 32 ((a.toNat : Nat) : Int) ^^^ BitVec.ofInt 32 ((b.toNat : Nat) : Int)).toNat : Int) = _
  rw [bv_ofInt, bv_ofInt, IntKind.wrap_u32]
  have := (a ^^^ b).isLt
  omega
theorem bits_and32 (a b : BitVec 32) : bits .and .u32 ((a.toNat : Nat) : Int) ((b.toNat : Nat) : Int) = (((a &&& b).toNat : Nat) : Int) := by
  show IntKind.u32.wrap ((BitVec.ofInt 32 ((a.toNat : Nat) : Int) &&& BitVec.ofInt 32 ((b.toNat : Nat) : Int)).toNat : Int) = _
  rw [bv_ofInt, bv_ofInt, IntKind.wrap_u32]
  have := (a &&& b).isLt
  omega

theorem shr1_32 (a : BitVec 32) : shrI .u32 ((a.toNat : Nat) : Int) 1 = (((a >>> 1).toNat : Nat) : Int) := by
  have : shrI .u32 ((a.toNat : Nat) : Int) 1 = Int.fdiv ((a.toNat : Nat) : Int) 2 := rfl
  rw [this, BitVec.toNat_ushiftRight, Nat.shiftRight_eq_div_pow]
  simp [Int.fdiv_eq_ediv]

theorem lsb_mod (a : BitVec 32) : a.getLsbD 0 = decide (a.toNat % 2 = 1) := by
  simp [BitVec.getLsbD, Nat.testBit_zero]

theorem step_prog (a : BitVec 32) : bits .xor .u32 (shrI .u32 ((a.toNat : Nat) : Int) 1) (bits .and .u32 2197175160 (IntKind.u32.wrap (0 - bits .and .u32 ((a.toNat : Nat) : Int) 1))) = (((stepB a).toNat : Nat) : Int) := by
  have h1 : bits .and .u32 ((a.toNat : Nat) : Int) 1 = ((a.toNat % 2 : Nat) : Int) := by
    have := bits_and32 a 1#32
    simp only [BitVec.toNat_and] at this
    rw [show (((1#32 : BitVec 32).toNat : Nat) : Int) = 1 from rfl] at this
    rw [this, show (1#32 : BitVec 32).toNat = 1 from rfl, Nat.and_one_is_mod]
  rw [h1, shr1_32]
  unfold stepB
  rw [lsb_mod]
  have hm : a.toNat % 2 = 0 ∨ a.toNat % 2 = 1 := by omega
  rcases hm with hm | hm <;> rw [hm]
  · have e : bits .and .u32 2197175160 (IntKind.u32.wrap (0 - ((0 : Nat) : Int))) = (((0#32 : BitVec 32).toNat : Nat) : Int) := by decide +kernel
    rw [e, bits_xor32]; rfl
  · have e : bits .and .u32 2197175160 (IntKind.u32.wrap (0 - ((1 : Nat) : Int))) = ((crcPoly.toNat : Nat) : Int) := by decide +kernel
    rw [e, bits_xor32]; rfl

theorem rem2 (n : Nat) : remI (n : Int) 2 = ((n % 2 : Nat) : Int) := by
  unfold remI
  rw [show (2 : Int) = ((2 : Nat) : Int) from rfl, ← Int.ofNat_tmod]
theorem quo2_32 (a : BitVec 32) : quoI .u32 ((a.toNat : Nat) : Int) 2 = (((a >>> 1).toNat : Nat) : Int) := by
  unfold quoI
  rw [show (2 : Int) = ((2 : Nat) : Int) from rfl, ← Int.ofNat_tdiv, IntKind.wrap_u32, BitVec.toNat_ushiftRight, Nat.shiftRight_eq_div_pow]
  have := a.isLt
  simp only [Nat.pow_one]
  omega

theorem step_ref_odd (a : BitVec 32) (h : (remI ((a.toNat : Nat) : Int) 2 == 1) = true) : bits .xor .u32 (quoI .u32 ((a.toNat : Nat) : Int) 2) 2197175160 = (((stepB a).toNat : Nat) : Int) := by
  rw [rem2] at h
  have h' : a.toNat % 2 = 1 := by simp at h; omega
  rw [quo2_32, show (2197175160 : Int) = ((crcPoly.toNat : Nat) : Int) from rfl, bits_xor32]
  unfold stepB
  rw [lsb_mod, h']; rfl
theorem step_ref_even (a : BitVec 32) (h : (remI ((a.toNat : Nat) : Int) 2 == 1) = false) : quoI .u32 ((a.toNat : Nat) : Int) 2 = (((stepB a).toNat : Nat) : Int) := by
  rw [rem2] at h
  have h' : a.toNat % 2 = 0 := by simp at h; omega
  rw [quo2_32]
  unfold stepB
  rw [lsb_mod, h']
  simp

theorem byte_in (r : BitVec 32) (b : UInt8) : bits .xor .u32 ((r.toNat : Nat) : Int) (IntKind.u32.wrap ((b.toNat : Nat) : Int)) = (((r ^^^ BitVec.ofNat 32 b.toNat).toNat : Nat) : Int) := by
  have : IntKind.u32.wrap ((b.toNat : Nat) : Int) = (((BitVec.ofNat 32 b.toNat).toNat : Nat) : Int) := by
    rw [IntKind.wrap_u32]
    have := b.toNat_lt
    simp only [BitVec.toNat_ofNat]
    omega
  rw [this, bits_xor32]

theorem i64_succ {n : Int} (h0 : 0 ≤ n) (h1 : n < 9223372036854775807) : IntKind.i64.wrap (n + 1) = n + 1 := by rw [IntKind.wrap_i64]; omega

end Go.Vc
