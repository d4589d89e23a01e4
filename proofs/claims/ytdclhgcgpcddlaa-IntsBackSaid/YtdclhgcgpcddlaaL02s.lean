/- The check sum's contracts. -/
import Derived.Test.YtdclhgcgpcddlaaCrc
import Derived.Test.YtdclhgcgpcddlaaL02v
namespace Go.Proofs.Ytdclhgcgpcddlaa
open Go Go.Vc Go.RowKit

/-- The parts lie at p: slices, each of them bytes. -/
def Parts (w : World) (p : Option Addr) (bs : List (List UInt8)) : Prop :=
  bs = [] ∨ ∃ b o, p = some ⟨b, o, none⟩ ∧ ∀ k l, bs[k]? = some l → ∃ q d, w.cell? ⟨b, o + k, none⟩ = some (.slice q l.length d) ∧ At w q (vB l) ∧ l.length ≤ maxLen ∧ (q = none → l = [] ∧ d = 0)

def crcOf (l : List UInt8) : Int := (((4294967295#32 ^^^ crc 4294967295#32 l).toNat : Nat) : Int)

theorem take_succ_flat {bs : List (List UInt8)} {k : Nat} {l : List UInt8} (h : bs[k]? = some l) : (bs.take (k + 1)).flatten = (bs.take k).flatten ++ l := by
  rw [List.take_add_one, h]; simp

theorem take_succ_of {α : Type} {l : List α} {k : Nat} {x : α} (h : l[k]? = some x) : l.take (k + 1) = l.take k ++ [x] := by
  rw [List.take_add_one, h]; simp

theorem wireSum_ok (w : World) (p : Option Addr) (n c : Nat) (bs : List (List UInt8)) (hn : bs.length = n) (hm : n ≤ maxLen) (hp : Parts w p bs) :
    Calls Try.prog 33 #[.slice p n c] w fun e w' => e = .returned (.int .u32 (crcOf bs.flatten)) ∧ Ext w w' := by
  have hm' : n ≤ 9223372036854775807 := by simpa [maxLen] using hm
  apply wireSum_vc
  unfold wireSum_T
  refine ⟨fun a i w' => ∃ k : Nat, i = (k : Int) ∧ k ≤ n ∧ w' = w ∧ a = (((crc 4294967295#32 (bs.take k).flatten).toNat : Nat) : Int), fun _ i _ => n - i.toNat,
    ⟨0, rfl, Nat.zero_le _, rfl, by simp [crc]⟩, ?_⟩
  rintro a i w' ⟨k, rfl, hk, hw, rfl⟩
  subst hw
  refine ⟨fun hlt => ?_, fun hge => ?_⟩
  · have hlt' : k < n := by omega
    obtain ⟨l, hl⟩ : ∃ l, bs[k]? = some l := ⟨_, List.getElem?_eq_getElem (by omega)⟩
    rcases hp with hp | ⟨b, o, rfl, hp⟩
    · subst hp; simp at hl
    obtain ⟨q, d, hc, hq, hlm, _⟩ := hp k l hl
    have hlm' : l.length ≤ 9223372036854775807 := by simpa [maxLen] using hlm
    refine ⟨b, o, rfl, by omega, by omega, q, l.length, d, by simpa using hc, ?_⟩
    refine ⟨fun a i w2 => ∃ j : Nat, i = (j : Int) ∧ j ≤ l.length ∧ w2 = w' ∧ a = (((crc 4294967295#32 ((bs.take k).flatten ++ l.take j)).toNat : Nat) : Int), fun _ i _ => l.length - i.toNat,
      ⟨0, rfl, Nat.zero_le _, rfl, by simp⟩, ?_⟩
    rintro a i w2 ⟨j, rfl, hj, hw, rfl⟩
    subst hw
    refine ⟨fun hlt2 => ?_, fun hge2 => ?_⟩
    · have hj' : j < l.length := by omega
      obtain ⟨b2, o2, hq2, hc2⟩ := hq.get (i := j) (by rw [vB_length]; exact hj')
      refine ⟨b2, o2, hq2, by omega, by omega, ((l[j].toNat : Nat) : Int), by simpa [vB] using hc2, ?_⟩
      rw [byte_in]
      refine ⟨fun a i w3 => ∃ m : Nat, i = (m : Int) ∧ m ≤ 8 ∧ w3 = w2 ∧ a = (((stepN m (crc 4294967295#32 ((bs.take k).flatten ++ l.take j) ^^^ BitVec.ofNat 32 l[j].toNat)).toNat : Nat) : Int), fun _ i _ => 8 - i.toNat,
        ⟨0, rfl, Nat.zero_le _, rfl, rfl⟩, ?_⟩
      rintro a i w3 ⟨m, rfl, hm8, hw, rfl⟩
      subst hw
      refine ⟨fun hlt3 => ?_, fun hge3 => ?_⟩
      · have hm8' : m < 8 := by omega
        rw [step_prog, i64_succ (by omega) (by omega)]
        exact ⟨⟨m + 1, by simp, by omega, rfl, rfl⟩, by simp only [Int.toNat_natCast]; omega⟩
      · have hm8' : m = 8 := by omega
        subst hm8'
        rw [i64_succ (by omega) (by omega)]
        refine ⟨⟨j + 1, by simp, hj', rfl, ?_⟩, by simp only [Int.toNat_natCast]; omega⟩
        rw [take_succ_of (List.getElem?_eq_getElem hj'), ← List.append_assoc, crc_snoc]
    · have hj' : j = l.length := by omega
      subst hj'
      rw [i64_succ (by omega) (by omega)]
      refine ⟨⟨k + 1, by simp, hlt', rfl, ?_⟩, by simp only [Int.toNat_natCast]; omega⟩
      rw [take_succ_flat hl, List.take_length]
  · have hk' : k = n := by omega
    subst hk'
    refine ⟨?_, .rfl⟩
    rw [show (4294967295 : Int) = (((4294967295#32 : BitVec 32).toNat : Nat) : Int) from rfl, bits_xor32, List.take_of_length_le (by omega)]
    rfl

theorem refSum_ok (w : World) (p : Option Addr) (n c : Nat) (l : List UInt8) (hn : l.length = n) (hm : n ≤ maxLen) (hp : At w p (vB l)) :
    Calls Try.prog 34 #[.slice p n c] w fun e w' => e = .returned (.int .u32 (crcOf l)) ∧ Ext w w' := by
  have hm' : n ≤ 9223372036854775807 := by simpa [maxLen] using hm
  apply refSum_vc
  unfold refSum_T
  refine ⟨fun a i w' => ∃ k : Nat, i = (k : Int) ∧ k ≤ n ∧ w' = w ∧ a = (((crc 4294967295#32 (l.take k)).toNat : Nat) : Int), fun _ i _ => n - i.toNat,
    ⟨0, rfl, Nat.zero_le _, rfl, by simp [crc]⟩, ?_⟩
  rintro a i w' ⟨j, rfl, hj, hw, rfl⟩
  subst hw
  refine ⟨fun hlt2 => ?_, fun hge => ?_⟩
  · have hj' : j < l.length := by omega
    obtain ⟨b2, o2, hq2, hc2⟩ := hp.get (i := j) (by rw [vB_length]; exact hj')
    refine ⟨b2, o2, hq2, by omega, by omega, ((l[j].toNat : Nat) : Int), by simpa [vB] using hc2, ?_⟩
    rw [byte_in]
    refine ⟨fun a i w3 => ∃ m : Nat, i = (m : Int) ∧ m ≤ 8 ∧ w3 = w' ∧ a = (((stepN m (crc 4294967295#32 (l.take j) ^^^ BitVec.ofNat 32 l[j].toNat)).toNat : Nat) : Int), fun _ i _ => 8 - i.toNat,
      ⟨0, rfl, Nat.zero_le _, rfl, rfl⟩, ?_⟩
    rintro a i w3 ⟨m, rfl, hm8, hw, rfl⟩
    subst hw
    refine ⟨fun hlt3 => ?_, fun hge3 => ?_⟩
    · have hm8' : m < 8 := by omega
      rw [i64_succ (by omega) (by omega)]
      refine ⟨fun hodd => ?_, fun heven => ?_⟩
      · rw [step_ref_odd _ (beq_iff_eq.2 hodd)]
        exact ⟨⟨m + 1, by simp, by omega, rfl, rfl⟩, by simp only [Int.toNat_natCast]; omega⟩
      · rw [step_ref_even _ (beq_eq_false_iff_ne.2 heven)]
        exact ⟨⟨m + 1, by simp, by omega, rfl, rfl⟩, by simp only [Int.toNat_natCast]; omega⟩
    · have hm8' : m = 8 := by omega
      subst hm8'
      rw [i64_succ (by omega) (by omega)]
      refine ⟨⟨j + 1, by simp, by omega, rfl, ?_⟩, by simp only [Int.toNat_natCast]; omega⟩
      rw [take_succ_of (List.getElem?_eq_getElem hj'), crc_snoc]
  · have hk' : j = n := by omega
    subst hk'
    refine ⟨?_, .rfl⟩
    rw [show (4294967295 : Int) = (((4294967295#32 : BitVec 32).toNat : Nat) : Int) from rfl, bits_xor32, List.take_of_length_le (by omega)]
    unfold crcOf
    rw [BitVec.xor_comm]

end Go.Proofs.Ytdclhgcgpcddlaa
