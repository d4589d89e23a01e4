/- The walk of PackParts. -/
import Derived.Test.YtdclhgcgpcddlaaLaws1
namespace Go.Proofs.Ytdclhgcgpcddlaa
open Go Go.Vc Go.RowKit

namespace L1
theorem pack_append {a b : List Nat} {v : Nat} (ha : ∀ x ∈ a, x < 2 ^ (8 * v)) : bytesOf (((a ++ b).length * (8 * v) + 7) / 8) (value (8 * v) (a ++ b)) = bytesOf ((a.length * (8 * v) + 7) / 8) (value (8 * v) a) ++ bytesOf ((b.length * (8 * v) + 7) / 8) (value (8 * v) b) := by
  have hs : ∀ k : Nat, (k * (8 * v) + 7) / 8 = k * v := fun k => by rw [Nat.mul_left_comm]; omega
  have hp : 8 * v * a.length = 8 * (a.length * v) := by rw [Nat.mul_assoc, Nat.mul_comm v]
  have hlt := value_lt ha
  rw [hp] at hlt
  rw [hs, hs, hs, List.length_append, Nat.add_mul, value_append, hp]
  unfold bytesOf
  rw [digits_append, List.map_append, ← digits_mod 8 (a.length * v), Nat.add_mul_mod_self_left, digits_mod, Nat.add_mul_div_left _ _ (Nat.two_pow_pos _), Nat.div_eq_of_lt hlt, Nat.zero_add]

theorem parts_walk (w : World) (v0 v1 v2 : Value) (h0 : Arg Try.prog w 3 [v0]) (h1 : Arg Try.prog w 22 [v1]) (h2 : Arg Try.prog w 22 [v2]) :
    Calls Try.prog 5 #[v0, v1, v2] w fun e w' => e = .returned (.bool true) ∧ Ext w w' := by
  obtain ⟨x, rfl, x0, x1⟩ := arg_int h0
  obtain ⟨pa, an, ac, a, rfl, ha, han⟩ := arg_nats h1
  obtain ⟨pc, cn, cc, c, rfl, hc, hcn⟩ := arg_nats h2
  have hal := ha.len
  have hcl := hc.len
  apply lawParts_vc
  unfold lawParts_T
  refine (shown1_ok w).mono ?_
  rintro e wa ⟨rfl, ea⟩
  refine ⟨true, rfl, fun _ => ⟨rfl, ea⟩, fun hb => (pack_ok wa (ha.ext ea) x).mono ?_⟩
  obtain ⟨⟨⟨⟨hx0, hx64⟩, hx8⟩, ha2⟩, hc2⟩ := hb
  rintro e wb ⟨q1, m1, d1, rfl, o1, eb⟩
  have eb := ea.trans eb
  refine ⟨q1, m1, d1, _, rfl, (pack_ok wb (hc.ext eb) x).mono ?_⟩
  rintro e wc ⟨q2, m2, d2, rfl, o2, ec⟩
  have ec' := eb.trans ec
  have es : IntKind.i64.wrap ((an : Int) + (cn : Int)) = ((an + cn : Nat) : Int) := by rw [i64_fit (by omega) (by omega)]; omega
  refine ⟨q2, m2, d2, _, rfl, ?_⟩
  rw [es, Int.toNat_natCast]
  refine ⟨by omega, by omega, by omega, by omega, fun b18 w19 h18 => ?_⟩
  obtain ⟨z, hz, z1, z2⟩ := ty48
  have H19 := (Hold.start (.rfl : Ext wc wc)).madeRow (s := 1) (cap := an + cn) h18 (by simp [maxLen]; omega) (by rw [size_madeCells]; omega)
  have ex19 : Ext w w19 := ec'.trans H19.ext
  obtain ⟨p3, c3, w24, hrun, H24⟩ := H19.append (ty := 22) 0 rfl und22 hz z1 (by decide) (ha.ext ex19).lies (m := an) (by rw [vN_length]; omega) ha.nil (by intro u hu; obtain ⟨y, _, rfl⟩ := List.mem_map.1 hu; rfl) (by rw [z2]; omega) (by simp [maxLen]; omega)
  refine ⟨p3, _, c3, w24, hrun, ?_⟩
  have ex24 : Ext w w24 := ec'.trans H24.ext
  obtain ⟨p4, c4, w28, hrun2, H28⟩ := H24.append (ty := 22) 0 rfl und22 hz z1 (by decide) (hc.ext ex24).lies (m := cn) (by rw [vN_length]; omega) hc.nil (by intro u hu; obtain ⟨y, _, rfl⟩ := List.mem_map.1 hu; rfl) (by rw [z2]; omega) (by simp [maxLen]; omega)
  refine ⟨p4, _, c4, w28, hrun2, ?_⟩
  have hrow := H28.row 0 rfl
  have hus : Us w28 p4 (0 + an + cn) c4 (a ++ c) := by
    refine ⟨by rw [List.length_append]; omega, hrow.cap, ?_, hrow.isNil, ?_⟩
    · have := hrow.at
      rwa [List.nil_append, ← vN_append] at this
    · intro y hy
      rcases List.mem_append.1 hy with hy | hy
      · exact ha.lt y hy
      · exact hc.lt y hy
  refine (pack_ok w28 hus x).mono ?_
  rintro e w30 ⟨q5, m5, d5, rfl, o5, e5⟩
  have e30 : Ext wc w30 := H28.ext.trans e5
  obtain ⟨u, rfl⟩ := Int.eq_ofNat_of_zero_le hx0
  have hr : remI (u : Int) 8 = ((u % 8 : Nat) : Int) := rem_nat u 8
  obtain ⟨v, rfl⟩ : ∃ v, u = 8 * v := ⟨u / 8, by omega⟩
  have key : packOk (a ++ c) ((8 * v : Nat) : Int) = (packOk a ((8 * v : Nat) : Int) && packOk c ((8 * v : Nat) : Int)) := by
    rw [Bool.eq_iff_iff, Bool.and_eq_true, packOk_iff, packOk_iff, packOk_iff, widthN_le, widthN_le, widthN_le, List.length_append]
    constructor
    · rintro ⟨h1, h2, h3, h4⟩
      exact ⟨⟨by omega, h2, h3, fun y hy => h4 y (by simp [hy])⟩, by omega, h2, h3, fun y hy => h4 y (by simp [hy])⟩
    · rintro ⟨⟨h1, h2, h3, h4⟩, h1', _, _, h4'⟩
      refine ⟨by omega, h2, h3, fun y hy => ?_⟩
      rcases List.mem_append.1 hy with hy | hy
      · exact h4 y hy
      · exact h4' y hy
  refine ⟨q5, m5, d5, _, rfl, fun hne => ⟨?_, ec'.trans e30⟩, fun heq => ⟨fun _ => ?_, fun hno => ?_⟩⟩
  · have : packE (a ++ c) ((8 * v : Nat) : Int) = 2 := by
      unfold packE at hne ⊢
      rw [key]
      rcases hne with h | h
      · cases hA : packOk a ((8 * v : Nat) : Int)
        · simp
        · rw [hA] at h; exact absurd rfl h
      · cases hC : packOk c ((8 * v : Nat) : Int)
        · simp
        · rw [hC] at h; exact absurd rfl h
    rw [this]; rfl
  · have hA : packOk a ((8 * v : Nat) : Int) = true := by
      have := heq.1; unfold packE at this
      cases hA : packOk a ((8 * v : Nat) : Int)
      · rw [hA] at this; cases this
      · rfl
    have hC : packOk c ((8 * v : Nat) : Int) = true := by
      have := heq.2; unfold packE at this
      cases hC : packOk c ((8 * v : Nat) : Int)
      · rw [hC] at this; cases this
      · rfl
    have hAC : packOk (a ++ c) ((8 * v : Nat) : Int) = true := by rw [key, hA, hC]; rfl
    have hfa : ∀ y ∈ a, y < 2 ^ (8 * v) := widthN_le.1 (by have := (packOk_iff.1 hA).2.2.2; rwa [Int.toNat_natCast] at this)
    have hB : packB (a ++ c) ((8 * v : Nat) : Int) = packB a ((8 * v : Nat) : Int) ++ packB c ((8 * v : Nat) : Int) := by
      simp only [packB, hA, hC, hAC, if_true, Int.toNat_natCast]
      exact pack_append hfa
    have hm1 := o1.1
    have hm2 := o2.1
    have l1 : (packB a ((8 * v : Nat) : Int)).length ≤ 17000 := by
      simp only [packB, hA, if_true, bytesOf_length, Int.toNat_natCast]
      have := Nat.mul_le_mul (show a.length ≤ 2000 by omega) (show 8 * v ≤ 64 by omega)
      omega
    have l2 : (packB c ((8 * v : Nat) : Int)).length ≤ 17000 := by
      simp only [packB, hC, if_true, bytesOf_length, Int.toNat_natCast]
      have := Nat.mul_le_mul (show c.length ≤ 2000 by omega) (show 8 * v ≤ 64 by omega)
      omega
    refine ⟨_, o5.bytes, _, ((o1.ext ec).ext e30).bytes, _, (o2.ext e30).bytes, ?_, ?_, ec'.trans e30⟩
    · simp only [ByteArray.size, List.size_toArray]; omega
    · have : ByteArray.mk (packB (a ++ c) ((8 * v : Nat) : Int)).toArray = ByteArray.instAppend.1 (ByteArray.mk (packB a ((8 * v : Nat) : Int)).toArray) (ByteArray.mk (packB c ((8 * v : Nat) : Int)).toArray) := by
        rw [hB]
        apply ByteArray.ext
        show _ = (ByteArray.mk (packB a ((8 * v : Nat) : Int)).toArray ++ ByteArray.mk (packB c ((8 * v : Nat) : Int)).toArray).data
        rw [ByteArray.data_append]
        simp
      rw [this, sEq_self]
  · exfalso
    rcases hno with h | h
    · cases h
    · apply h
      have hA : packOk a ((8 * v : Nat) : Int) = true := by
        have := heq.1; unfold packE at this
        cases hA : packOk a ((8 * v : Nat) : Int)
        · rw [hA] at this; cases this
        · rfl
      have hC : packOk c ((8 * v : Nat) : Int) = true := by
        have := heq.2; unfold packE at this
        cases hC : packOk c ((8 * v : Nat) : Int)
        · rw [hC] at this; cases this
        · rfl
      unfold packE
      rw [key, hA, hC]
      rfl
end L1
end Go.Proofs.Ytdclhgcgpcddlaa
