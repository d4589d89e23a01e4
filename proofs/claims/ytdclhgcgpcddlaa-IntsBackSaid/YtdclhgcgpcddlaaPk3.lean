/- The contracts of package pack and of its document's answer: the document's packing, unpacking. -/
import Derived.Test.YtdclhgcgpcddlaaPk2
namespace Go.Proofs.Ytdclhgcgpcddlaa
open Go Go.Vc Go.RowKit

set_option maxRecDepth 100000 in
theorem rpack_ok (w : World) {p : Option Addr} {n c : Nat} {l : List Nat} (h : Us w p n c l) (w_ : Int) (hw63 : w_ ≤ 9223372036854775807) :
    Calls Try.prog 28 #[.int .i64 w_, .slice p n c] w fun e w' => ∃ q m d, e = .returned (.tuple #[.slice q m d, .int .i64 (packE l w_)]) ∧ OutB w.heap.size 5 w' q m d (packB l w_) ∧ Ext w w' := by
  have hlen := h.len
  have hle63 : n ≤ 9223372036854775807 := h.le
  apply rpack_vc
  unfold rpack_T
  refine (rsize_ok w n w_).mono ?_
  rintro e w2 ⟨rfl, e2⟩
  unfold sizeV
  by_cases hs : (0 ≤ (n : Int) ∧ (n : Int) ≤ 4096) ∧ 0 ≤ w_ ∧ w_ ≤ 64
  · rw [if_pos hs]
    obtain ⟨u, rfl⟩ := Int.eq_ofNat_of_zero_le hs.2.1
    rw [size_cast]
    have hn : n ≤ 4096 := by omega
    have hu : u ≤ 64 := by omega
    have hnu : n * u ≤ 4096 * 64 := Nat.mul_le_mul hn hu
    obtain ⟨N, hN⟩ : ∃ N, N = value u l := ⟨_, rfl⟩
    obtain ⟨S, hS⟩ : ∃ S, S = (n * u + 7) / 8 := ⟨_, rfl⟩
    rw [← hS]
    refine ⟨_, _, rfl, fun h => absurd rfl h, fun _ => ⟨by omega, by omega, by omega, by omega, fun b7 w8 h7 => ?_⟩⟩
    rw [Int.toNat_natCast] at h7 ⊢
    rw [madeCells_nat] at h7
    have H8 := (Hold.start e2).new h7
    refine ⟨fun i W => ∃ k : Nat, i = (k : Int) ∧ k ≤ n ∧ (∀ x ∈ l.take k, x < 2 ^ u) ∧ Hold w W [(b7, .cells (vN .u8 (digits 8 S (N % 2 ^ (k * u)))).toArray 5)] [], fun i _ => n - i.toNat,
      ⟨0, rfl, Nat.zero_le _, by simp, by rw [Nat.zero_mul, Nat.pow_zero, Nat.mod_one, digits_zero]; exact H8⟩, ?_⟩
    rintro i W ⟨k, rfl, hk, hall, H⟩
    refine ⟨fun hlt => ?_, fun hge => ?_⟩
    · obtain ⟨x, hx⟩ : ∃ x, l[k]? = some x := ⟨_, List.getElem?_eq_getElem (by omega)⟩
      have hx64 := h.lt x (List.mem_of_getElem? hx)
      obtain ⟨b, o, hp, hc⟩ := (h.ext H.ext).lies.getN hx
      refine ⟨b, o, hp, by omega, by omega, _, by rw [Int.toNat_natCast]; exact hc, (of_ok W x hx64 _ hw63).mono ?_⟩
      rintro e w20 ⟨rfl, e20⟩
      rw [Int.toNat_natCast]
      have H20 := H.step e20
      refine ⟨_, rfl, fun hb => ?_, fun hb => ?_⟩
      · have hno : packOk l u = false := by
          rw [← Bool.not_eq_true, packOk_iff]
          rintro ⟨_, _, _, h4⟩
          have := widthN_le.1 h4 x (List.mem_of_getElem? hx)
          simp only [Int.toNat_natCast] at this
          simp at hb
          omega
        exact ⟨none, 0, 0, by simp [packE, hno], by simp only [packB, hno]; exact ⟨rfl, Mine.nil _ _ _ _⟩, H20.ext⟩
      · have hxu : x < 2 ^ u := by simpa using hb
        have hall' : ∀ y ∈ l.take (k + 1), y < 2 ^ u := by
          rw [take_snoc hx]
          intro y hy
          rcases List.mem_append.1 hy with hy | hy
          · exact hall y hy
          · simp at hy; subst hy; exact hxu
        obtain ⟨b, o, hp, hc⟩ := (h.ext H20.ext).lies.getN hx
        -- what the number is up to here
        have hku : k * u + u ≤ n * u := by have := Nat.mul_le_mul_right u (show k + 1 ≤ n by omega); rwa [Nat.succ_mul] at this
        have hbit : ∀ j, j < u → x / 2 ^ j % 2 = N / 2 ^ (k * u + j) % 2 := by
          intro j hj
          -- the numbers up to k and their value
          have e1 : l = l.take (k + 1) ++ l.drop (k + 1) := (List.take_append_drop _ _).symm
          have e2 : N = value u (l.take (k + 1)) + 2 ^ (u * (k + 1)) * value u (l.drop (k + 1)) := by
            rw [hN]; conv => lhs; rw [e1]
            rw [value_append, List.length_take, Nat.min_eq_left (by omega)]
          have e3 : digits u (k + 1) N = l.take (k + 1) := by
            have := digits_value hall'
            rw [List.length_take, Nat.min_eq_left (by omega)] at this
            have e4 : N % 2 ^ (u * (k + 1)) = value u (l.take (k + 1)) := by
              rw [e2, Nat.add_mul_mod_self_left, Nat.mod_eq_of_lt]
              have := value_lt hall'
              rwa [List.length_take, Nat.min_eq_left (by omega)] at this
            rw [← digits_mod, e4, this]
          have e5 : (l.take (k + 1))[k]? = some x := by rw [List.getElem?_take, if_pos (by omega), hx]
          rw [← e3, digits_get (by omega)] at e5
          cases e5
          rw [digit_bit hj, Nat.mul_comm u k]
        refine ⟨b, o, hp, by omega, by omega, _, by rw [Int.toNat_natCast]; exact hc, ?_⟩
        refine ⟨fun a i W => ∃ j : Nat, i = (j : Int) ∧ j ≤ u ∧ a = ((x / 2 ^ j : Nat) : Int) ∧ Hold w W [(b7, .cells (vN .u8 (digits 8 S (N % 2 ^ (k * u + j)))).toArray 5)] [], fun _ i _ => u - i.toNat,
          ⟨0, rfl, Nat.zero_le _, by simp, H20⟩, ?_⟩
        rintro a i W3 ⟨j, rfl, hj, rfl, H3⟩
        have hxle : x / 2 ^ j ≤ x := Nat.div_le_self _ _
        refine ⟨fun hlt => ?_, fun hge => ?_⟩
        · have hju : j < u := by omega
          have hAt : IntKind.i64.wrap (IntKind.i64.wrap ((k : Int) * (u : Int)) + (j : Int)) = ((k * u + j : Nat) : Int) := by
            rw [show (k : Int) * (u : Int) = ((k * u : Nat) : Int) by simp, i64_nat (by omega), show ((k * u : Nat) : Int) + (j : Int) = ((k * u + j : Nat) : Int) by omega, i64_nat (by omega)]
          have hq : quoI .i64 ((k * u + j : Nat) : Int) 8 = (((k * u + j) / 8 : Nat) : Int) := quo_i64 8 (by omega)
          have hr : remI ((k * u + j : Nat) : Int) 8 = (((k * u + j) % 8 : Nat) : Int) := rem_nat _ 8
          have hx2 : remI ((x / 2 ^ j : Nat) : Int) 2 = ((x / 2 ^ j % 2 : Nat) : Int) := rem_nat _ 2
          have hnx : quoI .u64 ((x / 2 ^ j : Nat) : Int) 2 = ((x / 2 ^ (j + 1) : Nat) : Int) := by
            rw [show (2 : Int) = ((2 : Nat) : Int) from rfl, quo_u64 2 (by omega), Nat.div_div_eq_div_mul, Nat.pow_succ]
          rw [hAt, hq, hr, hx2, hnx, i64_next (by omega)]
          simp only [Int.toNat_natCast]
          have h8 : (k * u + j) / 8 < S := by omega
          have hcell : (vN .u8 (digits 8 S (N % 2 ^ (k * u + j)))).toArray[(k * u + j) / 8]? = some (.int .u8 (((N % 2 ^ (k * u + j)) / 2 ^ (8 * ((k * u + j) / 8)) % 2 ^ 8 : Nat) : Int)) := by
            rw [List.getElem?_toArray]; exact vN_get .u8 (digits_get h8)
          refine ⟨fun hone w35 hd => ?_, fun hzero => ?_⟩
          · have hone' : N / 2 ^ (k * u + j) % 2 = 1 := by rw [← hbit j hju]; omega
            have H35 := H3.step hd.ext
            have hold := (H35.blk 0 rfl).cell ((k * u + j) / 8)
            rw [hcell] at hold
            refine ⟨b7, 0, rfl, by omega, by omega, _, by rw [Nat.zero_add]; exact hold, by omega, b7, 0, rfl, by omega, by omega, ⟨_, by rw [Nat.zero_add]; exact hold⟩, (H35.blk 0 rfl).frozen _, fun w43 hput => ?_⟩
            rw [Nat.zero_add, show (1 : Int) = ((1 : Nat) : Int) from rfl, byte_or (Nat.mod_lt _ (by decide)) (by decide) (by omega)] at hput
            have H43 := H35.put 0 rfl hput
            refine ⟨⟨j + 1, rfl, by omega, rfl, ?_⟩, by omega⟩
            have hstep := digits_step (s := 8) (n := S) (N := N) (at_ := k * u + j) (by decide) (by omega)
            rw [hone'] at hstep
            rw [← Nat.add_assoc, hstep, vN_set, ← List.setIfInBounds_toArray]
            exact H43
          · have hz : N / 2 ^ (k * u + j) % 2 = 0 := by rw [← hbit j hju]; omega
            refine ⟨⟨j + 1, rfl, by omega, rfl, ?_⟩, by omega⟩
            rw [← Nat.add_assoc, digits_step0 hz]
            exact H3
        · have : j = u := by omega
          subst this
          rw [i64_next (by omega)]
          refine ⟨⟨k + 1, rfl, by omega, hall', by rw [Nat.succ_mul]; exact H3⟩, by simp only [Int.toNat_natCast]; omega⟩
    · have hkn : k = n := by omega
      subst hkn
      rw [List.take_of_length_le (by omega)] at hall
      have hyes : packOk l u = true := by rw [packOk_iff]; exact ⟨by omega, by omega, by omega, widthN_le.2 (by simpa using hall)⟩
      have hNlt : N < 2 ^ (k * u) := by rw [hN, Nat.mul_comm, ← hlen]; exact value_lt hall
      have hB := (H.blk 0 rfl).mine (H.base 0 rfl) (cap := S) (s := 1) (by simp [vN_length, digits_length]) (by simp [maxLen]; omega)
      rw [Nat.mod_eq_of_lt hNlt, ← vB_bytesOf] at hB
      have eB : packB l u = bytesOf S N := by simp only [packB, hyes, if_true, Int.toNat_natCast, hlen, hS, hN]
      exact ⟨some ⟨b7, 0, none⟩, S, S, by simp [packE, hyes], by rw [eB]; exact ⟨bytesOf_length _ _, hB⟩, H.ext⟩
  · rw [if_neg hs]
    have hno : packOk l w_ = false := by rw [← Bool.not_eq_true, packOk_iff]; omega
    exact ⟨_, _, rfl, fun _ => ⟨none, 0, 0, by simp [packE, hno], by simp only [packB, hno]; exact ⟨rfl, Mine.nil _ _ _ _⟩, e2⟩, fun h => absurd h (by decide)⟩

theorem same_ok (w : World) {p q : Option Addr} {n c m d : Nat} {a b : List Nat} (ha : Us w p n c a) (hb : Us w q m d b) :
    Calls Try.prog 31 #[.slice p n c, .slice q m d] w fun e w' => e = .returned (.bool (decide (a = b))) ∧ Ext w w' := by
  have hla := ha.len
  have hlb := hb.len
  have hle : n ≤ 9223372036854775807 := ha.le
  apply same_vc
  unfold same_T
  refine ⟨fun hne => ⟨?_, .rfl⟩, fun he => ?_⟩
  · rw [decide_eq_false]; rintro rfl; omega
  · refine ⟨fun i w' => ∃ k : Nat, i = (k : Int) ∧ k ≤ n ∧ a.take k = b.take k ∧ Ext w w', fun i _ => n - i.toNat, ⟨0, rfl, Nat.zero_le _, rfl, .rfl⟩, ?_⟩
    rintro i w' ⟨k, rfl, hk, ht, hx⟩
    refine ⟨fun hlt w9 hd => ?_, fun hge => ⟨?_, hx⟩⟩
    · have hx9 := hx.trans hd.ext
      obtain ⟨x, hxk⟩ : ∃ x, a[k]? = some x := ⟨_, List.getElem?_eq_getElem (by omega)⟩
      obtain ⟨y, hyk⟩ : ∃ y, b[k]? = some y := ⟨_, List.getElem?_eq_getElem (by omega)⟩
      obtain ⟨b1, o1, hp1, hc1⟩ := (ha.ext hx9).lies.getN hxk
      obtain ⟨b2, o2, hp2, hc2⟩ := (hb.ext hx9).lies.getN hyk
      rw [Int.toNat_natCast]
      refine ⟨b1, o1, hp1, by omega, by omega, _, hc1, b2, o2, hp2, by omega, by omega, _, hc2, fun hne => ⟨?_, hx9⟩, fun he => ?_⟩
      · rw [decide_eq_false]
        rintro rfl
        rw [hxk] at hyk; cases hyk; exact hne rfl
      · rw [i64_next (by omega)]
        refine ⟨⟨k + 1, rfl, by omega, ?_, hx9⟩, by simp only [Int.toNat_natCast]; omega⟩
        rw [take_snoc hxk, take_snoc hyk, ht, show x = y by omega]
    · have : k = n := by omega
      subst this
      rw [List.take_of_length_le (by omega), List.take_of_length_le (by omega)] at ht
      rw [decide_eq_true ht]

end Go.Proofs.Ytdclhgcgpcddlaa
