/- Numbers out of bytes: the contracts of both readings, by one definition. -/
import Derived.Test.YtdclhgcgpcddlaaArith
import Derived.Test.YtdclhgcgpcddlaaNum
import Derived.Test.YtdclhgcgpcddlaaL02w
namespace Go.Vc
open Go

/-- Which number do bytes say, and how many bytes is it? (i: how many were read before; acc: their sum.) -/
def rd : List UInt8 → Nat → Nat → Option (Nat × Nat)
  | [], _, _ => none
  | c :: r, i, acc =>
    if 9 < i ∨ (i = 9 ∧ c.toNat ≠ 1) then none
    else if c.toNat < 128 then (if c.toNat = 0 ∧ 0 < i then none else some (acc + c.toNat % 128 * 2 ^ (7 * i), i + 1))
    else rd r (i + 1) (acc + c.toNat % 128 * 2 ^ (7 * i))

theorem ten {i : Nat} (h : i ≤ 9) : i = 0 ∨ i = 1 ∨ i = 2 ∨ i = 3 ∨ i = 4 ∨ i = 5 ∨ i = 6 ∨ i = 7 ∨ i = 8 ∨ i = 9 := by omega

theorem take_lt {acc c i : Nat} (hi : i ≤ 9) (ha : acc < 2 ^ (7 * i)) (hc : c < 256) (h9 : i = 9 → c = 1) : acc + c % 128 * 2 ^ (7 * i) < 18446744073709551616 := by
  rcases ten hi with rfl | rfl | rfl | rfl | rfl | rfl | rfl | rfl | rfl | rfl <;> simp only [Nat.reduceMul, Nat.reducePow] at ha ⊢
  all_goals first
    | omega
    | (have := h9 rfl; omega)

theorem take_next {acc c i : Nat} (ha : acc < 2 ^ (7 * i)) : acc + c % 128 * 2 ^ (7 * i) < 2 ^ (7 * (i + 1)) := by
  have h1 : 2 ^ (7 * (i + 1)) = 2 ^ (7 * i) * 128 := by rw [Nat.mul_add, Nat.pow_add]
  have h2 : c % 128 * 2 ^ (7 * i) ≤ 127 * 2 ^ (7 * i) := Nat.mul_le_mul_right _ (by omega)
  omega

theorem wrap_u64_nat {n : Nat} (h : n < 18446744073709551616) : IntKind.u64.wrap (n : Int) = (n : Int) := by
  simp [IntKind.wrap, IntKind.bits, IntKind.signed]; omega

theorem seven {i : Nat} (hi : i ≤ 9) : IntKind.i64.wrap (7 * (i : Int)) = ((7 * i : Nat) : Int) := by rw [IntKind.wrap_i64]; omega

theorem shl_nat {x k : Nat} (hk : k ≤ 64) (h : x * 2 ^ k < 18446744073709551616) : shlI .u64 (x : Int) k = ((x * 2 ^ k : Nat) : Int) := by
  unfold shlI
  rw [show min k IntKind.u64.bits = k from Nat.min_eq_left hk]
  have : ((x : Int) * 2 ^ k) = ((x * 2 ^ k : Nat) : Int) := by simp
  rw [this, wrap_u64_nat h]

theorem and127_u8 (c : UInt8) : bits .and .u8 ((c.toNat : Nat) : Int) 127 = ((c.toNat % 128 : Nat) : Int) := by
  have hc := c.toNat_lt
  have := bits_mask .u8 8 (by decide) (fun m h0 h1 => by rw [IntKind.wrap_u8]; omega) 7 (by decide) ((c.toNat : Nat) : Int) (by omega) (by show ((c.toNat : Nat) : Int) < 256; omega)
  rw [show ((2 : Int) ^ 7 - 1) = 127 from rfl, show ((2 : Int) ^ 7) = 128 from rfl] at this
  rw [this]; omega

theorem take_prog {acc i : Nat} {c : UInt8} (hi : i ≤ 9) (ha : acc < 2 ^ (7 * i)) (h9 : i = 9 → c.toNat = 1) :
    bits .or .u64 (acc : Int) (shlI .u64 (IntKind.u64.wrap (bits .and .u8 ((c.toNat : Nat) : Int) 127)) (IntKind.i64.wrap (7 * (i : Int))).toNat) = ((acc + c.toNat % 128 * 2 ^ (7 * i) : Nat) : Int) := by
  have hc := c.toNat_lt
  have hlt := take_lt hi ha hc h9
  rw [and127_u8, wrap_u64_nat (by omega), seven hi, Int.toNat_natCast, shl_nat (by omega) (by omega), bits_or_u64_nat _ _ (by omega) (by omega)]
  have h := Nat.two_pow_add_eq_or_of_lt (i := 7 * i) ha (c.toNat % 128)
  rw [Nat.mul_comm, Nat.or_comm, ← h]
  congr 1
  omega

theorem take_ref {acc i : Nat} {c : UInt8} (hi : i ≤ 9) (ha : acc < 2 ^ (7 * i)) (h9 : i = 9 → c.toNat = 1 ∨ c.toNat = 0) :
    IntKind.u64.wrap ((acc : Int) + shlI .u64 (IntKind.u64.wrap (remI ((c.toNat : Nat) : Int) 128)) (IntKind.i64.wrap (7 * (i : Int))).toNat) = ((acc + c.toNat % 128 * 2 ^ (7 * i) : Nat) : Int) := by
  have hc := c.toNat_lt
  have hlt : acc + c.toNat % 128 * 2 ^ (7 * i) < 18446744073709551616 := by
    by_cases h0 : c.toNat = 0
    · rw [h0]
      have := take_lt (c := 1) hi ha (by decide) (fun _ => rfl)
      omega
    · exact take_lt hi ha hc (fun h => (h9 h).resolve_right h0)
  have hrem : remI ((c.toNat : Nat) : Int) 128 = ((c.toNat % 128 : Nat) : Int) := by
    unfold remI
    rw [show (128 : Int) = ((128 : Nat) : Int) from rfl, ← Int.ofNat_tmod]
  rw [hrem, wrap_u64_nat (by omega), seven hi, Int.toNat_natCast, shl_nat (by omega) (by omega)]
  rw [← Int.natCast_add, wrap_u64_nat hlt]

theorem place_next {q k : Nat} (h : q + k < 9223372036854775807) : IntKind.i64.wrap (IntKind.i64.wrap ((q : Int) + (k : Int)) + 1) = (q : Int) + ((k + 1 : Nat) : Int) := by
  have h1 : IntKind.i64.wrap ((q : Int) + (k : Int)) = (q : Int) + (k : Int) := by rw [IntKind.wrap_i64]; omega
  rw [h1, IntKind.wrap_i64]
  omega

/-- Which number bytes say at a place, and where it ends. -/
def takeN (l : List UInt8) (pos : Int) : Option (Nat × Nat) := if 0 ≤ pos then (rd (l.drop pos.toNat) 0 0).map fun r => (r.1, pos.toNat + r.2) else none

/-- What TakeNumber hands back. -/
def takeV (l : List UInt8) (pos : Int) : Value :=
  match takeN l pos with
  | some (v, k) => .tuple #[.int .u64 (v : Int), .int .i64 (k : Int), .int .i64 0]
  | none => .tuple #[.int .u64 0, .int .i64 0, .int .i64 20]
/-- What TakeSigned hands back. -/
def takeS (l : List UInt8) (pos : Int) : Value :=
  match takeN l pos with
  | some (v, k) => .tuple #[.int .i64 (unzig v), .int .i64 (k : Int), .int .i64 0]
  | none => .tuple #[.int .i64 0, .int .i64 0, .int .i64 20]

theorem rd_spec : ∀ (l : List UInt8) (i acc v k : Nat), rd l i acc = some (v, k) → acc < 2 ^ (7 * i) → v < 18446744073709551616 ∧ i < k ∧ k ≤ i + l.length ∧ k ≤ 10
  | [], i, acc, v, k, h, _ => by cases h
  | c :: r, i, acc, v, k, h, ha => by
    rw [rd] at h
    have hc := c.toNat_lt
    by_cases h1 : 9 < i ∨ (i = 9 ∧ c.toNat ≠ 1)
    · rw [if_pos h1] at h; cases h
    · rw [if_neg h1] at h
      have hi9 : i ≤ 9 := by omega
      by_cases h2 : c.toNat < 128
      · rw [if_pos h2] at h
        by_cases h3 : c.toNat = 0 ∧ 0 < i
        · rw [if_pos h3] at h; cases h
        · rw [if_neg h3] at h
          cases h
          exact ⟨take_lt hi9 ha hc (fun h => by omega), by omega, by simp, by omega⟩
      · rw [if_neg h2] at h
        obtain ⟨e1, e2, e3, e4⟩ := rd_spec r (i + 1) _ v k h (take_next ha)
        exact ⟨e1, by omega, by simp; omega, e4⟩

theorem takeN_spec {l : List UInt8} {pos : Int} {v k : Nat} (h : takeN l pos = some (v, k)) : 0 ≤ pos ∧ v < 18446744073709551616 ∧ pos.toNat < k ∧ k ≤ l.length ∧ rd (l.drop pos.toNat) 0 0 = some (v, k - pos.toNat) := by
  unfold takeN at h
  split at h
  · rename_i h0
    cases hr : rd (l.drop pos.toNat) 0 0 with
    | none => rw [hr] at h; cases h
    | some r =>
      rw [hr] at h
      obtain ⟨v', k'⟩ := r
      cases h
      obtain ⟨e1, e2, e3, e4⟩ := rd_spec _ _ _ _ _ hr (by simp)
      simp at e3
      exact ⟨h0, e1, by omega, by omega, by simp⟩
  · cases h

/-! A number's bytes are read as it was, whatever stands behind; and what is read has these bytes. -/
theorem rd_uvar : ∀ (j n i acc : Nat) (rest : List UInt8), n < 128 ^ (j + 1) → i + j ≤ 9 → (i + j = 9 → n < 2 * 128 ^ j) → (0 < i → 0 < n) → rd (uvar n ++ rest) i acc = some (acc + n * 2 ^ (7 * i), i + (uvar n).length)
  | j, n, i, acc, rest, hn, hi, h9, hp => by
    by_cases hs : n < 128
    · rw [uvar_small hs]
      have e : (UInt8.ofNat n).toNat = n := u8_toNat (by omega)
      have hne : ¬ (9 < i ∨ (i = 9 ∧ (UInt8.ofNat n).toNat ≠ 1)) := by
        rw [e]
        rintro (h | ⟨h, h'⟩)
        · omega
        · have : j = 0 := by omega
          subst this
          have := h9 (by omega)
          have := hp (by omega)
          simp at *; omega
      simp only [List.singleton_append, rd]
      rw [if_neg hne, e, if_pos hs, if_neg (by intro h; have := hp h.2; omega), Nat.mod_eq_of_lt hs]
      simp
    · have hj : j ≠ 0 := by rintro rfl; simp at hn; omega
      obtain ⟨j', rfl⟩ := Nat.exists_eq_succ_of_ne_zero hj
      rw [uvar_big (by omega)]
      have e : (UInt8.ofNat (n % 128 + 128)).toNat = n % 128 + 128 := u8_toNat (by omega)
      simp only [List.cons_append, rd]
      have hp1 : 128 ^ (j' + 1 + 1) = 128 ^ (j' + 1) * 128 := Nat.pow_succ ..
      have hp2 : 128 ^ (j' + 1) = 128 ^ j' * 128 := Nat.pow_succ ..
      rw [if_neg (by omega), e, if_neg (by omega)]
      rw [rd_uvar j' (n / 128) (i + 1) _ rest (by rw [Nat.div_lt_iff_lt_mul (by decide), ← hp1]; exact hn) (by omega) (fun h => by have := h9 (by omega); simp only [Nat.succ_eq_add_one] at this; rw [hp2] at this; omega) (fun _ => by omega)]
      congr 1
      refine Prod.ext ?_ (by simp; omega)
      show acc + (n % 128 + 128) % 128 * 2 ^ (7 * i) + n / 128 * 2 ^ (7 * (i + 1)) = acc + n * 2 ^ (7 * i)
      have h1 : 2 ^ (7 * (i + 1)) = 128 * 2 ^ (7 * i) := by rw [Nat.mul_add, Nat.pow_add]; omega
      rw [h1, show (n % 128 + 128) % 128 = n % 128 by omega, ← Nat.mul_assoc, Nat.add_assoc, ← Nat.add_mul]
      congr 2; omega

theorem takeN_uvar {n : Nat} (hn : n < 18446744073709551616) (pre rest : List UInt8) : takeN (pre ++ (uvar n ++ rest)) (pre.length : Int) = some (n, pre.length + (uvar n).length) := by
  unfold takeN
  rw [if_pos (by omega)]
  simp only [Int.toNat_natCast, List.drop_left]
  rw [rd_uvar 9 n 0 0 rest (by omega) (by omega) (fun _ => by omega) (fun h => by omega)]
  simp

/-- The bytes that were read are the number's. -/
theorem rd_back : ∀ (l : List UInt8) (i acc v k : Nat), rd l i acc = some (v, k) → ∃ n, v = acc + n * 2 ^ (7 * i) ∧ l.take (k - i) = uvar n ∧ (0 < i → 0 < n)
  | [], i, acc, v, k, h => by cases h
  | c :: r, i, acc, v, k, h => by
    rw [rd] at h
    have hc := c.toNat_lt
    by_cases h1 : 9 < i ∨ (i = 9 ∧ c.toNat ≠ 1)
    · rw [if_pos h1] at h; cases h
    · rw [if_neg h1] at h
      by_cases h2 : c.toNat < 128
      · rw [if_pos h2] at h
        by_cases h3 : c.toNat = 0 ∧ 0 < i
        · rw [if_pos h3] at h; cases h
        · rw [if_neg h3] at h
          cases h
          refine ⟨c.toNat, by rw [Nat.mod_eq_of_lt h2], ?_, fun hi => by omega⟩
          rw [uvar_small h2, show i + 1 - i = 1 by omega]
          simp
      · rw [if_neg h2] at h
        have hk : i + 1 < k := by
          rcases Nat.lt_or_ge (i + 1) k with h' | h'
          · exact h'
          · exfalso
            -- a number that goes on ends later
            have : ∀ (l : List UInt8) (i acc v k : Nat), rd l i acc = some (v, k) → i < k := by
              intro l
              induction l with
              | nil => intro i acc v k h; cases h
              | cons c r ih =>
                intro i acc v k h
                rw [rd] at h
                split at h
                · cases h
                · split at h
                  · split at h
                    · cases h
                    · cases h; omega
                  · have := ih _ _ _ _ h; omega
            have := this _ _ _ _ _ h
            omega
        obtain ⟨n, hv, ht, hp⟩ := rd_back r (i + 1) _ v k h
        have hn := hp (by omega)
        refine ⟨c.toNat % 128 + n * 128, ?_, ?_, fun _ => by omega⟩
        · rw [hv, show 2 ^ (7 * (i + 1)) = 128 * 2 ^ (7 * i) by rw [Nat.mul_add, Nat.pow_add]; omega, Nat.add_mul, Nat.mul_assoc, Nat.add_assoc]
        · rw [uvar_big (by omega), show k - i = (k - (i + 1)) + 1 by omega, List.take_succ_cons, ht, show (c.toNat % 128 + n * 128) / 128 = n by omega]
          congr 1
          apply UInt8.toNat_inj.1
          rw [u8_toNat (by omega)]
          omega

theorem takeN_back {l : List UInt8} {pos : Int} {v k : Nat} (h : takeN l pos = some (v, k)) : (l.take k).drop pos.toNat = uvar v := by
  obtain ⟨h0, h1, h2, h3, h4⟩ := takeN_spec h
  obtain ⟨n, hv, ht, _⟩ := rd_back _ _ _ _ _ h4
  simp at hv
  subst hv
  rw [List.drop_take]
  simpa using ht
end Go.Vc

namespace Go.Proofs.Ytdclhgcgpcddlaa
open Go Go.Vc Go.RowKit

theorem takeNumber_ok (w : World) (p : Option Addr) (n c : Nat) (l : List UInt8) (pos : Int) (hn : l.length = n) (hnc : n ≤ c) (hm : n ≤ maxLen) (hp : At w p (vB l)) :
    Calls Try.prog 38 #[.slice p n c, .int .i64 pos] w fun e w' => e = .returned (takeV l pos) ∧ Ext w w' := by
  have hm' : n ≤ 9223372036854775807 := hm
  apply takeNumber_vc
  unfold takeNumber_T
  refine ⟨fun h => ⟨?_, .rfl⟩, fun h => ?_⟩
  · unfold takeV takeN
    split
    · rename_i v k hh
      split at hh
      · have hd : l.drop pos.toNat = [] := by rw [List.drop_eq_nil_iff]; omega
        rw [hd] at hh; cases hh
      · cases hh
    · rfl
  · obtain ⟨q, rfl⟩ := Int.eq_ofNat_of_zero_le h.1
    have hq : q ≤ n := by omega
    have hV : takeV l (q : Int) = (match rd (l.drop q) 0 0 with
        | some (v, k) => .tuple #[.int .u64 (v : Int), .int .i64 ((q : Int) + (k : Int)), .int .i64 0]
        | none => .tuple #[.int .u64 0, .int .i64 0, .int .i64 20]) := by
      unfold takeV takeN; rw [if_pos (by omega), Int.toNat_natCast]
      cases rd (l.drop q) 0 0 <;> simp
    have hat : At w (slBase p q c 1) (vB (l.drop q)) := by
      have := hp.slice q n c 1 hnc
      rw [Nat.mul_one, Nat.mul_one, List.take_of_length_le (by rw [vB_length]; omega)] at this
      simpa [vB, List.map_drop] using this
    simp only [Int.toNat_natCast]
    refine ⟨by omega, by omega, ?_⟩
    refine ⟨fun a i w' => ∃ (k acc : Nat), i = (k : Int) ∧ a = (acc : Int) ∧ w' = w ∧ k ≤ 10 ∧ acc < 2 ^ (7 * k) ∧ k ≤ n - q ∧ rd ((l.drop q).drop k) k acc = rd (l.drop q) 0 0, fun _ i _ => n - i.toNat,
      ⟨0, 0, rfl, rfl, rfl, by omega, by simp, by omega, rfl⟩, ?_⟩
    rintro a i w' ⟨k, acc, rfl, rfl, hw, hk10, hacc, hkn, hrd⟩
    subst hw
    refine ⟨fun hlt => ?_, fun hge => ⟨?_, .rfl⟩⟩
    · have hk : k < (l.drop q).length := by simp; omega
      have hk2 : k < n - q := by simp at hk; omega
      obtain ⟨b, o, hb, hc⟩ := hat.getB hk
      obtain ⟨x, hx⟩ : ∃ x, x = (l.drop q)[k] := ⟨_, rfl⟩
      have hdrop : (l.drop q).drop k = x :: (l.drop q).drop (k + 1) := by rw [hx]; exact List.drop_eq_getElem_cons hk
      rw [hdrop, rd] at hrd
      have hxlt := x.toNat_lt
      refine ⟨b, o, hb, by omega, by omega, ((x.toNat : Nat) : Int), by rw [hx]; simpa using hc, fun h9 => ⟨?_, .rfl⟩, fun h9 => ?_⟩
      · rw [if_pos (.inl (by omega))] at hrd
        rw [hV, ← hrd]
      · have hk9 : k ≤ 9 := by omega
        refine ⟨fun he => ⟨?_, .rfl⟩, fun he => ?_⟩
        · rw [if_pos (.inr (by omega))] at hrd
          rw [hV, ← hrd]
        · have h91 : k = 9 → x.toNat = 1 := by omega
          have hno : ¬ (9 < k ∨ (k = 9 ∧ x.toNat ≠ 1)) := by omega
          rw [if_neg hno] at hrd
          rw [take_prog hk9 hacc h91]
          refine ⟨by rw [seven hk9]; omega, fun hlow => ?_, fun hlow => ?_⟩
          · rw [if_pos (by omega)] at hrd
            refine ⟨fun hz => ⟨?_, .rfl⟩, fun hz => ⟨?_, .rfl⟩⟩
            · rw [if_pos (by omega)] at hrd
              rw [hV, ← hrd]
            · rw [if_neg (by omega)] at hrd
              rw [hV, ← hrd]
              rw [place_next (by omega)]
          · rw [if_neg (by omega)] at hrd
            rw [i64_succ (by omega) (by omega)]
            exact ⟨⟨k + 1, _, by simp, rfl, rfl, by omega, take_next hacc, by omega, hrd⟩, by simp only [Int.toNat_natCast]; omega⟩
    · have hk : n - q ≤ k := by omega
      have hd : (l.drop q).drop k = [] := by rw [List.drop_eq_nil_iff]; simp; omega
      rw [hd] at hrd
      rw [hV, ← hrd]
      rfl

theorem refTakeNumber_ok (w : World) (p : Option Addr) (n c : Nat) (l : List UInt8) (pos : Int) (hp64 : pos ≤ 9223372036854775807) (hn : l.length = n) (hm : n ≤ maxLen) (hp : At w p (vB l)) :
    Calls Try.prog 39 #[.slice p n c, .int .i64 pos] w fun e w' => e = .returned (takeV l pos) ∧ Ext w w' := by
  have hm' : n ≤ 9223372036854775807 := hm
  apply refTakeNumber_vc
  unfold refTakeNumber_T
  refine ⟨fun h => ⟨?_, .rfl⟩, fun h => ?_⟩
  · unfold takeV takeN
    rw [if_neg (by omega)]
  · obtain ⟨q, rfl⟩ := Int.eq_ofNat_of_zero_le h
    have hV : takeV l (q : Int) = (match rd (l.drop q) 0 0 with
        | some (v, k) => .tuple #[.int .u64 (v : Int), .int .i64 ((q : Int) + (k : Int)), .int .i64 0]
        | none => .tuple #[.int .u64 0, .int .i64 0, .int .i64 20]) := by
      unfold takeV takeN; rw [if_pos (by omega), Int.toNat_natCast]
      cases rd (l.drop q) 0 0 <;> simp
    refine ⟨fun a i w' => ∃ (k acc : Nat), i = (k : Int) ∧ a = (acc : Int) ∧ w' = w ∧ k ≤ 10 ∧ acc < 2 ^ (7 * k) ∧ (k = 0 ∨ q + k ≤ n) ∧ rd ((l.drop q).drop k) k acc = rd (l.drop q) 0 0, fun _ i _ => 10 - i.toNat,
      ⟨0, 0, rfl, rfl, rfl, by omega, by simp, by omega, rfl⟩, ?_⟩
    rintro a i w' ⟨k, acc, rfl, rfl, hw, hk10, hacc, hkn, hrd⟩
    subst hw
    refine ⟨fun hlt => ?_, fun hge => ⟨?_, .rfl⟩⟩
    · obtain ⟨⟨hk9', hqn⟩, hlt'⟩ := hlt
      rw [i64_fit (by omega) (by omega)] at hlt'
      have hk : k < (l.drop q).length := by simp; omega
      have hk2 : q + k < l.length := by omega
      obtain ⟨b, o, hb, hc⟩ := hp.getB hk2
      obtain ⟨x, hx⟩ : ∃ x, x = (l.drop q)[k] := ⟨_, rfl⟩
      have hx' : x = l[q + k] := by rw [hx]; simp
      have hdrop : (l.drop q).drop k = x :: (l.drop q).drop (k + 1) := by rw [hx]; exact List.drop_eq_getElem_cons hk
      rw [hdrop, rd] at hrd
      have hxlt := x.toNat_lt
      have hk9 : k ≤ 9 := by omega
      have e1 : IntKind.i64.wrap ((q : Int) + (k : Int)) = ((q + k : Nat) : Int) := by rw [i64_fit (by omega) (by omega)]; omega
      refine ⟨b, o, hb, by rw [e1]; omega, by rw [e1]; omega, ((x.toNat : Nat) : Int), by rw [e1, hx', Int.toNat_natCast]; exact hc, fun he => ⟨?_, .rfl⟩, fun he => ?_⟩
      · rw [if_pos (.inr (by omega))] at hrd
        rw [hV, ← hrd]
      · have h91 : k = 9 → x.toNat = 1 ∨ x.toNat = 0 := by omega
        rw [take_ref hk9 hacc h91]
        refine ⟨by rw [seven hk9]; omega, fun hlow => ?_, fun hlow => ?_⟩
        · refine ⟨fun hz => ⟨?_, .rfl⟩, fun hz => ⟨?_, .rfl⟩⟩
          · by_cases h9 : k = 9
            · rw [if_pos (.inr (by omega))] at hrd
              rw [hV, ← hrd]
            · rw [if_neg (by omega), if_pos (by omega), if_pos (by omega)] at hrd
              rw [hV, ← hrd]
          · rw [if_neg (by omega), if_pos (by omega), if_neg (by omega)] at hrd
            rw [hV, ← hrd]
            rw [place_next (by omega)]
        · rw [if_neg (by omega), if_neg (by omega)] at hrd
          rw [i64_succ (by omega) (by omega)]
          exact ⟨⟨k + 1, _, by simp, rfl, rfl, by omega, take_next hacc, by omega, hrd⟩, by simp only [Int.toNat_natCast]; omega⟩
    · by_cases h10 : k = 10
      · subst h10
        rw [hV, ← hrd]
        cases hdd : (l.drop q).drop 10 with
        | nil => rfl
        | cons x r => rw [rd, if_pos (.inl (by omega))]
      · have hd : (l.drop q).drop k = [] := by
          rw [List.drop_eq_nil_iff]; simp
          rcases hge with (hge | hge) | hge
          · omega
          · omega
          · by_cases hq : q ≤ n
            · rw [i64_fit (by omega) (by omega)] at hge; omega
            · omega
        rw [hd] at hrd
        rw [hV, ← hrd]
        rfl

theorem takeSigned_ok (w : World) (p : Option Addr) (n c : Nat) (l : List UInt8) (pos : Int) (hn : l.length = n) (hnc : n ≤ c) (hm : n ≤ maxLen) (hp : At w p (vB l)) :
    Calls Try.prog 40 #[.slice p n c, .int .i64 pos] w fun e w' => e = .returned (takeS l pos) ∧ Ext w w' := by
  apply takeSigned_vc
  unfold takeSigned_T
  refine (takeNumber_ok w p n c l pos hn hnc hm hp).mono ?_
  rintro e w2 ⟨rfl, h2⟩
  unfold takeV takeS
  cases h : takeN l pos with
  | none => exact ⟨_, _, _, rfl, congrArg (fun x => Ending.returned (.tuple #[.int .i64 x, .int .i64 0, .int .i64 20])) (unzig_prog (v := 0) (by decide)), h2⟩
  | some r =>
    obtain ⟨v, k⟩ := r
    obtain ⟨_, hv, _⟩ := takeN_spec h
    exact ⟨_, _, _, rfl, by rw [unzig_prog hv], h2⟩

theorem refTakeSigned_ok (w : World) (p : Option Addr) (n c : Nat) (l : List UInt8) (pos : Int) (hp64 : pos ≤ 9223372036854775807) (hn : l.length = n) (hm : n ≤ maxLen) (hp : At w p (vB l)) :
    Calls Try.prog 41 #[.slice p n c, .int .i64 pos] w fun e w' => e = .returned (takeS l pos) ∧ Ext w w' := by
  apply refTakeSigned_vc
  unfold refTakeSigned_T
  refine (refTakeNumber_ok w p n c l pos hp64 hn hm hp).mono ?_
  rintro e w2 ⟨rfl, h2⟩
  unfold takeV takeS
  cases h : takeN l pos with
  | none => exact ⟨_, _, _, rfl, fun _ => ⟨rfl, h2⟩, fun h => absurd h (by decide)⟩
  | some r =>
    obtain ⟨v, k⟩ := r
    obtain ⟨_, hv, _⟩ := takeN_spec h
    refine ⟨_, _, _, rfl, fun h => absurd rfl h, fun _ => ⟨fun ho => ?_, fun ho => ?_⟩⟩
    · rw [rem2] at ho
      exact ⟨by rw [unzig_ref hv (by omega)], h2⟩
    · rw [rem2] at ho
      refine ⟨?_, h2⟩
      rw [quo2_u64 hv, i64_fit (by omega) (by omega)]
      have e : unzig v = ((v / 2 : Nat) : Int) := by unfold unzig; rw [if_neg (by omega)]
      simp only [e]

end Go.Proofs.Ytdclhgcgpcddlaa
