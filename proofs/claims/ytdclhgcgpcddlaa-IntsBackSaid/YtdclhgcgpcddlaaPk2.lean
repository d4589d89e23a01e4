/- The contracts of package pack and of its document's answer: packing and unpacking. -/
import Derived.Test.YtdclhgcgpcddlaaPk
namespace Go.Proofs.Ytdclhgcgpcddlaa
open Go Go.Vc Go.RowKit

/-- May the numbers be packed? Which bytes they are then. -/
def packOk (l : List Nat) (w : Int) : Bool := decide (l.length ≤ 4096) && decide (0 ≤ w) && decide (w ≤ 64) && decide (widthN l ≤ w.toNat)
def packB (l : List Nat) (w : Int) : List UInt8 := if packOk l w then bytesOf ((l.length * w.toNat + 7) / 8) (value w.toNat l) else []
def packE (l : List Nat) (w : Int) : Int := if packOk l w then 0 else 2
theorem packOk_iff {l : List Nat} {w : Int} : packOk l w = true ↔ l.length ≤ 4096 ∧ 0 ≤ w ∧ w ≤ 64 ∧ widthN l ≤ w.toNat := by
  unfold packOk; simp only [Bool.and_eq_true, decide_eq_true_eq, and_assoc]

theorem at_arith {k n u : Nat} (hk : k < n * u) (hb : n * u < 9223372036854775808) : IntKind.i64.wrap (IntKind.i64.wrap (((k / u : Nat) : Int) * (u : Int)) + ((k % u : Nat) : Int)) = (k : Int) := by
  have h1 : k / u * u + k % u = k := by rw [Nat.mul_comm]; exact Nat.div_add_mod k u
  rw [show ((k / u : Nat) : Int) * (u : Int) = ((k / u * u : Nat) : Int) by simp, i64_nat (by omega), show ((k / u * u : Nat) : Int) + ((k % u : Nat) : Int) = ((k / u * u + k % u : Nat) : Int) by omega, h1, i64_nat (by omega)]
theorem size_cast (n u : Nat) : ((n : Int) * (u : Int) + 7) / 8 = (((n * u + 7) / 8 : Nat) : Int) := by
  rw [show (n : Int) * (u : Int) = ((n * u : Nat) : Int) by simp]; omega
theorem shr3 (k : Nat) : shrI .i64 (k : Int) 3 = ((k / 8 : Nat) : Int) := shr_nat .i64 k 3 (by decide)
theorem and7 {k : Nat} (h : k < 9223372036854775808) : bits .and .i64 (k : Int) 7 = ((k % 8 : Nat) : Int) := by
  rw [show (7 : Int) = ((7 : Nat) : Int) from rfl, and_i64 h (by decide), show (7 : Nat) = 2 ^ 3 - 1 from rfl, Nat.and_two_pow_sub_one_eq_mod]

set_option maxRecDepth 100000 in
theorem pack_ok (w : World) {p : Option Addr} {n c : Nat} {l : List Nat} (h : Us w p n c l) (w_ : Int) :
    Calls Try.prog 27 #[.int .i64 w_, .slice p n c] w fun e w' => ∃ q m d, e = .returned (.tuple #[.slice q m d, .int .i64 (packE l w_)]) ∧ OutB w.heap.size 5 w' q m d (packB l w_) ∧ Ext w w' := by
  have hlen := h.len
  apply pack_vc
  unfold pack_T
  intro b1 w2 h1 b4 w5 h4
  have H5 := ((Hold.start (.rfl : Ext w w)).new h1).new h4
  refine ⟨p, n, c, (H5.blk 0 rfl).one, w_, (H5.blk 1 rfl).one, (size_ok w5 n w_).mono ?_⟩
  rintro e w12 ⟨rfl, e12⟩
  have H12 := H5.step e12
  unfold sizeV
  by_cases hs : (0 ≤ (n : Int) ∧ (n : Int) ≤ 4096) ∧ 0 ≤ w_ ∧ w_ ≤ 64
  · rw [if_pos hs]
    obtain ⟨u, rfl⟩ := Int.eq_ofNat_of_zero_le hs.2.1
    rw [size_cast]
    have hn : n ≤ 4096 := by omega
    have hu : u ≤ 64 := by omega
    have hnu : n * u ≤ 4096 * 64 := Nat.mul_le_mul hn hu
    refine ⟨_, _, rfl, fun w15 hd => ⟨fun h => absurd rfl h, fun _ => ?_⟩⟩
    have H15 := H12.step hd.ext
    refine ⟨p, n, c, (H15.blk 0 rfl).one, _, (H15.blk 1 rfl).one, (width_ok w15 (h.ext H15.ext)).mono ?_⟩
    rintro e w24 ⟨rfl, e24⟩
    have H24 := H15.step e24
    refine ⟨_, rfl, e24.same, fun hlt => ?_, fun hle => ?_⟩
    · have hno : packOk l u = false := by rw [← Bool.not_eq_true, packOk_iff]; omega
      exact ⟨none, 0, 0, by simp [packE, hno], by simp only [packB, hno]; exact ⟨rfl, Mine.nil _ _ _ _⟩, H24.ext⟩
    · have hyes : packOk l u = true := by rw [packOk_iff]; omega
      have hfit : ∀ x ∈ l, x < 2 ^ u := widthN_le.1 (by omega)
      obtain ⟨N, hN⟩ : ∃ N, N = value u l := ⟨_, rfl⟩
      have hNlt : N < 2 ^ (n * u) := by rw [hN, Nat.mul_comm, ← hlen]; exact value_lt hfit
      obtain ⟨S, hS⟩ : ∃ S, S = (n * u + 7) / 8 := ⟨_, rfl⟩
      rw [← hS]
      have hdig : digits u n N = l := by rw [hN, ← hlen]; exact digits_value hfit
      refine ⟨by omega, by omega, by omega, by omega, fun b28 w29 h28 b31 w32 h31 => ?_⟩
      rw [Int.toNat_natCast] at h28 ⊢
      rw [madeCells_nat] at h28
      have H32 := (H24.new h28).new h31
      refine ⟨⟨_, (H32.blk 0 rfl).one⟩, (H32.blk 0 rfl).frozen 0, fun w35 hput => ?_⟩
      have H35 := H32.box 0 rfl hput
      refine ⟨p, n, c, (H35.blk 2 rfl).one, _, (H35.blk 3 rfl).one, (places_ok w35 n u).mono ?_⟩
      rintro e w42 ⟨c1, c4, rfl, hH⟩
      have H42 := hH _ _ _ H35
      refine ⟨_, rfl, 75, _, rfl, by kernel_rfl, fun r d l' w1 hb hround => ?_⟩
      have H1 := H42.began hb
      refine (rounds_ok (n := n) (w_ := u) (by omega) (fun k W => Hold w W [(l', .loop (r 0)), (d, .deferred (some [])), (c4, .cells #[.int .i64 (u : Int)] 3), (c1, .cells #[.int .i64 (n : Int)] 3),
        (b31, .cells #[.slice (some ⟨b28, 0, none⟩) S S] 30), (b28, .cells (vN .u8 (digits 8 S (N % 2 ^ k))).toArray 5), (b4, .cells #[.slice p n c] 22), (b1, .cells #[.int .i64 (u : Int)] 3)] []) w1 ?_ ?_ ?_ ?_).mono ?_
      · rw [Nat.pow_zero, Nat.mod_one, digits_zero]; exact H1
      · exact fun k W H => ⟨(H.blk 3 rfl).one, (H.blk 2 rfl).one⟩
      · exact fun k W W' H hd => H.step hd.ext
      · intro k W R hk H hR
        refine hround _ _ W R (H.loop 0 rfl) ⟨H.loop 0 rfl, fun Wb hWb => ?_⟩
        subst hWb
        have Hb := H.turn 0 1 rfl
        have hu0 : 0 < u := by rcases Nat.eq_zero_or_pos u with rfl | h0; · simp at hk
                               · exact h0
        have hi : k / u < n := (Nat.div_lt_iff_lt_mul hu0).2 hk
        have hj : k % u < u := Nat.mod_lt _ hu0
        have h8 : k / 8 < S := by omega
        have hcell : (digits 8 S (N % 2 ^ k))[k / 8]? = some ((N % 2 ^ k) / 2 ^ (8 * (k / 8)) % 2 ^ 8) := digits_get h8
        obtain ⟨x, hx⟩ : ∃ x, l[k / u]? = some x := ⟨_, List.getElem?_eq_getElem (by omega)⟩
        have hx64 := h.lt x (List.mem_of_getElem? hx)
        have hbit : x / 2 ^ (k % u) % 2 = N / 2 ^ k % 2 := by
          rw [← hdig, digits_get hi] at hx
          cases hx
          rw [digit_bit hj, Nat.div_add_mod]
        refine ⟨_, (Hb.blk 7 rfl).one, fun w59 hd => ?_⟩
        have H59 := Hb.step hd.ext
        simp only [at_arith hk (by omega), shr3, and7 (show k < 9223372036854775808 by omega), Int.toNat_natCast]
        obtain ⟨bl_, ol_, hpl, hcl⟩ := (h.ext H59.ext).lies.getN hx
        have hold := (H59.blk 5 rfl).cell (k / 8)
        have hcell' : (vN .u8 (digits 8 S (N % 2 ^ k))).toArray[k / 8]? = some (.int .u8 (((N % 2 ^ k) / 2 ^ (8 * (k / 8)) % 2 ^ 8 : Nat) : Int)) := by
          rw [List.getElem?_toArray]; exact vN_get .u8 hcell
        rw [hcell'] at hold
        refine ⟨_, _, _, (H59.blk 4 rfl).one, b28, 0, rfl, by omega, by omega, _, by rw [Nat.zero_add]; exact hold, p, n, c, (H59.blk 6 rfl).one, bl_, ol_, hpl, Int.natCast_nonneg _, Int.ofNat_lt.2 hi, _, hcl, Int.natCast_nonneg _, by omega,
          b28, 0, rfl, by omega, by omega, ⟨_, by rw [Nat.zero_add]; exact hold⟩, (H59.blk 5 rfl).frozen _, fun w76 hput => ?_⟩
        rw [Nat.zero_add] at hput
        have hval : bits .or .u8 (((N % 2 ^ k) / 2 ^ (8 * (k / 8)) % 2 ^ 8 : Nat) : Int) (shlI .u8 (IntKind.u8.wrap (bits .and .u64 (shrI .u64 (x : Int) (k % u)) 1)) (k % 8)) =
            (((N % 2 ^ k) / 2 ^ (8 * (k / 8)) % 2 ^ 8 ||| (N / 2 ^ k % 2) <<< (k % 8) : Nat) : Int) := by
          have hxle : x / 2 ^ (k % u) ≤ x := Nat.div_le_self _ _
          rw [shr_nat .u64 x (k % u) (by show k % u ≤ 64; omega), and1_u64 _ (by omega), hbit, u8_nat (by omega), byte_or (Nat.mod_lt _ (by decide)) (by omega) (by omega)]
        rw [hval] at hput
        have H76 := H59.put 5 rfl hput
        refine ⟨H76.loop 0 rfl, hR _ ?_⟩
        have Ht := H76.turn 0 0 rfl
        have hstep := digits_step (s := 8) (n := S) (N := N) (at_ := k) (by decide) (by omega)
        rw [hstep, vN_set, ← List.setIfInBounds_toArray]
        exact Ht
      · rintro e W' ⟨rfl, HI⟩
        refine ⟨⟨_, rfl⟩, .inl ⟨HI.loop 0 rfl, ?_⟩⟩
        have Ht := HI.turn 0 2 rfl
        refine ⟨_, _, _, (Ht.blk 4 rfl).one, Ht.dfr 1 rfl, ?_⟩
        have Hs := Ht.shut 1 rfl
        have hB := (Hs.blk 5 rfl).mine (Hs.base 5 rfl) (cap := S) (s := 1) (by simp [vN_length, digits_length]) (by simp [maxLen]; omega)
        rw [Nat.mod_eq_of_lt hNlt, ← vB_bytesOf] at hB
        have eB : packB l u = bytesOf S N := by simp only [packB, hyes, if_true, Int.toNat_natCast, hlen, hS, hN]
        exact ⟨some ⟨b28, 0, none⟩, S, S, by simp [packE, hyes], by rw [eB]; exact ⟨bytesOf_length _ _, hB⟩, Hs.ext⟩
  · rw [if_neg hs]
    have hno : packOk l w_ = false := by rw [← Bool.not_eq_true, packOk_iff]; omega
    exact ⟨_, _, rfl, fun w15 hd => ⟨fun _ => ⟨fun _ _ => rfl, none, 0, 0, by simp [packE, hno], by simp only [packB, hno]; exact ⟨rfl, Mine.nil _ _ _ _⟩, (H12.step hd.ext).ext⟩, fun h => absurd h (by decide)⟩⟩

end Go.Proofs.Ytdclhgcgpcddlaa
