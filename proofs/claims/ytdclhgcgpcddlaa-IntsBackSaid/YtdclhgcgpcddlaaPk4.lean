/- The contracts of package pack and of its document's answer: unpacking; what law 01 shows first. -/
import Derived.Test.YtdclhgcgpcddlaaPk3
namespace Go.Proofs.Ytdclhgcgpcddlaa
open Go Go.Vc Go.RowKit

/-- Which numbers bytes are. -/
def unOk (b : List UInt8) (n w : Int) : Bool := decide ((0 ≤ n ∧ n ≤ 4096) ∧ 0 ≤ w ∧ w ≤ 64)
def unFit (b : List UInt8) (n w : Int) : Bool := decide (b.length = (n.toNat * w.toNat + 7) / 8) && decide (ofBytes b < 2 ^ (n.toNat * w.toNat))
def unL (b : List UInt8) (n w : Int) : List Nat := if unOk b n w && unFit b n w then digits w.toNat n.toNat (ofBytes b) else []
def unE (b : List UInt8) (n w : Int) : Int := if unOk b n w then (if unFit b n w then 0 else 10) else 2

theorem OutU.nothing (B : Nat) (t : TypeId) (w : World) : OutU B t w none 0 0 [] := ⟨rfl, by simp, Mine.nil _ _ _ _⟩

/-- The bits beyond the last number are none. -/
theorem last_bits {b : List UInt8} {m S : Nat} (hS : S = (m + 7) / 8) (hl : b.length = S) : (m % 8 = 0 → ofBytes b < 2 ^ m) ∧ ∀ y, b[S - 1]? = some y → m % 8 ≠ 0 → (ofBytes b < 2 ^ m ↔ y.toNat / 2 ^ (m % 8) = 0) := by
  refine ⟨fun h0 => ?_, fun y hy hm => ?_⟩
  · have := ofBytes_lt b
    rwa [hl, show 8 * S = m by omega] at this
  · have hS1 : b = b.take (S - 1) ++ [y] := by
      have := take_snoc hy
      rw [← this, List.take_of_length_le (by omega)]
    have hv : ofBytes b = ofBytes (b.take (S - 1)) + 2 ^ (8 * (S - 1)) * y.toNat := by
      conv => lhs; rw [hS1]
      unfold ofBytes
      rw [List.map_append, value_append]
      simp [value, Nat.min_eq_left (show S - 1 ≤ b.length by omega)]
    have hlt := ofBytes_lt (b.take (S - 1))
    rw [List.length_take, Nat.min_eq_left (by omega)] at hlt
    have hm8 : m = 8 * (S - 1) + m % 8 := by omega
    rw [Nat.div_eq_zero_iff_lt (Nat.two_pow_pos _), hv]
    conv => lhs; rw [hm8, Nat.pow_add]
    constructor
    · intro h
      refine Nat.lt_of_not_le fun hle => ?_
      have := Nat.mul_le_mul_left (2 ^ (8 * (S - 1))) hle
      omega
    · intro h
      have := Nat.mul_le_mul_left (2 ^ (8 * (S - 1))) (show y.toNat + 1 ≤ 2 ^ (m % 8) from h)
      rw [Nat.mul_add, Nat.mul_one] at this
      omega

set_option maxRecDepth 100000 in
theorem unpack_ok (w : World) {p : Option Addr} {bn c : Nat} {b : List UInt8} (h : InB w p bn c b) (n w_ : Int) :
    Calls Try.prog 29 #[.slice p bn c, .int .i64 n, .int .i64 w_] w fun e w' => ∃ q m d, e = .returned (.tuple #[.slice q m d, .int .i64 (unE b n w_)]) ∧ OutU w.heap.size 48 w' q m d (unL b n w_) ∧ Ext w w' := by
  have hlen := h.len
  apply unpack_vc
  unfold unpack_T
  intro b1 w2 h1 b4 w5 h4
  have H5 := ((Hold.start (.rfl : Ext w w)).new h1).new h4
  refine ⟨w_, (H5.blk 0 rfl).one, (size_ok w5 n w_).mono ?_⟩
  rintro e w9 ⟨rfl, e9⟩
  have H9 := H5.step e9
  unfold sizeV
  by_cases hs : (0 ≤ n ∧ n ≤ 4096) ∧ 0 ≤ w_ ∧ w_ ≤ 64
  · rw [if_pos hs]
    have hok : unOk b n w_ = true := decide_eq_true hs
    obtain ⟨u, rfl⟩ := Int.eq_ofNat_of_zero_le hs.2.1
    obtain ⟨n, rfl⟩ := Int.eq_ofNat_of_zero_le hs.1.1
    rw [size_cast]
    have hn : n ≤ 4096 := by omega
    have hu : u ≤ 64 := by omega
    have hnu : n * u ≤ 4096 * 64 := Nat.mul_le_mul hn hu
    obtain ⟨S, hS⟩ : ∃ S, S = (n * u + 7) / 8 := ⟨_, rfl⟩
    rw [← hS]
    obtain ⟨N, hN⟩ : ∃ N, N = ofBytes b := ⟨_, rfl⟩
    have hem : IntKind.i64.wrap ((n : Int) * (u : Int)) = ((n * u : Nat) : Int) := by rw [show (n : Int) * (u : Int) = ((n * u : Nat) : Int) by simp, i64_nat (by omega)]
    have hrm : remI ((n * u : Nat) : Int) 8 = ((n * u % 8 : Nat) : Int) := rem_nat _ 8
    have err : unFit b n u = false → ∀ W, Ext w W → ∃ q m d, Ending.returned (.tuple #[.slice none 0 0, .int .i64 10]) = Ending.returned (.tuple #[.slice q m d, .int .i64 (unE b n u)]) ∧ OutU w.heap.size 48 W q m d (unL b n u) ∧ Ext w W := by
      intro hf W hW
      exact ⟨none, 0, 0, by simp [unE, hok, hf], by simp only [unL, hok, hf]; exact OutU.nothing _ _ _, hW⟩
    refine ⟨_, _, rfl, fun W => bn = S ∧ N < 2 ^ (n * u) ∧ Hold w W [(b4, .cells #[.int .i64 (u : Int)] 3), (b1, .cells #[.slice p bn c] 30)] [], ⟨fun h => absurd rfl h, fun _ => ?_⟩, ?_⟩
    · refine ⟨p, bn, c, (H9.blk 1 rfl).one, fun hne => ⟨fun _ => err ?_ _ H9.ext, fun he => absurd he hne⟩, fun heq w22 hd => ?_⟩
      · have : b.length ≠ (n * u + 7) / 8 := by omega
        simp [unFit, this]
      · have hbS : bn = S := by omega
        have H22 := H9.step hd.ext
        have hlb := last_bits (b := b) (m := n * u) hS (by omega)
        refine ⟨fun hpos => ⟨_, (H22.blk 0 rfl).one, ?_⟩, fun hle => ⟨hbS, hN ▸ hlb.1 (by omega), H22⟩⟩
        rw [hem, hrm]
        refine ⟨fun hr => ?_, fun hr => ⟨hbS, hN ▸ hlb.1 (by omega), H22⟩⟩
        obtain ⟨y, hy⟩ : ∃ y, b[S - 1]? = some y := ⟨_, List.getElem?_eq_getElem (by omega)⟩
        have hfy := hlb.2 y hy (by omega)
        have hyl := y.toNat_lt
        have hs1 : IntKind.i64.wrap ((S : Int) - 1) = ((S - 1 : Nat) : Int) := by rw [i64_fit (by omega) (by omega)]; omega
        obtain ⟨bb, oo, hp, hc⟩ := (h.ext H22.ext).lies.getB (i := S - 1) (by omega)
        have hby : b[S - 1]'(by omega) = y := (List.getElem?_eq_some_iff.1 hy).2
        rw [hby] at hc
        rw [hs1, Int.toNat_natCast]
        refine ⟨p, bn, c, (H22.blk 1 rfl).one, bb, oo, hp, by omega, by omega, _, hc, _, (H22.blk 0 rfl).one, ?_⟩
        rw [hem, hrm, Int.toNat_natCast, shr_nat .u8 _ _ (by show n * u % 8 ≤ 8; omega)]
        refine ⟨by omega, fun hne => err ?_ _ H22.ext, fun hz => ⟨hbS, hN ▸ hfy.2 (by omega), H22⟩⟩
        have : ¬ ofBytes b < 2 ^ (n * u) := fun hlt => hne (by rw [hfy.1 hlt]; rfl)
        simp [unFit, this]
    · rintro w38 ⟨rfl, hNlt, H38⟩
      have hfitB : unFit b n u = true := by simp only [unFit, Int.toNat_natCast, Bool.and_eq_true, decide_eq_true_eq]; exact ⟨by omega, hN ▸ hNlt⟩
      refine ⟨by omega, by omega, by omega, by omega, fun b40 w41 h40 b43 w44 h43 => ?_⟩
      rw [Int.toNat_natCast] at h40 ⊢
      rw [madeCells_nat] at h40
      have H44 := (H38.new h40).new h43
      refine ⟨⟨_, (H44.blk 0 rfl).one⟩, (H44.blk 0 rfl).frozen 0, fun w47 hput => ?_⟩
      have H47 := H44.box 0 rfl hput
      refine ⟨_, (H47.blk 2 rfl).one, (places_ok w47 n u).mono ?_⟩
      rintro e w51 ⟨c1, c4, rfl, hH⟩
      have H51 := hH _ _ _ H47
      refine ⟨_, rfl, 75, _, rfl, by kernel_rfl, fun r d l' w1 hb hround => ?_⟩
      have H1 := H51.began hb
      refine (rounds_ok (n := n) (w_ := u) (by omega) (fun k W => Hold w W [(l', .loop (r 0)), (d, .deferred (some [])), (c4, .cells #[.int .i64 (u : Int)] 3), (c1, .cells #[.int .i64 (n : Int)] 3),
        (b43, .cells #[.slice (some ⟨b40, 0, none⟩) n n] 22), (b40, .cells (vN .u64 (digits u n (N % 2 ^ k))).toArray 48), (b4, .cells #[.int .i64 (u : Int)] 3), (b1, .cells #[.slice p bn c] 30)] []) w1 ?_ ?_ ?_ ?_).mono ?_
      · rw [Nat.pow_zero, Nat.mod_one, digits_zero]; exact H1
      · exact fun k W H => ⟨(H.blk 3 rfl).one, (H.blk 2 rfl).one⟩
      · exact fun k W W' H hd => H.step hd.ext
      · intro k W R hk H hR
        refine hround _ _ W R (H.loop 0 rfl) ⟨H.loop 0 rfl, fun Wb hWb => ?_⟩
        subst hWb
        have Hb := H.turn 0 1 rfl
        have hu0 : 0 < u := by rcases Nat.eq_zero_or_pos u with rfl | h0; · simp at hk
                               · exact h0
        have hi : k / u < n := (Nat.div_lt_iff_lt_mul hu0).2 hk
        have hj : k % u < u := Nat.mod_lt _ hu0
        have h8 : k / 8 < bn := by omega
        have hcell : (vN .u64 (digits u n (N % 2 ^ k))).toArray[k / u]? = some (.int .u64 (((N % 2 ^ k) / 2 ^ (u * (k / u)) % 2 ^ u : Nat) : Int)) := by
          rw [List.getElem?_toArray]; exact vN_get .u64 (digits_get hi)
        have hold64 : (N % 2 ^ k) / 2 ^ (u * (k / u)) % 2 ^ u < 18446744073709551616 := Nat.lt_of_lt_of_le (Nat.mod_lt _ (Nat.two_pow_pos _)) (Nat.pow_le_pow_right (n := 2) (j := 64) (by decide) hu)
        obtain ⟨y, hy⟩ : ∃ y, b[k / 8]? = some y := ⟨_, List.getElem?_eq_getElem (by omega)⟩
        have hyl := y.toNat_lt
        have hby : b[k / 8]'(by omega) = y := (List.getElem?_eq_some_iff.1 hy).2
        have hbit : y.toNat / 2 ^ (k % 8) % 2 = N / 2 ^ k % 2 := by
          have e1 : (digits 8 b.length N)[k / 8]? = some y.toNat := by rw [hN, digits_ofBytes]; simp [hy]
          rw [digits_get (by omega)] at e1
          have e2 := Option.some.inj e1
          rw [← e2, digit_bit (by omega), Nat.div_add_mod]
        refine ⟨_, (Hb.blk 6 rfl).one, fun w68 hd => ?_⟩
        have H68 := Hb.step hd.ext
        simp only [at_arith hk (by omega), shr3, and7 (show k < 9223372036854775808 by omega), Int.toNat_natCast]
        obtain ⟨bb, oo, hp, hc⟩ := (h.ext H68.ext).lies.getB (i := k / 8) (by omega)
        rw [hby] at hc
        have hold := (H68.blk 5 rfl).cell (k / u)
        rw [hcell] at hold
        refine ⟨_, _, _, (H68.blk 4 rfl).one, b40, 0, rfl, Int.natCast_nonneg _, Int.ofNat_lt.2 hi, _, by rw [Nat.zero_add]; exact hold, p, bn, c, (H68.blk 7 rfl).one, bb, oo, hp, by omega, by omega, _, hc, by omega, Int.natCast_nonneg _,
          b40, 0, rfl, Int.natCast_nonneg _, Int.ofNat_lt.2 hi, ⟨_, by rw [Nat.zero_add]; exact hold⟩, (H68.blk 5 rfl).frozen _, fun w85 hput => ?_⟩
        rw [Nat.zero_add] at hput
        have hyle : y.toNat / 2 ^ (k % 8) ≤ y.toNat := Nat.div_le_self _ _
        have h1and : bits .and .u8 ((y.toNat / 2 ^ (k % 8) : Nat) : Int) 1 = ((y.toNat / 2 ^ (k % 8) % 2 : Nat) : Int) := by
          rw [show (1 : Int) = ((1 : Nat) : Int) from rfl, and_u8 (by omega) (by decide), Nat.and_one_is_mod]
        rw [shr_nat .u8 y.toNat (k % 8) (by show k % 8 ≤ 8; omega), h1and, hbit, u64_nat (by omega), word_or hold64 (by omega) (by omega)] at hput
        have H85 := H68.put 5 rfl hput
        refine ⟨H85.loop 0 rfl, hR _ ?_⟩
        have Ht := H85.turn 0 0 rfl
        have hstep := digits_step (s := u) (n := n) (N := N) (at_ := k) hu0 (by rw [Nat.mul_comm]; exact hk)
        rw [hstep, vN_set, ← List.setIfInBounds_toArray]
        exact Ht
      · rintro e W' ⟨rfl, HI⟩
        refine ⟨⟨_, rfl⟩, .inl ⟨HI.loop 0 rfl, ?_⟩⟩
        have Ht := HI.turn 0 2 rfl
        refine ⟨_, _, _, (Ht.blk 4 rfl).one, Ht.dfr 1 rfl, ?_⟩
        have Hs := Ht.shut 1 rfl
        have hB := (Hs.blk 5 rfl).mine (Hs.base 5 rfl) (cap := n) (s := 1) (by simp [vN_length, digits_length]) (by simp [maxLen]; omega)
        rw [Nat.mod_eq_of_lt hNlt] at hB
        have eL : unL b n u = digits u n N := by simp only [unL, hok, hfitB, Bool.and_self, if_true, Int.toNat_natCast, hN]
        refine ⟨some ⟨b40, 0, none⟩, n, n, by simp [unE, hok, hfitB], by rw [eL]; exact ⟨digits_length _ _ _, fun x hx => Nat.lt_of_lt_of_le (digits_lt x hx) (Nat.pow_le_pow_right (n := 2) (j := 64) (by decide) hu), hB⟩, Hs.ext⟩
  · rw [if_neg hs]
    have hno : unOk b n w_ = false := decide_eq_false hs
    exact ⟨_, _, rfl, fun _ => False, ⟨fun _ => ⟨none, 0, 0, by simp [unE, hno], by simp only [unL, hno]; exact OutU.nothing _ _ _, H9.ext⟩, fun h => absurd h (by decide)⟩, fun _ h => h.elim⟩

set_option maxRecDepth 100000 in
theorem runpack_ok (w : World) {p : Option Addr} {bn c : Nat} {b : List UInt8} (h : InB w p bn c b) (n w_ : Int) (hw63 : w_ ≤ 9223372036854775807) :
    Calls Try.prog 30 #[.slice p bn c, .int .i64 n, .int .i64 w_] w fun e w' => ∃ q m d, e = .returned (.tuple #[.slice q m d, .int .i64 (unE b n w_)]) ∧ OutU w.heap.size 48 w' q m d (unL b n w_) ∧ Ext w w' := by
  have hlen := h.len
  apply runpack_vc
  unfold runpack_T
  refine (rsize_ok w n w_).mono ?_
  rintro e w2 ⟨rfl, e2⟩
  unfold sizeV
  by_cases hs : (0 ≤ n ∧ n ≤ 4096) ∧ 0 ≤ w_ ∧ w_ ≤ 64
  · rw [if_pos hs]
    have hok : unOk b n w_ = true := decide_eq_true hs
    obtain ⟨u, rfl⟩ := Int.eq_ofNat_of_zero_le hs.2.1
    obtain ⟨n, rfl⟩ := Int.eq_ofNat_of_zero_le hs.1.1
    rw [size_cast]
    have hn : n ≤ 4096 := by omega
    have hu : u ≤ 64 := by omega
    have hnu : n * u ≤ 4096 * 64 := Nat.mul_le_mul hn hu
    obtain ⟨S, hS⟩ : ∃ S, S = (n * u + 7) / 8 := ⟨_, rfl⟩
    rw [← hS]
    obtain ⟨N, hN⟩ : ∃ N, N = ofBytes b := ⟨_, rfl⟩
    have err : unFit b n u = false → ∀ W, Ext w W → ∃ q m d, Ending.returned (.tuple #[.slice none 0 0, .int .i64 10]) = Ending.returned (.tuple #[.slice q m d, .int .i64 (unE b n u)]) ∧ OutU w.heap.size 48 W q m d (unL b n u) ∧ Ext w W := by
      intro hf W hW
      exact ⟨none, 0, 0, by simp [unE, hok, hf], by simp only [unL, hok, hf]; exact OutU.nothing _ _ _, hW⟩
    refine ⟨_, _, rfl, fun h => absurd rfl h, fun _ => ⟨fun hne => err ?_ _ e2, fun heq => ⟨by omega, by omega, by omega, by omega, fun b9 w10 h9 => ?_⟩⟩⟩
    · have : b.length ≠ (n * u + 7) / 8 := by omega
      simp [unFit, this]
    have hbS : bn = S := by omega
    rw [Int.toNat_natCast] at h9 ⊢
    rw [madeCells_nat] at h9
    have H10 := (Hold.start e2).new h9
    refine ⟨fun i W => ∃ k : Nat, i = (k : Int) ∧ k ≤ n ∧ Hold w W [(b9, .cells (vN .u64 (digits u n (N % 2 ^ (k * u)))).toArray 48)] [], fun i _ => n - i.toNat,
      ⟨0, rfl, Nat.zero_le _, by rw [Nat.zero_mul, Nat.pow_zero, Nat.mod_one, digits_zero]; exact H10⟩, ?_⟩
    rintro i W ⟨k, rfl, hk, H⟩
    refine ⟨fun hlt => ?_, fun hge => ?_⟩
    · have hku : k * u + u ≤ n * u := by have := Nat.mul_le_mul_right u (show k + 1 ≤ n by omega); rwa [Nat.succ_mul] at this
      refine ⟨fun i W => ∃ j : Nat, i = (j : Int) ∧ j ≤ u ∧ Hold w W [(b9, .cells (vN .u64 (digits u n (N % 2 ^ (k * u + j)))).toArray 48)] [], fun i _ => u - i.toNat, ⟨0, rfl, Nat.zero_le _, H⟩, ?_⟩
      rintro i W3 ⟨j, rfl, hj, H3⟩
      refine ⟨fun hlt2 => ?_, fun hge2 => ?_⟩
      · have hju : j < u := by omega
        have hAt : IntKind.i64.wrap (IntKind.i64.wrap ((k : Int) * (u : Int)) + (j : Int)) = ((k * u + j : Nat) : Int) := by
          rw [show (k : Int) * (u : Int) = ((k * u : Nat) : Int) by simp, i64_nat (by omega), show ((k * u : Nat) : Int) + (j : Int) = ((k * u + j : Nat) : Int) by omega, i64_nat (by omega)]
        obtain ⟨a, ha⟩ : ∃ a, a = k * u + j := ⟨_, rfl⟩
        have ham : a / u = k ∧ a % u = j := by
          rw [ha, Nat.mul_comm]
          exact ⟨by rw [Nat.mul_add_div (by omega), Nat.div_eq_of_lt hju, Nat.add_zero], by rw [Nat.mul_add_mod, Nat.mod_eq_of_lt hju]⟩
        have hq : quoI .i64 (a : Int) 8 = ((a / 8 : Nat) : Int) := quo_i64 8 (by omega)
        have hr : remI (a : Int) 8 = ((a % 8 : Nat) : Int) := rem_nat _ 8
        rw [hAt, ← ha, hq, hr, i64_next (by omega)]
        simp only [Int.toNat_natCast]
        obtain ⟨y, hy⟩ : ∃ y, b[a / 8]? = some y := ⟨_, List.getElem?_eq_getElem (by omega)⟩
        have hyl := y.toNat_lt
        have hby : b[a / 8]'(by omega) = y := (List.getElem?_eq_some_iff.1 hy).2
        have hbit : y.toNat / 2 ^ (a % 8) % 2 = N / 2 ^ a % 2 := by
          have e1 : (digits 8 b.length N)[a / 8]? = some y.toNat := by rw [hN, digits_ofBytes]; simp [hy]
          rw [digits_get (by omega)] at e1
          have e2 := Option.some.inj e1
          rw [← e2, digit_bit (by omega), Nat.div_add_mod]
        obtain ⟨bb, oo, hp, hc⟩ := (h.ext H3.ext).lies.getB (i := a / 8) (by omega)
        rw [hby] at hc
        have hyle : y.toNat / 2 ^ (a % 8) ≤ y.toNat := Nat.div_le_self _ _
        have h1and : bits .and .u8 ((y.toNat / 2 ^ (a % 8) : Nat) : Int) 1 = ((y.toNat / 2 ^ (a % 8) % 2 : Nat) : Int) := by
          rw [show (1 : Int) = ((1 : Nat) : Int) from rfl, and_u8 (by omega) (by decide), Nat.and_one_is_mod]
        refine ⟨bb, oo, hp, by omega, by omega, _, hc, by omega, ?_⟩
        rw [shr_nat .u8 y.toNat (a % 8) (by show a % 8 ≤ 8; omega), h1and, hbit]
        have hkn : k < n := by omega
        have hcell : (vN .u64 (digits u n (N % 2 ^ a))).toArray[k]? = some (.int .u64 (((N % 2 ^ a) / 2 ^ (u * k) % 2 ^ u : Nat) : Int)) := by
          rw [List.getElem?_toArray]; exact vN_get .u64 (digits_get hkn)
        have hold64 : (N % 2 ^ a) / 2 ^ (u * k) % 2 ^ u < 18446744073709551616 := Nat.lt_of_lt_of_le (Nat.mod_lt _ (Nat.two_pow_pos _)) (Nat.pow_le_pow_right (n := 2) (j := 64) (by decide) hu)
        rw [← ha] at H3
        refine ⟨fun hone w28 hd => ?_, fun hzero => ?_⟩
        · have hone' : N / 2 ^ a % 2 = 1 := by omega
          have H28 := H3.step hd.ext
          have hold := (H28.blk 0 rfl).cell k
          rw [hcell] at hold
          refine ⟨b9, 0, rfl, by omega, by omega, _, by rw [Nat.zero_add]; exact hold, by omega, b9, 0, rfl, by omega, by omega, ⟨_, by rw [Nat.zero_add]; exact hold⟩, (H28.blk 0 rfl).frozen _, fun w36 hput => ?_⟩
          rw [Nat.zero_add, show (1 : Int) = ((1 : Nat) : Int) from rfl, word_or hold64 (by decide) (by omega)] at hput
          have H36 := H28.put 0 rfl hput
          refine ⟨⟨j + 1, rfl, by omega, ?_⟩, by omega⟩
          have hstep := digits_step (s := u) (n := n) (N := N) (at_ := a) (by omega) (by rw [Nat.mul_comm]; omega)
          rw [hone', ham.1, ham.2] at hstep
          rw [← Nat.add_assoc, ← ha, hstep, vN_set, ← List.setIfInBounds_toArray]
          exact H36
        · have hz : N / 2 ^ a % 2 = 0 := by omega
          refine ⟨⟨j + 1, rfl, by omega, ?_⟩, by omega⟩
          rw [← Nat.add_assoc, ← ha, digits_step0 hz]
          exact H3
      · have : j = u := by omega
        subst this
        rw [i64_next (by omega)]
        refine ⟨⟨k + 1, rfl, by omega, by rw [Nat.succ_mul]; exact H3⟩, by simp only [Int.toNat_natCast]; omega⟩
    · have hkn : k = n := by omega
      subst hkn
      obtain ⟨L, hL⟩ : ∃ L, L = digits u k N := ⟨_, rfl⟩
      have hdm : digits u k (N % 2 ^ (k * u)) = L := by rw [Nat.mul_comm k u, digits_mod, hL]
      rw [hdm] at H
      have hLlen : L.length = k := by rw [hL, digits_length]
      have hLu : ∀ x ∈ L, x < 2 ^ u := by rw [hL]; exact digits_lt
      have hL64 : ∀ x ∈ L, x < 18446744073709551616 := fun x hx => Nat.lt_of_lt_of_le (hLu x hx) (Nat.pow_le_pow_right (n := 2) (j := 64) (by decide) hu)
      have hB := (H.blk 0 rfl).mine (H.base 0 rfl) (cap := k) (s := 1) (by simp [vN_length, hLlen]) (by simp [maxLen]; omega)
      have hO : OutU w.heap.size 48 W (some ⟨b9, 0, none⟩) k k L := ⟨hLlen, hL64, hB⟩
      have hpk : packOk L u = true := by rw [packOk_iff]; exact ⟨by omega, by omega, by omega, widthN_le.2 (by simpa using hLu)⟩
      refine (rpack_ok W hO.us u hw63).mono ?_
      rintro e w42 ⟨q, m, d, rfl, ob, e42⟩
      have hbp : packB L u = bytesOf S (N % 2 ^ (k * u)) := by
        simp only [packB, hpk, if_true, Int.toNat_natCast, hLlen]
        rw [hL, value_digits, ← hS, Nat.mul_comm u k]
      refine ⟨q, m, d, _, rfl, _, ob.bytes, _, (h.ext (H.ext.trans e42)).bytes, fun hne => err ?_ _ (H.ext.trans e42), fun he => ?_⟩
      · have hno : ¬ ofBytes b < 2 ^ (k * u) := by
          intro hlt
          apply hne
          rw [hbp, Nat.mod_eq_of_lt (hN ▸ hlt), hN, show S = b.length by omega, bytesOf_ofBytes]
        simp [unFit, hno]
      · have heqB : packB L u = b := mk_inj.1 he
        have hlt : N < 2 ^ (k * u) := by
          rw [hbp] at heqB
          have e1 := congrArg ofBytes heqB
          rw [ofBytes_bytesOf, ← hN] at e1
          have h1 : N % 2 ^ (k * u) % 2 ^ (8 * S) ≤ N % 2 ^ (k * u) := Nat.mod_le _ _
          have h2 : N % 2 ^ (k * u) < 2 ^ (k * u) := Nat.mod_lt _ (Nat.two_pow_pos _)
          omega
        have hfitB : unFit b k u = true := by simp only [unFit, Int.toNat_natCast, Bool.and_eq_true, decide_eq_true_eq]; exact ⟨by omega, hN ▸ hlt⟩
        have eL : unL b k u = L := by simp only [unL, hok, hfitB, Bool.and_self, if_true, Int.toNat_natCast, hL, hN]
        exact ⟨some ⟨b9, 0, none⟩, k, k, by simp [unE, hok, hfitB], by rw [eL]; exact hO.ext e42, H.ext.trans e42⟩
  · rw [if_neg hs]
    have hno : unOk b n w_ = false := decide_eq_false hs
    exact ⟨_, _, rfl, fun _ => ⟨none, 0, 0, by simp [unE, hno], by simp only [unL, hno]; exact OutU.nothing _ _ _, e2⟩, fun h => absurd h (by decide)⟩

theorem arr_nat (l : List Nat) {w w' : World} {b : Nat} {t : TypeId} {cs : Array Value} (h : New w (.cells cs t) b w') (hc : cs = (vN .u64 l).toArray) (hm : l.length ≤ maxLen) (hl : ∀ x ∈ l, x < 18446744073709551616) :
    Us w' (some ⟨b, 0, none⟩) l.length l.length l := by
  subst hc
  exact ⟨rfl, ⟨Nat.le_refl _, hm⟩, by have := h.at; simpa using this, (fun e => by cases e), hl⟩

theorem shown_pack : packB [5, 2, 7] 3 = [213, 1] ∧ packE [5, 2, 7] 3 = 0 := by decide +kernel
theorem shown_width : widthN [5, 2] = 3 := by decide +kernel

theorem shown1_ok (w : World) : Calls Try.prog 22 #[] w fun e w' => e = .returned (.bool true) ∧ Ext w w' := by
  apply shown1_vc
  unfold shown1_T
  intro b1 w2 h1
  refine (pack_ok w2 (arr_nat [5, 2, 7] h1 rfl (by decide) (by decide)) 3).mono ?_
  rintro e w5 ⟨q, m, d, rfl, ob, e5⟩
  rw [shown_pack.1] at ob
  refine ⟨q, m, d, _, rfl, fun _ => ⟨_, ob.bytes, fun _ b13 w14 h13 => ?_, fun h => absurd rfl h⟩, fun h => absurd shown_pack.2 h⟩
  refine (width_ok w14 (arr_nat [5, 2] h13 rfl (by decide) (by decide))).mono ?_
  rintro e w17 ⟨rfl, e17⟩
  rw [shown_width]
  exact ⟨_, rfl, rfl, ((h1.ext.trans e5).trans h13.ext).trans e17⟩

end Go.Proofs.Ytdclhgcgpcddlaa
