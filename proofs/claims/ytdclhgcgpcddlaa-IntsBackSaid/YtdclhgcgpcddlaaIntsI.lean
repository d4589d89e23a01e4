/- Lists of numbers in few bytes: Decode, the program's and the document's; the walks of the last two statements. -/
import Derived.Test.YtdclhgcgpcddlaaIntsH
import Derived.Test.YtdclhgcgpcddlaaLaws6
namespace Go.Proofs.Ytdclhgcgpcddlaa
open Go Go.Vc Go.RowKit

theorem same6_ok (w : World) {p q : Option Addr} {n c m d : Nat} {a b : List Int} (ha : Is w p n c a) (hb : Is w q m d b) :
    Calls Try.prog 54 #[.slice p n c, .slice q m d] w fun e w' => e = .returned (.bool (decide (a = b))) ∧ Ext w w' := by
  have hla := ha.len
  have hlb := hb.len
  have hle : n ≤ 9223372036854775807 := ha.le
  apply same6_vc
  unfold same6_T
  refine ⟨fun hne => ⟨?_, .rfl⟩, fun he => ?_⟩
  · rw [decide_eq_false]; rintro rfl; omega
  · refine ⟨fun i w' => ∃ k : Nat, i = (k : Int) ∧ k ≤ n ∧ a.take k = b.take k ∧ Ext w w', fun i _ => n - i.toNat, ⟨0, rfl, Nat.zero_le _, rfl, .rfl⟩, ?_⟩
    rintro i w' ⟨k, rfl, hk, ht, hx⟩
    refine ⟨fun hlt w9 hd => ?_, fun hge => ⟨?_, hx⟩⟩
    · have hx9 := hx.trans hd.ext
      obtain ⟨x, hxk⟩ : ∃ x, a[k]? = some x := ⟨_, List.getElem?_eq_getElem (by omega)⟩
      obtain ⟨y, hyk⟩ : ∃ y, b[k]? = some y := ⟨_, List.getElem?_eq_getElem (by omega)⟩
      obtain ⟨b1, o1, hp1, hc1⟩ := (ha.ext hx9).lies.getZ hxk
      obtain ⟨b2, o2, hp2, hc2⟩ := (hb.ext hx9).lies.getZ hyk
      rw [Int.toNat_natCast]
      refine ⟨b1, o1, hp1, by omega, by omega, _, hc1, b2, o2, hp2, by omega, by omega, _, hc2, fun hne => ⟨?_, hx9⟩, fun he => ?_⟩
      · rw [decide_eq_false]
        rintro rfl
        rw [hxk] at hyk; cases hyk; exact hne rfl
      · rw [i64_next (by omega)]
        refine ⟨⟨k + 1, rfl, by omega, ?_, hx9⟩, by simp only [Int.toNat_natCast]; omega⟩
        rw [take_snoc hxk, take_snoc hyk, ht, he]
    · have : k = n := by omega
      subst this
      rw [List.take_of_length_le (by omega), List.take_of_length_le (by omega)] at ht
      rw [decide_eq_true ht]

/-- l is what the bytes say. -/
def Good (b : List UInt8) (n : Int) (l : List Int) : Prop := (0 ≤ n ∧ n ≤ 4096) ∧ ∃ f : Nat, f ≤ 3 ∧ Says b f n l
/-- What Decode answers. -/
structure DecOk (b : List UInt8) (n : Int) (out : List Int) (err : Int) : Prop where
  all : ∀ l, Good b n l → err = 0 ∧ out = l
  good : err = 0 → Good b n out
  bad : err ≠ 0 → out = [] ∧ err = if 0 ≤ n ∧ n ≤ 4096 then 60 else 2
theorem DecOk.same {b : List UInt8} {n : Int} {o1 o2 : List Int} {e1 e2 : Int} (h1 : DecOk b n o1 e1) (h2 : DecOk b n o2 e2) : o1 = o2 ∧ e1 = e2 := by
  by_cases hz : e1 = 0
  · obtain ⟨a, b⟩ := h2.all _ (h1.good hz)
    exact ⟨b.symm, hz.trans a.symm⟩
  · by_cases hz2 : e2 = 0
    · exact absurd (h1.all _ (h2.good hz2)).1 hz
    · obtain ⟨a1, a2⟩ := h1.bad hz
      obtain ⟨b1, b2⟩ := h2.bad hz2
      exact ⟨a1.trans b1.symm, a2.trans b2.symm⟩

theorem encL_head (f : Nat) (l : List Int) (hf : f ≤ 3) : (encL f l)[0]? = some (UInt8.ofNat f) := by
  have h4 : f = 0 ∨ f = 1 ∨ f = 2 ∨ f = 3 := by omega
  rcases h4 with rfl | rfl | rfl | rfl <;> rfl
/-- The form is the first byte. -/
theorem Good.form {b : List UInt8} {n : Int} {l : List Int} (h : Good b n l) : ∃ y, b[0]? = some y ∧ y.toNat ≤ 3 ∧ Says b y.toNat n l := by
  obtain ⟨_, f, hf, hs⟩ := h
  refine ⟨UInt8.ofNat f, by rw [hs.enc]; exact encL_head f l hf, by rw [u8_toNat (by omega)]; exact hf, by rw [u8_toNat (by omega)]; exact hs⟩
theorem no_good {b : List UInt8} {n : Int} (h : ∀ l, ¬ Good b n l) {err : Int} (he : err = if 0 ≤ n ∧ n ≤ 4096 then 60 else 2) : DecOk b n [] err :=
  ⟨fun l hl => absurd hl (h l), (fun h0 => by rw [h0] at he; split at he <;> omega), fun _ => ⟨rfl, he⟩⟩

/-- What was read is encoded again: it is what the bytes say, or nothing is. -/
theorem dec_check {b : List UInt8} {n : Int} (hn : 0 ≤ n ∧ n ≤ 4096) {y : UInt8} (hy : b[0]? = some y) (hy3 : y.toNat ≤ 3) {out : List Int} (hlen : (out.length : Int) = n) (hfit : ∀ x ∈ out, i64B x) (hall : ∀ l, Says b y.toNat n l → out = l) :
    (encB (y.toNat : Int) out = b → DecOk b n out 0) ∧ (encB (y.toNat : Int) out ≠ b → DecOk b n [] 60) := by
  obtain ⟨_, eB⟩ := L6.enc_in (l := out) (f := (y.toNat : Int)) (by omega) (by omega)
  rw [eB, Int.toNat_natCast]
  have key : ∀ l, Good b n l → out = l := by
    intro l hl
    obtain ⟨y', h1, _, h2⟩ := hl.form
    rw [hy] at h1; cases h1
    exact hall l h2
  refine ⟨fun he => ⟨fun l hl => ⟨rfl, key l hl⟩, fun _ => ⟨hn, y.toNat, hy3, hlen, hfit, he.symm⟩, fun h => absurd rfl h⟩, fun hne => no_good (fun l hl => ?_) (by rw [if_pos hn])⟩
  have := key l hl
  subst this
  obtain ⟨y', h1, _, h2⟩ := hl.form
  rw [hy] at h1; cases h1
  exact hne h2.enc.symm

theorem decode_ok (w : World) {p : Option Addr} {bn c : Nat} {b : List UInt8} (h : InB w p bn c b) (n : Int) :
    Calls Try.prog 52 #[.slice p bn c, .int .i64 n] w fun e w' => ∃ q m d err out, e = .returned (.tuple #[.slice q m d, .int .i64 err]) ∧ OutI w.heap.size 2 w' q m d out ∧ Ext w w' ∧ DecOk b n out err := by
  have hlen := h.len
  apply decode_vc
  unfold decode_T
  have nil : ∀ W err, Ext w W → DecOk b n [] err → ∃ q m d err' out, Ending.returned (.tuple #[.slice none 0 0, .int .i64 err]) = .returned (.tuple #[.slice q m d, .int .i64 err']) ∧ OutI w.heap.size 2 W q m d out ∧ Ext w W ∧ DecOk b n out err' :=
    fun W err hx hd => ⟨none, 0, 0, err, [], rfl, OutI.nothing _ _ _, hx, hd⟩
  refine ⟨fun hbad => nil w 2 .rfl (no_good (fun l hl => by have := hl.1; omega) (by rw [if_neg (by omega)])), fun hn => ⟨fun h0 => nil w 60 .rfl (no_good (fun l hl => ?_) (by rw [if_pos hn])), fun h0 => ?_⟩⟩
  · obtain ⟨y, hy, _⟩ := hl.form
    have := (List.getElem?_eq_some_iff.1 hy).1; omega
  obtain ⟨y, hy⟩ : ∃ y, b[0]? = some y := ⟨_, List.getElem?_eq_getElem (by omega)⟩
  have hyl := y.toNat_lt
  have hby : b[0]'(by omega) = y := (List.getElem?_eq_some_iff.1 hy).2
  have byte : ∀ W, Ext w W → ∃ b5 o6, p = some ⟨b5, o6, none⟩ ∧ W.cell? ⟨b5, o6 + 0, none⟩ = some (.int .u8 ((y.toNat : Nat) : Int)) := by
    intro W hx
    obtain ⟨b1, o1, hp, hc⟩ := (h.ext hx).lies.getB (i := 0) (by omega)
    rw [hby] at hc
    exact ⟨b1, o1, hp, hc⟩
  obtain ⟨b1, o1, hp, hc⟩ := byte w .rfl
  refine ⟨b1, o1, hp, by omega, by omega, _, hc, fun h4 => nil w 60 .rfl (no_good (fun l hl => ?_) (by rw [if_pos hn])), fun h4 => ?_⟩
  · obtain ⟨y', hy', h3, _⟩ := hl.form
    rw [hy] at hy'; cases hy'; omega
  have ew : IntKind.i64.wrap ((y.toNat : Nat) : Int) = ((y.toNat : Nat) : Int) := i64_nat (by omega)
  have none_said : ∀ out : List Int, (∀ l, Says b y.toNat n l → (false = true ∧ out = l)) → ∀ l, ¬ Good b n l := by
    intro out hall l hl
    obtain ⟨y', hy', _, h2⟩ := hl.form
    rw [hy] at hy'; cases hy'
    exact Bool.noConfusion (hall l h2).1
  -- what was read is encoded again
  have check : ∀ w15 q m d out, Ext w w15 → OutI w.heap.size 2 w15 q m d out → (out.length : Int) = n → (∀ l, Says b y.toNat n l → out = l) →
      Calls Try.prog 48 #[.int .i64 ((y.toNat : Nat) : Int), .slice q m d] w15 fun e25 w26 => ∃ p27 n28 c29 n30, e25 = .returned (.tuple #[.slice p27 n28 c29, .int .i64 n30]) ∧
        Calls Try.prog 72 #[.slice p27 n28 c29, .slice p bn c] w26 fun e31 w32 => ∃ b33, e31 = .returned (.bool b33) ∧
          (b33 = false → ∃ q m d err out, Ending.returned (.tuple #[.slice none 0 0, .int .i64 60]) = .returned (.tuple #[.slice q m d, .int .i64 err]) ∧ OutI w.heap.size 2 w32 q m d out ∧ Ext w w32 ∧ DecOk b n out err) ∧
          (b33 = true → ∃ q' m' d' err out, Ending.returned (.tuple #[.slice q m d, .int .i64 0]) = .returned (.tuple #[.slice q' m' d', .int .i64 err]) ∧ OutI w.heap.size 2 w32 q' m' d' out ∧ Ext w w32 ∧ DecOk b n out err) := by
    intro w15 q m d out hx ho hlo hall
    refine (encode_ok w15 ho.is _).mono ?_
    rintro e w26 ⟨q2, m2, d2, rfl, o2, e26⟩
    refine ⟨q2, m2, d2, _, rfl, ?_⟩
    have hx26 := hx.trans e26
    obtain ⟨k1, k2⟩ := dec_check hn hy (by omega) hlo ho.2.1 hall
    apply bytesEqual_vc
    unfold bytesEqual_T
    refine ⟨_, o2.bytes, _, (h.ext hx26).bytes, _, rfl, fun hf => nil w26 60 hx26 (k2 fun e => ?_), fun ht => ⟨q, m, d, 0, out, rfl, ho.ext e26, hx26, k1 (mk_inj.1 (sEq_iff.1 ht))⟩⟩
    rw [e, sEq_self] at hf; cases hf
  refine ⟨b1, o1, hp, by omega, by omega, _, hc, fun h2 => (tight_ok w h hn hy (by omega)).mono ?_, fun h2 => (loose_ok w h hn hy (by omega)).mono ?_⟩
  · rintro e w15 ⟨q, m, d, ok, out, rfl, ho, hx, hlo, hall⟩
    refine ⟨q, m, d, ok, rfl, fun hf => nil w15 60 hx (no_good (none_said out (by rw [← hf]; exact hall)) (by rw [if_pos hn])), fun ht => ?_⟩
    obtain ⟨b2, o2, hp2, hc2⟩ := byte w15 hx
    refine ⟨b2, o2, hp2, by omega, by omega, _, hc2, ?_⟩
    rw [ew]
    exact check w15 q m d out hx ho (hlo ht) fun l hl => (hall l hl).2
  · rintro e w15 ⟨q, m, d, ok, out, rfl, ho, hx, hlo, hall⟩
    refine ⟨q, m, d, ok, rfl, fun hf => nil w15 60 hx (no_good (none_said out (by rw [← hf]; exact hall)) (by rw [if_pos hn])), fun ht => ?_⟩
    obtain ⟨b2, o2, hp2, hc2⟩ := byte w15 hx
    refine ⟨b2, o2, hp2, by omega, by omega, _, hc2, ?_⟩
    rw [ew]
    exact check w15 q m d out hx ho (hlo ht) fun l hl => (hall l hl).2

theorem rdecode_ok (w : World) {p : Option Addr} {bn c : Nat} {b : List UInt8} (h : InB w p bn c b) (n : Int) :
    Calls Try.prog 53 #[.slice p bn c, .int .i64 n] w fun e w' => ∃ q m d err out, e = .returned (.tuple #[.slice q m d, .int .i64 err]) ∧ OutI w.heap.size 2 w' q m d out ∧ Ext w w' ∧ DecOk b n out err := by
  have hlen := h.len
  apply rdecode_vc
  unfold rdecode_T
  have nil : ∀ W err, Ext w W → DecOk b n [] err → ∃ q m d err' out, Ending.returned (.tuple #[.slice none 0 0, .int .i64 err]) = .returned (.tuple #[.slice q m d, .int .i64 err']) ∧ OutI w.heap.size 2 W q m d out ∧ Ext w W ∧ DecOk b n out err' :=
    fun W err hx hd => ⟨none, 0, 0, err, [], rfl, OutI.nothing _ _ _, hx, hd⟩
  refine ⟨fun hbad => nil w 2 .rfl (no_good (fun l hl => by have := hl.1; omega) (by rw [if_neg (by omega)])), fun hn => ⟨fun h0 => nil w 60 .rfl (no_good (fun l hl => ?_) (by rw [if_pos hn])), fun h0 => ?_⟩⟩
  · obtain ⟨y, hy, _⟩ := hl.form
    have := (List.getElem?_eq_some_iff.1 hy).1; omega
  obtain ⟨y, hy⟩ : ∃ y, b[0]? = some y := ⟨_, List.getElem?_eq_getElem (by omega)⟩
  have hyl := y.toNat_lt
  have hby : b[0]'(by omega) = y := (List.getElem?_eq_some_iff.1 hy).2
  have byte : ∀ W, Ext w W → ∃ b5 o6, p = some ⟨b5, o6, none⟩ ∧ W.cell? ⟨b5, o6 + 0, none⟩ = some (.int .u8 ((y.toNat : Nat) : Int)) := by
    intro W hx
    obtain ⟨b1, o1, hp, hc⟩ := (h.ext hx).lies.getB (i := 0) (by omega)
    rw [hby] at hc
    exact ⟨b1, o1, hp, hc⟩
  obtain ⟨b1, o1, hp, hc⟩ := byte w .rfl
  refine ⟨b1, o1, hp, by omega, by omega, _, hc, fun h4 => nil w 60 .rfl (no_good (fun l hl => ?_) (by rw [if_pos hn])), fun h4 => ?_⟩
  · obtain ⟨y', hy', h3, _⟩ := hl.form
    rw [hy] at hy'; cases hy'; omega
  have ew : IntKind.i64.wrap ((y.toNat : Nat) : Int) = ((y.toNat : Nat) : Int) := i64_nat (by omega)
  have none_said : ∀ out : List Int, (out.length : Int) ≠ n → (∀ l, Says b y.toNat n l → out = l) → ∀ l, ¬ Good b n l := by
    intro out hne hall l hl
    obtain ⟨y', hy', _, h2⟩ := hl.form
    rw [hy] at hy'; cases hy'
    have := hall l h2
    subst this
    exact hne h2.len
  have check : ∀ w15 q m d out, Ext w w15 → OutI w.heap.size 2 w15 q m d out → (out.length : Int) = n → (∀ l, Says b y.toNat n l → out = l) →
      Calls Try.prog 49 #[.int .i64 ((y.toNat : Nat) : Int), .slice q m d] w15 fun e24 w25 => ∃ p26 n27 c28 n29, e24 = .returned (.tuple #[.slice p26 n27 c28, .int .i64 n29]) ∧
        ∃ l30, BytesAt w25 p26 n27 l30 ∧ ∃ l31, BytesAt w25 p bn l31 ∧
          (ByteArray.mk (Array.mk l30) ≠ ByteArray.mk (Array.mk l31) → ∃ q m d err out, Ending.returned (.tuple #[.slice none 0 0, .int .i64 60]) = .returned (.tuple #[.slice q m d, .int .i64 err]) ∧ OutI w.heap.size 2 w25 q m d out ∧ Ext w w25 ∧ DecOk b n out err) ∧
          (ByteArray.mk (Array.mk l30) = ByteArray.mk (Array.mk l31) → ∃ q' m' d' err out, Ending.returned (.tuple #[.slice q m d, .int .i64 0]) = .returned (.tuple #[.slice q' m' d', .int .i64 err]) ∧ OutI w.heap.size 2 w25 q' m' d' out ∧ Ext w w25 ∧ DecOk b n out err) := by
    intro w15 q m d out hx ho hlo hall
    refine (rencode_ok w15 ho.is _).mono ?_
    rintro e w25 ⟨q2, m2, d2, rfl, o2, e25⟩
    have hx25 := hx.trans e25
    obtain ⟨k1, k2⟩ := dec_check hn hy (by omega) hlo ho.2.1 hall
    exact ⟨q2, m2, d2, _, rfl, _, o2.bytes, _, (h.ext hx25).bytes, fun hne => nil w25 60 hx25 (k2 fun e => hne (by rw [e])), fun he => ⟨q, m, d, 0, out, rfl, ho.ext e25, hx25, k1 (mk_inj.1 he)⟩⟩
  refine ⟨b1, o1, hp, by omega, by omega, _, hc, fun h2 => (plainly_ok w h hn hy (by omega)).mono ?_, fun h2 => (widely_ok w h hn hy (by omega)).mono ?_⟩
  · rintro e w15 ⟨q, m, d, out, rfl, ho, hx, hall⟩
    have hlo := ho.1
    refine ⟨q, m, d, rfl, fun hne => nil w15 60 hx (no_good (none_said out (by omega) hall) (by rw [if_pos hn])), fun he => ?_⟩
    obtain ⟨b2, o2, hp2, hc2⟩ := byte w15 hx
    refine ⟨b2, o2, hp2, by omega, by omega, _, hc2, ?_⟩
    rw [ew]
    exact check w15 q m d out hx ho (by omega) hall
  · rintro e w15 ⟨q, m, d, out, rfl, ho, hx, hall⟩
    have hlo := ho.1
    refine ⟨q, m, d, rfl, fun hne => nil w15 60 hx (no_good (none_said out (by omega) hall) (by rw [if_pos hn])), fun he => ?_⟩
    obtain ⟨b2, o2, hp2, hc2⟩ := byte w15 hx
    refine ⟨b2, o2, hp2, by omega, by omega, _, hc2, ?_⟩
    rw [ew]
    exact check w15 q m d out hx ho (by omega) hall

namespace L6
theorem reads_walk (w : World) (v0 v1 : Value) (h0 : Arg Try.prog w 30 [v0]) (h1 : Arg Try.prog w 3 [v1]) : Calls Try.prog 20 #[v0, v1] w fun e w' => e = .returned (.bool true) ∧ Ext w w' := by
  obtain ⟨p, bn, c, b, rfl, hb, _⟩ := arg_bytes h0
  obtain ⟨n, rfl, hn⟩ := arg_int h1
  apply law6Reads_vc
  unfold law6Reads_T
  refine (shown6_ok w).mono ?_
  rintro e wa ⟨rfl, ea⟩
  refine ⟨true, rfl, (decode_ok wa (hb.ext ea) n).mono ?_⟩
  rintro e wb ⟨q1, m1, d1, e1, l1, rfl, o1, eb, D1⟩
  have eb' := ea.trans eb
  refine ⟨q1, m1, d1, e1, rfl, (rdecode_ok wb (hb.ext eb') n).mono ?_⟩
  rintro e wc ⟨q2, m2, d2, e2, l2, rfl, o2, ec, D2⟩
  obtain ⟨rfl, rfl⟩ := D1.same D2
  refine ⟨q2, m2, d2, e1, rfl, fun _ => (same6_ok wc (o1.ext ec).is o2.is).mono ?_, fun h => Bool.noConfusion h⟩
  rintro e wd ⟨rfl, ed⟩
  exact ⟨_, rfl, by simp, (eb'.trans ec).trans ed⟩

theorem back_walk (w : World) (v0 v1 v2 : Value) (h0 : Arg Try.prog w 63 [v0]) (h1 : Arg Try.prog w 30 [v1]) (h2 : Arg Try.prog w 3 [v2]) : Calls Try.prog 21 #[v0, v1, v2] w fun e w' => e = .returned (.bool true) ∧ Ext w w' := by
  obtain ⟨p, n, c, l, rfl, hl, hn⟩ := arg_ints h0
  obtain ⟨pb, bn, bc, b, rfl, hb, _⟩ := arg_bytes h1
  obtain ⟨k, rfl, hk⟩ := arg_int h2
  have hlen := hl.len
  have hbl := hb.len
  apply law6Back_vc
  unfold law6Back_T
  refine (shown6_ok w).mono ?_
  rintro e wa ⟨rfl, ea⟩
  refine ⟨true, rfl, fun i W => ∃ f : Nat, i = (f : Int) ∧ f ≤ 4 ∧ Ext w W, fun i _ => 4 - i.toNat, ⟨0, rfl, by omega, ea⟩, ?_⟩
  rintro i W ⟨f, rfl, hf, hx⟩
  refine ⟨fun hlt => (encode_ok W (hl.ext hx) _).mono ?_, fun hge => (decode_ok W (hb.ext hx) k).mono ?_⟩
  · rintro e wb ⟨q1, m1, d1, rfl, o1, eb⟩
    have xb := hx.trans eb
    by_cases hle : l.length ≤ 4096
    · obtain ⟨e1, e2⟩ := enc_in (l := l) (f := (f : Int)) (by omega) hle
      rw [e2, Int.toNat_natCast] at o1
      refine ⟨q1, m1, d1, _, rfl, fun h => absurd e1 h, fun _ => (decode_ok wb o1.inn n).mono ?_⟩
      rintro e wc ⟨q2, m2, d2, err, out, rfl, o2, ec, D⟩
      have xc := xb.trans ec
      obtain ⟨rfl, rfl⟩ := D.all l ⟨by omega, f, by omega, by omega, hl.fit, rfl⟩
      refine ⟨q2, m2, d2, 0, rfl, fun h => absurd rfl h, fun _ => (same6_ok wc (hl.ext xc) o2.is).mono ?_⟩
      rintro e wd ⟨rfl, ed⟩
      refine ⟨_, rfl, fun h => by simp at h, fun _ => ?_⟩
      rw [i64_next (by omega)]
      exact ⟨⟨f + 1, rfl, by omega, xc.trans ed⟩, by simp only [Int.toNat_natCast]; omega⟩
    · have e2 : encE (f : Int) l = 2 := by unfold encE; rw [if_neg (fun h => hle h.2)]
      refine ⟨q1, m1, d1, _, rfl, fun _ => ⟨by rw [decide_eq_true (by omega)]; rfl, xb⟩, fun h => by rw [e2] at h; cases h⟩
  · rintro e wb ⟨q, m, d, err, out, rfl, o, eb, D⟩
    have xb := hx.trans eb
    have hm := o.1
    refine ⟨q, m, d, err, rfl, fun hne => ⟨?_, xb⟩, fun h0 => ?_⟩
    · obtain ⟨rfl, _⟩ := D.bad hne
      simp at hm
      subst hm
      rfl
    · have hg := D.good h0
      obtain ⟨y, hy, hy3, hs⟩ := hg.form
      have hyl := y.toNat_lt
      have hs1 := hs.len
      have hkr := hg.1
      have h0b := (List.getElem?_eq_some_iff.1 hy).1
      have hby : b[0]'(by omega) = y := (List.getElem?_eq_some_iff.1 hy).2
      obtain ⟨b1, o1, hp, hc⟩ := (hb.ext xb).lies.getB (i := 0) (by omega)
      rw [hby] at hc
      refine ⟨b1, o1, hp, by omega, by omega, _, hc, ?_⟩
      rw [i64_nat (by omega)]
      refine (encode_ok wb o.is _).mono ?_
      rintro e wc ⟨q2, m2, d2, rfl, o2, ec⟩
      have xc := xb.trans ec
      obtain ⟨e1, e2⟩ := enc_in (l := out) (f := ((y.toNat : Nat) : Int)) (by omega) (by omega)
      rw [e2, Int.toNat_natCast, ← hs.enc] at o2
      refine ⟨q2, m2, d2, _, rfl, fun _ => ⟨_, o2.bytes, _, (hb.ext xc).bytes, by rw [sEq_self], xc⟩, fun hno => ?_⟩
      rcases hno with (h | h) | h
      · cases h
      · omega
      · exact absurd e1 h
end L6
end Go.Proofs.Ytdclhgcgpcddlaa
