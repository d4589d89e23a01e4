/- Texts of the proof, one behind the other. -/
import Derived.Test.YthnimelcbbinaaaDoorMb
import Derived.Lib.Bytealg
import Derived.Lib.LaidTab
import Derived.Test.YthnimelcbbinaaaDoorRows
import Derived.JoinedOf
set_option linter.unusedVariables false
set_option linter.unusedSimpArgs false
/- The contract of hash.Sum. -/
namespace Go.Proofs.YthnimelcbbinaaaDoor
open Go Go.Vc Go.RowKit
set_option maxRecDepth 20000
attribute [local irreducible] Calls Put Drew New

/-- Of the numbers f the first i, the rest 0. -/
def upTo (f : Nat → Nat) (n i : Nat) : List Nat := (List.range n).map fun j => if j < i then f j else 0
theorem upTo_get {f : Nat → Nat} {n i j : Nat} (hj : j < n) : (upTo f n i)[j]? = some (if j < i then f j else 0) := by
  unfold upTo; rw [List.getElem?_map, List.getElem?_range hj]; rfl
theorem upTo_len (f : Nat → Nat) (n i : Nat) : (upTo f n i).length = n := by simp [upTo]
theorem upTo_zero (f : Nat → Nat) (n : Nat) : upTo f n 0 = List.replicate n 0 := by
  apply List.ext_getElem?
  intro j
  rcases Nat.lt_or_ge j n with h | h
  · rw [upTo_get h, if_neg (by omega), List.getElem?_replicate, if_pos h]
  · rw [List.getElem?_eq_none (by rw [upTo_len]; exact h), List.getElem?_eq_none (by simpa using h)]
theorem upTo_step {f : Nat → Nat} {n i : Nat} (hi : i < n) : upTo f n (i + 1) = (upTo f n i).set i (f i) := by
  apply List.ext_getElem?
  intro j
  rw [List.getElem?_set]
  rcases Nat.lt_or_ge j n with h | h
  · rw [upTo_get h]
    by_cases e : i = j
    · subst e; rw [if_pos (by omega), if_pos rfl, if_pos (by rw [upTo_len]; exact h)]
    · rw [if_neg e, upTo_get h]
      by_cases h2 : j < i
      · rw [if_pos (by omega), if_pos h2]
      · rw [if_neg (by omega), if_neg h2]
  · rw [if_neg (by omega), List.getElem?_eq_none (by rw [upTo_len]; exact h), List.getElem?_eq_none (by rw [upTo_len]; exact h)]
theorem upTo_all (f : Nat → Nat) (n : Nat) : upTo f n n = (List.range n).map f := by
  unfold upTo
  exact List.map_congr_left fun j hj => by rw [if_pos (List.mem_range.1 hj)]
def outN (h : List Nat) (i : Nat) : Nat := g0 h (i / 4) / 2 ^ (8 * (i % 4)) % 256
theorem upTo_out (h : List Nat) : upTo (outN h) 32 32 = outL h := upTo_all _ _
theorem out_val {x i : Nat} (hx : x < 4294967296) : IntKind.u8.wrap (shrI .u32 (x : Int) (8 * (i % 4))) = ((x / 2 ^ (8 * (i % 4)) % 256 : Nat) : Int) := by
  rw [shr_u32 _ _ (by omega), IntKind.wrap_u8]; omega
theorem zero32 : zeroA Tryd.prog 24 = vA .u8 (List.replicate 32 0) := by kernel_rfl
theorem zero64 : zeroA Tryd.prog 39 = vA .u8 (List.replicate 64 0) := by kernel_rfl
def nats (l : List UInt8) : List Nat := l.map UInt8.toNat
theorem nats_len (l : List UInt8) : (nats l).length = l.length := by simp [nats]
theorem nats_lt (l : List UInt8) : ∀ x ∈ nats l, x < 256 := by
  intro x hx
  obtain ⟨y, _, rfl⟩ := List.mem_map.1 hx
  exact y.toNat_lt
theorem pad_eq (b : List Nat) (k : Nat) : (b.drop (64 * k)).take 64 ++ (List.replicate 64 0).drop (min (b.length - 64 * k) 64) = padL ((b.drop (64 * k)).take 64) := by
  unfold padL
  rw [List.drop_replicate, List.length_take, List.length_drop, Nat.min_comm]
theorem padL_len {b : List Nat} (h : b.length ≤ 64) : (padL b).length = 64 := by simp [padL]; omega
theorem padL_lt {b : List Nat} (h : ∀ x ∈ b, x < 256) : ∀ x ∈ padL b, x < 256 := by
  intro x hx
  rcases List.mem_append.1 hx with hx | hx
  · exact h x hx
  · rw [(List.mem_replicate.1 hx).2]; decide
theorem part_lt {b : List Nat} (h : ∀ x ∈ b, x < 256) (k : Nat) : ∀ x ∈ (b.drop (64 * k)).take 64, x < 256 := fun x hx => h x (List.mem_of_mem_drop (List.mem_of_mem_take hx))
theorem blocks_at {n k : Nat} (h1 : k = 1 ∨ 64 * (k - 1) < n) (hk : 1 ≤ k) (h2 : n ≤ 64 * k) : blocksN n = k := by
  unfold blocksN
  split
  · rename_i h; subst h; rcases h1 with h1 | h1 <;> omega
  · omega
theorem slice_bytes {w : World} {p : Option Addr} {n c : Nat} {l : List UInt8} (h : InB w p n c l) {k : Nat} (hk : k ≤ n) : At w (slBase p k c 1) (vN .u8 ((nats l).drop k)) := by
  have hl := h.len
  have := h.lies.slice k n c 1 h.cap.1
  rw [vB_nats] at this
  rw [Nat.mul_one, Nat.mul_one, List.take_of_length_le (by rw [vN_length]; simp [hl])] at this
  unfold nats
  have e : vN .u8 ((l.map UInt8.toNat).drop k) = (vN .u8 (l.map UInt8.toNat)).drop k := by simp [vN, List.map_drop]
  rw [e]; exact this
set_option maxHeartbeats 4000000 in
theorem hSum_ok {w : World} {p : Option Addr} {n c : Nat} {hs : List Sl} {L : List (List UInt8)} (hT : HTab w) (hL : Bts w p n c hs L) (ht : total L ≤ 1000000) :
    Calls Tryd.prog 8 #[.slice p n c] w fun e w' => e = .returned (.agg (vA .u8 (sumL (nats L.flatten)))) ∧ Ext w w' := by
  apply hSum_vc
  unfold hSum_T
  intro b1 w2 h1
  rw [zero32] at h1
  have H := (Hold.start (Ext.rfl (w := w))).new h1
  refine (concat_ok H (hL.ext H.ext) ht).mono ?_
  rintro e w5 ⟨q, m, d, rfl, hq, H1, _⟩
  replace H := H1
  clear H1
  have hm : m ≤ 1000000 := by have := hq.len; unfold total at ht; omega
  refine ⟨_, _, _, rfl, vA .u32 ivL, by kernel_rfl, (hT.ext H.ext).first, ?_⟩
  intro b10 w11 h10
  rw [zero8] at h10
  have K := (Hold.start (Ext.rfl (w := w5))).new h10
  refine ⟨by kernel_rfl, K.canPut 0 rfl (by kernel_rfl) vA_one, ?_⟩
  intro w13 hS
  replace K := K.putAll 0 rfl (by kernel_rfl) hS
  have c0 := K.getN 0 rfl (g0_get (l := ivL) (i := 0) (by decide))
  refine ⟨by decide, by decide, _, c0, by decide, by decide, ⟨_, c0⟩, K.frz 0 rfl, ?_⟩
  rw [show (16842784 : Int) = ((16842784 : Nat) : Int) from rfl, xor_u32 (g0_lt ivL_w.2 0) (by decide)]
  intro w17 hS
  replace K := K.putN 0 rfl hS
  have K : Hold w5 w17 [(b10, .cells (vA .u32 h0L) 38 (0, 0))] [] := K
  generalize hb : nats L.flatten = b
  have hbl : b.length = m := by rw [← hb, nats_len, hq.len]
  have hbt : ∀ x ∈ b, x < 256 := by rw [← hb]; exact nats_lt _
  refine ⟨fun i W => ∃ k : Nat, i = ((64 * k : Nat) : Int) ∧ (k = 0 ∨ k = 1 ∨ 64 * (k - 1) < m) ∧ Hold w5 W [(b10, .cells (vA .u32 (stateL b k)) 38 (0, 0))] [], fun i _ => 2000000 - i.toNat, ⟨0, rfl, .inl rfl, K⟩, ?_⟩
  clear K c0 hS
  rintro i W ⟨k, rfl, hk, K⟩
  have hw := stateL_w b k
  refine ⟨fun hgo => ?_, fun hend => ?_⟩
  · have hkm : 64 * k ≤ m := by omega
    intro b25 w26 h25
    rw [zero64] at h25
    replace K := K.new h25
    intro w28 hD
    replace K := K.step (Drew.ext hD)
    simp only [Int.toNat_natCast]
    have hsrc := slice_bytes (hq.ext K.ext) hkm
    rw [hb] at hsrc
    obtain ⟨w31, hrun, K1⟩ := K.copyN (P := Tryd.prog) (dT := 22) (sT := 22) (ty := 3) undB sizeB 0 rfl (src := b.drop (64 * k)) (sLen := m - 64 * k) (sCap := d - 64 * k) (dLen := 64) (dCap := 64) hsrc (by rw [List.length_drop, hbl]) (by simp) (by decide)
    refine ⟨by omega, by omega, _, _, hrun, ?_⟩
    replace K := K1
    have ep : (b.drop (64 * k)).take 64 ++ (List.replicate 64 0).drop (min (m - 64 * k) 64) = padL ((b.drop (64 * k)).take 64) := by rw [← hbl]; exact pad_eq b k
    rw [ep] at K
    have hp64 := padL_len (b := (b.drop (64 * k)).take 64) (by simp; omega)
    have hplt := padL_lt (part_lt hbt k)
    have en : IntKind.i64.wrap (((64 * k : Nat) : Int) + ((min (m - 64 * k) 64 : Nat) : Int)) = ((min (64 * (k + 1)) m : Nat) : Int) := by
      rw [i64_fit (by omega) (by omega)]; omega
    rw [en, u64_nat (by omega)]
    refine ⟨_, by rw [vA_size, hw.1], K.cellsAt 1 rfl, _, by rw [vA_size, hp64], K.cellsAt 0 rfl, ?_⟩
    have ed : decide (((min (64 * (k + 1)) m : Nat) : Int) = (m : Int)) = decide (b.length ≤ 64 * (k + 1)) := by
      rw [hbl]; exact decide_eq_decide.2 (by omega)
    rw [ed]
    refine (hnext_ok hw hp64 hplt (by omega) _ (hT.ext (H.ext.trans K.ext))).mono ?_
    rintro e w35 ⟨rfl, eX⟩
    replace K := K.step eX
    have hst : blockL (stateL b k) (padL ((b.drop (64 * k)).take 64)) (min (64 * (k + 1)) m) (decide (b.length ≤ 64 * (k + 1))) = stateL b (k + 1) := by rw [stateL, hbl]
    rw [hst]
    have hw1 := stateL_w b (k + 1)
    refine ⟨_, by rw [vA_size, hw1.1], rfl, by rw [vA_size, hw1.1], K.canPut 1 rfl (by rw [vA_size, vA_size, hw1.1, hw.1]) vA_one, ?_⟩
    intro w37 hS
    replace K := K.putAll 1 rfl (by rw [vA_size, vA_size, hw1.1, hw.1]) hS
    have e64 : IntKind.i64.wrap (((64 * k : Nat) : Int) + 64) = ((64 * (k + 1) : Nat) : Int) := by
      rw [i64_fit (by omega) (by omega)]; omega
    rw [e64]
    refine ⟨⟨k + 1, rfl, ?_, K.tail⟩, by simp only [Int.toNat_natCast]; omega⟩
    rcases hgo with h | h
    · right; left; omega
    · right; right; rw [Nat.add_sub_cancel]; omega
  · have hk1 : 1 ≤ k := by omega
    have hbk : blocksN b.length = k := by rw [hbl]; exact blocks_at (by omega) hk1 (by omega)
    intro b40 w41 h40
    rw [zero32] at h40
    replace K := K.new h40
    rw [← upTo_zero (outN (stateL b k)) 32] at K
    refine ⟨fun i W => ∃ j : Nat, i = (j : Int) ∧ j ≤ 32 ∧ Hold w5 W [(b40, .cells (vA .u8 (upTo (outN (stateL b k)) 32 j)) 24 (0, 0)), (b10, .cells (vA .u32 (stateL b k)) 38 (0, 0))] [], fun i _ => 32 - i.toNat, ⟨0, rfl, by decide, K⟩, ?_⟩
    clear K
    rintro i W ⟨j, rfl, hj, K⟩
    refine ⟨fun hlt => ?_, fun hge => ?_⟩
    · rw [quo4 (by omega), eight4]
      simp only [Int.toNat_natCast, Nat.zero_add]
      have c0 := K.getN 1 rfl (g0_get (l := stateL b k) (i := j / 4) (by rw [hw.1]; omega))
      refine ⟨by omega, by omega, _, c0, by omega, by omega, by omega, ⟨_, K.getN 0 rfl (upTo_get (by omega))⟩, K.frz 0 rfl, ?_⟩
      rw [out_val (g0_lt hw.2 _)]
      intro w51 hS
      replace K := K.putN 0 rfl hS
      rw [i64_next (by omega)]
      refine ⟨⟨j + 1, rfl, by omega, ?_⟩, by simp only [Int.toNat_natCast]; omega⟩
      rw [upTo_step (by omega)]
      exact K
    · have : j = 32 := by omega
      subst this
      rw [upTo_out] at K
      have hsum : outL (stateL b k) = sumL b := by unfold sumL; rw [hbk]
      rw [hsum] at K
      have H2 := H.step K.ext
      refine ⟨_, by rw [vA_size, sumL_len], K.cellsAt 0 rfl, by rw [vA_size, sumL_len], H2.canPut 0 rfl (by rw [vA_size, vA_size, sumL_len]; rfl) vA_one, ?_⟩
      intro w55 hS
      have H3 := H2.putAll 0 rfl (by rw [vA_size, vA_size, sumL_len]; rfl) hS
      exact ⟨_, by rw [vA_size, sumL_len], H3.cellsAt 0 rfl, rfl, H3.ext⟩
end Go.Proofs.YthnimelcbbinaaaDoor

/- The verification conditions of the functions, evaluated: printed by program. -/
namespace Go.Proofs.YthnimelcbbinaaaDoor
open Go Go.Vc
set_option maxRecDepth 20000

set_option maxRecDepth 100000 in
def indexb_T (s : ByteArray) (c : Int) (w : World) (R : Ending → World → Prop) : Prop :=
  Calls Tryd.prog 25 #[.string s, .int .u8 c] w fun e1 w2 ↦
 ∃ n3, e1 = .returned (.int .i64 n3) ∧ R (.returned (.int .i64 n3)) w2

set_option maxRecDepth 100000 in
theorem indexb_eq (s : ByteArray) (c : Int) (w : World) (R : Ending → World → Prop) : indexb_T s c w R = vcFn Tryd.prog [] [] Tryd.f18 [.string s, .int .u8 c] w R := by kernel_rfl

set_option maxRecDepth 100000 in
theorem indexb_vc (s : ByteArray) (c : Int) (w : World) (R : Ending → World → Prop) (hvc : indexb_T s c w R) : Calls Tryd.prog 18 #[.string s, .int .u8 c] w R :=
  calls_of_vc (args := [.string s, .int .u8 c]) [] [] Tryd.mixed Tryd.func18 (cast (indexb_eq _ _ w R) hvc)

set_option maxRecDepth 100000 in
def indexb1_T (s : ByteArray) (c : Int) (w : World) (R : Ending → World → Prop) : Prop :=
  ∃ n1, ∃ (w'2 : World), Sem.run Tryd.prog (callFunc 28 #[.string s, .int .u8 c]) w = Result.ok (Next.value (.int .i64 n1)) w'2 ∧ R (.returned (.int .i64 n1)) w'2

set_option maxRecDepth 100000 in
theorem indexb1_eq (s : ByteArray) (c : Int) (w : World) (R : Ending → World → Prop) : indexb1_T s c w R = vcFn Tryd.prog [] [] Tryd.f25 [.string s, .int .u8 c] w R := by kernel_rfl

set_option maxRecDepth 100000 in
theorem indexb1_vc (s : ByteArray) (c : Int) (w : World) (R : Ending → World → Prop) (hvc : indexb1_T s c w R) : Calls Tryd.prog 25 #[.string s, .int .u8 c] w R :=
  calls_of_vc (args := [.string s, .int .u8 c]) [] [] Tryd.mixed Tryd.func25 (cast (indexb1_eq _ _ w R) hvc)


end Go.Proofs.YthnimelcbbinaaaDoor

/- The contracts of hash: Hex, Unhex. -/
namespace Go.Proofs.YthnimelcbbinaaaDoor
open Go Go.Vc Go.RowKit
set_option maxRecDepth 20000
attribute [local irreducible] Calls Put Drew New

def digitsS : ByteArray := ByteArray.mk #[48, 49, 50, 51, 52, 53, 54, 55, 56, 57, 97, 98, 99, 100, 101, 102]
theorem digits_at : ∀ i, i < 16 → bAt digitsS i = ((hexD i : Nat) : Int) := by decide +kernel
theorem hexD_lt {i : Nat} (h : i < 16) : hexD i < 256 := by unfold hexD; split <;> omega
theorem hexL_lt {d : List Nat} (h : ∀ x ∈ d, x < 256) : ∀ x ∈ hexL d, x < 256 := by
  intro x hx
  unfold hexL at hx
  obtain ⟨y, hy, hx⟩ := List.mem_flatMap.1 hx
  have := h y hy
  simp only [List.mem_cons, List.not_mem_nil, or_false] at hx
  rcases hx with rfl | rfl <;> exact hexD_lt (by omega)
theorem hexL_len (d : List Nat) : (hexL d).length = 2 * d.length := by
  unfold hexL
  induction d with
  | nil => rfl
  | cons x d ih => rw [List.flatMap_cons, List.length_append, ih, List.length_cons]; simp; omega
/-- Bytes out of numbers. -/
def bytesN (l : List Nat) : ByteArray := ⟨(l.map UInt8.ofNat).toArray⟩
theorem hexL_take {d : List Nat} {j x : Nat} (h : d[j]? = some x) : hexL (d.take (j + 1)) = hexL (d.take j) ++ [hexD (x / 16), hexD (x % 16)] := by
  rw [take_snoc h]; unfold hexL; rw [List.flatMap_append]; rfl
set_option maxHeartbeats 4000000 in
theorem hHex_ok {D : List Nat} (hD : D.length = 32) (hb : ∀ x ∈ D, x < 256) (w : World) :
    Calls Tryd.prog 12 #[.agg (vA .u8 D)] w fun e w' => e = .returned (.string (bytesN (hexL D))) ∧ Ext w w' := by
  apply hHex_vc
  unfold hHex_T
  intro b1 w2 h1
  have H := (Hold.start (Ext.rfl (w := w))).new (o := .cells (vA .u8 D) 24) h1
  refine ⟨vA .u8 D, by rw [vA_size, hD], H.cellsAt 0 rfl, ?_⟩
  refine ⟨fun q k d i W => ∃ j : Nat, i = (j : Int) ∧ j ≤ 32 ∧ k = 2 * j ∧ Hold w W [] [⟨5, 1, q, k, d, vN .u8 (hexL (D.take j))⟩], fun _ _ _ i _ => 32 - i.toNat, ⟨0, rfl, by decide, rfl, H.tail.nilRow _ _⟩, ?_⟩
  clear H
  rintro q k d i W ⟨j, rfl, hj, rfl, H⟩
  refine ⟨fun hlt => ?_, fun hge => ?_⟩
  · have gx : D[j]? = some (g0 D j) := g0_get (by omega)
    have hx : g0 D j < 256 := g0_byte hb j
    simp only [Int.toNat_natCast]
    refine ⟨by omega, hlt, _, vA_get gx, ?_⟩
    intro w20 hDr
    replace H := H.step (Drew.ext hDr)
    have e1 : shrI .u8 ((g0 D j : Nat) : Int) 4 = ((g0 D j / 16 : Nat) : Int) := shr_nat .u8 _ 4 (by decide)
    have e2 : bits .and .u8 ((g0 D j : Nat) : Int) 15 = ((g0 D j % 16 : Nat) : Int) := by
      have := and_u8 hx (b := 15) (by decide)
      refine this.trans ?_
      rw [show g0 D j &&& 15 = g0 D j % 16 from Nat.and_two_pow_sub_one_eq_mod (n := 4) _]
    rw [e1, e2]
    simp only [Int.toNat_natCast]
    refine ⟨by omega, by omega, by omega, by omega, ?_⟩
    intro b22 w23 hN
    have hN : New w20 (.cells #[.int .u8 (bAt digitsS (g0 D j / 16)), .int .u8 (bAt digitsS (g0 D j % 16))] 5) b22 w23 := hN
    rw [digits_at _ (by omega), digits_at _ (by omega)] at hN
    replace H := H.new hN
    obtain ⟨p', c', w28, hrun, H1⟩ := H.append (ty := 22) (P := Tryd.prog) (q := some ⟨b22, 0, none⟩) (m := 2) (d' := 2) (news := [.int .u8 ((hexD (g0 D j / 16) : Nat) : Int), .int .u8 ((hexD (g0 D j % 16) : Nat) : Int)]) 0 rfl undB tyB rfl (by decide) (H.blk 0 rfl).at rfl (fun e => by cases e) (by
      intro u hu
      simp only [List.mem_cons, List.not_mem_nil, or_false] at hu
      rcases hu with rfl | rfl <;> rfl) (by dsimp only; omega) (by unfold maxLen; omega)
    refine ⟨_, _, _, _, hrun, ?_⟩
    rw [i64_next (by omega)]
    refine ⟨⟨j + 1, rfl, by omega, by omega, ?_⟩, by simp only [Int.toNat_natCast]; omega⟩
    rw [hexL_take gx, vN_append]
    exact H1.tail
  · have : j = 32 := by omega
    subst this
    rw [List.take_of_length_le (by omega)] at H
    have hm := H.row 0 rfl
    rw [vN_bytes (hexL_lt hb)] at hm
    exact ⟨_, hm.at.bytes' (by simp [hexL_len, hD]), rfl, H.ext⟩

/-! ### Unhex -/
theorem indexb_ok (s : ByteArray) (c : UInt8) (w : World) : Calls Tryd.prog 18 #[.string s, .int .u8 ((c.toNat : Nat) : Int)] w fun e w' => e = .returned (.int .i64 (Lib.indexByte (tB s) c)) ∧ Ext w w' := by
  apply indexb_vc
  unfold indexb_T
  have : Calls Tryd.prog 25 #[.string s, .int .u8 ((c.toNat : Nat) : Int)] w fun e w' => e = .returned (.int .i64 (Lib.indexByte (tB s) c)) ∧ Ext w w' := by
    apply indexb1_vc
    unfold indexb1_T
    refine ⟨Lib.indexByte (tB s) c, w, ?_, rfl, Ext.rfl⟩
    rw [run_callFunc_extern Tryd.func28 (by kernel_rfl) (by kernel_rfl) (by kernel_rfl) (e := Extern.BytealgIndexByte.indexByte) (by kernel_rfl), Lib.run_indexByteString]
    simp [tB]
  refine this.mono ?_
  rintro e w' ⟨rfl, eX⟩
  exact ⟨_, rfl, rfl, eX⟩
/-- The number of a digit; below 0: none. -/
def digN (c : Nat) : Int := match unD1 c with | some x => (x : Int) | none => -1
theorem dig_table : ∀ c, c < 256 → Lib.indexByte (tB digitsS) (UInt8.ofNat c) = digN c := by decide +kernel
theorem digN_lt {c : Nat} (h : 0 ≤ digN c) : (digN c).toNat < 16 := by
  unfold digN unD1 at *
  split at h
  · rename_i x hx
    split at hx
    · cases hx; rw [Int.toNat_natCast]; omega
    · split at hx
      · cases hx; rw [Int.toNat_natCast]; omega
      · cases hx
  · exact absurd h (by decide)
def digAt (S : List Nat) (j : Nat) : Int := digN (g0 S j)
def pairN (S : List Nat) (k : Nat) : Nat := 16 * (digAt S (2 * k)).toNat + (digAt S (2 * k + 1)).toNat
def ValidT (S : List Nat) : Prop := S.length = 64 ∧ ∀ j, j < 64 → 0 ≤ digAt S j
instance (S : List Nat) : Decidable (ValidT S) := by unfold ValidT; exact inferInstance
def unhexF (S : List Nat) : List Nat × Int := if ValidT S then ((List.range 32).map (pairN S), 0) else (List.replicate 32 0, 2)
def halfL (S : List Nat) (i : Nat) : List Nat := (List.range 32).map fun k => if 2 * k + 1 < i then pairN S k else if 2 * k < i then (digAt S (2 * k)).toNat else 0
theorem halfL_len (S : List Nat) (i : Nat) : (halfL S i).length = 32 := by simp [halfL]
theorem halfL_get {S : List Nat} {i k : Nat} (hk : k < 32) : (halfL S i)[k]? = some (if 2 * k + 1 < i then pairN S k else if 2 * k < i then (digAt S (2 * k)).toNat else 0) := by
  unfold halfL; rw [List.getElem?_map, List.getElem?_range hk]; rfl
theorem halfL_zero (S : List Nat) : halfL S 0 = List.replicate 32 0 := by
  unfold halfL
  rw [List.map_congr_left (g := fun _ => 0) fun k _ => by simp]
  rfl
theorem halfL_all (S : List Nat) : halfL S 64 = (List.range 32).map (pairN S) := by
  unfold halfL
  exact List.map_congr_left fun k hk => by rw [if_pos (by have := List.mem_range.1 hk; omega)]
theorem nibble : ∀ x, x < 16 → ∀ n, n < 16 → bits .or .u8 (shlI .u8 ((x : Nat) : Int) 4) (IntKind.u8.wrap ((n : Nat) : Int)) = ((16 * x + n : Nat) : Int) := by decide +kernel
theorem halfL_step {S : List Nat} {i : Nat} (hi : i < 64) : ∃ x, (halfL S i)[i / 2]? = some x ∧ (0 ≤ digAt S (i - 1) → x < 16) ∧ (halfL S i).set (i / 2) (16 * x + (digAt S i).toNat) = halfL S (i + 1) := by
  have key : ∀ x, (halfL S (i + 1))[i / 2]? = some (16 * x + (digAt S i).toNat) → (halfL S i).set (i / 2) (16 * x + (digAt S i).toNat) = halfL S (i + 1) := by
    intro x hx
    apply List.ext_getElem?
    intro k
    rw [List.getElem?_set]
    by_cases e : i / 2 = k
    · rw [if_pos e, if_pos (by rw [halfL_len]; omega), ← e, hx]
    · rw [if_neg e]
      rcases Nat.lt_or_ge k 32 with h | h
      · rw [halfL_get h, halfL_get h]
        have e1 : (2 * k + 1 < i ↔ 2 * k + 1 < i + 1) := by omega
        have e2 : (2 * k < i ↔ 2 * k < i + 1) := by omega
        simp only [e1, e2]
      · rw [List.getElem?_eq_none (by rw [halfL_len]; exact h), List.getElem?_eq_none (by rw [halfL_len]; exact h)]
  rcases (by omega : i = 2 * (i / 2) ∨ i = 2 * (i / 2) + 1) with h | h
  · refine ⟨0, ?_, fun _ => by decide, key 0 ?_⟩
    · rw [halfL_get (by omega), if_neg (by omega), if_neg (by omega)]
    · rw [halfL_get (by omega), if_neg (by omega), if_pos (by omega), ← h]; simp
  · refine ⟨(digAt S (2 * (i / 2))).toNat, ?_, fun hd => ?_, key _ ?_⟩
    · rw [halfL_get (by omega), if_neg (by omega), if_pos (by omega)]
    · have e : i - 1 = 2 * (i / 2) := by omega
      rw [e] at hd
      exact digN_lt hd
    · rw [halfL_get (by omega), if_pos (by omega)]
      unfold pairN
      rw [← h]
theorem bAt_nats {s : ByteArray} {i : Nat} (h : i < s.size) : bAt s i = ((g0 (nats (tB s)) i : Nat) : Int) := by
  rw [bAt_eq s i h]
  have hl : (tB s).length = s.size := tB_length s
  have : (nats (tB s))[i]? = some ((tB s)[i]'(by omega)).toNat := by
    unfold nats
    rw [List.getElem?_map, List.getElem?_eq_getElem (by omega)]; rfl
  rw [g0_get (by rw [nats_len]; omega)] at this
  rw [Option.some.inj this]
set_option maxHeartbeats 4000000 in
theorem hUnhex_ok (s : ByteArray) (w : World) :
    Calls Tryd.prog 10 #[.string s] w fun e w' => e = .returned (.tuple #[.agg (vA .u8 (unhexF (nats (tB s))).1), .int .i64 (unhexF (nats (tB s))).2]) ∧ Ext w w' := by
  generalize hS : nats (tB s) = S
  have hlen : S.length = s.size := by rw [← hS, nats_len, tB_length]
  have hlt : ∀ x ∈ S, x < 256 := by rw [← hS]; exact nats_lt _
  apply hUnhex_vc
  unfold hUnhex_T
  intro b1 w2 h1
  rw [zero32] at h1
  have H := (Hold.start (Ext.rfl (w := w))).new h1
  intro b4 w5 h4
  rw [zero32] at h4
  replace H := H.new h4
  refine ⟨fun hne => ?_, fun heq => ?_⟩
  · have : unhexF S = (List.replicate 32 0, 2) := by unfold unhexF; rw [if_neg]; rintro ⟨h, _⟩; omega
    rw [this]
    refine ⟨vA .u8 (List.replicate 32 0), by kernel_rfl, H.cellsAt 0 rfl, by kernel_rfl, H.canPut 1 rfl rfl vA_one, ?_⟩
    intro w9 hP
    replace H := H.putAll 1 rfl rfl hP
    exact ⟨_, by kernel_rfl, H.cellsAt 1 rfl, rfl, H.ext⟩
  have hs64 : s.size = 64 := by omega
  rw [← halfL_zero S] at H
  let F : List Nat → List (Nat × Obj) := fun l => [(b4, .cells (vA .u8 l) 24 (0, 0)), (b1, .cells (vA .u8 (halfL S 0)) 24 (0, 0))]
  refine ⟨fun i W => ∃ j : Nat, i = (j : Int) ∧ j ≤ 64 ∧ (∀ k, k < j → 0 ≤ digAt S k) ∧ Hold w W (F (halfL S j)) [], fun i _ => 64 - i.toNat, ⟨0, rfl, by decide, fun k hk => by omega, H⟩, ?_⟩
  clear H
  rintro i W ⟨j, rfl, hj, hall, H⟩
  refine ⟨fun hlt2 => ?_, fun hge => ?_⟩
  · have hj64 : j < 64 := by omega
    simp only [Int.toNat_natCast]
    refine ⟨by omega, hlt2, ?_⟩
    rw [bAt_nats (by omega), hS]
    have hb := g0_byte hlt j
    have hcall := indexb_ok digitsS (UInt8.ofNat (g0 S j)) W
    rw [dig_table _ hb, show (UInt8.ofNat (g0 S j)).toNat = g0 S j from by rw [UInt8.toNat_ofNat']; omega] at hcall
    refine hcall.mono ?_
    rintro e w20 ⟨rfl, eX⟩
    replace H := H.step eX
    refine ⟨_, rfl, fun hneg => ?_, fun hpos => ?_⟩
    · have : unhexF S = (List.replicate 32 0, 2) := by
        unfold unhexF; rw [if_neg]; rintro ⟨_, h⟩
        have := h j hj64
        unfold digAt at this
        omega
      rw [this]
      have H' : Hold w w20 [(b4, .cells (vA .u8 (halfL S j)) 24 (0, 0)), (b1, .cells (vA .u8 (halfL S 0)) 24 (0, 0))] [] := H
      refine ⟨by trivial, H'.canPut 1 rfl (vs := vA .u8 (List.replicate 32 0)) (by rw [vA_size, vA_size, halfL_len]; rfl) vA_one, ?_⟩
      intro w23 hP
      have hP : Put w20 b1 0 (vA .u8 (List.replicate 32 0)).toList w23 := hP
      replace H := H'.putAll 1 rfl (by rw [vA_size, vA_size, halfL_len]; rfl) hP
      exact ⟨_, by kernel_rfl, H.cellsAt 1 rfl, rfl, H.ext⟩
    · obtain ⟨x, g1, g2, g3⟩ := halfL_step (S := S) hj64
      have hx : x < 16 := by
        refine g2 ?_
        rcases Nat.eq_zero_or_pos j with h0 | h0
        · subst h0; exact hpos
        · exact hall (j - 1) (by omega)
      have hd : (digAt S j).toNat < 16 := digN_lt hpos
      have ed : digN (g0 S j) = (((digAt S j).toNat : Nat) : Int) := by
        have : digN (g0 S j) = digAt S j := rfl
        omega
      have e2 : quoI .i64 (j : Int) 2 = ((j / 2 : Nat) : Int) := quo_i64 2 (by omega)
      rw [e2]
      simp only [Int.toNat_natCast, Nat.zero_add]
      have c0 := H.getN 0 rfl g1
      refine ⟨by omega, by omega, _, c0, by omega, by omega, ⟨_, c0⟩, H.frz 0 rfl, ?_⟩
      rw [ed, nibble x hx _ hd]
      intro w29 hP
      replace H := H.putN 0 rfl hP
      rw [i64_next (by omega)]
      refine ⟨⟨j + 1, rfl, by omega, fun k hk => ?_, ?_⟩, by simp only [Int.toNat_natCast]; omega⟩
      · rcases Nat.lt_or_ge k j with h | h
        · exact hall k h
        · have : k = j := by omega
          subst this; exact hpos
      · rw [← g3]
        exact H
  · have : j = 64 := by omega
    subst this
    have hv : ValidT S := ⟨by omega, hall⟩
    have : unhexF S = ((List.range 32).map (pairN S), 0) := by unfold unhexF; rw [if_pos hv]
    rw [this]
    rw [halfL_all] at H
    have h32 : ((List.range 32).map (pairN S)).length = 32 := by simp
    refine ⟨_, by rw [vA_size, h32], H.cellsAt 0 rfl, by rw [vA_size, h32], H.canPut 1 rfl (by rw [vA_size, vA_size, h32, halfL_len]) vA_one, ?_⟩
    intro w33 hP
    replace H := H.putAll 1 rfl (by rw [vA_size, vA_size, h32, halfL_len]) hP
    exact ⟨_, by rw [vA_size, h32], H.cellsAt 1 rfl, rfl, H.ext⟩
end Go.Proofs.YthnimelcbbinaaaDoor

/- The contracts of the document's BLAKE2s: words, orders, places, mixed. -/
namespace Go.Proofs.YthnimelcbbinaaaDoor
open Go Go.Vc Go.RowKit
set_option maxRecDepth 20000
attribute [local irreducible] Calls Put Drew New

def letters (l : List Nat) : ByteArray := bytesN (l.map (97 + ·))
/-! ### Four places -/
structure Dis (n p0 p1 p2 p3 : Nat) : Prop where
  l0 : p0 < n
  l1 : p1 < n
  l2 : p2 < n
  l3 : p3 < n
  n01 : p0 ≠ p1
  n02 : p0 ≠ p2
  n03 : p0 ≠ p3
  n12 : p1 ≠ p2
  n13 : p1 ≠ p3
  n23 : p2 ≠ p3
def m4 (V : List Nat) (p0 p1 p2 p3 a b c d : Nat) : List Nat := (((V.set p0 a).set p1 b).set p2 c).set p3 d
section
variable {V : List Nat} {p0 p1 p2 p3 a b c d x : Nat}
end
end Go.Proofs.YthnimelcbbinaaaDoor

/- The contract of the document's BLAKE2s: a block. Printed by mkr2.py. -/
namespace Go.Proofs.YthnimelcbbinaaaDoor
open Go Go.Vc Go.RowKit
set_option maxRecDepth 20000
attribute [local irreducible] Calls Put Drew New

/-- The places of v at the start: of both halves the first k. -/
def vR (hh : List Nat) (k : Nat) : List Nat := (List.range 16).map fun j => if j < 8 then (if j < k then g0 hh j else 0) else (if j < 8 + k then g0 ivL (j - 8) else 0)
end Go.Proofs.YthnimelcbbinaaaDoor

/- The contracts of the document's BLAKE2s: Sum, Hex, digit, Unhex. -/
namespace Go.Proofs.YthnimelcbbinaaaDoor
open Go Go.Vc Go.RowKit
set_option maxRecDepth 20000
attribute [local irreducible] Calls Put Drew New

/-! ### Texts -/
end Go.Proofs.YthnimelcbbinaaaDoor

/- The laws of hash: the known text; plain laws of texts; sums. -/
namespace Go.Proofs.YthnimelcbbinaaaDoor
open Go Go.Vc Go.RowKit
set_option maxRecDepth 20000
attribute [local irreducible] Calls Put Drew New

/-! ### Texts and digests, one to one -/
theorem nats_bytesN {l : List Nat} (h : ∀ x ∈ l, x < 256) : nats (tB (bytesN l)) = l := by
  unfold bytesN
  rw [tB_mk]
  unfold nats
  rw [List.map_map]
  rw [List.map_congr_left (g := id) fun x hx => by
    show (UInt8.ofNat x).toNat = x
    rw [UInt8.toNat_ofNat']; have := h x hx; omega]
  exact List.map_id l
theorem bytesN_nats (s : ByteArray) : bytesN (nats (tB s)) = s := by
  apply tB_inj.1
  unfold bytesN
  rw [tB_mk]
  unfold nats
  rw [List.map_map]
  rw [List.map_congr_left (g := id) fun x _ => by
    show UInt8.ofNat x.toNat = x
    exact UInt8.ofNat_toNat]
  exact List.map_id _
theorem hexL_get : ∀ (D : List Nat) (k x : Nat), D[k]? = some x → (hexL D)[2 * k]? = some (hexD (x / 16)) ∧ (hexL D)[2 * k + 1]? = some (hexD (x % 16))
  | [], k, x, h => by cases h
  | y :: D, 0, x, h => by cases h; exact ⟨rfl, rfl⟩
  | y :: D, k + 1, x, h => by
    have := hexL_get D k x (by simpa using h)
    have e : hexL (y :: D) = hexD (y / 16) :: hexD (y % 16) :: hexL D := rfl
    rw [e, show 2 * (k + 1) = 2 * k + 1 + 1 by omega, show 2 * k + 1 + 1 + 1 = (2 * k + 1) + 1 + 1 by omega]
    exact this
theorem dig_hexD : ∀ n, n < 16 → digN (hexD n) = (n : Int) := by decide +kernel
theorem hexD_dig : ∀ c, c < 256 → 0 ≤ digN c → hexD (digN c).toNat = c := by decide +kernel
theorem g0_some {l : List Nat} {i x : Nat} (h : l[i]? = some x) : g0 l i = x := by
  unfold g0; rw [List.getD_eq_getElem?_getD, h]; rfl
theorem hex_digs {D : List Nat} {k : Nat} (hk : k < D.length) (hb : ∀ x ∈ D, x < 256) : digAt (hexL D) (2 * k) = ((g0 D k / 16 : Nat) : Int) ∧ digAt (hexL D) (2 * k + 1) = ((g0 D k % 16 : Nat) : Int) := by
  obtain ⟨h1, h2⟩ := hexL_get D k _ (g0_get hk)
  have := g0_byte hb k
  unfold digAt
  rw [g0_some h1, g0_some h2]
  exact ⟨dig_hexD _ (by omega), dig_hexD _ (by omega)⟩
theorem unhex_hex {D : List Nat} (hD : D.length = 32) (hb : ∀ x ∈ D, x < 256) : unhexF (hexL D) = (D, 0) := by
  have hv : ValidT (hexL D) := by
    refine ⟨by rw [hexL_len, hD], fun j hj => ?_⟩
    obtain ⟨h1, h2⟩ := hex_digs (D := D) (k := j / 2) (by omega) hb
    rcases (by omega : j = 2 * (j / 2) ∨ j = 2 * (j / 2) + 1) with h | h
    · rw [h, h1]; omega
    · rw [h, h2]; omega
  unfold unhexF
  rw [if_pos hv]
  congr 1
  apply List.ext_getElem?
  intro k
  rcases Nat.lt_or_ge k 32 with hk | hk
  · obtain ⟨h1, h2⟩ := hex_digs (D := D) (k := k) (by omega) hb
    rw [List.getElem?_map, List.getElem?_range hk, g0_get (by omega), Option.map_some]
    unfold pairN
    rw [h1, h2, Int.toNat_natCast, Int.toNat_natCast]
    congr 1; omega
  · rw [List.getElem?_eq_none (by simpa using hk), List.getElem?_eq_none (by omega)]
theorem pairs_len (S : List Nat) : ((List.range 32).map (pairN S)).length = 32 := by simp
theorem pairs_lt {S : List Nat} (hv : ValidT S) : ∀ x ∈ (List.range 32).map (pairN S), x < 256 := by
  intro x hx
  obtain ⟨k, hk, rfl⟩ := List.mem_map.1 hx
  have hk := List.mem_range.1 hk
  have h1 := digN_lt (hv.2 (2 * k) (by omega))
  have h2 := digN_lt (hv.2 (2 * k + 1) (by omega))
  unfold pairN digAt
  omega
theorem hex_unhex {S : List Nat} (hb : ∀ x ∈ S, x < 256) (hv : ValidT S) : hexL ((List.range 32).map (pairN S)) = S := by
  apply List.ext_getElem?
  intro j
  rcases Nat.lt_or_ge j 64 with hj | hj
  · have hk : j / 2 < 32 := by omega
    have hp : ((List.range 32).map (pairN S))[j / 2]? = some (pairN S (j / 2)) := by rw [List.getElem?_map, List.getElem?_range hk]; rfl
    obtain ⟨h1, h2⟩ := hexL_get _ _ _ hp
    have d0 := digN_lt (hv.2 (2 * (j / 2)) (by omega))
    have d1 := digN_lt (hv.2 (2 * (j / 2) + 1) (by omega))
    have q0 := hexD_dig _ (g0_byte hb (2 * (j / 2))) (hv.2 (2 * (j / 2)) (by omega))
    have q1 := hexD_dig _ (g0_byte hb (2 * (j / 2) + 1)) (hv.2 (2 * (j / 2) + 1) (by omega))
    have e0 : pairN S (j / 2) / 16 = (digN (g0 S (2 * (j / 2)))).toNat := by unfold pairN digAt; omega
    have e1 : pairN S (j / 2) % 16 = (digN (g0 S (2 * (j / 2) + 1))).toNat := by unfold pairN digAt; omega
    rw [e0, q0] at h1
    rw [e1, q1] at h2
    have gS : S[j]? = some (g0 S j) := g0_get (by rw [hv.1]; exact hj)
    rw [gS]
    rcases (by omega : j = 2 * (j / 2) ∨ j = 2 * (j / 2) + 1) with h | h
    · rw [← h] at h1; exact h1
    · rw [← h] at h2; exact h2
  · rw [List.getElem?_eq_none (by rw [hexL_len, pairs_len]; exact hj), List.getElem?_eq_none (by rw [hv.1]; exact hj)]
theorem unhex_len (S : List Nat) : (unhexF S).1.length = 32 := by unfold unhexF; split <;> simp
theorem unhex_back {S : List Nat} (hb : ∀ x ∈ S, x < 256) (h0 : (unhexF S).2 = 0) : hexL (unhexF S).1 = S ∧ ∀ x ∈ (unhexF S).1, x < 256 := by
  unfold unhexF at *
  split at h0
  · rename_i hv
    rw [if_pos hv]
    exact ⟨hex_unhex hb hv, pairs_lt hv⟩
  · exact absurd h0 (by decide)

/-! ### A conversion's mark; a row of one slice -/
theorem freeze_new {w w' : World} {C : Array Value} {e : TypeId} {b : Nat} (h : New w (.cells C e) b w') (k : Nat) : New w (.cells C e (k, k + 1)) b (w'.freeze ⟨b, k, none⟩ 1) := by
  have hm : ∀ (a : Array Obj) (x : Obj) (f : Obj → Obj), (a.push x).modify a.size f = a.push (f x) := by
    intro a x f
    apply Array.ext
    · simp
    · intro i h1 h2
      simp only [Array.getElem_modify, Array.getElem_push]
      by_cases h : a.size = i
      · subst h
        simp
      · have hi : i < a.size := by simp at h1; omega
        simp [h, hi]
  unfold New at h ⊢
  obtain ⟨h1, h2⟩ := h
  refine ⟨h1, ?_⟩
  rw [h2, h1]
  unfold World.freeze
  rw [if_neg (by decide)]
  show ({ w.alloc (.cells C e) with heap := (w.heap.push (.cells C e)).modify w.heap.size _ } : World) = _
  rw [hm]
  rfl
theorem one_bts {w w' : World} {b : Nat} {p : Option Addr} {n c : Nat} {l : List UInt8} {t : TypeId} (h : New w (.cells #[.slice p n c] t) b w') (hl : InB w p n c l) : Bts w' (some ⟨b, 0, none⟩) 1 1 [⟨p, n, c⟩] [l] := by
  refine ⟨⟨rfl, ⟨Nat.le_refl _, by unfold maxLen; omega⟩, h.at, fun e => by cases e⟩, fun i x r hx hr => ?_, rfl⟩
  cases i with
  | zero => cases hx; cases hr; exact hl.ext h.ext
  | succ i => cases hx
def shownS : ByteArray := ByteArray.mk #[53, 48, 56, 99, 53, 101, 56, 99, 51, 50, 55, 99, 49, 52, 101, 50, 101, 49, 97, 55, 50, 98, 97, 51, 52, 101, 101, 98, 52, 53, 50, 102, 51, 55, 52, 53, 56, 98, 50, 48, 57, 101, 100, 54, 51, 97, 50, 57, 52, 100, 57, 57, 57, 98, 52, 99, 56, 54, 54, 55, 53, 57, 56, 50]
theorem shown_eq : bytesN (hexL (sumL (nats [97, 98, 99]))) = shownS := by
  have e : nats [97, 98, 99] = [97, 98, 99] := rfl
  rw [e, shown_sum]
  apply tB_inj.1
  decide +kernel
theorem shown03_ok {w : World} (hT : HTab w) : Calls Tryd.prog 7 #[] w fun e w' => e = .returned (.bool true) ∧ Ext w w' := by
  apply shown03_vc
  unfold shown03_T
  intro b1 w2 h1
  have h2 := freeze_new h1 3
  refine ⟨b1, 0, _, _, _, rfl, h1.obj, ?_⟩
  have h2' : New w (.cells (vB [97, 98, 99]).toArray 5 (3, 4)) b1 (w2.freeze ⟨b1, 3, none⟩ 1) := h2
  have hb : InB (w2.freeze ⟨b1, 3, none⟩ 1) (some ⟨b1, 0, none⟩) 3 3 [97, 98, 99] := ⟨rfl, ⟨Nat.le_refl _, by unfold maxLen; omega⟩, h2'.at, fun e => by cases e⟩
  intro b11 w12 h11
  have h11 : New (w2.freeze ⟨b1, 3, none⟩ 1) (.cells #[.slice (some ⟨b1, 0, none⟩) 3 3] 22) b11 w12 := h11
  have hB := one_bts h11 hb
  have e1 := h2.ext.trans h11.ext
  refine (hSum_ok (hT.ext e1) hB (by decide)).mono ?_
  rintro e w15 ⟨rfl, eX⟩
  replace e1 := e1.trans eX
  have ef : ([[97, 98, 99]] : List (List UInt8)).flatten = [97, 98, 99] := rfl
  rw [ef]
  refine ⟨_, by rw [vA_size, sumL_len], rfl, ?_⟩
  refine (hHex_ok (sumL_len _) (sumL_lt _) w15).mono ?_
  rintro e w18 ⟨rfl, eY⟩
  refine ⟨_, rfl, ?_, e1.trans eY⟩
  rw [shown_eq]
  rw [show sEq shownS (ByteArray.mk #[53, 48, 56, 99, 53, 101, 56, 99, 51, 50, 55, 99, 49, 52, 101, 50, 101, 49, 97, 55, 50, 98, 97, 51, 52, 101, 101, 98, 52, 53, 50, 102, 51, 55, 52, 53, 56, 98, 50, 48, 57, 101, 100, 54, 51, 97, 50, 57, 52, 100, 57, 57, 57, 98, 52, 99, 56, 54, 54, 55, 53, 57, 56, 50]) = true from sEq_self _]
/-! ### The laws -/
theorem u8arr : Tryd.prog.underlying 24 = some (.array 32 5) := by kernel_rfl
theorem u8u : Tryd.prog.underlying 5 = some (.int .u8) := by kernel_rfl
theorem eq_dig {a b : List Nat} (ha : a.length = 32) (hb : b.length = 32) (x y : Operand) : ∃ r : Bool, (∀ w1 : World, (do eqGuard .eql 24 x y (.agg (vA .u8 a)) (.agg (vA .u8 b)); binOp .eql 24 (.agg (vA .u8 a)) (.agg (vA .u8 b)) : Sem Value).run Tryd.prog w1 = .ok (.bool r) w1) ∧ r = decide (a = b) :=
  ⟨_, fun w => eq_nums u8arr tyB rfl u8u (by kernel_rfl) (by kernel_rfl) ha hb (by decide) x y w, rfl⟩
end Go.Proofs.YthnimelcbbinaaaDoor

/- Tables of tables: what a row's list says of their cells. -/
namespace Go.Vc
open Go

theorem cells_of_arr {H α : Type} {enc : TypeId × Value → H} {P : Program} {w : World} {base : Nat} {sp : Nat → Bool} {held : Bool} {fuel : Nat} {t e : TypeId} {n s : Nat} {cs : List Value} {zs : List α} {p : List MemPlace} {D : α → DataW H} {C : α → List Value}
    (ht : P.underlying t = some (.array n e)) (hce : P.cellsOf e = s) (hct : P.cellsOf t = n * s) (hs : ∀ z, (C z).length = s) (h0 : 0 < s)
    (inner : ∀ fuel cs z p, cs.length = s → DataW.trod enc P w base sp held fuel e cs = some (D z, p) → cs = C z)
    (h : DataW.trod enc P w base sp held fuel t cs = some (.agg (zs.map D), p)) : cs = zs.flatMap C := by
  cases fuel with
  | zero => simp [DataW.trod] at h
  | succ fuel =>
    simp only [DataW.trod, ht, hce, hct] at h
    split at h
    · rename_i hl
      obtain ⟨xs, hm, hx⟩ := Option.map_eq_some_iff.1 h
      have hxs : xs.map (·.1) = zs.map D := by
        have := congrArg Prod.fst hx
        simpa using this
      have hxl : xs.length = n := by simpa using Lib.mapM_length hm
      have hzl : zs.length = n := by
        have := congrArg List.length hxs
        simp at this
        omega
      have key : ∀ i, i < n → ∃ z, zs[i]? = some z ∧ (cs.drop (i * s)).take s = C z := by
        intro i hi
        obtain ⟨b, hb, hf⟩ := Lib.mapM_at hm i i (by simp [hi])
        have h2 : (xs.map (·.1))[i]? = some b.1 := by simp [hb]
        rw [hxs, List.getElem?_map] at h2
        obtain ⟨z, hz, he⟩ := Option.map_eq_some_iff.1 h2
        refine ⟨z, hz, inner fuel _ z b.2 ?_ ?_⟩
        · have hmul : (i + 1) * s ≤ n * s := Nat.mul_le_mul_right _ (by omega)
          have e1 : (i + 1) * s = i * s + s := Nat.succ_mul i s
          simp only [List.length_take, List.length_drop]
          omega
        · rw [hf, he]
      -- both lists, piece by piece
      have go : ∀ (m : Nat) (zs : List α) (cs : List Value), zs.length = m → cs.length = m * s → (∀ i, i < m → ∃ z, zs[i]? = some z ∧ (cs.drop (i * s)).take s = C z) → cs = zs.flatMap C := by
        intro m
        induction m with
        | zero =>
          intro zs cs hz hc _
          rw [List.length_eq_zero_iff] at hz
          rw [Nat.zero_mul, List.length_eq_zero_iff] at hc
          rw [hz, hc]; rfl
        | succ m ih =>
          intro zs cs hz hc hk
          match zs, hz with
          | z :: r, hz =>
            have hcm : (m + 1) * s = m * s + s := Nat.succ_mul m s
            obtain ⟨z', hz', h1⟩ := hk 0 (by omega)
            cases hz'
            rw [Nat.zero_mul, List.drop_zero] at h1
            have := ih r (cs.drop s) (by simpa using hz) (by rw [List.length_drop]; omega) (fun i hi => by
              obtain ⟨y, hy, h2⟩ := hk (i + 1) (by omega)
              refine ⟨y, by simpa using hy, ?_⟩
              rw [List.drop_drop, ← h2]
              congr 2
              rw [Nat.succ_mul]; omega)
            rw [List.flatMap_cons, ← h1, ← this, List.take_append_drop]
      exact go n zs cs hzl (by simpa using hl) key
    · cases h
end Go.Vc

/- A row's list of tables, looked up by name; rows of three numbers. -/
namespace Go.Vc
open Go

theorem laid_get {P : Program} {w : World} : ∀ {laid : List (String × DataW Unit)} {ps : List MemPlace}, DataW.LaidVars P w laid ps → ∀ {n : String} {d : DataW Unit}, (n, d) ∈ laid →
    ∃ g t cs fuel p, P.globalNamed n = some g ∧ (P.globals[g]?).map (·.type) = some t ∧ w.var? P n = some cs ∧ DataW.trod (fun _ => ()) P w 0 (fun _ => true) false fuel t cs.toList = some (d, p)
  | [], _, _, n, d, hm => by cases hm
  | (m, e) :: r, ps, h, n, d, hm => by
    obtain ⟨g, t, cs, fuel, p, q, h1, h2, h3, h4, h5, _⟩ := h
    rcases List.mem_cons.1 hm with hm | hm
    · cases hm; exact ⟨g, t, cs, fuel, p, h1, h2, h3, h4⟩
    · exact laid_get h5 hm
end Go.Vc

/- The laws of hash: parts, texts, back; the tables, the arguments, the walks. -/
namespace Go.Proofs.YthnimelcbbinaaaDoor
open Go Go.Vc Go.RowKit
set_option maxRecDepth 20000
attribute [local irreducible] Calls Put Drew New

set_option maxHeartbeats 4000000 in
theorem lawBack_ok {w : World} (hT : HTab w) {D : List Nat} (hD : D.length = 32) (hb : ∀ x ∈ D, x < 256) (s : ByteArray) :
    Calls Tryd.prog 6 #[.agg (vA .u8 D), .string s] w fun e w' => e = .returned (.bool true) ∧ Ext w w' := by
  have hU := unhex_len (nats (tB s))
  have hxx := unhex_hex hD hb
  apply lawBack_vc
  unfold lawBack_T
  intro b1 w2 h1
  have H := (Hold.start (Ext.rfl (w := w))).new (o := .cells (vA .u8 D) 24) h1
  refine (shown03_ok (hT.ext H.ext)).mono ?_
  rintro e w8 ⟨rfl, eX⟩
  replace H := H.step eX
  refine ⟨_, rfl, vA .u8 D, by rw [vA_size, hD], H.cellsAt 0 rfl, ?_⟩
  refine (hHex_ok hD hb w8).mono ?_
  rintro e w12 ⟨rfl, eX⟩
  replace H := H.step eX
  refine ⟨_, rfl, ?_⟩
  refine (hUnhex_ok (bytesN (hexL D)) w12).mono ?_
  rintro e w15 ⟨rfl, eX⟩
  replace H := H.step eX
  rw [nats_bytesN (hexL_lt hb), hxx]
  refine ⟨_, by rw [vA_size, hD], _, rfl, ?_⟩
  intro b18 w19 h18
  rw [zero32] at h18
  replace H := H.new h18
  refine ⟨by rw [vA_size, hD], H.canPut 0 rfl (by rw [vA_size, vA_size, hD]; rfl) vA_one, ?_⟩
  intro w21 hP
  replace H := H.putAll 0 rfl (by rw [vA_size, vA_size, hD]; rfl) hP
  refine (hUnhex_ok s w21).mono ?_
  rintro e w24 ⟨rfl, eX⟩
  replace H := H.step eX
  refine ⟨_, by rw [vA_size, hU], _, rfl, ?_⟩
  intro b27 w28 h27
  rw [zero32] at h27
  replace H := H.new h27
  refine ⟨by rw [vA_size, hU], H.canPut 0 rfl (by rw [vA_size, vA_size, hU]; rfl) vA_one, ?_⟩
  intro w30 hP
  replace H := H.putAll 0 rfl (by rw [vA_size, vA_size, hU]; rfl) hP
  refine ⟨fun _ => ?_, fun h => by rcases h with h | h; cases h; exact absurd rfl h⟩
  obtain ⟨r, hr, rfl⟩ := eq_dig hD hD (.tmp 28) (.tmp 29)
  refine ⟨vA .u8 D, by rw [vA_size, hD], H.cellsAt 1 rfl, vA .u8 D, by rw [vA_size, hD], H.cellsAt 2 rfl, _, hr, fun _ => ⟨fun _ => ⟨rfl, H.ext⟩, fun h0 => ?_⟩, fun h => by simp at h⟩
  obtain ⟨hback, hlt⟩ := unhex_back (nats_lt (tB s)) h0
  refine ⟨_, by rw [vA_size, hU], H.cellsAt 0 rfl, ?_⟩
  refine (hHex_ok hU hlt w30).mono ?_
  rintro e w43 ⟨rfl, eX⟩
  refine ⟨_, rfl, ?_, H.ext.trans eX⟩
  rw [hback, bytesN_nats, sEq_self]

/-! ### The tables -/
theorem uW : Tryd.prog.underlying 36 = some (.int .u32) := by kernel_rfl
theorem cB : Tryd.prog.cellsOf 5 = 1 := by kernel_rfl
theorem cW : Tryd.prog.cellsOf 36 = 1 := by kernel_rfl
theorem uState : Tryd.prog.underlying 38 = some (.array 8 36) := by kernel_rfl
theorem uOrd : Tryd.prog.underlying 54 = some (.array 10 53) := by kernel_rfl
theorem uOrd1 : Tryd.prog.underlying 53 = some (.array 16 5) := by kernel_rfl
theorem uPl : Tryd.prog.underlying 56 = some (.array 8 55) := by kernel_rfl
theorem uPl1 : Tryd.prog.underlying 55 = some (.array 4 5) := by kernel_rfl
def tabN (k : IntKind) (l : List Nat) : DataW Unit := Lib.tabData k (l.map Int.ofNat)
/-- A row of s numbers, whatever it was. -/
def rowC (s : Nat) (l : List Nat) : List Value := ((l ++ List.replicate s 0).take s).map fun x => Value.int .u8 ((x : Nat) : Int)
theorem rowC_len (s : Nat) (l : List Nat) : (rowC s l).length = s := by simp [rowC]
theorem nested_cells {W : World} {fuel : Nat} {cs : List Value} {L : List (List Nat)} {p : List MemPlace} {t e : TypeId} {n s : Nat} (h0 : 0 < s) (hl : ∀ r ∈ L, r.length = s)
    (ht : Tryd.prog.underlying t = some (.array n e)) (he : Tryd.prog.underlying e = some (.array s 5)) (hce : Tryd.prog.cellsOf e = s) (hct : Tryd.prog.cellsOf t = n * s)
    (h : DataW.trod (fun _ => ()) Tryd.prog W 0 (fun _ => true) false fuel t cs = some (.agg (L.map (tabN .u8)), p)) : cs = L.flatMap (rowC s) := by
  have e1 : L.map (tabN .u8) = L.map fun r => tabN .u8 ((r ++ List.replicate s 0).take s) := by
    apply List.map_congr_left
    intro r hr
    rw [List.take_append_of_le_length (by rw [hl r hr]; exact Nat.le_refl _), List.take_of_length_le (by rw [hl r hr]; exact Nat.le_refl _)]
  rw [e1] at h
  refine cells_of_arr (C := rowC s) (s := s) ht hce hct (rowC_len s) h0 (fun fuel cs z p _ h => ?_) h
  have := Lib.cells_of_tab he u8u cB hce h
  rw [this]
  unfold rowC
  rw [List.map_map]; rfl
theorem laid_first : Rows.laid_stackyard_hash_first (H := Unit) = tabN .u32 ivL := by kernel_rfl
theorem laid_orders : Rows.laid_stackyard_hash_orders (H := Unit) = .agg (ordersL.map (tabN .u8)) := by kernel_rfl
theorem laid_places : Rows.laid_stackyard_hash_places (H := Unit) = .agg (plcL.map (tabN .u8)) := by kernel_rfl
theorem tab_of {L : List (String × DataW Unit)} {W : World} (h1 : ("stackyard/hash.first", Rows.laid_stackyard_hash_first) ∈ L) (h2 : ("stackyard/hash.orders", Rows.laid_stackyard_hash_orders) ∈ L) (h3 : ("stackyard/hash.places", Rows.laid_stackyard_hash_places) ∈ L) (h : laidMet Tryd.prog L W) : HTab W := by
  obtain ⟨ps, hl, _⟩ := h
  constructor
  · obtain ⟨g, t, cs, fuel, p, hg, ht, hv, hd⟩ := laid_get hl (n := "stackyard/hash.first") (d := Rows.laid_stackyard_hash_first) h1
    obtain rfl : g = 0 := Option.some.inj (hg.symm.trans (by kernel_rfl))
    obtain rfl : t = 38 := Option.some.inj (ht.symm.trans (by kernel_rfl))
    rw [laid_first] at hd
    have hc := Lib.cells_of_tab uState uW cW (by kernel_rfl) hd
    have hcs : cs = vA .u32 ivL := by apply Array.ext'; rw [hc]; rfl
    intro k v hk
    rw [World.var?_cell hg hv, hcs, Nat.zero_add]; exact hk
  · obtain ⟨g, t, cs, fuel, p, hg, ht, hv, hd⟩ := laid_get hl (n := "stackyard/hash.orders") (d := Rows.laid_stackyard_hash_orders) h2
    obtain rfl : g = 1 := Option.some.inj (hg.symm.trans (by kernel_rfl))
    obtain rfl : t = 54 := Option.some.inj (ht.symm.trans (by kernel_rfl))
    rw [laid_orders] at hd
    have hc := nested_cells (by decide) (by decide) uOrd uOrd1 (by kernel_rfl) (by kernel_rfl) hd
    have hcs : cs = vA .u8 ordersL.flatten := by apply Array.ext'; rw [hc]; rfl
    intro k v hk
    rw [World.var?_cell hg hv, hcs, Nat.zero_add]; exact hk
  · obtain ⟨g, t, cs, fuel, p, hg, ht, hv, hd⟩ := laid_get hl (n := "stackyard/hash.places") (d := Rows.laid_stackyard_hash_places) h3
    obtain rfl : g = 2 := Option.some.inj (hg.symm.trans (by kernel_rfl))
    obtain rfl : t = 56 := Option.some.inj (ht.symm.trans (by kernel_rfl))
    rw [laid_places] at hd
    have hc := nested_cells (by decide) (by decide) uPl uPl1 (by kernel_rfl) (by kernel_rfl) hd
    have hcs : cs = vA .u8 plcL.flatten := by apply Array.ext'; rw [hc]; rfl
    intro k v hk
    rw [World.var?_cell hg hv, hcs, Nat.zero_add]; exact hk

/-! ### The arguments -/
theorem arg_byte {w : World} {cs : List Value} (h : Arg Tryd.prog w 5 cs) : ∃ x : Nat, cs = [.int .u8 (x : Int)] ∧ x < 256 := by
  obtain ⟨n, rfl, hwf⟩ := Arg.int u8u h
  obtain ⟨a0, a1⟩ := wf_u8 hwf
  exact ⟨n.toNat, by rw [show ((n.toNat : Nat) : Int) = n by omega], by omega⟩
theorem list_pick {α β : Type} {Q : α → β → Prop} : ∀ {hs : List α}, (∀ x ∈ hs, ∃ r, Q x r) → ∃ L : List β, L.length = hs.length ∧ ∀ (i : Nat) x r, hs[i]? = some x → L[i]? = some r → Q x r
  | [], _ => ⟨[], rfl, fun i x r h => by simp at h⟩
  | x :: hs, h => by
    obtain ⟨r, hr⟩ := h x (by simp)
    obtain ⟨L, hlen, hL⟩ := list_pick (hs := hs) fun y hy => h y (by simp [hy])
    refine ⟨r :: L, by simp [hlen], fun i y s hy hs' => ?_⟩
    cases i with
    | zero => cases hy; cases hs'; exact hr
    | succ i => exact hL i y s (by simpa using hy) (by simpa using hs')
theorem arg_digest {w : World} {cs : Array Value} (h : Arg Tryd.prog w 24 cs.toList) : ∃ D : List Nat, cs = vA .u8 D ∧ D.length = 32 ∧ ∀ x ∈ D, x < 256 := by
  obtain ⟨hl, hf⟩ := Arg.array u8arr h
  have h32 : Tryd.prog.cellsOf 24 = 32 := by kernel_rfl
  rw [h32] at hl
  have hp : ∀ v ∈ cs.toList, ∃ x : Nat, v = .int .u8 (x : Int) ∧ x < 256 := by
    intro v hv
    obtain ⟨i, hi⟩ := List.mem_iff_getElem?.1 hv
    have hlt := (List.getElem?_eq_some_iff.1 hi).1
    have := hf i (by omega)
    rw [cB, Nat.mul_one] at this
    obtain ⟨x, hx, hx2⟩ := arg_byte this
    have h1 := congrArg (·[0]?) hx
    simp only [List.getElem?_take, List.getElem?_drop, Nat.add_zero, hi] at h1
    simp at h1
    exact ⟨x, h1, hx2⟩
  obtain ⟨D, hDl, hD⟩ := list_pick (Q := fun v x => v = Value.int .u8 ((x : Nat) : Int) ∧ x < 256) hp
  refine ⟨D, ?_, by omega, fun x hx => ?_⟩
  · apply Array.ext'
    apply List.ext_getElem?
    intro i
    show cs.toList[i]? = (vN .u8 D)[i]?
    rcases Nat.lt_or_ge i 32 with hi | hi
    · have g1 : cs.toList[i]? = some (cs.toList[i]'(by omega)) := List.getElem?_eq_getElem _
      have g2 : D[i]? = some (D[i]'(by omega)) := List.getElem?_eq_getElem _
      have := (hD i _ _ g1 g2).1
      rw [vN_get .u8 g2, g1, this]
    · rw [List.getElem?_eq_none (by omega), List.getElem?_eq_none (by rw [vN_length]; omega)]
  · obtain ⟨i, hi⟩ := List.mem_iff_getElem?.1 hx
    have hlt := (List.getElem?_eq_some_iff.1 hi).1
    exact (hD i _ x (List.getElem?_eq_getElem (by omega)) hi).2
theorem arg_string {w : World} {v : Value} (h : Arg Tryd.prog w 9 [v]) : ∃ s, v = .string s := by
  obtain ⟨s, e, _⟩ := Arg.string (by kernel_rfl) h
  cases e
  exact ⟨s, rfl⟩

/-! ### The walks -/
theorem back_walk (W : World) (hT : HTab W) (cs0 : Array Value) (v1 : Value) (a0 : Arg Tryd.prog W 24 cs0.toList) (a1 : Arg Tryd.prog W 9 [v1]) :
    Calls Tryd.prog 6 #[.agg cs0, v1] W fun e w' => e = .returned (.bool true) ∧ Ext W w' := by
  obtain ⟨D, rfl, hD, hb⟩ := arg_digest a0
  obtain ⟨s, rfl⟩ := arg_string a1
  exact lawBack_ok hT hD hb s
theorem tabs_back {W : World} (h : laidMetH Tryd.prog Rows.hashBackRow.laid W) : HTab W := tab_of (L := Rows.hashBackRow.laid) (by simp [Rows.hashBackRow]) (by simp [Rows.hashBackRow]) (by simp [Rows.hashBackRow]) h
end Go.Proofs.YthnimelcbbinaaaDoor

/- Three closed facts of the seat's program, asked once: they want much memory. -/
namespace Go.Proofs.YthnimelcbbinaaaDoor
set_option maxRecDepth 100000 in
theorem Tryd.entersB : (Tryd.prog.mayEnter && (false == Tryd.prog.liftsFinal) && (Tryd.prog.make == some .cut)) = true := by kernel_rfl
theorem Tryd.enters : Tryd.prog.mayEnter = true ∧ Tryd.prog.liftsFinal = false ∧ Tryd.prog.make = some .cut := by
  have h := Tryd.entersB
  simp only [Bool.and_eq_true, beq_iff_eq] at h
  exact ⟨h.1.1, h.1.2.symm, h.2⟩
end Go.Proofs.YthnimelcbbinaaaDoor
