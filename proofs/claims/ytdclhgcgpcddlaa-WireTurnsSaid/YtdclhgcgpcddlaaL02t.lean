/- The walk of 'stackyardlaw02.WireTurns'. -/
import Derived.Test.YtdclhgcgpcddlaaNum
namespace Go.Proofs.Ytdclhgcgpcddlaa
open Go Go.Vc Go.RowKit

theorem crcOf_inj {a b : List UInt8} (h : crcOf a = crcOf b) : crc 4294967295#32 a = crc 4294967295#32 b := by
  unfold crcOf at h
  exact (BitVec.xor_right_inj _).1 (BitVec.eq_of_toNat_eq (Int.ofNat_inj.1 h))

theorem crcOf_set {L : List UInt8} {j : Nat} (hj : j < L.length) {y : UInt8} (h : L[j] ≠ y) : crcOf (L.set j y) ≠ crcOf L := by
  intro he
  have h1 := crcOf_inj he
  rw [List.set_eq_take_append_cons_drop, if_pos hj] at h1
  have h2 : crc 4294967295#32 L = crc 4294967295#32 (L.take j ++ L[j] :: L.drop (j + 1)) := by
    rw [← List.drop_eq_getElem_cons hj, List.take_append_drop]
  rw [h2] at h1
  exact h (crc_turn h1).symm

theorem turns_walk (w : World) (p : Option Addr) (n c : Nat) (l : List UInt8) (hat : At w p (vB l)) (hl : l.length = c) (hnc : n ≤ c) (hc : c ≤ maxLen) (hnil : p = none → n = 0 ∧ c = 0)
    (pos x : Int) (hx0 : 0 ≤ x) (hx1 : x ≤ 255) :
    Calls Try.prog 10 #[.slice p n c, .int .i64 pos, .int .u8 x] w fun e w' => e = .returned (.bool true) ∧ Below w.heap.size w w' := by
  apply lawTurns_vc
  unfold lawTurns_T
  refine (shown2_ok w).mono ?_
  rintro e w2 ⟨rfl, hb2⟩
  have hM : mmI false (n : Int) 10000 = ((min n 10000 : Nat) : Int) := by unfold mmI; dsimp only; split <;> omega
  rw [hM]
  obtain ⟨M, hMd⟩ : ∃ M, M = min n 10000 := ⟨_, rfl⟩
  rw [← hMd]
  simp only [Int.toNat_natCast, Nat.sub_zero, Int.toNat_zero, Nat.mul_one]
  refine ⟨true, rfl, by omega, by omega, by omega, by omega, fun _ => ⟨rfl, hb2⟩, fun hin => ?_⟩
  have h0 : 0 ≤ pos ∧ pos < M := by simp at hin; omega
  obtain ⟨j, rfl⟩ := Int.eq_ofNat_of_zero_le h0.1
  have hjM : j < M := by omega
  have hj : j < l.length := by omega
  obtain ⟨b, o, hp, hcell⟩ := (hat.below hb2).get (i := j) (by rw [vB_length]; exact hj)
  refine ⟨b, o, hp, by omega, by omega, ((l[j].toNat : Nat) : Int), by simpa [vB] using hcell, fun _ => ⟨rfl, hb2⟩, fun hne => ?_⟩
  have hne' : ((l[j].toNat : Nat) : Int) ≠ x := by simpa using hne
  refine ⟨by omega, by omega, by omega, by omega, ?_⟩
  have hmade : Mine w.heap.size 5 (w2.alloc (.cells (madeCells #[Value.int .u8 0] M) 5)) (some ⟨w2.heap.size, 0, none⟩) 0 M (vB []) :=
    Mine.made (B := w.heap.size) w2 (madeCells #[Value.int .u8 0] M) 5 M hb2.size (by simp [maxLen]; omega) (size_madeCells _ _)
  have hsrc : At (w2.alloc (.cells (madeCells #[Value.int .u8 0] M) 5)) p (vB (l.take M)) := by
    rw [← vB_take]; exact ((hat.below hb2).alloc _).take M
  obtain ⟨p', c', w3, hrun, hm3, hg⟩ := append_bytes (d := c) hmade hsrc (m := M) (by simp; omega) (fun e => by have := hnil e; omega) (by simp; exact Nat.le_trans hb2.size (by omega)) (by omega)
  have hb3 : Below w.heap.size w w3 := below_append (hb2.alloc hb2.size _) hg (by simp; exact Nat.le_trans hb2.size (by omega)) (fun b o hp => (hmade.ge b o hp).1) hmade.spot
  refine ⟨p', 0 + M, c', w3, hrun, ?_⟩
  obtain ⟨b3, hp3, hB3, hlt3, hcell3, hfr3, hm4⟩ := hm3.store (i := j) (by omega) (.int .u8 x)
  refine ⟨b3, 0, hp3, by omega, by omega, hcell3, hfr3, fun _ => ?_, fun h => by cases h⟩
  have hb4 : Below w.heap.size w (w3.setCell ⟨b3, 0 + j, none⟩ (.int .u8 x)) := hb3.setCell hB3 _
  obtain ⟨y, hy⟩ : ∃ y : UInt8, ((y.toNat : Nat) : Int) = x := ⟨UInt8.ofNat x.toNat, by simp; omega⟩
  have hset : (vB ([] ++ l.take M)).set j (.int .u8 x) = vB ((l.take M).set j y) := by
    rw [← hy, List.nil_append]; simp [vB, List.map_set]
  rw [hset] at hm4
  have hlenM : (l.take M).length = M := by simp; omega
  have hM63 : M ≤ maxLen := by simp [maxLen]; omega
  have hparts := parts_new (w := w3.setCell ⟨b3, 0 + j, none⟩ (.int .u8 x)) (t := 30) (cs := #[.slice p' (0 + M) c']) (bs := [(l.take M).set j y]) (by
    intro k z hz
    match k, hz with
    | 0, hz =>
      cases hz
      refine ⟨p', c', by simp [hlenM], hm4.at, by rw [List.length_set, hlenM]; exact hM63, fun e => ?_⟩
      have := hm4.isNil e
      omega
    | k + 1, hz => simp at hz)
  refine (wireSum_ok _ _ 1 1 _ rfl (by simp [maxLen]) hparts).mono ?_
  rintro e w5 ⟨rfl, rfl⟩
  refine ⟨_, rfl, ?_⟩
  have hb5 := hb4.alloc hb4.size (.cells #[.slice p' (0 + M) c'] 30)
  have hparts2 := parts_new (w := (w3.setCell ⟨b3, 0 + j, none⟩ (.int .u8 x)).alloc (.cells #[.slice p' (0 + M) c'] 30)) (t := 30) (cs := #[.slice p M c]) (bs := [l.take M]) (by
    intro k z hz
    match k, hz with
    | 0, hz =>
      cases hz
      refine ⟨p, c, by simp [hlenM], ?_, by rw [hlenM]; exact hM63, fun e => ?_⟩
      · rw [← vB_take]; exact (hat.below hb5).take M
      · have := hnil e; omega
    | k + 1, hz => simp at hz)
  refine (wireSum_ok _ _ 1 1 _ rfl (by simp [maxLen]) hparts2).mono ?_
  rintro e w6 ⟨rfl, rfl⟩
  refine ⟨_, rfl, ?_, hb5.alloc hb5.size _⟩
  have hLj : (l.take M)[j]'(by omega) = l[j] := by simp
  have hne2 := crcOf_set (L := l.take M) (j := j) (by omega) (y := y) (by rw [hLj]; intro e; rw [e] at hne'; exact hne' hy)
  simp only [List.flatten_cons, List.flatten_nil, List.append_nil]
  rw [bne_iff_ne.2 hne2]

end Go.Proofs.Ytdclhgcgpcddlaa
