/- The stable sort of the library, at rows: the whole. -/
import Derived.Test.YtgcjhhlokncbfaaSrt2
namespace Go.Proofs.Ytgcjhhlokncbfaa
open Go Go.Vc Go.RowKit

section
variable {B : Nat} {W0 : World} {p : Option Addr} {n c fv : Nat} {cf : Sl → Sl → Int} {G : Sl → Prop}

theorem stablecmp_ok (H : Sorting W0 p n fv cf G) (w : World) (D : List Sl) (h : SdR B W0 p n c w D) (hG : ∀ x ∈ D, G x) :
    Calls Try.prog 41 #[.slice p n c, .int .i64 (n : Int), .func (.func 28) #[] #[.pointer (some ⟨fv, 0, none⟩)]] w
      fun e w' => e = .returned (.tuple #[]) ∧ ∃ r, Stab cf D r ∧ SdR B W0 p n c w' r := by
  apply stablecmp_vc
  unfold stablecmp_T
  have hn := h.len
  have hs := H.small
  have hc := H.cmp
  refine ⟨fun a b w' => ∃ k X : _, a = ((20 * k : Nat) : Int) ∧ b = ((20 * k + 20 : Nat) : Int) ∧ 20 * k ≤ n ∧ X.length = 20 * k ∧ Runs cf 20 X ∧ SameF cf (D.take (20 * k)) X ∧ SdR B W0 p n c w' (X ++ D.drop (20 * k)), fun a _ _ => n + 20 - a.toNat,
    ⟨0, [], rfl, rfl, Nat.zero_le _, rfl, Runs.none _, by simpa using SameF.rfl, by simpa using h⟩, ?_⟩
  rintro a b w5 ⟨k, X, rfl, rfl, hk, lX, rX, sX, hd⟩
  have gX : ∀ {m : List Sl} {i j : Nat}, m = (D.drop i).take j → ∀ x ∈ m, G x := by
    intro m i j e x hx
    subst e
    exact hG x (List.mem_of_mem_drop (List.mem_of_mem_take hx))
  refine ⟨fun hle => ?_, fun hgt => ?_⟩
  · have hle' : 20 * k + 20 ≤ n := by omega
    have lM : ((D.drop (20 * k)).take 20).length = 20 := by rw [List.length_take, List.length_drop]; omega
    have hD : D.drop (20 * k) = (D.drop (20 * k)).take 20 ++ D.drop (20 * k + 20) := by rw [← List.drop_drop]; exact (List.take_append_drop _ _).symm
    have hd' : SdR B W0 p n c w5 (X ++ (D.drop (20 * k)).take 20 ++ D.drop (20 * k + 20)) := by rw [List.append_assoc, ← hD]; exact hd
    have hi := insert_ok H w5 X ((D.drop (20 * k)).take 20) (D.drop (20 * k + 20)) hd' (gX rfl)
    rw [lM, lX] at hi
    refine hi.mono ?_
    rintro e w9 ⟨rfl, M', hst, hd9⟩
    have lM' := hst.length hc
    rw [lM] at lM'
    have e1 : IntKind.i64.wrap (((20 * k + 20 : Nat) : Int) + 20) = ((20 * k + 20 + 20 : Nat) : Int) := by rw [show (20 : Int) = ((20 : Nat) : Int) from rfl, i64_addn (by omega)]
    rw [e1]
    refine ⟨rfl, ⟨k + 1, X ++ M', by omega, by omega, by omega, by rw [List.length_append, lX, lM']; omega, Runs.app hc (by decide) rX (by rw [lX]; omega) hst.ord, ?_, by rw [show 20 * (k + 1) = 20 * k + 20 by omega]; exact hd9⟩, by simp only [Int.toNat_natCast]; omega⟩
    have : D.take (20 * (k + 1)) = D.take (20 * k) ++ (D.drop (20 * k)).take 20 := by rw [show 20 * (k + 1) = 20 * k + 20 by omega, List.take_add]
    rw [this]
    exact sX.app hst.same
  · have lM : (D.drop (20 * k)).length = n - 20 * k := by rw [List.length_drop]; omega
    have hi := insert_ok H w5 X (D.drop (20 * k)) [] (by simpa using hd) (fun x hx => hG x (List.mem_of_mem_drop hx))
    rw [lM, lX, show 20 * k + (n - 20 * k) = n by omega] at hi
    refine hi.mono ?_
    rintro e w12 ⟨rfl, M', hst, hd12⟩
    have lM' := hst.length hc
    rw [lM] at lM'
    rw [List.append_nil] at hd12
    have hr12 : Runs cf 20 (X ++ M') := Runs.app hc (by decide) rX (by rw [lX]; omega) hst.ord
    have hs12 : SameF cf D (X ++ M') := by
      have := sX.app hst.same
      rwa [List.take_append_drop] at this
    refine ⟨rfl, fun _ _ s w' => ∃ (bs : Nat) (Z : List Sl), s = (bs : Int) ∧ 20 ≤ bs ∧ bs ≤ 2 * n + 40 ∧ Runs cf bs Z ∧ SameF cf D Z ∧ SdR B W0 p n c w' Z, fun _ _ s _ => 2 * n + 41 - s.toNat, ⟨20, X ++ M', rfl, Nat.le_refl _, by omega, hr12, hs12, hd12⟩, ?_⟩
    rintro _ _ s w18 ⟨bs, Z, rfl, hb1, hb2, rZ, sZ, hdZ⟩
    have lZ := hdZ.len
    refine ⟨fun hlt => ?_, fun hge => ⟨rfl, Z, ⟨rZ.all hc (by omega), sZ⟩, hdZ⟩⟩
    have hbn : bs < n := by omega
    have e2 : IntKind.i64.wrap (2 * (bs : Int)) = ((2 * bs : Nat) : Int) := by rw [i64_fit (by omega) (by omega)]; omega
    have e3 : IntKind.i64.wrap ((bs : Int) * 2) = ((2 * bs : Nat) : Int) := by rw [i64_fit (by omega) (by omega)]; omega
    rw [e2, e3]
    have gZ : ∀ {X' Y' : List Sl}, SameF cf D (X' ++ Y') → ∀ x ∈ Y', G x := fun hs x hx => hG x ((SameF.mem hc hs).2 (by simp [hx]))
    refine ⟨fun a b w' => ∃ (k : Nat) (X Y : List Sl), a = ((2 * bs * k : Nat) : Int) ∧ b = ((2 * bs * k + 2 * bs : Nat) : Int) ∧ X.length = 2 * bs * k ∧ X.length + Y.length = n ∧ Runs cf (2 * bs) X ∧ Runs cf bs Y ∧ SameF cf D (X ++ Y) ∧ SdR B W0 p n c w' (X ++ Y),
      fun a _ _ => n + 1 - a.toNat, ⟨0, [], Z, by simp, by simp, by simp, by simpa using lZ, Runs.none _, rZ, by simpa using sZ, by simpa using hdZ⟩, ?_⟩
    rintro a b w25 ⟨q, X2, Y2, rfl, rfl, lX2, lXY, rX2, rY2, sXY, hd25⟩
    have gY := gZ sXY
    have hbs0 : 0 < bs := by omega
    have hmod : X2.length % (2 * bs) = 0 := by rw [lX2]; exact Nat.mul_mod_right _ _
    have o1 : Vc.Ord cf (Y2.take bs) := (rY2.take bs).all hc (by rw [List.length_take]; omega)
    generalize hQ : 2 * bs * q = Q at lX2 ⊢
    refine ⟨fun hle => ?_, fun hgt => ⟨fun hlt2 => ?_, fun hge2 => ?_⟩⟩
    · have o2 : Vc.Ord cf ((Y2.drop bs).take bs) := ((rY2.drop hbs0).take bs).all hc (by rw [List.length_take]; omega)
      have l1 : (Y2.take bs).length = bs := by rw [List.length_take]; omega
      have l2 : ((Y2.drop bs).take bs).length = bs := by rw [List.length_take, List.length_drop]; omega
      have hY : Y2 = Y2.take bs ++ (Y2.drop bs).take bs ++ Y2.drop (bs + bs) := by rw [← List.drop_drop, List.append_assoc, List.take_append_drop, List.take_append_drop]
      have e4 : IntKind.i64.wrap ((Q : Int) + (bs : Int)) = ((Q + bs : Nat) : Int) := i64_addn (by omega)
      have e5 : IntKind.i64.wrap (((Q + 2 * bs : Nat) : Int) + ((2 * bs : Nat) : Int)) = ((Q + 2 * bs + 2 * bs : Nat) : Int) := i64_addn (by omega)
      rw [e4, e5]
      refine (symmerge_ok H _ w25 X2 (Y2.take bs) ((Y2.drop bs).take bs) (Y2.drop (bs + bs)) (Nat.le_refl _) (fun e => by rw [e] at l1; simp at l1; omega) (fun e => by rw [e] at l2; simp at l2; omega) o1 o2
        (fun x hx => gY x (List.mem_of_mem_take hx)) (fun x hx => gY x (List.mem_of_mem_drop (List.mem_of_mem_take hx))) (by rw [List.append_assoc X2, List.append_assoc X2, ← hY]; exact hd25) _ _ _ (by rw [lX2]) (by rw [lX2, l1]) (by rw [lX2, l1, l2]; omega)).mono ?_
      rintro e w29 ⟨rfl, r, hr, hd29⟩
      have lr := hr.length hc
      rw [List.length_append, l1, l2] at lr
      refine ⟨rfl, ⟨q + 1, X2 ++ r, Y2.drop (bs + bs), ?_, ?_, ?_, ?_, Runs.app hc (by omega) rX2 hmod hr.ord, ?_, ?_, hd29⟩, by simp only [Int.toNat_natCast]; omega⟩
      · rw [Nat.mul_succ, hQ]
      · rw [Nat.mul_succ, hQ]
      · rw [Nat.mul_succ, hQ, List.length_append, lX2, lr]; omega
      · rw [List.length_append, lr, List.length_drop]; omega
      · rw [← List.drop_drop]; exact (rY2.drop hbs0).drop hbs0
      · refine sXY.trans ?_
        rw [List.append_assoc]
        refine SameF.app .rfl ?_
        have := hr.same.app (SameF.rfl (c := cf) (a := Y2.drop (bs + bs)))
        rwa [← hY] at this
    · have e4 : IntKind.i64.wrap ((Q : Int) + (bs : Int)) = ((Q + bs : Nat) : Int) := i64_addn (by omega)
      rw [e4] at hlt2 ⊢
      have l1 : (Y2.take bs).length = bs := by rw [List.length_take]; omega
      have l2 : (Y2.drop bs).length = Y2.length - bs := List.length_drop
      have o2 : Vc.Ord cf (Y2.drop bs) := (rY2.drop hbs0).all hc (by omega)
      have hY := List.take_append_drop bs Y2
      refine (symmerge_ok H _ w25 X2 (Y2.take bs) (Y2.drop bs) [] (Nat.le_refl _) (fun e => by rw [e] at l1; simp at l1; omega) (fun e => by rw [e] at l2; simp at l2; omega) o1 o2
        (fun x hx => gY x (List.mem_of_mem_take hx)) (fun x hx => gY x (List.mem_of_mem_drop hx)) (by rw [List.append_nil, List.append_assoc, hY]; exact hd25) _ _ _ (by rw [lX2]) (by rw [lX2, l1]) (by rw [lX2, l1, l2]; omega)).mono ?_
      rintro e w33 ⟨rfl, r, hr, hd33⟩
      rw [hY] at hr
      rw [List.append_nil] at hd33
      exact ⟨rfl, ⟨2 * bs, X2 ++ r, rfl, by omega, by omega, Runs.app hc (by omega) rX2 hmod hr.ord, sXY.trans (SameF.app .rfl hr.same), hd33⟩, by simp only [Int.toNat_natCast]; omega⟩
    · have e4 : IntKind.i64.wrap ((Q : Int) + (bs : Int)) = ((Q + bs : Nat) : Int) := i64_addn (by omega)
      rw [e4] at hge2
      exact ⟨⟨2 * bs, X2 ++ Y2, rfl, by omega, by omega, Runs.app hc (by omega) rX2 hmod (rY2.all hc (by omega)), sXY, hd25⟩, by simp only [Int.toNat_natCast]; omega⟩

theorem sortstable_ok (H : Sorting W0 p n fv cf G) (w : World) (D : List Sl) (h : SdR B W0 p n c w D) (hG : ∀ x ∈ D, G x) :
    Calls Try.prog 27 #[.slice p n c, .func (.func 28) #[] #[.pointer (some ⟨fv, 0, none⟩)]] w
      fun e w' => e = .returned (.tuple #[]) ∧ ∃ r, Stab cf D r ∧ SdR B W0 p n c w' r := by
  apply sortstable_vc
  unfold sortstable_T
  refine (stablecmp_ok H w D h hG).mono ?_
  rintro e w2 ⟨rfl, r, hr, hd⟩
  exact ⟨rfl, rfl, r, hr, hd⟩
end
end Go.Proofs.Ytgcjhhlokncbfaa
