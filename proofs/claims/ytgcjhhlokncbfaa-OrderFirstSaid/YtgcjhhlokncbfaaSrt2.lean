/- The stable sort of the library, at rows: exchanging, turning and merging parts; the whole. -/
import Derived.Test.YtgcjhhlokncbfaaSrt
namespace Go.Proofs.Ytgcjhhlokncbfaa
open Go Go.Vc Go.RowKit

section
variable {B : Nat} {W0 : World} {p : Option Addr} {n c fv : Nat} {cf : Sl → Sl → Int} {G : Sl → Prop}

theorem swaprange_ok (hs : n ≤ 1099511627776) (w : World) (A X Q Y E : List Sl) (hl : X.length = Y.length) (h : SdR B W0 p n c w (A ++ X ++ Q ++ Y ++ E)) {a b k : Int}
    (ha : a = (A.length : Int)) (hb : b = ((A.length + X.length + Q.length : Nat) : Int)) (hk : k = (X.length : Int)) :
    Calls Try.prog 57 #[.slice p n c, .int .i64 a, .int .i64 b, .int .i64 k, .func (.func 28) #[] #[.pointer (some ⟨fv, 0, none⟩)]] w
      fun e w' => e = .returned (.tuple #[]) ∧ SdR B W0 p n c w' (A ++ Y ++ Q ++ X ++ E) := by
  subst ha hb hk
  apply swaprange_vc
  unfold swaprange_T
  have hn := h.len
  simp only [List.length_append] at hn
  refine ⟨fun i w' => ∃ k : Nat, i = (k : Int) ∧ k ≤ X.length ∧ SdR B W0 p n c w' (A ++ Y.take k ++ X.drop k ++ Q ++ X.take k ++ Y.drop k ++ E), fun i _ => X.length - i.toNat, ⟨0, rfl, Nat.zero_le _, by simpa using h⟩, ?_⟩
  rintro i w4 ⟨k, rfl, hk, hd⟩
  refine ⟨fun hlt w7 h7 => ?_, fun hge => ⟨rfl, ?_⟩⟩
  · obtain ⟨x, hx⟩ : ∃ x, X[k]? = some x := ⟨_, List.getElem?_eq_getElem (by omega)⟩
    obtain ⟨y, hy⟩ : ∃ y, Y[k]? = some y := ⟨_, List.getElem?_eq_getElem (by omega)⟩
    have dx : X.drop k = x :: X.drop (k + 1) := by rw [List.drop_eq_getElem_cons (by omega)]; congr 1; exact (List.getElem?_eq_some_iff.1 hx).2
    have dy : Y.drop k = y :: Y.drop (k + 1) := by rw [List.drop_eq_getElem_cons (by omega)]; congr 1; exact (List.getElem?_eq_some_iff.1 hy).2
    have tx := take_snoc hx
    have ty := take_snoc hy
    have hd7 := hd.ext h7.ext
    rw [dx, dy] at hd7
    have lx : (X.take k).length = k := by rw [List.length_take]; omega
    have ly : (Y.take k).length = k := by rw [List.length_take]; omega
    have l2 : (X.drop (k + 1)).length = X.length - (k + 1) := List.length_drop
    rw [i64_addn (by omega), i64_addn (by omega), i64_next (by omega)]
    simp only [Int.toNat_natCast]
    obtain ⟨b1, hp, cy, fy, _⟩ := hd7.get (i := A.length + X.length + Q.length + k) (x := y) (mid_get (A := A ++ Y.take k ++ x :: X.drop (k + 1) ++ Q ++ X.take k) (E := Y.drop (k + 1) ++ E) (by simp) (by simp only [List.length_append, List.length_cons, lx, ly, l2]; omega))
    obtain ⟨b2, hp2, cx, fx, px⟩ := hd7.get (i := A.length + k) (x := x) (mid_get (A := A ++ Y.take k) (E := X.drop (k + 1) ++ (Q ++ X.take k ++ y :: Y.drop (k + 1) ++ E)) (by simp) (by simp only [List.length_append, ly]))
    rw [hp] at hp2; cases hp2
    refine ⟨b1, 0, hp, by omega, by omega, _, _, _, cy, b1, 0, hp, by omega, by omega, _, _, _, cx, b1, 0, hp, by omega, by omega, ⟨_, cx⟩, fx, fun w22 h22 => ?_⟩
    have hd22 := px y w22 h22
    have s1 : (A ++ Y.take k ++ x :: X.drop (k + 1) ++ Q ++ X.take k ++ y :: Y.drop (k + 1) ++ E).set (A.length + k) y = (A ++ Y.take k ++ y :: X.drop (k + 1) ++ Q ++ X.take k) ++ y :: (Y.drop (k + 1) ++ E) := by
      have := mid_set (A := A ++ Y.take k) (E := X.drop (k + 1) ++ (Q ++ X.take k ++ y :: Y.drop (k + 1) ++ E)) (u := x) (v := y) (i := A.length + k) (by simp only [List.length_append, ly])
      simpa using this
    rw [s1] at hd22
    have li : A.length + X.length + Q.length + k = (A ++ Y.take k ++ y :: X.drop (k + 1) ++ Q ++ X.take k).length := by simp only [List.length_append, List.length_cons, lx, ly, l2]; omega
    obtain ⟨b3, hp3, cy, fy, py⟩ := hd22.get (i := A.length + X.length + Q.length + k) (x := y) (mid_get rfl li)
    rw [hp] at hp3; cases hp3
    refine ⟨b1, 0, hp, by omega, by omega, ⟨_, cy⟩, fy, fun w27 h27 => ?_⟩
    have hd27 := py x w27 h27
    rw [mid_set li] at hd27
    refine ⟨⟨k + 1, rfl, by omega, ?_⟩, by omega⟩
    rw [tx, ty]
    simpa using hd27
  · have : k = X.length := by omega
    subst this
    rw [List.take_of_length_le (Nat.le_refl _), List.drop_eq_nil_of_le (Nat.le_refl _), List.take_of_length_le (by omega), List.drop_eq_nil_of_le (by omega)] at hd
    simpa using hd

theorem rotate_ok (hs : n ≤ 1099511627776) (w : World) (A U V E : List Sl) (hU : U ≠ []) (hV : V ≠ []) (h : SdR B W0 p n c w (A ++ U ++ V ++ E)) {a m b : Int}
    (ha : a = (A.length : Int)) (hm : m = ((A.length + U.length : Nat) : Int)) (hb : b = ((A.length + U.length + V.length : Nat) : Int)) :
    Calls Try.prog 55 #[.slice p n c, .int .i64 a, .int .i64 m, .int .i64 b, .func (.func 28) #[] #[.pointer (some ⟨fv, 0, none⟩)]] w
      fun e w' => e = .returned (.tuple #[]) ∧ SdR B W0 p n c w' (A ++ V ++ U ++ E) := by
  subst ha hm hb
  apply rotate_vc
  unfold rotate_T
  have hn := h.len
  simp only [List.length_append] at hn
  have hU0 := List.length_pos_iff.2 hU
  have hV0 := List.length_pos_iff.2 hV
  rw [i64_subn (by omega) (by omega), i64_subn (by omega) (by omega)]
  refine ⟨fun i j w' => ∃ P Q u v : List Sl, i = (u.length : Int) ∧ j = (v.length : Int) ∧ 0 < u.length ∧ 0 < v.length ∧ P.length + u.length = U.length ∧ v.length + Q.length = V.length ∧ P ++ v ++ u ++ Q = V ++ U ∧ SdR B W0 p n c w' (A ++ P ++ u ++ v ++ Q ++ E),
    fun i j _ => i.toNat + j.toNat, ⟨[], [], U, V, by omega, by omega, hU0, hV0, by simp, by simp, by simp, by simpa using h⟩, ?_⟩
  rintro i j w5 ⟨P, Q, u, v, rfl, rfl, hu0, hv0, hP, hQ, hL, hd⟩
  have hLl := congrArg List.length hL
  simp only [List.length_append] at hLl
  have em : IntKind.i64.wrap (((A.length + U.length : Nat) : Int) - (u.length : Int)) = ((A ++ P).length : Int) := by rw [i64_subn (by omega) (by omega), List.length_append]; omega
  rw [em]
  refine ⟨fun hne => ⟨fun hlt => ?_, fun hge => ?_⟩, fun heq => ?_⟩
  · -- the left part is the longer one
    have hd' : SdR B W0 p n c w5 ((A ++ P) ++ u.take v.length ++ u.drop v.length ++ v ++ (Q ++ E)) := by
      have e : A ++ P ++ u ++ v ++ Q ++ E = (A ++ P) ++ u.take v.length ++ u.drop v.length ++ v ++ (Q ++ E) := by
        rw [List.append_assoc (A ++ P) (u.take v.length), List.take_append_drop, ← List.append_assoc _ Q]
      rw [← e]; exact hd
    have lt : (u.take v.length).length = v.length := by rw [List.length_take]; omega
    have ld : (u.drop v.length).length = u.length - v.length := List.length_drop
    refine (swaprange_ok (fv := fv) hs w5 (A ++ P) (u.take v.length) (u.drop v.length) v (Q ++ E) lt hd' rfl (by simp only [List.length_append, lt, ld]; omega) (by rw [lt])).mono ?_
    rintro e w10 ⟨rfl, hd10⟩
    rw [i64_subn (by omega) (by omega)]
    refine ⟨rfl, ⟨P ++ v, Q, u.drop v.length, u.take v.length, by rw [ld], by rw [lt], by omega, by omega, ?_, ?_, ?_, ?_⟩, by simp only [Int.toNat_natCast]; omega⟩
    · rw [List.length_append, ld]; omega
    · rw [lt]; exact hQ
    · rw [← hL]
      have := List.take_append_drop v.length u
      rw [List.append_assoc (P ++ v), this]
    · simpa [List.append_assoc] using hd10
  · -- the right part
    have hlt : u.length < v.length := by omega
    have lt : (v.take (v.length - u.length)).length = v.length - u.length := by rw [List.length_take]; omega
    have ld : (v.drop (v.length - u.length)).length = u.length := by rw [List.length_drop]; omega
    have hd' : SdR B W0 p n c w5 ((A ++ P) ++ u ++ v.take (v.length - u.length) ++ v.drop (v.length - u.length) ++ (Q ++ E)) := by
      have := List.take_append_drop (v.length - u.length) v
      rw [List.append_assoc (A ++ P ++ u), this]
      simpa [List.append_assoc] using hd
    have e2 : IntKind.i64.wrap (IntKind.i64.wrap (((A.length + U.length : Nat) : Int) + (v.length : Int)) - (u.length : Int)) = ((A.length + U.length + v.length - u.length : Nat) : Int) := by
      rw [i64_addn (by omega), i64_subn (by omega) (by omega)]
    rw [e2]
    refine (swaprange_ok (fv := fv) hs w5 (A ++ P) u (v.take (v.length - u.length)) (v.drop (v.length - u.length)) (Q ++ E) ld.symm hd' rfl (by simp only [List.length_append, lt]; omega) rfl).mono ?_
    rintro e w13 ⟨rfl, hd13⟩
    rw [i64_subn (by omega) (by omega)]
    refine ⟨rfl, ⟨P, u ++ Q, v.drop (v.length - u.length), v.take (v.length - u.length), by rw [ld], by rw [lt], by omega, by omega, by omega, ?_, ?_, ?_⟩, by simp only [Int.toNat_natCast]; omega⟩
    · rw [List.length_append, lt]; omega
    · rw [← hL]
      have := List.take_append_drop (v.length - u.length) v
      rw [List.append_assoc P, this]
      simp
    · simpa [List.append_assoc] using hd13
  · have hl : u.length = v.length := by omega
    refine (swaprange_ok (fv := fv) hs w5 (A ++ P) u [] v (Q ++ E) hl (by simpa [List.append_assoc] using hd) rfl (by simp only [List.length_append, List.length_nil]; omega) rfl).mono ?_
    rintro e w16 ⟨rfl, hd16⟩
    refine ⟨rfl, rfl, ?_⟩
    have e3 : A ++ V ++ U ++ E = A ++ P ++ v ++ [] ++ u ++ (Q ++ E) := by
      rw [List.append_assoc A, ← hL]; simp [List.append_assoc]
    rw [e3]; exact hd16

theorem symmerge_ok (H : Sorting W0 p n fv cf G) : ∀ (N : Nat) (w : World) (P L1 L2 S : List Sl), L1.length + L2.length ≤ N → L1 ≠ [] → L2 ≠ [] → Vc.Ord cf L1 → Vc.Ord cf L2 → (∀ x ∈ L1, G x) → (∀ x ∈ L2, G x) → SdR B W0 p n c w (P ++ L1 ++ L2 ++ S) →
    ∀ a m b : Int, a = (P.length : Int) → m = ((P.length + L1.length : Nat) : Int) → b = ((P.length + L1.length + L2.length : Nat) : Int) →
    Calls Try.prog 51 #[.slice p n c, .int .i64 a, .int .i64 m, .int .i64 b, .func (.func 28) #[] #[.pointer (some ⟨fv, 0, none⟩)]] w
      fun e w' => e = .returned (.tuple #[]) ∧ ∃ r, Stab cf (L1 ++ L2) r ∧ SdR B W0 p n c w' (P ++ r ++ S) := by
  intro N
  induction N with
  | zero =>
    intro w P L1 L2 S hN hL1
    have := List.length_pos_iff.2 hL1
    omega
  | succ N ih =>
    intro w P L1 L2 S hN hL1 hL2 o1 o2 g1 g2 h a m b ha hm hb
    subst ha hm hb
    apply symmerge_vc
    unfold symmerge_T
    have hn := h.len
    have hs := H.small
    have hc := H.cmp
    simp only [List.length_append] at hn
    have p1 := List.length_pos_iff.2 hL1
    have p2 := List.length_pos_iff.2 hL2
    have e1 : IntKind.i64.wrap (((P.length + L1.length : Nat) : Int) - (P.length : Int)) = (L1.length : Int) := by rw [i64_subn (by omega) (by omega)]; omega
    have e2 : IntKind.i64.wrap (((P.length + L1.length + L2.length : Nat) : Int) - ((P.length + L1.length : Nat) : Int)) = (L2.length : Int) := by rw [i64_subn (by omega) (by omega)]; omega
    rw [e1, e2]
    refine ⟨fun hone => ?_, fun hne1 => ⟨fun hone => ?_, fun hne2 => ?_⟩⟩
    · -- one on the left
      obtain ⟨x, rfl⟩ : ∃ x, L1 = [x] := List.length_eq_one_iff.1 (by omega)
      simp only [List.length_cons, List.length_nil] at hn ⊢
      have gx : ∀ {W}, SdR B W0 p n c W (P ++ [x] ++ L2 ++ S) → (P ++ [x] ++ L2 ++ S)[P.length]? = some x := fun _ => mid_get (A := P) (E := L2 ++ S) (by simp) rfl
      have gL : ∀ {q y}, L2[q]? = some y → (P ++ [x] ++ L2 ++ S)[P.length + (0 + 1) + q]? = some y := by
        intro q y hy
        have hq := (List.getElem?_eq_some_iff.1 hy).1
        rw [List.getElem?_append_left (by simp; omega), List.getElem?_append_right (by simp)]
        rw [← hy]; congr 1; simp
      refine ⟨fun i j w' => ∃ i' j' : Nat, i = ((P.length + (0 + 1) + i' : Nat) : Int) ∧ j = ((P.length + (0 + 1) + j' : Nat) : Int) ∧ i' ≤ j' ∧ j' ≤ L2.length ∧ (∀ (q : Nat) y, q < i' → L2[q]? = some y → cf y x < 0) ∧ (∀ (q : Nat) y, j' ≤ q → L2[q]? = some y → ¬ cf y x < 0) ∧ SdR B W0 p n c w' (P ++ [x] ++ L2 ++ S),
        fun i j _ => (j - i).toNat, ⟨0, L2.length, by omega, by omega, Nat.zero_le _, Nat.le_refl _, fun q y hq => by omega, fun q y hq hy => by have := (List.getElem?_eq_some_iff.1 hy).1; omega, h⟩, ?_⟩
      rintro i j w6 ⟨i', j', rfl, rfl, hij, hj, hlo, hhi, hd⟩
      refine ⟨fun hlt w9 h9 => ?_, fun hge => ?_⟩
      · have hd9 := hd.ext h9.ext
        rw [half_eq (by omega)]
        have eh : (P.length + (0 + 1) + i' + (P.length + (0 + 1) + j')) / 2 = P.length + (0 + 1) + (i' + j') / 2 := by omega
        rw [eh, i64_next (by omega)]
        have hb1 : (i' + j') / 2 < j' := by omega
        have hb2 : i' ≤ (i' + j') / 2 := by omega
        generalize (i' + j') / 2 = k at hb1 hb2 ⊢
        obtain ⟨y, hy⟩ : ∃ y, L2[k]? = some y := ⟨_, List.getElem?_eq_getElem (by omega)⟩
        simp only [Int.toNat_natCast]
        obtain ⟨b1, hp, cy, _, _⟩ := hd9.get (gL hy)
        obtain ⟨b2, hp2, cx, _, _⟩ := hd9.get (gx hd9)
        rw [hp] at hp2; cases hp2
        refine ⟨b1, 0, hp, by omega, by omega, _, _, _, cy, b1, 0, hp, by omega, by omega, _, _, _, cx, (H.calls w9 y x hd9.far (g2 y (List.mem_of_getElem? hy)) (g1 x (by simp))).mono ?_⟩
        rintro e w22 ⟨rfl, e22⟩
        have hd22 := hd9.ext e22
        refine ⟨_, rfl, fun hneg => ⟨⟨k + 1, j', by omega, rfl, by omega, hj, ?_, hhi, hd22⟩, by omega⟩, fun hpos => ⟨⟨i', k, rfl, rfl, hb2, by omega, hlo, ?_, hd22⟩, by omega⟩⟩
        · intro q z hq hz
          exact hc.of_lt (o2.get hc (by omega) hz hy) hneg
        · intro q z hq hz hzx
          have := hc.of_lt (o2.get hc hq hy hz) hzx
          omega
      · have hij' : i' = j' := by omega
        subst hij'
        rw [i64_prev (by omega) (by omega)]
        have lB : (L2.take i').length = i' := by rw [List.length_take]; omega
        refine ⟨fun k w' => ∃ q : Nat, k = ((P.length + q : Nat) : Int) ∧ q ≤ i' ∧ SdR B W0 p n c w' (P ++ (L2.take i').take q ++ x :: (L2.take i').drop q ++ L2.drop i' ++ S), fun k _ => P.length + i' - k.toNat, ⟨0, by omega, Nat.zero_le _, by simpa using hd⟩, ?_⟩
        rintro k w30 ⟨q, rfl, hq, hd30⟩
        refine ⟨fun hlt w33 h33 => ?_, fun hge => ⟨by trivial, L2.take i' ++ x :: L2.drop i', ?_, ?_⟩⟩
        · have hd33 := hd30.ext h33.ext
          generalize hB1 : L2.take i' = B1 at hd33 lB ⊢
          have hqB : q < B1.length := by omega
          obtain ⟨y, hy⟩ : ∃ y, B1[q]? = some y := ⟨_, List.getElem?_eq_getElem hqB⟩
          have dy : B1.drop q = y :: B1.drop (q + 1) := by rw [List.drop_eq_getElem_cons hqB]; congr 1; exact (List.getElem?_eq_some_iff.1 hy).2
          rw [dy] at hd33
          have lt : (B1.take q).length = q := by rw [List.length_take]; omega
          rw [i64_next (by omega)]
          simp only [Int.toNat_natCast]
          obtain ⟨b1, hp, cy, _, _⟩ := hd33.get (i := P.length + q + 1) (x := y) (mid_get (A := P ++ B1.take q ++ [x]) (E := B1.drop (q + 1) ++ L2.drop i' ++ S) (by simp) (by simp [lt]; omega))
          obtain ⟨b2, hp2, cx, fx, px⟩ := hd33.get (i := P.length + q) (x := x) (mid_get (A := P ++ B1.take q) (E := (y :: B1.drop (q + 1)) ++ L2.drop i' ++ S) (by simp) (by simp [lt]))
          rw [hp] at hp2; cases hp2
          refine ⟨b1, 0, hp, by omega, by omega, _, _, _, cy, b1, 0, hp, by omega, by omega, _, _, _, cx, b1, 0, hp, by omega, by omega, ⟨_, cx⟩, fx, fun w48 h48 => ?_⟩
          have hd48 := px y w48 h48
          have s1 : (P ++ B1.take q ++ x :: (y :: B1.drop (q + 1)) ++ L2.drop i' ++ S).set (P.length + q) y = (P ++ B1.take q ++ [y]) ++ y :: (B1.drop (q + 1) ++ L2.drop i' ++ S) := by
            have := mid_set (A := P ++ B1.take q) (E := (y :: B1.drop (q + 1)) ++ L2.drop i' ++ S) (u := x) (v := y) (i := P.length + q) (by simp [lt])
            simpa using this
          rw [s1] at hd48
          have li : P.length + q + 1 = (P ++ B1.take q ++ [y]).length := by simp [lt]; omega
          obtain ⟨b3, hp3, cy, fy, py⟩ := hd48.get (x := y) (mid_get rfl li)
          rw [hp] at hp3; cases hp3
          refine ⟨b1, 0, hp, by omega, by omega, ⟨_, cy⟩, fy, fun w53 h53 => ?_⟩
          have hd53 := py x w53 h53
          rw [mid_set li] at hd53
          refine ⟨⟨q + 1, rfl, by omega, ?_⟩, by omega⟩
          rw [take_snoc hy]
          simpa using hd53
        · have hmem : ∀ y ∈ L2.take i', cf y x < 0 := by
            intro y hy
            obtain ⟨q, hq⟩ := List.mem_iff_getElem?.1 hy
            rw [List.getElem?_take] at hq
            split at hq
            · exact hlo q y (by assumption) hq
            · cases hq
          have hmem2 : ∀ y ∈ L2.drop i', ¬ cf y x < 0 := by
            intro y hy
            obtain ⟨q, hq⟩ := List.mem_iff_getElem?.1 hy
            rw [List.getElem?_drop] at hq
            exact hhi _ y (by omega) hq
          have o2' : Vc.Ord cf (L2.take i' ++ L2.drop i') := by rw [List.take_append_drop]; exact o2
          have := Stab.halves (a1 := []) (u := [x]) (v := L2.take i') (b2 := L2.drop i') (r1 := L2.take i') (r2 := x :: L2.drop i') hc (by simpa using o1) o2'
            (by intro z hz y hy; simp at hz; subst hz; exact hmem y hy) (by simp) (by simpa using o2'.left.stab)
            (by
              refine Ord.stab ?_
              refine List.pairwise_cons.2 ⟨fun y hy => ?_, o2'.right⟩
              have h1 := hmem2 y hy
              have h2 := hc.anti x y
              omega)
          rw [List.take_append_drop] at this
          simpa using this
        · have : q = i' := by omega
          subst this
          rw [List.take_of_length_le (by omega), @List.drop_eq_nil_of_le _ (L2.take q) q (by omega)] at hd30
          simpa using hd30
    · -- one on the right
      obtain ⟨y, rfl⟩ : ∃ y, L2 = [y] := List.length_eq_one_iff.1 (by omega)
      simp only [List.length_cons, List.length_nil] at hn ⊢
      have gy : (P ++ L1 ++ [y] ++ S)[P.length + L1.length]? = some y := mid_get (A := P ++ L1) (E := S) (by simp) (by simp)
      have gL : ∀ {q x}, L1[q]? = some x → (P ++ L1 ++ [y] ++ S)[P.length + q]? = some x := by
        intro q x hx
        have hq := (List.getElem?_eq_some_iff.1 hx).1
        rw [List.append_assoc, List.getElem?_append_left (by simp; omega), List.getElem?_append_right (by omega)]
        rw [← hx]; congr 1; omega
      refine ⟨fun i j w' => ∃ i' j' : Nat, i = ((P.length + i' : Nat) : Int) ∧ j = ((P.length + j' : Nat) : Int) ∧ i' ≤ j' ∧ j' ≤ L1.length ∧ (∀ (q : Nat) x, q < i' → L1[q]? = some x → ¬ cf y x < 0) ∧ (∀ (q : Nat) x, j' ≤ q → L1[q]? = some x → cf y x < 0) ∧ SdR B W0 p n c w' (P ++ L1 ++ [y] ++ S),
        fun i j _ => (j - i).toNat, ⟨0, L1.length, by omega, by omega, Nat.zero_le _, Nat.le_refl _, fun q x hq => by omega, fun q x hq hx => by have := (List.getElem?_eq_some_iff.1 hx).1; omega, h⟩, ?_⟩
      rintro i j w62 ⟨i', j', rfl, rfl, hij, hj, hlo, hhi, hd⟩
      refine ⟨fun hlt w9 h9 => ?_, fun hge => ?_⟩
      · have hd9 := hd.ext h9.ext
        rw [half_eq (by omega)]
        have eh : (P.length + i' + (P.length + j')) / 2 = P.length + (i' + j') / 2 := by omega
        rw [eh, i64_next (by omega)]
        have hb1 : (i' + j') / 2 < j' := by omega
        have hb2 : i' ≤ (i' + j') / 2 := by omega
        generalize (i' + j') / 2 = k at hb1 hb2 ⊢
        obtain ⟨x, hx⟩ : ∃ x, L1[k]? = some x := ⟨_, List.getElem?_eq_getElem (by omega)⟩
        simp only [Int.toNat_natCast]
        obtain ⟨b1, hp, cy, _, _⟩ := hd9.get gy
        obtain ⟨b2, hp2, cx, _, _⟩ := hd9.get (gL hx)
        rw [hp] at hp2; cases hp2
        refine ⟨b1, 0, hp, by omega, by omega, _, _, _, cy, b1, 0, hp, by omega, by omega, _, _, _, cx, (H.calls w9 y x hd9.far (g2 y (by simp)) (g1 x (List.mem_of_getElem? hx))).mono ?_⟩
        rintro e w22 ⟨rfl, e22⟩
        have hd22 := hd9.ext e22
        refine ⟨_, rfl, fun hpos => ⟨⟨k + 1, j', by omega, rfl, by omega, hj, ?_, hhi, hd22⟩, by omega⟩, fun hneg => ⟨⟨i', k, rfl, rfl, hb2, by omega, hlo, ?_, hd22⟩, by omega⟩⟩
        · intro q z hq hz hzx
          have := hc.lt_of hzx (o1.get hc (by omega) hz hx)
          omega
        · intro q z hq hz
          exact hc.lt_of hneg (o1.get hc hq hx hz)
      · have hij' : i' = j' := by omega
        subst hij'
        have lA : (L1.take i').length = i' := by rw [List.length_take]; omega
        have lA2 : (L1.drop i').length = L1.length - i' := List.length_drop
        refine ⟨fun k w' => ∃ q : Nat, k = ((P.length + i' + q : Nat) : Int) ∧ i' + q ≤ L1.length ∧ SdR B W0 p n c w' (P ++ L1.take i' ++ (L1.drop i').take q ++ y :: (L1.drop i').drop q ++ S), fun k _ => k.toNat, ⟨L1.length - i', by omega, by omega, ?_⟩, ?_⟩
        · rw [List.take_of_length_le (l := L1.drop i') (by omega), @List.drop_eq_nil_of_le _ (L1.drop i') (L1.length - i') (by omega), List.append_assoc P, List.take_append_drop]
          simpa using hd
        rintro k w86 ⟨q, rfl, hq, hd86⟩
        refine ⟨fun hlt w89 h89 => ?_, fun hge => ⟨by trivial, L1.take i' ++ [y] ++ L1.drop i', ?_, ?_⟩⟩
        · have hd89 := hd86.ext h89.ext
          generalize hA2 : L1.drop i' = A2 at hd89 lA2 ⊢
          obtain ⟨q', rfl⟩ : ∃ q', q = q' + 1 := ⟨q - 1, by omega⟩
          have hqA : q' < A2.length := by omega
          obtain ⟨x, hx⟩ : ∃ x, A2[q']? = some x := ⟨_, List.getElem?_eq_getElem hqA⟩
          rw [take_snoc hx] at hd89
          have lt : (A2.take q').length = q' := by rw [List.length_take]; omega
          rw [i64_prev (by omega) (by omega)]
          have ei : P.length + i' + (q' + 1) - 1 = P.length + i' + q' := by omega
          rw [ei]
          simp only [Int.toNat_natCast]
          have l1 : P.length + i' + q' = (P ++ L1.take i' ++ A2.take q').length := by simp only [List.length_append, lA, lt]
          have l2 : P.length + i' + (q' + 1) = (P ++ L1.take i' ++ (A2.take q' ++ [x])).length := by simp only [List.length_append, lA, lt]; rfl
          obtain ⟨b1, hp, cx, fx, _⟩ := hd89.get (i := P.length + i' + q') (x := x) (mid_get (A := P ++ L1.take i' ++ A2.take q') (E := y :: A2.drop (q' + 1) ++ S) (by simp) l1)
          obtain ⟨b2, hp2, cy, fy, py⟩ := hd89.get (i := P.length + i' + (q' + 1)) (x := y) (mid_get (A := P ++ L1.take i' ++ (A2.take q' ++ [x])) (E := A2.drop (q' + 1) ++ S) (by simp) l2)
          rw [hp] at hp2; cases hp2
          refine ⟨b1, 0, hp, by omega, by omega, _, _, _, cx, b1, 0, hp, by omega, by omega, _, _, _, cy, b1, 0, hp, by omega, by omega, ⟨_, cy⟩, fy, fun w104 h104 => ?_⟩
          have hd104 := py x w104 h104
          have s1 : (P ++ L1.take i' ++ (A2.take q' ++ [x]) ++ y :: A2.drop (q' + 1) ++ S).set (P.length + i' + (q' + 1)) x = (P ++ L1.take i' ++ A2.take q') ++ x :: (x :: A2.drop (q' + 1) ++ S) := by
            have := mid_set (A := P ++ L1.take i' ++ (A2.take q' ++ [x])) (E := A2.drop (q' + 1) ++ S) (u := y) (v := x) (i := P.length + i' + (q' + 1)) l2
            simpa using this
          rw [s1] at hd104
          obtain ⟨b3, hp3, cx, fx, px⟩ := hd104.get (i := P.length + i' + q') (x := x) (mid_get rfl l1)
          rw [hp] at hp3; cases hp3
          refine ⟨b1, 0, hp, by omega, by omega, ⟨_, cx⟩, fx, fun w109 h109 => ?_⟩
          have hd109 := px y w109 h109
          rw [mid_set l1] at hd109
          refine ⟨⟨q', rfl, by omega, ?_⟩, by omega⟩
          have dx : A2.drop q' = x :: A2.drop (q' + 1) := by rw [List.drop_eq_getElem_cons hqA]; congr 1; exact (List.getElem?_eq_some_iff.1 hx).2
          rw [dx]
          simpa using hd109
        · have o1' : Vc.Ord cf (L1.take i' ++ L1.drop i') := by rw [List.take_append_drop]; exact o1
          have st : Stab cf L1 (L1.take i' ++ L1.drop i') := by rw [List.take_append_drop]; exact o1.stab
          refine Stab.insert hc st ?_ ?_
          · intro x hx
            have hx := List.mem_of_getLast? hx
            obtain ⟨q, hq⟩ := List.mem_iff_getElem?.1 hx
            rw [List.getElem?_take] at hq
            split at hq
            · exact hlo q x (by assumption) hq
            · cases hq
          · intro x hx
            obtain ⟨q, hq⟩ := List.mem_iff_getElem?.1 hx
            rw [List.getElem?_drop] at hq
            exact hhi _ x (by omega) hq
        · have : q = 0 := by omega
          subst this
          simpa using hd86
    · -- the halves
      rw [half_eq (by omega)]
      generalize hmid : (P.length + (P.length + L1.length + L2.length)) / 2 = mid
      have hmid1 : 2 * mid ≤ P.length + (P.length + L1.length + L2.length) := by omega
      have hmid2 : P.length + (P.length + L1.length + L2.length) ≤ 2 * mid + 1 := by omega
      rw [i64_addn (a := mid) (by omega)]
      have ep : IntKind.i64.wrap (((mid + (P.length + L1.length) : Nat) : Int) - 1) = ((mid + (P.length + L1.length) - 1 : Nat) : Int) := i64_prev (by omega) (by omega)
      rw [ep]
      refine ⟨fun s r w' => ∃ s' r' : Nat, s = (s' : Int) ∧ r = (r' : Int) ∧ P.length ≤ s' ∧ s' ≤ r' ∧ r' ≤ P.length + L1.length ∧ r' ≤ mid ∧ mid + (P.length + L1.length) ≤ P.length + L1.length + L2.length + s' ∧
        (s' = P.length ∨ mid + (P.length + L1.length) = P.length + L1.length + L2.length + s') ∧ (r' = P.length + L1.length ∨ r' = mid) ∧ SdR B W0 p n c w' (P ++ L1 ++ L2 ++ S), ⟨fun hlt => ?_, fun hge => ?_⟩, ?_⟩
      · rw [i64_subn (by omega) (by omega)]
        exact ⟨_, _, rfl, rfl, by omega, by omega, by omega, Nat.le_refl _, by omega, .inr (by omega), .inr rfl, h⟩
      · exact ⟨_, _, rfl, rfl, Nat.le_refl _, by omega, Nat.le_refl _, by omega, by omega, .inl rfl, .inl rfl, h⟩
      rintro s r w118 ⟨s', r', rfl, rfl, hs1, hs2, hs3, hs4, hs5, hs6, hs7, hd118⟩
      have gL1 : ∀ {q x}, L1[q]? = some x → (P ++ L1 ++ L2 ++ S)[P.length + q]? = some x := by
        intro q x hx
        have hq := (List.getElem?_eq_some_iff.1 hx).1
        rw [List.append_assoc, List.getElem?_append_left (by simp; omega), List.getElem?_append_right (by omega)]
        rw [← hx]; congr 1; omega
      have gL2 : ∀ {q x}, L2[q]? = some x → (P ++ L1 ++ L2 ++ S)[P.length + L1.length + q]? = some x := by
        intro q x hx
        have hq := (List.getElem?_eq_some_iff.1 hx).1
        rw [List.getElem?_append_left (by simp; omega), List.getElem?_append_right (by simp)]
        rw [← hx]; congr 1; simp
      refine ⟨fun i j w' => ∃ i' j' : Nat, i = (i' : Int) ∧ j = (j' : Int) ∧ s' ≤ i' ∧ i' ≤ j' ∧ j' ≤ r' ∧ (∀ (q : Nat) x y, s' ≤ q → q < i' → L1[q - P.length]? = some x → L2[mid - 1 - q]? = some y → ¬ cf y x < 0) ∧
        (∀ (q : Nat) x y, j' ≤ q → q < r' → L1[q - P.length]? = some x → L2[mid - 1 - q]? = some y → cf y x < 0) ∧ SdR B W0 p n c w' (P ++ L1 ++ L2 ++ S),
        fun i j _ => (j - i).toNat, ⟨s', r', rfl, rfl, Nat.le_refl _, hs2, Nat.le_refl _, fun q x y h1 h2 => by omega, fun q x y h1 h2 => by omega, hd118⟩, ?_⟩
      rintro i j w124 ⟨i', j', rfl, rfl, hi1, hij, hj1, hlo, hhi, hd⟩
      refine ⟨fun hlt w127 h127 => ?_, fun hge => ?_⟩
      · have hd9 := hd.ext h127.ext
        rw [half_eq (by omega)]
        have hb1 : (i' + j') / 2 < j' := by omega
        have hb2 : i' ≤ (i' + j') / 2 := by omega
        generalize (i' + j') / 2 = k at hb1 hb2 ⊢
        rw [i64_next (by omega), i64_subn (by omega) (by omega)]
        obtain ⟨x, hx⟩ : ∃ x, L1[k - P.length]? = some x := ⟨_, List.getElem?_eq_getElem (by omega)⟩
        obtain ⟨y, hy⟩ : ∃ y, L2[mid - 1 - k]? = some y := ⟨_, List.getElem?_eq_getElem (by omega)⟩
        simp only [Int.toNat_natCast]
        have gx := gL1 hx
        have gy := gL2 hy
        rw [show P.length + (k - P.length) = k by omega] at gx
        rw [show P.length + L1.length + (mid - 1 - k) = mid + (P.length + L1.length) - 1 - k by omega] at gy
        obtain ⟨b1, hp, cy, _, _⟩ := hd9.get gy
        obtain ⟨b2, hp2, cx, _, _⟩ := hd9.get gx
        rw [hp] at hp2; cases hp2
        refine ⟨b1, 0, hp, by omega, by omega, _, _, _, cy, b1, 0, hp, by omega, by omega, _, _, _, cx, (H.calls w127 y x hd9.far (g2 y (List.mem_of_getElem? hy)) (g1 x (List.mem_of_getElem? hx))).mono ?_⟩
        rintro e w22 ⟨rfl, e22⟩
        have hd22 := hd9.ext e22
        refine ⟨_, rfl, fun hpos => ⟨⟨k + 1, j', rfl, rfl, by omega, by omega, hj1, ?_, hhi, hd22⟩, by omega⟩, fun hneg => ⟨⟨i', k, rfl, rfl, hi1, hb2, by omega, hlo, ?_, hd22⟩, by omega⟩⟩
        · intro q x' y' h1 h2 hx' hy' hlt'
          have a1 := o1.get hc (i := q - P.length) (j := k - P.length) (by omega) hx' hx
          have a2 := o2.get hc (i := mid - 1 - k) (j := mid - 1 - q) (by omega) hy hy'
          have := hc.lt_of (hc.of_lt a2 hlt') a1
          omega
        · intro q x' y' h1 h2 hx' hy'
          have a1 := o1.get hc (i := k - P.length) (j := q - P.length) (by omega) hx hx'
          have a2 := o2.get hc (i := mid - 1 - q) (j := mid - 1 - k) (by omega) hy' hy
          exact hc.lt_of (hc.of_lt a2 hneg) a1
      · have hij' : i' = j' := by omega
        subst hij'
        rw [i64_subn (a := mid + (P.length + L1.length)) (b := i') (by omega) (by omega)]
        -- the parts
        obtain ⟨A1, u, hA, hA1, hu⟩ : ∃ A1 u, L1 = A1 ++ u ∧ A1 = L1.take (i' - P.length) ∧ u = L1.drop (i' - P.length) := ⟨_, _, (List.take_append_drop _ _).symm, rfl, rfl⟩
        obtain ⟨v, b2, hB, hv, hb2⟩ : ∃ v b2, L2 = v ++ b2 ∧ v = L2.take (mid - i') ∧ b2 = L2.drop (mid - i') := ⟨_, _, (List.take_append_drop _ _).symm, rfl, rfl⟩
        have lA : A1.length = i' - P.length := by rw [hA1, List.length_take]; omega
        have lu : u.length = L1.length - (i' - P.length) := by rw [hu, List.length_drop]
        have lv : v.length = mid - i' := by rw [hv, List.length_take]; omega
        have lb : b2.length = L2.length - (mid - i') := by rw [hb2, List.length_drop]
        have oA : Vc.Ord cf (A1 ++ u) := hA ▸ o1
        have oB : Vc.Ord cf (v ++ b2) := hB ▸ o2
        have k1 : ∀ x ∈ u, ∀ y ∈ v, cf y x < 0 := by
          intro x hx y hy
          obtain ⟨qx, hqx⟩ := List.mem_iff_getElem?.1 hx
          obtain ⟨qy, hqy⟩ := List.mem_iff_getElem?.1 hy
          have hqx' := (List.getElem?_eq_some_iff.1 hqx).1
          have hqy' := (List.getElem?_eq_some_iff.1 hqy).1
          rw [hu, List.getElem?_drop] at hqx
          rw [hv, List.getElem?_take] at hqy
          split at hqy
          · have hir : i' < r' := by
              rcases hs7 with h7 | h7
              · omega
              · omega
            obtain ⟨x0, hx0⟩ : ∃ x, L1[i' - P.length]? = some x := ⟨_, List.getElem?_eq_getElem (by omega)⟩
            obtain ⟨y0, hy0⟩ : ∃ y, L2[mid - 1 - i']? = some y := ⟨_, List.getElem?_eq_getElem (by omega)⟩
            have h0 := hhi i' x0 y0 (Nat.le_refl _) hir hx0 hy0
            have a1 := o1.get hc (by omega) hx0 hqx
            have a2 := o2.get hc (by omega) hqy hy0
            exact hc.lt_of (hc.of_lt a2 h0) a1
          · cases hqy
        have k2 : ∀ x ∈ A1, ∀ y ∈ b2, cf x y ≤ 0 := by
          intro x hx y hy
          obtain ⟨qx, hqx⟩ := List.mem_iff_getElem?.1 hx
          obtain ⟨qy, hqy⟩ := List.mem_iff_getElem?.1 hy
          have hqx' := (List.getElem?_eq_some_iff.1 hqx).1
          have hqy' := (List.getElem?_eq_some_iff.1 hqy).1
          rw [hA1, List.getElem?_take] at hqx
          rw [hb2, List.getElem?_drop] at hqy
          split at hqx
          · have hsi : s' < i' := by
              rcases hs6 with h6 | h6
              · omega
              · omega
            obtain ⟨x0, hx0⟩ : ∃ x, L1[i' - 1 - P.length]? = some x := ⟨_, List.getElem?_eq_getElem (by omega)⟩
            obtain ⟨y0, hy0⟩ : ∃ y, L2[mid - i']? = some y := ⟨_, List.getElem?_eq_getElem (by omega)⟩
            have h0 := hlo (i' - 1) x0 y0 (by omega) (by omega) hx0 (by rw [show mid - 1 - (i' - 1) = mid - i' by omega]; exact hy0)
            have a1 := o1.get hc (by omega) hqx hx0
            have a2 := o2.get hc (by omega) hy0 hqy
            have a3 := hc.anti x0 y0
            exact hc.trans x y0 y (hc.trans x x0 y0 a1 (by omega)) a2
          · cases hqx
        have gA1 : ∀ x ∈ A1, G x := fun x hx => g1 x (by rw [hA]; simp [hx])
        have gu : ∀ x ∈ u, G x := fun x hx => g1 x (by rw [hA]; simp [hx])
        have gv : ∀ x ∈ v, G x := fun x hx => g2 x (by rw [hB]; simp [hx])
        have gb : ∀ x ∈ b2, G x := fun x hx => g2 x (by rw [hB]; simp [hx])
        rw [hA, hB] at hd
        have nilOf : ∀ {l : List Sl}, l.length = 0 → l = [] := fun h => List.length_eq_zero_iff.1 h
        refine ⟨fun w' => SdR B W0 p n c w' (P ++ A1 ++ v ++ u ++ b2 ++ S), ⟨fun hrot => ?_, fun hno => ?_⟩, ?_⟩
        · refine (rotate_ok (fv := fv) hs w124 (P ++ A1) u v (b2 ++ S) (fun e => by rw [e] at lu; simp at lu; omega) (fun e => by rw [e] at lv; simp at lv; omega) (by simpa [List.append_assoc] using hd) ?_ ?_ ?_).mono ?_
          · rw [List.length_append, lA]; omega
          · rw [List.length_append, lA, lu]; omega
          · rw [List.length_append, lA, lu, lv]; omega
          rintro e w141 ⟨rfl, hd141⟩
          exact ⟨rfl, by simpa [List.append_assoc] using hd141⟩
        · have : u = [] ∨ v = [] := by
            rcases hno with h1 | h1
            · exact .inl (nilOf (by omega))
            · exact .inr (nilOf (by omega))
          rcases this with e | e
          · subst e; simpa [List.append_assoc] using hd
          · subst e; simpa [List.append_assoc] using hd
        intro w144 hd144
        refine ⟨fun w' => ∃ r1, Stab cf (A1 ++ v) r1 ∧ SdR B W0 p n c w' (P ++ r1 ++ (u ++ b2 ++ S)), ⟨fun hcall => ?_, fun hno => ⟨A1 ++ v, ?_, by simpa [List.append_assoc] using hd144⟩⟩, ?_⟩
        · refine (ih w144 P A1 v (u ++ b2 ++ S) (by omega) (fun e => by rw [e] at lA; simp at lA; omega) (fun e => by rw [e] at lv; simp at lv; omega) oA.left oB.left gA1 gv (by simpa [List.append_assoc] using hd144) _ _ _ rfl ?_ ?_).mono ?_
          · rw [lA]; omega
          · rw [lA, lv]; omega
          rintro e w149 ⟨rfl, r1, hr1, hd149⟩
          exact ⟨rfl, r1, hr1, hd149⟩
        · have : A1 = [] ∨ v = [] := by
            rcases hno with h1 | h1
            · exact .inl (nilOf (by omega))
            · exact .inr (nilOf (by omega))
          rcases this with e | e
          · subst e; simpa using oB.left.stab
          · subst e; simpa using oA.left.stab
        rintro w151 ⟨r1, hr1, hd151⟩
        have lr1 := hr1.length hc
        simp only [List.length_append] at lr1
        have fin : ∀ {w' r2}, Stab cf (u ++ b2) r2 → SdR B W0 p n c w' (P ++ r1 ++ r2 ++ S) → ∃ r, Stab cf (L1 ++ L2) r ∧ SdR B W0 p n c w' (P ++ r ++ S) := by
          intro w' r2 hr2 hd'
          exact ⟨r1 ++ r2, by rw [hA, hB]; exact Stab.halves hc oA oB k1 k2 hr1 hr2, by simpa [List.append_assoc] using hd'⟩
        refine ⟨fun hcall => ?_, fun hno => ⟨rfl, fin (r2 := u ++ b2) ?_ (by simpa [List.append_assoc] using hd151)⟩⟩
        · refine (ih w151 (P ++ r1) u b2 S (by omega) (fun e => by rw [e] at lu; simp at lu; omega) (fun e => by rw [e] at lb; simp at lb; omega) oA.right oB.right gu gb (by simpa [List.append_assoc] using hd151) _ _ _ ?_ ?_ ?_).mono ?_
          · rw [List.length_append, lr1, lA, lv]; omega
          · rw [List.length_append, lr1, lA, lv, lu]; omega
          · rw [List.length_append, lr1, lA, lv, lu, lb]; omega
          rintro e w155 ⟨rfl, r2, hr2, hd155⟩
          exact ⟨rfl, rfl, fin hr2 (by simpa [List.append_assoc] using hd155)⟩
        · have : u = [] ∨ b2 = [] := by
            rcases hno with h1 | h1
            · exact .inl (nilOf (by omega))
            · exact .inr (nilOf (by omega))
          rcases this with e | e
          · subst e; simpa using oB.right.stab
          · subst e; simpa using oA.right.stab
end
end Go.Proofs.Ytgcjhhlokncbfaa
