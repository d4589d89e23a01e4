/- The stable sort of the library, at rows: what it leaves is the list in order, and stable. -/
import Derived.Test.YtgcjhhlokncbfaaW15
import Derived.Test.YtgcjhhlokncbfaaVl
namespace Go.Vc
open Go Go.RowKit

/-- All but the block at p is as it was in W0. -/
def Far (p : Option Addr) (W0 W : World) : Prop := (p = none ∧ Ext W0 W) ∨ ∃ b, p = some ⟨b, 0, none⟩ ∧ But b W0 W
theorem Far.rfl {p : Option Addr} {W : World} (h : p = none ∨ ∃ b, p = some ⟨b, 0, none⟩) : Far p W W := by
  rcases h with h | ⟨b, h⟩
  · exact .inl ⟨h, .rfl⟩
  · exact .inr ⟨b, h, Ext.rfl.but b⟩
theorem Far.ext {p : Option Addr} {W0 W W' : World} (h : Far p W0 W) (e : Ext W W') : Far p W0 W' := by
  rcases h with ⟨h, x⟩ | ⟨b, h, x⟩
  · exact .inl ⟨h, x.trans e⟩
  · exact .inr ⟨b, h, x.trans (e.but b)⟩
theorem Far.put {b : Nat} {W0 W W' : World} (h : Far (some ⟨b, 0, none⟩) W0 W) (e : But b W W') : Far (some ⟨b, 0, none⟩) W0 W' := by
  rcases h with ⟨h, x⟩ | ⟨b', h, x⟩
  · cases h
  · cases h; exact .inr ⟨b, Eq.refl _, x.trans e⟩

/-- The row at (p, n, c), our own, holds the slices d; all else is as it was in W0. -/
structure Sd (B : Nat) (t : TypeId) (W0 : World) (p : Option Addr) (n c : Nat) (W : World) (d : List Sl) : Prop where
  own : Mine B t 1 W p n c (d.map Sl.v)
  far : Far p W0 W
section
variable {B : Nat} {t : TypeId} {W0 W W' : World} {p : Option Addr} {n c : Nat} {d : List Sl}
theorem Sd.len (h : Sd B t W0 p n c W d) : d.length = n := by have := h.own.len; simpa using this
theorem Sd.ext (h : Sd B t W0 p n c W d) (e : Ext W W') : Sd B t W0 p n c W' d := ⟨h.own.ext e, h.far.ext e⟩
theorem Sd.get (h : Sd B t W0 p n c W d) {i : Nat} {x : Sl} (hi : d[i]? = some x) :
    ∃ b, p = some ⟨b, 0, none⟩ ∧ W.cell? ⟨b, 0 + i, none⟩ = some (.slice x.p x.n x.c) ∧ W.frozen? ⟨b, 0 + i, none⟩ = false ∧ ∀ (y : Sl) W', Put W b (0 + i) [.slice y.p y.n y.c] W' → Sd B t W0 p n c W' (d.set i y) := by
  have hlt : i < n := by rw [← h.len]; exact (List.getElem?_eq_some_iff.1 hi).1
  obtain ⟨b, hp, hB, hb, hc, hput⟩ := h.own.put (i := i) (us := [.slice x.p x.n x.c]) hlt rfl
  obtain ⟨_, hf⟩ := hc 0 (by decide)
  refine ⟨b, hp, ?_, ?_, fun y W' hy => ⟨?_, ?_⟩⟩
  · obtain ⟨b', o', hp', hcell⟩ := h.own.at.get (i := i) (by rw [List.length_map, h.len]; exact hlt)
    rw [hp] at hp'; cases hp'
    rw [hcell]
    have hx := (List.getElem?_eq_some_iff.1 hi)
    simp only [List.getElem_map]
    rw [hx.2]; rfl
  · rw [Nat.zero_add]; simpa using hf
  · obtain ⟨b', hp', _, _, _, hput⟩ := h.own.put (i := i) (us := [.slice y.p y.n y.c]) hlt rfl
    rw [hp] at hp'; cases hp'
    have := hput W' (by rw [Nat.zero_add] at hy; simpa using hy)
    have e : (d.map Sl.v).take (i * 1) ++ [Value.slice y.p y.n y.c] ++ (d.map Sl.v).drop (i * 1 + 1) = (d.set i y).map Sl.v := by
      rw [List.map_set, Nat.mul_one, List.set_eq_take_append_cons_drop, if_pos (by rw [List.length_map, h.len]; exact hlt)]
      simp [Sl.v]
    rw [e] at this
    exact this
  · rw [hp]; exact (hp ▸ h.far).put hy.but
end

section
variable {α : Type}
theorem mid_get {l A E : List α} {u : α} {i : Nat} (h : l = A ++ u :: E) (hi : i = A.length) : l[i]? = some u := by subst h hi; simp
theorem mid_set {A E : List α} {u v : α} {i : Nat} (hi : i = A.length) : (A ++ u :: E).set i v = A ++ v :: E := by subst hi; induction A with | nil => rfl | cons a A ih => simp [ih]
end

theorem i64_prev {n : Nat} (h : 0 < n) (h' : n < 9223372036854775808) : IntKind.i64.wrap ((n : Int) - 1) = ((n - 1 : Nat) : Int) := by rw [i64_fit (by omega) (by omega)]; omega
theorem i64_addn {a b : Nat} (h : a + b < 9223372036854775808) : IntKind.i64.wrap ((a : Int) + (b : Int)) = ((a + b : Nat) : Int) := by rw [i64_fit (by omega) (by omega)]; omega
theorem i64_subn {a b : Nat} (h : b ≤ a) (h' : a < 9223372036854775808) : IntKind.i64.wrap ((a : Int) - (b : Int)) = ((a - b : Nat) : Int) := by rw [i64_fit (by omega) (by omega)]; omega
theorem half_eq {a b : Nat} (h : a + b < 9223372036854775808) : IntKind.i64.wrap (shrI IntKind.u64 (IntKind.u64.wrap (IntKind.i64.wrap ((a : Int) + (b : Int)))) 1) = (((a + b) / 2 : Nat) : Int) := by
  rw [i64_addn h, u64_nat (by omega), shr1_u64, i64_nat (by omega)]

/-! ### Runs -/
section
variable {α : Type} {c : α → α → Int}
/-- Each s, from the first on, are in order. -/
def Runs (c : α → α → Int) (s : Nat) (l : List α) : Prop := ∀ (i j : Nat) (x y : α), i ≤ j → i / s = j / s → l[i]? = some x → l[j]? = some y → c x y ≤ 0
theorem ord_iff (hc : Cmp c) {l : List α} : Ord c l ↔ ∀ (i j : Nat) (x y : α), i ≤ j → l[i]? = some x → l[j]? = some y → c x y ≤ 0 := by
  constructor
  · intro h i j x y hij hx hy; exact h.get hc hij hx hy
  · intro h
    refine List.pairwise_iff_getElem.2 fun i j hi hj hij => ?_
    exact h i j _ _ (by omega) (List.getElem?_eq_getElem hi) (List.getElem?_eq_getElem hj)
theorem Runs.all (hc : Cmp c) {s : Nat} {l : List α} (h : Runs c s l) (hl : l.length ≤ s) : Ord c l := by
  refine (ord_iff hc).2 fun i j x y hij hx hy => h i j x y hij ?_ hx hy
  have hj := (List.getElem?_eq_some_iff.1 hy).1
  rw [Nat.div_eq_of_lt (by omega), Nat.div_eq_of_lt (by omega)]
theorem Runs.take {s : Nat} {l : List α} (h : Runs c s l) (k : Nat) : Runs c s (l.take k) := by
  intro i j x y hij hd hx hy
  rw [List.getElem?_take] at hx hy
  split at hx
  · split at hy
    · exact h i j x y hij hd hx hy
    · cases hy
  · cases hx
theorem Runs.drop {s : Nat} (h0 : 0 < s) {l : List α} (h : Runs c s l) : Runs c s (l.drop s) := by
  intro i j x y hij hd hx hy
  rw [List.getElem?_drop] at hx hy
  refine h (s + i) (s + j) x y (by omega) ?_ hx hy
  rw [Nat.add_div_left _ h0, Nat.add_div_left _ h0, hd]
theorem Runs.app (hc : Cmp c) {s : Nat} (h0 : 0 < s) {l r : List α} (h : Runs c s l) (hd : l.length % s = 0) (ho : Ord c r) : Runs c s (l ++ r) := by
  intro i j x y hij hij2 hx hy
  rcases Nat.lt_or_ge j l.length with hj | hj
  · rw [List.getElem?_append_left (by omega)] at hx hy
    exact h i j x y hij hij2 hx hy
  · rcases Nat.lt_or_ge i l.length with hi | hi
    · exfalso
      have e : l.length = s * (l.length / s) := by have := Nat.div_add_mod l.length s; omega
      have h1 : i / s < l.length / s := (Nat.div_lt_iff_lt_mul h0).2 (by rw [Nat.mul_comm, ← e]; exact hi)
      have h2 : l.length / s ≤ j / s := Nat.div_le_div_right hj
      omega
    · rw [List.getElem?_append_right hi] at hx
      rw [List.getElem?_append_right hj] at hy
      exact (ord_iff hc).1 ho _ _ x y (by omega) hx hy
theorem Runs.none (s : Nat) : Runs c s [] := by intro i j x y _ _ hx; simp at hx
end
end Go.Vc

namespace Go.Proofs.Ytgcjhhlokncbfaa
open Go Go.Vc Go.RowKit

/-- A comparator that is handed to the library: it answers cf at the slices of G, wherever all but the row to be sorted is as it was. -/
structure Sorting (W0 : World) (p : Option Addr) (n fv : Nat) (cf : Sl → Sl → Int) (G : Sl → Prop) : Prop where
  cmp : Cmp cf
  calls : ∀ W x y, Far p W0 W → G x → G y → Calls Try.prog 28 #[.slice x.p x.n x.c, .slice y.p y.n y.c, .pointer (some ⟨fv, 0, none⟩)] W fun e W' => e = .returned (.int .i64 (cf x y)) ∧ Ext W W'
  small : n ≤ 1099511627776

abbrev SdR (B : Nat) (W0 : World) (p : Option Addr) (n c : Nat) := Sd B 23 W0 p n c

section
variable {B : Nat} {W0 : World} {p : Option Addr} {n c fv : Nat} {cf : Sl → Sl → Int} {G : Sl → Prop}

theorem insert_ok (H : Sorting W0 p n fv cf G) (w : World) (P M S : List Sl) (h : SdR B W0 p n c w (P ++ M ++ S)) (hG : ∀ x ∈ M, G x) :
    Calls Try.prog 50 #[.slice p n c, .int .i64 (P.length : Int), .int .i64 ((P.length + M.length : Nat) : Int), .func (.func 28) #[] #[.pointer (some ⟨fv, 0, none⟩)]] w
      fun e w' => e = .returned (.tuple #[]) ∧ ∃ M', Stab cf M M' ∧ SdR B W0 p n c w' (P ++ M' ++ S) := by
  apply insertcmp_vc
  unfold insertcmp_T
  have hn := h.len
  have hs := H.small
  simp only [List.length_append] at hn
  rw [i64_next (by omega)]
  refine ⟨fun i w' => ∃ (k : Nat) (m : List Sl), i = ((P.length + k : Nat) : Int) ∧ 1 ≤ k ∧ k ≤ M.length + 1 ∧ Stab cf (M.take k) m ∧ SdR B W0 p n c w' (P ++ m ++ (M.drop k ++ S)), fun i _ => P.length + M.length + 1 - i.toNat, ⟨1, M.take 1, rfl, Nat.le_refl _, by omega, ?_, ?_⟩, ?_⟩
  · refine Ord.stab ?_
    cases M with
    | nil => simp [Vc.Ord]
    | cons x M => simp [Vc.Ord]
  · rw [List.append_assoc P, ← List.append_assoc (M.take 1), List.take_append_drop, ← List.append_assoc]; exact h
  rintro i w4 ⟨k, m, rfl, hk1, hk2, hst, hd⟩
  have hml := hst.length H.cmp
  refine ⟨fun hlt => ?_, fun hge => ⟨rfl, ?_⟩⟩
  · have hkM : k < M.length := by omega
    obtain ⟨x, hx⟩ : ∃ x, M[k]? = some x := ⟨_, List.getElem?_eq_getElem hkM⟩
    have hdr : M.drop k = x :: M.drop (k + 1) := by rw [List.drop_eq_getElem_cons hkM]; congr 1; exact (List.getElem?_eq_some_iff.1 hx).2
    have hmk : m.length = k := by rw [hml, List.length_take]; omega
    have hGx : G x := hG x (List.mem_of_getElem? hx)
    have hGm : ∀ y ∈ m, G y := fun y hy => hG y (List.mem_of_mem_take ((hst.mem H.cmp).1 hy))
    refine ⟨fun j w' => ∃ m1 m2, m = m1 ++ m2 ∧ j = ((P.length + m1.length : Nat) : Int) ∧ (∀ y ∈ m2, cf x y < 0) ∧ SdR B W0 p n c w' (P ++ m1 ++ x :: m2 ++ (M.drop (k + 1) ++ S)), fun j _ => j.toNat, ⟨m, [], by simp, by rw [hmk], by simp, ?_⟩, ?_⟩
    · rw [hdr] at hd; simpa using hd
    rintro j w10 ⟨m1, m2, hm, rfl, hlt2, hd10⟩ w12 h12
    have hd12 := hd10.ext h12.ext
    have fin : ∀ w', (∀ y, m1.getLast? = some y → ¬ cf x y < 0) → SdR B W0 p n c w' (P ++ m1 ++ x :: m2 ++ (M.drop (k + 1) ++ S)) →
        (∃ (k' : Nat) (m : List Sl), ((P.length + k + 1 : Nat) : Int) = ((P.length + k' : Nat) : Int) ∧ 1 ≤ k' ∧ k' ≤ M.length + 1 ∧ Stab cf (M.take k') m ∧ SdR B W0 p n c w' (P ++ m ++ (M.drop k' ++ S))) ∧
        P.length + M.length + 1 - ((P.length + k + 1 : Nat) : Int).toNat < P.length + M.length + 1 - ((P.length + k : Nat) : Int).toNat := by
      intro w' hlast hd'
      refine ⟨⟨k + 1, m1 ++ [x] ++ m2, by omega, by omega, by omega, ?_, ?_⟩, by simp only [Int.toNat_natCast]; omega⟩
      · rw [take_snoc hx]
        exact Stab.insert H.cmp (hm ▸ hst) hlast hlt2
      · simpa using hd'
    have hml12 : m1.length + m2.length = k := by rw [← hmk, hm]; simp
    refine ⟨fun hja => ?_, fun hja => ?_⟩
    · obtain ⟨l, y, rfl⟩ : ∃ l y, m1 = l ++ [y] := by
        cases hm1 : m1 with
        | nil => subst hm1; simp at hja
        | cons a l => exact ⟨(a :: l).dropLast, (a :: l).getLast (by simp), (List.dropLast_concat_getLast _).symm⟩
      simp only [List.length_append, List.length_cons, List.length_nil] at hml12 hja ⊢
      have e1 : IntKind.i64.wrap (((P.length + (l.length + (0 + 1)) : Nat) : Int) - 1) = ((P.length + l.length : Nat) : Int) := by rw [i64_prev (by omega) (by omega)]; omega
      have e0 : ((P.length + (l.length + (0 + 1)) : Nat) : Int) = ((P.length + l.length + 1 : Nat) : Int) := by omega
      rw [e1, e0]
      simp only [Int.toNat_natCast]
      have gx : (P ++ (l ++ [y]) ++ x :: m2 ++ (M.drop (k + 1) ++ S))[P.length + l.length + 1]? = some x := mid_get (A := P ++ (l ++ [y])) (E := m2 ++ (M.drop (k + 1) ++ S)) (by simp) (by simp; omega)
      have gy : (P ++ (l ++ [y]) ++ x :: m2 ++ (M.drop (k + 1) ++ S))[P.length + l.length]? = some y := mid_get (A := P ++ l) (E := x :: m2 ++ (M.drop (k + 1) ++ S)) (by simp) (by simp)
      obtain ⟨b, hp, cx, fx, px⟩ := hd12.get gx
      obtain ⟨b', hp', cy, fy, py⟩ := hd12.get gy
      rw [hp] at hp'; cases hp'
      have hGy : G y := hGm y (by rw [hm]; simp)
      refine ⟨b, 0, hp, by omega, by omega, _, _, _, cx, b, 0, hp, by omega, by omega, _, _, _, cy, (H.calls w12 x y hd12.far hGx hGy).mono ?_⟩
      rintro e w26 ⟨rfl, e26⟩
      have hd26 := hd12.ext e26
      refine ⟨_, rfl, fun hneg w29 h29 => ?_, fun hpos => ?_⟩
      · have hd29 := hd26.ext h29.ext
        obtain ⟨b1, hp1, cx, fx, px⟩ := hd29.get gx
        rw [hp] at hp1; cases hp1
        obtain ⟨b2, hp2, cy, fy, py⟩ := hd29.get gy
        rw [hp] at hp2; cases hp2
        refine ⟨b, 0, hp, by omega, by omega, _, _, _, cy, b, 0, hp, by omega, by omega, _, _, _, cx, b, 0, hp, by omega, by omega, ⟨_, cx⟩, fx, fun w44 h44 => ?_⟩
        have hd44 := px y w44 h44
        have s1 : (P ++ (l ++ [y]) ++ x :: m2 ++ (M.drop (k + 1) ++ S)).set (P.length + l.length + 1) y = P ++ l ++ y :: (y :: m2 ++ (M.drop (k + 1) ++ S)) := by
          have := mid_set (A := P ++ (l ++ [y])) (E := m2 ++ (M.drop (k + 1) ++ S)) (u := x) (v := y) (i := P.length + l.length + 1) (by simp; omega)
          simpa using this
        rw [s1] at hd44
        obtain ⟨b3, hp3, cy, fy, py⟩ := hd44.get (i := P.length + l.length) (x := y) (mid_get (A := P ++ l) (E := y :: m2 ++ (M.drop (k + 1) ++ S)) rfl (by simp))
        rw [hp] at hp3; cases hp3
        refine ⟨b, 0, hp, by omega, by omega, ⟨_, cy⟩, fy, fun w49 h49 => ?_⟩
        have hd49 := py x w49 h49
        rw [mid_set (A := P ++ l) (by simp)] at hd49
        refine ⟨⟨l, y :: m2, by rw [hm]; simp, rfl, ?_, by simpa using hd49⟩, by omega⟩
        intro z hz
        rcases List.mem_cons.1 hz with rfl | hz
        · exact hneg
        · exact hlt2 z hz
      · rw [i64_next (by omega)]
        exact fin w26 (fun z hz => by simp at hz; subst hz; omega) hd26
    · have hm1 : m1 = [] := by cases m1 with | nil => rfl | cons a l => simp at hja; omega
      rw [i64_next (by omega)]
      exact fin w12 (fun z hz => by rw [hm1] at hz; cases hz) hd12
  · have : M.length ≤ k := by omega
    rw [List.take_of_length_le this] at hst
    rw [List.drop_eq_nil_of_le this] at hd
    exact ⟨m, hst, by simpa using hd⟩
end
end Go.Proofs.Ytgcjhhlokncbfaa
