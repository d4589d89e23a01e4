/- Stable sorts, as plain laws of lists: a list that is in order, and in which those that stand alike come as they came, is one alone. -/
namespace Go.Vc

/-- A comparator: turned round its sign turns; it is transitive. -/
structure Cmp {α : Type} (c : α → α → Int) : Prop where
  anti : ∀ x y, c y x = - c x y
  trans : ∀ x y z, c x y ≤ 0 → c y z ≤ 0 → c x z ≤ 0

section
variable {α : Type} {c : α → α → Int}

theorem Cmp.self (h : Cmp c) (x : α) : c x x = 0 := by have := h.anti x x; omega
theorem Cmp.lt_of (h : Cmp c) {x y z : α} (a : c x y < 0) (b : c y z ≤ 0) : c x z < 0 := by
  have := h.trans x y z (by omega) b
  rcases Int.lt_or_eq_of_le this with h1 | h1
  · exact h1
  · have h2 := h.anti x z
    have h3 := h.trans y z x b (by omega)
    have h4 := h.anti x y
    omega
theorem Cmp.of_lt (h : Cmp c) {x y z : α} (a : c x y ≤ 0) (b : c y z < 0) : c x z < 0 := by
  have := h.trans x y z a (by omega)
  rcases Int.lt_or_eq_of_le this with h1 | h1
  · exact h1
  · have h2 := h.anti x z
    have h3 := h.trans z x y (by omega) a
    have h4 := h.anti y z
    omega
theorem Cmp.eq_trans (h : Cmp c) {x y z : α} (a : c x y = 0) (b : c y z = 0) : c x z = 0 := by
  have h1 := h.trans x y z (by omega) (by omega)
  have h2 := h.anti x y
  have h3 := h.anti y z
  have h4 := h.trans z y x (by omega) (by omega)
  have h5 := h.anti x z
  omega
theorem Cmp.eq_symm (h : Cmp c) {x y : α} (a : c x y = 0) : c y x = 0 := by have := h.anti x y; omega

def Ord (c : α → α → Int) (l : List α) : Prop := l.Pairwise fun x y => c x y ≤ 0
/-- Those of a list that stand as z does. -/
def cls (c : α → α → Int) (z : α) (l : List α) : List α := l.filter fun x => decide (c z x = 0)
def SameF (c : α → α → Int) (xs ys : List α) : Prop := ∀ z, cls c z xs = cls c z ys
/-- ys is xs in order, and stable. -/
structure Stab (c : α → α → Int) (xs ys : List α) : Prop where
  ord : Ord c ys
  same : SameF c xs ys

theorem cls_append (z : α) (a b : List α) : cls c z (a ++ b) = cls c z a ++ cls c z b := by simp [cls]
theorem SameF.rfl {a : List α} : SameF c a a := fun _ => Eq.refl _
theorem SameF.symm {a b : List α} (h : SameF c a b) : SameF c b a := fun z => (h z).symm
theorem SameF.trans {a b d : List α} (h : SameF c a b) (k : SameF c b d) : SameF c a d := fun z => (h z).trans (k z)
theorem SameF.app {a b d e : List α} (h : SameF c a b) (k : SameF c d e) : SameF c (a ++ d) (b ++ e) := fun z => by rw [cls_append, cls_append, h z, k z]
/-- Two blocks, no two of which stand alike, change places. -/
theorem SameF.swap (hc : Cmp c) {u v : List α} (h : ∀ x ∈ u, ∀ y ∈ v, c x y ≠ 0) : SameF c (u ++ v) (v ++ u) := by
  intro z
  rw [cls_append, cls_append]
  by_cases hu : cls c z u = []
  · rw [hu]; simp
  · by_cases hv : cls c z v = []
    · rw [hv]; simp
    · exfalso
      obtain ⟨x, hx⟩ := List.exists_mem_of_ne_nil _ hu
      obtain ⟨y, hy⟩ := List.exists_mem_of_ne_nil _ hv
      simp only [cls, List.mem_filter, decide_eq_true_eq] at hx hy
      exact h x hx.1 y hy.1 (hc.eq_trans (hc.eq_symm hx.2) hy.2)
theorem SameF.mem (hc : Cmp c) {a b : List α} (h : SameF c a b) {x : α} : x ∈ a ↔ x ∈ b := by
  have key : ∀ l : List α, x ∈ l ↔ x ∈ cls c x l := fun l => by simp [cls, hc.self]
  rw [key a, key b, h x]
theorem cls_split {z x : α} : ∀ {b r : List α}, cls c z b = x :: r → ∃ s t, b = s ++ x :: t ∧ cls c z s = []
  | [], r, h => by simp [cls] at h
  | y :: b, r, h => by
    by_cases hy : c z y = 0
    · have e1 : cls c z (y :: b) = y :: cls c z b := by simp [cls, hy]
      rw [e1] at h
      cases h
      exact ⟨[], b, rfl, rfl⟩
    · have e1 : ∀ l : List α, cls c z (y :: l) = cls c z l := fun l => by simp [cls, hy]
      rw [e1] at h
      obtain ⟨s, t, rfl, hs⟩ := cls_split h
      exact ⟨y :: s, t, rfl, by rw [e1, hs]⟩
theorem SameF.length (hc : Cmp c) : ∀ {a b : List α}, SameF c a b → a.length = b.length
  | [], b, h => by
    cases b with
    | nil => rfl
    | cons y b => have := (SameF.mem hc h (x := y)).2 (by simp); cases this
  | x :: a, b, h => by
    have hx := h x
    have e1 : cls c x (x :: a) = x :: cls c x a := by simp [cls, hc.self]
    rw [e1] at hx
    obtain ⟨s, t, rfl, hs⟩ := cls_split hx.symm
    have h2 : SameF c (s ++ x :: t) (x :: (s ++ t)) := by
      have : SameF c (s ++ [x] ++ t) ([x] ++ s ++ t) := by
        refine SameF.app (SameF.swap hc fun p hp q hq e => ?_) .rfl
        simp at hq; subst hq
        have : p ∈ cls c q s := by simp [cls, hp, hc.eq_symm e]
        rw [hs] at this; cases this
      simpa using this
    have h3 := h.trans h2
    have h4 : SameF c a (s ++ t) := by
      intro z
      have hz := h3 z
      by_cases hzx : c z x = 0
      · have e1 : ∀ l : List α, cls c z (x :: l) = x :: cls c z l := fun l => by simp [cls, hzx]
        rw [e1, e1] at hz
        exact (List.cons.inj hz).2
      · have e1 : ∀ l : List α, cls c z (x :: l) = cls c z l := fun l => by simp [cls, hzx]
        rwa [e1, e1] at hz
    have := SameF.length hc h4
    simp only [List.length_append, List.length_cons] at this ⊢
    omega

/-- There is one such list alone. -/
theorem Ord.unique (hc : Cmp c) : ∀ {a b : List α}, Ord c a → Ord c b → SameF c a b → a = b
  | [], b, _, _, h => by
    cases b with
    | nil => rfl
    | cons y b => have := (SameF.mem hc h (x := y)).2 (by simp); cases this
  | x :: a, [], _, _, h => by have := (SameF.mem hc h (x := x)).1 (by simp); cases this
  | x :: a, y :: b, ha, hb, h => by
    have hxb : x ∈ y :: b := (SameF.mem hc h).1 (by simp)
    have hya : y ∈ x :: a := (SameF.mem hc h).2 (by simp)
    have h1 : c y x ≤ 0 := by
      rcases List.mem_cons.1 hxb with rfl | hm
      · rw [hc.self]; exact Int.le_refl 0
      · exact (List.pairwise_cons.1 hb).1 x hm
    have h2 : c x y ≤ 0 := by
      rcases List.mem_cons.1 hya with rfl | hm
      · rw [hc.self]; exact Int.le_refl 0
      · exact (List.pairwise_cons.1 ha).1 y hm
    have h3 := hc.anti x y
    have h0 : c x y = 0 := by omega
    have hx := h x
    have e1 : cls c x (x :: a) = x :: cls c x a := by simp [cls, hc.self]
    have e2 : cls c x (y :: b) = y :: cls c x b := by simp [cls, h0]
    rw [e1, e2] at hx
    have hxy : x = y := (List.cons.inj hx).1
    subst hxy
    congr 1
    refine Ord.unique hc (List.pairwise_cons.1 ha).2 (List.pairwise_cons.1 hb).2 fun z => ?_
    have hz := h z
    by_cases hzx : c z x = 0
    · have e1 : ∀ l : List α, cls c z (x :: l) = x :: cls c z l := fun l => by simp [cls, hzx]
      rw [e1, e1] at hz
      exact (List.cons.inj hz).2
    · have e1 : ∀ l : List α, cls c z (x :: l) = cls c z l := fun l => by simp [cls, hzx]
      rwa [e1, e1] at hz
theorem Stab.unique (hc : Cmp c) {xs ys zs : List α} (h : Stab c xs ys) (k : Stab c xs zs) : ys = zs := Ord.unique hc h.ord k.ord (h.same.symm.trans k.same)
theorem Stab.mem (hc : Cmp c) {xs ys : List α} (h : Stab c xs ys) {x : α} : x ∈ ys ↔ x ∈ xs := (SameF.mem hc h.same).symm
theorem Stab.length (hc : Cmp c) {xs ys : List α} (h : Stab c xs ys) : ys.length = xs.length := (SameF.length hc h.same).symm
theorem Ord.stab {xs : List α} (h : Ord c xs) : Stab c xs xs := ⟨h, .rfl⟩

/-! ### Insertion -/
/-- x is put behind all that do not stand behind it, from the end. -/
theorem Stab.insert (hc : Cmp c) {xs m1 m2 : List α} {x : α} (h : Stab c xs (m1 ++ m2)) (h1 : ∀ y, m1.getLast? = some y → ¬ c x y < 0) (h2 : ∀ y ∈ m2, c x y < 0) : Stab c (xs ++ [x]) (m1 ++ [x] ++ m2) := by
  have ho := List.pairwise_append.1 h.ord
  refine ⟨?_, ?_⟩
  · refine List.pairwise_append.2 ⟨List.pairwise_append.2 ⟨ho.1, by simp, fun a ha b hb => ?_⟩, ho.2.1, fun a ha b hb => ?_⟩
    · simp at hb; subst hb
      obtain ⟨l, y, rfl⟩ : ∃ l y, m1 = l ++ [y] := ⟨m1.dropLast, m1.getLast (by intro e; subst e; cases ha), (List.dropLast_concat_getLast _).symm⟩
      have hy := h1 y (by simp)
      have h3 := hc.anti b y
      rcases List.mem_append.1 ha with ha | ha
      · have := (List.pairwise_append.1 ho.1).2.2 a ha y (by simp)
        exact hc.trans a y b this (by omega)
      · simp at ha; subst ha; omega
    · rcases List.mem_append.1 ha with ha | ha
      · exact ho.2.2 a ha b hb
      · simp at ha; subst ha
        have := h2 b hb; omega
  · refine (SameF.app h.same .rfl).trans ?_
    rw [List.append_assoc, List.append_assoc]
    refine SameF.app .rfl (SameF.swap hc fun a ha b hb e => ?_)
    simp at hb; subst hb
    have := h2 a ha
    have h3 := hc.anti b a
    omega
/-- Two lists in order, put together: the lesser halves, the greater halves. -/
theorem Stab.halves (hc : Cmp c) {a1 u v b2 r1 r2 : List α} (ha : Ord c (a1 ++ u)) (hb : Ord c (v ++ b2)) (h1 : ∀ x ∈ u, ∀ y ∈ v, c y x < 0) (h2 : ∀ x ∈ a1, ∀ y ∈ b2, c x y ≤ 0)
    (k1 : Stab c (a1 ++ v) r1) (k2 : Stab c (u ++ b2) r2) : Stab c ((a1 ++ u) ++ (v ++ b2)) (r1 ++ r2) := by
  have hA := List.pairwise_append.1 ha
  have hB := List.pairwise_append.1 hb
  refine ⟨List.pairwise_append.2 ⟨k1.ord, k2.ord, fun x hx y hy => ?_⟩, ?_⟩
  · have hx := (k1.mem hc).1 hx
    have hy := (k2.mem hc).1 hy
    rcases List.mem_append.1 hx with hx | hx <;> rcases List.mem_append.1 hy with hy | hy
    · exact hA.2.2 x hx y hy
    · exact h2 x hx y hy
    · have := h1 y hy x hx; omega
    · exact hB.2.2 x hx y hy
  · have e : SameF c ((a1 ++ u) ++ (v ++ b2)) ((a1 ++ v) ++ (u ++ b2)) := by
      have : SameF c (u ++ v) (v ++ u) := SameF.swap hc fun x hx y hy e => by have := h1 x hx y hy; have := hc.anti x y; omega
      have h3 : SameF c (a1 ++ ((u ++ v) ++ b2)) (a1 ++ ((v ++ u) ++ b2)) := SameF.app .rfl (SameF.app this .rfl)
      simpa [List.append_assoc] using h3
    exact e.trans (SameF.app k1.same k2.same)
/-- In order already. -/
theorem Ord.app {a b : List α} (ha : Ord c a) (hb : Ord c b) (h : ∀ x ∈ a, ∀ y ∈ b, c x y ≤ 0) : Ord c (a ++ b) := List.pairwise_append.2 ⟨ha, hb, h⟩
theorem Ord.left {a b : List α} (h : Ord c (a ++ b)) : Ord c a := (List.pairwise_append.1 h).1
theorem Ord.right {a b : List α} (h : Ord c (a ++ b)) : Ord c b := (List.pairwise_append.1 h).2.1
theorem Ord.get (hc : Cmp c) {l : List α} (h : Ord c l) {i j : Nat} (hij : i ≤ j) {x y : α} (hx : l[i]? = some x) (hy : l[j]? = some y) : c x y ≤ 0 := by
  rcases Nat.lt_or_eq_of_le hij with hlt | rfl
  · obtain ⟨hi, rfl⟩ := List.getElem?_eq_some_iff.1 hx
    obtain ⟨hj, rfl⟩ := List.getElem?_eq_some_iff.1 hy
    exact List.pairwise_iff_getElem.1 h i j hi hj hlt
  · rw [hx] at hy; cases hy; rw [hc.self]; exact Int.le_refl 0
end
end Go.Vc
