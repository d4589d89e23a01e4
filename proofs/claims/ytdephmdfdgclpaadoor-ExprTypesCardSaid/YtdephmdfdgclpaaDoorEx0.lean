/- Expressions: as the memory bears them; which are well formed. Plain Lean, no program. -/
import Derived.Test.YtdephmdfdgclpaaDoorSc0
import Derived.Test.YtdephmdfdgclpaaDoorOpenF
namespace Go.Vc
open Go Go.RowKit

inductive Ex where
  | mk (op : Int) (name : ByteArray) (v : Val) (kids : List Ex)
def Ex.op : Ex → Int | .mk o _ _ _ => o
def Ex.name : Ex → ByteArray | .mk _ n _ _ => n
def Ex.v : Ex → Val | .mk _ _ v _ => v
def Ex.kids : Ex → List Ex | .mk _ _ _ k => k

mutual
def ExAt (w : World) : Ex → List Value → Prop
  | .mk op name v kids, cs => ∃ (p : Option Addr) (n c : Nat) (css : List (List Value)), cs = [.int .i64 op, .string name, .int .i64 v.k, .int .i64 v.n, .string v.s, .slice p n c] ∧ (n ≤ c ∧ c ≤ maxLen) ∧ (p = none → n = 0 ∧ c = 0) ∧ css.length = n ∧
      (∀ x ∈ css, x.length = 6) ∧ At w p css.flatten ∧ ExsAt w kids css
def ExsAt (w : World) : List Ex → List (List Value) → Prop
  | [], [] => True
  | x :: xs, c :: cs => ExAt w x c ∧ ExsAt w xs cs
  | [], _ :: _ => False
  | _ :: _, [] => False
end

theorem ExsAt.length {w : World} : ∀ {xs : List Ex} {css : List (List Value)}, ExsAt w xs css → css.length = xs.length
  | [], [], _ => rfl
  | x :: xs, c :: cs, h => by
    unfold ExsAt at h
    simp [ExsAt.length h.2]
  | [], _ :: _, h => by unfold ExsAt at h; exact h.elim
  | _ :: _, [], h => by unfold ExsAt at h; exact h.elim
theorem ExsAt.get {w : World} : ∀ {xs : List Ex} {css : List (List Value)}, ExsAt w xs css → ∀ {i : Nat} {x : Ex}, xs[i]? = some x → ∃ c, css[i]? = some c ∧ ExAt w x c
  | [], [], _, i, x, hx => by simp at hx
  | x :: xs, c :: cs, h, i, y, hy => by
    unfold ExsAt at h
    cases i with
    | zero => cases hy; exact ⟨c, rfl, h.1⟩
    | succ i =>
      obtain ⟨c', h1, h2⟩ := ExsAt.get h.2 (i := i) (by simpa using hy)
      exact ⟨c', by simpa using h1, h2⟩
  | [], _ :: _, h, _, _, _ => by unfold ExsAt at h; exact h.elim
  | _ :: _, [], h, _, _, _ => by unfold ExsAt at h; exact h.elim
mutual
theorem ExAt.ext {w w' : World} (e : Ext w w') : ∀ {x : Ex} {cs : List Value}, ExAt w x cs → ExAt w' x cs
  | .mk op name v kids, cs, h => by
    unfold ExAt at h ⊢
    obtain ⟨p, n, c, css, h1, h2, h3, h4, h5, h6, h7⟩ := h
    exact ⟨p, n, c, css, h1, h2, h3, h4, h5, h6.ext e, ExsAt.ext e h7⟩
theorem ExsAt.ext {w w' : World} (e : Ext w w') : ∀ {xs : List Ex} {css : List (List Value)}, ExsAt w xs css → ExsAt w' xs css
  | [], [], _ => by unfold ExsAt; trivial
  | x :: xs, c :: cs, h => by
    unfold ExsAt at h ⊢
    exact ⟨ExAt.ext e h.1, ExsAt.ext e h.2⟩
  | [], _ :: _, h => by unfold ExsAt at h; exact h.elim
  | _ :: _, [], h => by unfold ExsAt at h; exact h.elim
end
/-- An expression's cells, and its kids. -/
theorem ExAt.cells {w : World} {x : Ex} {cs : List Value} (h : ExAt w x cs) : ∃ (p : Option Addr) (n c : Nat), cs = [.int .i64 x.op, .string x.name, .int .i64 x.v.k, .int .i64 x.v.n, .string x.v.s, .slice p n c] ∧ (n ≤ c ∧ c ≤ maxLen) ∧ x.kids.length = n ∧ (p = none → n = 0 ∧ c = 0) ∧
    ∀ {w' : World}, Ext w w' → ∀ {i : Nat} {k : Ex}, x.kids[i]? = some k → ∃ kc b o, ExAt w' k kc ∧ p = some ⟨b, o, none⟩ ∧ ∀ (j : Nat) v, kc[j]? = some v → w'.cell? ⟨b, o + (i * 6 + j), none⟩ = some v := by
  obtain ⟨op, name, v, kids⟩ := x
  unfold ExAt at h
  obtain ⟨p, n, c, css, h1, h2, h3, h4, h5, h6, h7⟩ := h
  refine ⟨p, n, c, h1, h2, by rw [← h4, h7.length]; rfl, h3, fun {w'} e {i} {k} hk => ?_⟩
  obtain ⟨kc, hkc, hx⟩ := h7.get hk
  rcases h6 with h6 | ⟨b, o, hp, hc⟩
  · exfalso
    have hl := h5 kc (List.mem_of_getElem? hkc)
    have := flatten_get (css := css) (s := 6) h5 (i := i) (j := 0) (by decide)
    rw [h6, hkc] at this
    have h0 : kc[0]? = some (kc[0]'(by omega)) := List.getElem?_eq_getElem _
    simp [h0] at this
  · refine ⟨kc, b, o, hx.ext e, hp, fun j v hv => cell_ext (hc _ _ ?_) e⟩
    have hj : j < 6 := by rw [← h5 kc (List.mem_of_getElem? hkc)]; exact (List.getElem?_eq_some_iff.1 hv).1
    rw [flatten_get h5 hj, hkc]
    exact hv

/-! ### Which are well formed -/
def manyOf (op : Int) : Int := if op = 1 ∨ op = 2 then 0 else if op = 8 ∨ op = 14 ∨ op = 15 ∨ op = 16 then 1 else if 3 ≤ op ∧ op ≤ 13 then 2 else -1
def NodeOk (x : Ex) : Prop := (x.kids.length : Int) = manyOf x.op ∧ (x.op = 1 ∨ x.name = ⟨#[]⟩) ∧ (x.op = 2 ∨ x.v = nullV) ∧ x.v.Ok
instance (x : Ex) : Decidable (NodeOk x) := by unfold NodeOk; exact inferInstance
mutual
def nodesT : Ex → List Ex
  | .mk o n v ks => .mk o n v ks :: nodesTs ks
def nodesTs : List Ex → List Ex
  | [] => []
  | k :: r => nodesT k ++ nodesTs r
end
mutual
def depthT : Ex → Nat
  | .mk _ _ _ ks => 1 + depthTs ks
def depthTs : List Ex → Nat
  | [] => 0
  | k :: r => max (depthT k) (depthTs r)
end
def FormedP (x : Ex) : Prop := (∀ y ∈ nodesT x, NodeOk y) ∧ depthT x ≤ 40 ∧ (nodesT x).length ≤ 400
instance (x : Ex) : Decidable (FormedP x) := by unfold FormedP; exact inferInstance
def formedB (x : Ex) : Bool := decide (FormedP x)

mutual
/-- The program's walk: no deeper than may be. -/
def walkT : Ex → Nat → List (Nat × Ex)
  | .mk o n v ks, d => (d, .mk o n v ks) :: (if 40 < d then [] else walkTs ks (d + 1))
def walkTs : List Ex → Nat → List (Nat × Ex)
  | [], _ => []
  | k :: r, d => walkT k d ++ walkTs r d
end
def goW : List (Nat × Ex) → Nat → Bool
  | [], _ => true
  | p :: r, m => if 40 < p.1 ∨ 400 < m + 1 ∨ ¬ NodeOk p.2 then false else goW r (m + 1)
theorem goW_iff : ∀ (l : List (Nat × Ex)) (m : Nat), m ≤ 400 → (goW l m = true ↔ (∀ p ∈ l, p.1 ≤ 40 ∧ NodeOk p.2) ∧ m + l.length ≤ 400)
  | [], m, hm => by simp [goW, hm]
  | p :: r, m, hm => by
    unfold goW
    split
    · rename_i h
      constructor
      · intro h'; cases h'
      · rintro ⟨h1, h2⟩
        have := h1 p (by simp)
        simp only [List.length_cons] at h2
        rcases h with h | h | h
        · omega
        · omega
        · exact absurd this.2 h
    · rename_i h
      have h1 : p.1 ≤ 40 := by omega
      have h2 : m + 1 ≤ 400 := by omega
      have h3 : NodeOk p.2 := Decidable.not_not.1 fun hn => h (.inr (.inr hn))
      rw [goW_iff r (m + 1) h2]
      simp only [List.length_cons, List.mem_cons, forall_eq_or_imp]
      constructor
      · rintro ⟨a, b⟩; exact ⟨⟨⟨h1, h3⟩, a⟩, by omega⟩
      · rintro ⟨⟨_, a⟩, b⟩; exact ⟨a, by omega⟩
mutual
theorem walkT_spec : ∀ (x : Ex) (d : Nat), ((∀ p ∈ walkT x d, p.1 ≤ 40) ↔ d + depthT x ≤ 41) ∧ (d + depthT x ≤ 41 → (walkT x d).map (·.2) = nodesT x)
  | .mk o n v ks, d => by
    have hk := walkTs_spec ks (d + 1)
    unfold walkT depthT nodesT
    by_cases hd : 40 < d
    · rw [if_pos hd]
      refine ⟨⟨fun h => ?_, fun h => ?_⟩, fun h => ?_⟩
      · have := h (d, .mk o n v ks) (by simp); simp at this; omega
      · omega
      · omega
    · rw [if_neg hd]
      refine ⟨⟨fun h => ?_, fun h => ?_⟩, fun h => ?_⟩
      · have := hk.1 fun p hp => h p (by simp [hp])
        omega
      · intro p hp
        rcases List.mem_cons.1 hp with rfl | hp
        · simp; omega
        · exact hk.2.1 (.inr (by omega)) p hp
      · rw [List.map_cons, hk.2.2 (.inr (by omega))]
theorem walkTs_spec : ∀ (xs : List Ex) (d : Nat), ((∀ p ∈ walkTs xs d, p.1 ≤ 40) → depthTs xs = 0 ∨ d + depthTs xs ≤ 41) ∧ ((depthTs xs = 0 ∨ d + depthTs xs ≤ 41) → ∀ p ∈ walkTs xs d, p.1 ≤ 40) ∧ ((depthTs xs = 0 ∨ d + depthTs xs ≤ 41) → (walkTs xs d).map (·.2) = nodesTs xs)
  | [], d => by simp [walkTs, depthTs, nodesTs]
  | k :: r, d => by
    have h1 := walkT_spec k d
    have h2 := walkTs_spec r d
    have hpos : 1 ≤ depthT k := by cases k; unfold depthT; omega
    unfold walkTs depthTs nodesTs
    refine ⟨fun h => ?_, fun h => ?_, fun h => ?_⟩
    · have a := h1.1.1 fun p hp => h p (List.mem_append_left _ hp)
      have b := h2.1 fun p hp => h p (List.mem_append_right _ hp)
      omega
    · intro p hp
      rcases List.mem_append.1 hp with hp | hp
      · exact h1.1.2 (by omega) p hp
      · exact h2.2.1 (by omega) p hp
    · rw [List.map_append, h1.2 (by omega), h2.2.2 (by omega)]
end
theorem goW_formed (x : Ex) : goW (walkT x 1) 0 = formedB x := by
  obtain ⟨h1, h2⟩ := walkT_spec x 1
  unfold formedB
  rw [Bool.eq_iff_iff, goW_iff _ _ (by omega), decide_eq_true_eq]
  unfold FormedP
  constructor
  · rintro ⟨a, b⟩
    have hd := h1.1 fun p hp => (a p hp).1
    have hm := h2 hd
    refine ⟨fun y hy => ?_, by omega, ?_⟩
    · rw [← hm] at hy
      obtain ⟨p, hp, rfl⟩ := List.mem_map.1 hy
      exact (a p hp).2
    · rw [← hm, List.length_map]; omega
  · rintro ⟨a, b, c⟩
    have hd : 1 + depthT x ≤ 41 := by omega
    have hm := h2 hd
    refine ⟨fun p hp => ⟨h1.2 hd p hp, a _ ?_⟩, ?_⟩
    · rw [← hm]; exact List.mem_map.2 ⟨p, hp, rfl⟩
    · rw [← hm, List.length_map] at c; omega

mutual
/-- The document's look: how many nodes are left; below 0: no. -/
def refF : Ex → Int → Int → Int
  | .mk o n v ks, d, left => if d < 1 ∨ left < 1 ∨ ¬ NodeOk (.mk o n v ks) then -1 else refFs ks (d - 1) (left - 1)
def refFs : List Ex → Int → Int → Int
  | [], _, left => left
  | k :: r, d, left => if left < 0 then left else refFs r d (refF k d left)
end
mutual
theorem refF_spec : ∀ (x : Ex) (d left : Int), (0 ≤ refF x d left ↔ (∀ y ∈ nodesT x, NodeOk y) ∧ (depthT x : Int) ≤ d ∧ ((nodesT x).length : Int) ≤ left) ∧ (0 ≤ refF x d left → refF x d left = left - (nodesT x).length)
  | .mk o n v ks, d, left => by
    have hk := refFs_spec ks (d - 1) (left - 1)
    unfold refF depthT nodesT
    simp only [List.length_cons, List.mem_cons, forall_eq_or_imp]
    split
    · rename_i h
      refine ⟨⟨fun h' => absurd h' (by decide), ?_⟩, fun h' => absurd h' (by decide)⟩
      rintro ⟨⟨a, _⟩, b, c⟩
      exfalso
      rcases h with h | h | h
      · omega
      · omega
      · exact h a
    · rename_i h
      have h1 : 1 ≤ d := by omega
      have h2 : 1 ≤ left := by omega
      have h3 : NodeOk (.mk o n v ks) := Decidable.not_not.1 fun hn => h (.inr (.inr hn))
      refine ⟨?_, fun h' => by rw [hk.2 h']; omega⟩
      rw [hk.1 (by omega)]
      constructor
      · rintro ⟨a, b, c⟩; exact ⟨⟨h3, a⟩, by omega, by omega⟩
      · rintro ⟨⟨_, a⟩, b, c⟩; exact ⟨a, by omega, by omega⟩
theorem refFs_spec : ∀ (xs : List Ex) (d left : Int), (0 ≤ left → (0 ≤ refFs xs d left ↔ (∀ y ∈ nodesTs xs, NodeOk y) ∧ (depthTs xs : Int) ≤ max d 0 ∧ ((nodesTs xs).length : Int) ≤ left)) ∧ (0 ≤ refFs xs d left → refFs xs d left = left - (nodesTs xs).length)
  | [], d, left => by
    unfold refFs nodesTs depthTs
    refine ⟨fun h => ⟨fun _ => ⟨by simp, by omega, by simpa using h⟩, fun _ => h⟩, fun _ => by simp⟩
  | k :: r, d, left => by
    have h1 := refF_spec k d left
    have h2 := refFs_spec r d (refF k d left)
    have hpos : 1 ≤ depthT k := by cases k; unfold depthT; omega
    have neg : refF k d left < 0 → refFs r d (refF k d left) < 0 := fun hn => by
      cases r with
      | nil => unfold refFs; exact hn
      | cons a b => unfold refFs; rw [if_pos hn]; exact hn
    unfold refFs nodesTs depthTs
    simp only [List.length_append, List.mem_append]
    refine ⟨fun hl => ?_, fun h => ?_⟩
    · rw [if_neg (by omega)]
      constructor
      · intro h
        have hk : 0 ≤ refF k d left := by
          rcases Int.lt_or_le (refF k d left) 0 with hlt | hge
          · have := neg hlt; omega
          · exact hge
        obtain ⟨a1, a2, a3⟩ := h1.1.1 hk
        obtain ⟨b1, b2, b3⟩ := (h2.1 hk).1 h
        have e := h1.2 hk
        refine ⟨fun y hy => ?_, by omega, by omega⟩
        rcases hy with hy | hy
        · exact a1 y hy
        · exact b1 y hy
      · rintro ⟨a, b, c⟩
        have hk : 0 ≤ refF k d left := h1.1.2 ⟨fun y hy => a y (.inl hy), by omega, by omega⟩
        have e := h1.2 hk
        exact (h2.1 hk).2 ⟨fun y hy => a y (.inr hy), by omega, by omega⟩
    · split at h
      · omega
      · rename_i hge
        rw [if_neg hge]
        have hk : 0 ≤ refF k d left := by
          rcases Int.lt_or_le (refF k d left) 0 with hlt | hge
          · have := neg hlt; omega
          · exact hge
        have e := h1.2 hk
        rw [h2.2 h]
        omega
end
theorem refF_formed (x : Ex) : decide (0 ≤ refF x 40 400) = formedB x := by
  unfold formedB
  rw [decide_eq_decide, (refF_spec x 40 400).1]
  unfold FormedP
  constructor
  · rintro ⟨a, b, c⟩; exact ⟨a, by omega, by omega⟩
  · rintro ⟨a, b, c⟩; exact ⟨a, by omega, by omega⟩
/-- An expression's cells. -/
theorem ExAt.six {w : World} {x : Ex} {cs : List Value} (h : ExAt w x cs) : ∃ (p : Option Addr) (n c : Nat), cs = [.int .i64 x.op, .string x.name, .int .i64 x.v.k, .int .i64 x.v.n, .string x.v.s, .slice p n c] ∧ x.kids.length = n ∧ n ≤ 9223372036854775807 ∧
    ∀ {w' : World}, Ext w w' → ∀ {i : Nat} {k : Ex}, x.kids[i]? = some k → ∃ kc b o, ExAt w k kc ∧ p = some ⟨b, o, none⟩ ∧ ∀ (j : Nat) v, kc[j]? = some v → w'.cell? ⟨b, o + i * 6 + j, none⟩ = some v := by
  obtain ⟨p, n, c, h1, h2, h3, h4, h5⟩ := h.cells
  refine ⟨p, n, c, h1, h3, Nat.le_trans h2.1 h2.2, fun {w'} e {i} {k} hk => ?_⟩
  obtain ⟨kc, b, o, a1, a2, a3⟩ := h5 Ext.rfl hk
  exact ⟨kc, b, o, a1, a2, fun j v hv => by rw [Nat.add_assoc]; exact cell_ext (a3 j v hv) e⟩

theorem depthTs_get : ∀ {l : List Ex} {i : Nat} {k : Ex}, l[i]? = some k → depthT k ≤ depthTs l
  | [], i, k, h => by simp at h
  | x :: r, i, k, h => by
    unfold depthTs
    cases i with
    | zero => cases h; omega
    | succ i => have := depthTs_get (l := r) (i := i) (by simpa using h); omega
theorem walkTs_take {l : List Ex} {i : Nat} {k : Ex} (d : Nat) (h : l[i]? = some k) : walkTs (l.take (i + 1)) d = walkTs (l.take i) d ++ walkT k d := by
  induction l generalizing i with
  | nil => simp at h
  | cons x r ih =>
    cases i with
    | zero => cases h; simp [walkTs]
    | succ i => simp [walkTs, ih (i := i) (by simpa using h)]
theorem walkTs_pre {l : List Ex} (i : Nat) (d : Nat) : ∃ r, walkTs l d = walkTs (l.take i) d ++ r := by
  induction l generalizing i with
  | nil => exact ⟨[], by simp [walkTs]⟩
  | cons x r ih =>
    cases i with
    | zero => exact ⟨walkTs (x :: r) d, by simp [walkTs]⟩
    | succ i => obtain ⟨q, hq⟩ := ih i; exact ⟨q, by simp [walkTs, hq]⟩
theorem walkTs_at {l : List Ex} {i : Nat} {k : Ex} {d j : Nat} {p : Nat × Ex} (h : l[i]? = some k) (hp : (walkT k d)[j]? = some p) : (walkTs l d)[(walkTs (l.take i) d).length + j]? = some p := by
  obtain ⟨r, hr⟩ := walkTs_pre (l := l) (i + 1) d
  rw [hr, walkTs_take d h, List.append_assoc, List.getElem?_append_right (by omega), Nat.add_sub_cancel_left, List.getElem?_append_left (List.getElem?_eq_some_iff.1 hp).1, hp]


/-! ### The table of shapes -/
def wantOf (op : Int) : Int := if 3 ≤ op ∧ op ≤ 8 then 1 else if 12 ≤ op ∧ op ≤ 14 then 2 else if op = 16 then 3 else 0
def kindOf (op : Int) : Int := if 3 ≤ op ∧ op ≤ 8 ∨ op = 16 then 1 else if 9 ≤ op ∧ op ≤ 15 then 2 else 0
def shapeC (i : Nat) : List Value := [.int .i64 (manyOf i), .int .i64 (wantOf i), .int .i64 (kindOf i)]
def shapesA : Array Value := ((List.range 17).flatMap shapeC).toArray
theorem shapes_at {i : Nat} (h : i < 17) : shapesA[i * 3]? = some (.int .i64 (manyOf i)) ∧ shapesA[i * 3 + 1]? = some (.int .i64 (wantOf i)) ∧ shapesA[i * 3 + 2]? = some (.int .i64 (kindOf i)) := by
  have hi : (List.range 17)[i]? = some i := List.getElem?_range h
  have hs : ∀ x, (shapeC x).length = 3 := fun x => rfl
  have key : ∀ j : Nat, j < 3 → shapesA[i * 3 + j]? = (shapeC i)[j]? := fun j hj => by
    have := flatMap_get hs hi hj
    unfold shapesA
    rw [List.getElem?_toArray]; exact this
  exact ⟨key 0 (by decide), key 1 (by decide), key 2 (by decide)⟩
theorem many_range {op : Int} (h : 0 ≤ manyOf op) : 1 ≤ op ∧ op ≤ 16 := by
  unfold manyOf at h
  split at h
  · omega
  · split at h
    · omega
    · split at h <;> omega
end Go.Vc
