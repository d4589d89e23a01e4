/- Schemas: names, columns, rows that fit. Plain Lean, no program. -/
import Derived.Test.YtdephmdfdgclpaaDoorVl
import Derived.Test.YtdephmdfdgclpaaDoorMp
namespace Go.Vc
open Go Go.RowKit

/-! ### Names -/
def letterB (c : UInt8) : Bool := decide (97 ≤ c.toNat ∧ c.toNat ≤ 122)
def otherB (c : UInt8) : Bool := letterB c || decide (48 ≤ c.toNat ∧ c.toNat ≤ 57) || decide (c.toNat = 95)
def isNameL : List UInt8 → Bool
  | [] => false
  | c :: r => letterB c && r.all otherB && decide ((c :: r).length ≤ 24)
def isName (s : ByteArray) : Bool := isNameL (tB s)

/-! ### Columns -/
structure Col where
  name : ByteArray
  kind : Int
  null : Bool
theorem Col.ext' {a b : Col} : a = b ↔ a.name = b.name ∧ a.kind = b.kind ∧ a.null = b.null := by cases a; cases b; simp
instance : DecidableEq Col := fun _ _ => decidable_of_iff _ Col.ext'.symm
def Col.cs (c : Col) : List Value := [.string c.name, .int .i64 c.kind, .bool c.null]
def Col.agg (x : Col) : Value := .agg #[.string x.name, .int .i64 x.kind, .bool x.null]
theorem Col.cs_length (c : Col) : c.cs.length = 3 := rfl
theorem Col.cs_one (v : Col) : ∀ u ∈ v.cs, u.oneCell' = true := by
  intro u hu
  simp only [Col.cs, List.mem_cons, List.not_mem_nil, or_false] at hu
  rcases hu with rfl | rfl | rfl <;> rfl
abbrev Cols := Ls Col.cs
theorem Ls.col {w : World} {p : Option Addr} {n c : Nat} {l : List Col} (h : Cols w p n c l) {i : Nat} {x : Col} (hi : l[i]? = some x) :
    ∃ b o, p = some ⟨b, o, none⟩ ∧ w.cell? ⟨b, o + i * 3, none⟩ = some (.string x.name) ∧ w.cell? ⟨b, o + i * 3 + 1, none⟩ = some (.int .i64 x.kind) ∧ w.cell? ⟨b, o + i * 3 + 2, none⟩ = some (.bool x.null) := by
  obtain ⟨b, o, hp, hc⟩ := h.lies.things Col.cs_length (by decide) hi
  exact ⟨b, o, hp, by have := hc 0 _ rfl; simpa [Nat.add_assoc] using this, by have := hc 1 _ rfl; rwa [← Nat.add_assoc] at this, by have := hc 2 _ rfl; rwa [← Nat.add_assoc] at this⟩

/-- One column, after those of the names 'met'. -/
def colOk (met : List ByteArray) (c : Col) : Bool := isName c.name && !(met.contains c.name) && decide (1 ≤ c.kind ∧ c.kind ≤ 3)
def colsOk : List ByteArray → List Col → Bool
  | _, [] => true
  | met, c :: r => colOk met c && colsOk (met ++ [c.name]) r
def rightC (cols : List Col) : Bool := decide (1 ≤ cols.length ∧ cols.length ≤ 16) && colsOk [] cols
/-- Where a column stands, or -1. -/
def findC : List Col → ByteArray → Int
  | [], _ => -1
  | c :: r, s => if c.name = s then 0 else if findC r s < 0 then -1 else findC r s + 1
theorem findC_range : ∀ (l : List Col) (s : ByteArray), -1 ≤ findC l s ∧ findC l s < (l.length : Int)
  | [], _ => by simp [findC]
  | c :: r, s => by
    have := findC_range r s
    unfold findC
    simp only [List.length_cons]
    split
    · omega
    · split <;> omega
/-- The first place that has the name. -/
theorem findC_at {l : List Col} {s : ByteArray} {k : Nat} {x : Col} (hx : l[k]? = some x) (hn : x.name = s) (hb : ∀ (j : Nat) y, j < k → l[j]? = some y → y.name ≠ s) : findC l s = (k : Int) := by
  induction l generalizing k with
  | nil => simp at hx
  | cons c r ih =>
    cases k with
    | zero => cases hx; unfold findC; rw [if_pos hn]; rfl
    | succ k =>
      have h0 := hb 0 c (by omega) rfl
      have := ih (k := k) (by simpa using hx) fun j y hj hy => hb (j + 1) y (by omega) (by simpa using hy)
      unfold findC
      rw [if_neg h0, this, if_neg (by omega)]
      omega
theorem findC_none {l : List Col} {s : ByteArray} (hb : ∀ x ∈ l, x.name ≠ s) : findC l s = -1 := by
  induction l with
  | nil => rfl
  | cons c r ih =>
    unfold findC
    rw [if_neg (hb c (by simp)), ih fun x hx => hb x (by simp [hx])]
    rfl
theorem findC_get {l : List Col} {s : ByteArray} (h : 0 ≤ findC l s) : ∃ x, l[(findC l s).toNat]? = some x ∧ x.name = s := by
  induction l with
  | nil => simp [findC] at h
  | cons c r ih =>
    unfold findC at h ⊢
    split
    · exact ⟨c, rfl, ‹_›⟩
    · rename_i hne
      rw [if_neg hne] at h
      split at h
      · omega
      · rename_i hge
        rw [if_neg hge]
        obtain ⟨x, hx, hn⟩ := ih (by omega)
        exact ⟨x, by rw [show (findC r s + 1).toNat = (findC r s).toNat + 1 by omega]; simpa using hx, hn⟩

theorem colsOk_append (met : List ByteArray) (a b : List Col) : colsOk met (a ++ b) = (colsOk met a && colsOk (met ++ a.map Col.name) b) := by
  induction a generalizing met with
  | nil => simp [colsOk]
  | cons c a ih => simp [colsOk, ih, Bool.and_assoc]
/-- The document's look at one column. -/
def colRef (cols : List Col) (i : Nat) (c : Col) : Bool := isName c.name && decide (findC cols c.name = (i : Int)) && decide (1 ≤ c.kind ∧ c.kind ≤ 3)
theorem colRef_eq {cols : List Col} {i : Nat} {c : Col} (hc : cols[i]? = some c) : colRef cols i c = colOk ((cols.take i).map Col.name) c := by
  unfold colRef colOk
  congr 2
  rw [Bool.eq_iff_iff, decide_eq_true_eq, Bool.not_eq_true', ← Bool.not_eq_true, List.contains_iff_mem]
  constructor
  · intro h hm
    obtain ⟨y, hy, hyn⟩ := List.mem_map.1 hm
    obtain ⟨j, hj⟩ := List.mem_iff_getElem?.1 hy
    rw [List.getElem?_take] at hj
    split at hj
    · rename_i hji
      -- the first place with the name is before i
      have key : ∀ (l : List Col) (j : Nat) (y : Col), l[j]? = some y → y.name = c.name → findC l c.name ≤ (j : Int) := by
        intro l
        induction l with
        | nil => intro j y h; simp at h
        | cons d r ih =>
          intro j y hj hyn
          unfold findC
          cases j with
          | zero => cases hj; rw [if_pos hyn]; simp
          | succ j =>
            have := ih j y (by simpa using hj) hyn
            split
            · omega
            · split <;> omega
      have := key cols j y hj hyn
      omega
    · cases hj
  · intro h
    refine findC_at hc rfl fun j y hj hy hyn => h ?_
    exact List.mem_map.2 ⟨y, List.mem_of_getElem? (i := j) (by rw [List.getElem?_take, if_pos hj]; exact hy), hyn⟩

/-! ### Rows that fit -/
def valFits (c : Col) (v : Val) : Bool := v.right && (decide (v.k = c.kind) || (c.null && decide (v.k = 0)))
def fitsL : List Col → List Val → Bool
  | [], [] => true
  | c :: cs, v :: vs => valFits c v && fitsL cs vs
  | _, _ => false
def fitsC (cols : List Col) (row : List Val) : Bool := rightC cols && fitsL cols row
theorem fitsL_length : ∀ {a : List Col} {b : List Val}, fitsL a b = true → a.length = b.length
  | [], [], _ => rfl
  | _ :: _, _ :: _, h => by
    unfold fitsL at h
    rw [Bool.and_eq_true] at h
    simp [fitsL_length h.2]
  | [], _ :: _, h => by cases h
  | _ :: _, [], h => by cases h
theorem fitsL_drop {a : List Col} {b : List Val} {k : Nat} {c : Col} {v : Val} (hc : a[k]? = some c) (hv : b[k]? = some v) : fitsL (a.drop k) (b.drop k) = (valFits c v && fitsL (a.drop (k + 1)) (b.drop (k + 1))) := by
  obtain ⟨h1, rfl⟩ := List.getElem?_eq_some_iff.1 hc
  obtain ⟨h2, rfl⟩ := List.getElem?_eq_some_iff.1 hv
  rw [List.drop_eq_getElem_cons h1, List.drop_eq_getElem_cons h2]
  rfl
theorem fitsL_get {a : List Col} {b : List Val} (h : fitsL a b = true) {k : Nat} {c : Col} {v : Val} (hc : a[k]? = some c) (hv : b[k]? = some v) : valFits c v = true := by
  induction a generalizing b k with
  | nil => simp at hc
  | cons x a ih =>
    cases b with
    | nil => simp at hv
    | cons y b =>
      unfold fitsL at h
      rw [Bool.and_eq_true] at h
      cases k with
      | zero => cases hc; cases hv; exact h.1
      | succ k => exact ih h.2 (by simpa using hc) (by simpa using hv)
end Go.Vc
