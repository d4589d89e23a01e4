/- Big arrays in memory, told as one. -/
import Derived.Test.YtdephmdfdgclpaaDoorFrame
namespace Go.Vc
open Go Go.RowKit

theorem setA_get : ∀ (vs : List Value) (cs : Array Value) (o i : Nat), (setA cs o vs)[i]? = if o ≤ i ∧ i < o + vs.length ∧ i < cs.size then vs[i - o]? else cs[i]?
  | [], cs, o, i => by unfold setA; simp; omega
  | v :: vs, cs, o, i => by
    unfold setA
    rw [setA_get vs, Array.getElem?_setIfInBounds, Array.size_setIfInBounds]
    simp only [List.length_cons]
    by_cases h : o = i
    · subst h
      rw [if_neg (by omega), if_pos rfl]
      split
      · rw [if_pos (by omega)]; simp
      · rw [if_neg (by omega), Array.getElem?_eq_none (by omega)]
    · rw [if_neg h]
      by_cases h2 : o ≤ i ∧ i < o + (vs.length + 1) ∧ i < cs.size
      · rw [if_pos (by omega), if_pos h2, show i - o = (i - (o + 1)) + 1 by omega, List.getElem?_cons_succ]
      · rw [if_neg (by omega), if_neg h2]
theorem setA_size : ∀ (vs : List Value) (cs : Array Value) (o : Nat), (setA cs o vs).size = cs.size
  | [], _, _ => rfl
  | v :: vs, cs, o => by unfold setA; rw [setA_size vs]; simp
/-- All cells are stored anew. -/
theorem setA_all {cs vs : Array Value} (h : vs.size = cs.size) : setA cs 0 vs.toList = vs := by
  apply Array.ext_getElem?
  intro i
  rw [setA_get]
  by_cases hi : i < cs.size
  · rw [if_pos (by simp; omega)]; simp
  · rw [if_neg (by omega), Array.getElem?_eq_none (by omega), Array.getElem?_eq_none (by omega)]
section
variable {w w' w0 W W' : World} {b : Nat} {t : TypeId} {cs vs : Array Value} {fs : List (Nat × Obj)} {ms : List Row}
theorem Blk.cellsAt (h : Blk w b t cs) : CellsAt w b 0 cs := fun k v hk => by rw [Nat.zero_add, h.cell]; exact hk
theorem Blk.canPut (h : Blk w b t cs) (hs : vs.size = cs.size) (h1 : ∀ (k : Nat) v, vs[k]? = some v → v.oneCell' = true) : CanPut w b 0 vs := fun k v hk => by
  have hk' := (Array.getElem?_eq_some_iff.1 hk).1
  exact ⟨h1 k v hk, ⟨cs[k]'(by omega), by rw [Nat.zero_add, h.cell]; exact Array.getElem?_eq_getElem _⟩, h.frozen _⟩
theorem Hold.putAll (h : Hold w0 W fs ms) (i : Nat) (hi : fs[i]? = some (b, .cells cs t (0, 0))) (hs : vs.size = cs.size) (e : Put W b 0 vs.toList W') : Hold w0 W' (fs.set i (b, .cells vs t (0, 0))) ms := by
  have := h.put i hi e
  rwa [setA_all hs] at this
end

theorem anyDrop {α : Type} {f : α → Bool} {l : List α} {k : Nat} {x : α} (h : l[k]? = some x) : (l.drop k).any f = (f x || (l.drop (k + 1)).any f) := by
  obtain ⟨hk, rfl⟩ := List.getElem?_eq_some_iff.1 h
  rw [List.drop_eq_getElem_cons hk]; rfl
theorem allDrop {α : Type} {f : α → Bool} {l : List α} {k : Nat} {x : α} (h : l[k]? = some x) : (l.drop k).all f = (f x && (l.drop (k + 1)).all f) := by
  obtain ⟨hk, rfl⟩ := List.getElem?_eq_some_iff.1 h
  rw [List.drop_eq_getElem_cons hk]; rfl
end Go.Vc
