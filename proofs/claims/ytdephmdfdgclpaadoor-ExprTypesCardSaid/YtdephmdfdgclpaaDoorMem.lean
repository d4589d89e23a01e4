/- What lies in memory, in the words of the contracts: values in a row, blocks and rows of one's own, what each step leaves as it was. -/
import Derived.Test.YtdephmdfdgclpaaDoorVcF
import Derived.Lib.AppendStr
import Derived.Deep.DeepAppendWide
namespace Go.Vc
open Go Go.RowKit

/-! ### Steps -/
/-- All that was there is as it was. -/
def Ext (w w' : World) : Prop := Below w.heap.size w w'

theorem Ext.below {w w' : World} (h : Ext w w') : Below w.heap.size w w' := h
theorem Ext.size {w w' : World} (h : Ext w w') : w.heap.size ≤ w'.heap.size := h.below.size
theorem Ext.block {w w' : World} (h : Ext w w') (k : Nat) (hk : k < w.heap.size) : w'.heap[k]? = w.heap[k]? := h.below.block k hk
theorem Ext.rfl {w : World} : Ext w w := Below.refl _ _
theorem Ext.trans {a b c : World} (h : Ext a b) (k : Ext b c) : Ext a c := h.below.trans (k.below.mono h.size)
theorem Ext.same {w w' : World} (h : Ext w w') : Same w w' := h.block
theorem _root_.Go.RowKit.Below.ext {B : Nat} {a w w' : World} (h : Below B a w) (k : Ext w w') (hB : B ≤ w.heap.size) : Below B a w' := h.trans (k.below.mono hB)
theorem _root_.Go.RowKit.Below.cast {B B' : Nat} {a w : World} (h : Below B a w) (e : B = B') : Below B' a w := e ▸ h

/-- All is as it was but for block b. -/
structure But (b : Nat) (w w' : World) : Prop where
  os : w'.os = w.os
  tape : w'.tape = w.tape
  output : w'.output = w.output
  size : w.heap.size ≤ w'.heap.size
  block : ∀ k, k < w.heap.size → k ≠ b → w'.heap[k]? = w.heap[k]?

theorem Ext.but {w w' : World} (h : Ext w w') (b : Nat) : But b w w' := ⟨h.below.os, h.below.tape, h.below.output, h.size, fun k hk _ => h.block k hk⟩
theorem But.trans {b : Nat} {x y z : World} (h : But b x y) (k : But b y z) : But b x z :=
  ⟨k.os.trans h.os, k.tape.trans h.tape, k.output.trans h.output, Nat.le_trans h.size k.size, fun i hi hne => (k.block i (Nat.lt_of_lt_of_le hi h.size) hne).trans (h.block i hi hne)⟩
theorem _root_.Go.RowKit.Below.but {B b : Nat} {a w w' : World} (h : Below B a w) (k : But b w w') (hb : B ≤ b) (hB : B ≤ w.heap.size) : Below B a w' :=
  h.trans ⟨k.os, k.tape, k.output, k.size, fun i hi => k.block i (by omega) (by omega)⟩

theorem New.ext {w w' : World} {o : Obj} {b : Nat} (h : New w o b w') : Ext w w' := by rw [h.2]; exact (Below.refl _ w).alloc (Nat.le_refl _) o
theorem New.size {w w' : World} {o : Obj} {b : Nat} (h : New w o b w') : b = w.heap.size ∧ w'.heap.size = w.heap.size + 1 := ⟨h.1, by rw [h.2]; simp⟩
theorem New.obj {w w' : World} {o : Obj} {b : Nat} (h : New w o b w') : w'.heap[b]? = some o := by rw [h.2, h.1]; exact World.alloc_heap_new w o
theorem Drew.ext {w w' : World} (h : Drew w w') : Ext w w' := by rw [h]; exact (Below.refl _ w).drew
theorem Drew.size {w w' : World} (h : Drew w w') : w'.heap.size = w.heap.size := by rw [h]; rfl
theorem drew_ext (w : World) : Ext w w.drew := (Below.refl _ w).drew

theorem setL_but : ∀ (vs : List Value) (b o j : Nat) (w : World), But b w (setL vs b o j w) ∧ (setL vs b o j w).heap.size = w.heap.size
  | [], _, _, _, w => ⟨⟨rfl, rfl, rfl, Nat.le_refl _, fun _ _ _ => rfl⟩, rfl⟩
  | v :: vs, b, o, j, w => by
    obtain ⟨h, hs⟩ := setL_but vs b o (j + 1) (w.setCell ⟨b, off o j, none⟩ v)
    have h1 : But b w (w.setCell ⟨b, off o j, none⟩ v) := ⟨rfl, rfl, rfl, by simp [World.setCell], fun k _ hne => Below.heap_setCell w _ v k hne⟩
    exact ⟨h1.trans h, by rw [setL, hs]; simp [World.setCell]⟩
theorem Put.but {w w' : World} {b o : Nat} {vs : List Value} (h : Put w b o vs w') : But b w w' := by rw [h]; exact (setL_but vs b o 0 w).1
theorem Put.size {w w' : World} {b o : Nat} {vs : List Value} (h : Put w b o vs w') : w'.heap.size = w.heap.size := by rw [h]; exact (setL_but vs b o 0 w).2
theorem grown_but {w w' : World} {b o n c : Nat} (h : w.grownBy w' (Value.slice (some ⟨b, o, none⟩) n c).ownBlock) : But b w w' := ⟨h.os, h.tape, h.output, h.size, fun k hk hne => h.block k hk (by intro e; cases e; exact hne rfl)⟩
theorem grown_nil {w w' : World} {n c : Nat} (h : w.grownBy w' (Value.slice none n c).ownBlock) : Ext w w' := ⟨h.os, h.tape, h.output, h.size, fun k hk => h.block k hk (by intro e; cases e)⟩

theorem turn_but {r : Nat → Loop} {l k : Nat} {w : World} : But l w (turn r l k w) ∧ (turn r l k w).heap.size = w.heap.size :=
  ⟨⟨rfl, rfl, rfl, by simp [turn], fun i _ hne => World.putObj_heap_other hne⟩, by simp [turn]⟩
theorem Rec.lt {r : Nat → Loop} {l k : Nat} {w : World} (h : Rec r l k w) : l < w.heap.size := (Array.getElem?_eq_some_iff.1 h).1
theorem Rec.turn {r : Nat → Loop} {l k : Nat} {w : World} (h : Rec r l k w) (k' : Nat) : Rec r l k' (turn r l k' w) := World.putObj_heap_same h.lt
theorem Rec.ext {r : Nat → Loop} {l k : Nat} {w w' : World} (h : Rec r l k w) (e : Ext w w') : Rec r l k w' := (e.block l h.lt).trans h
theorem Rec.but {r : Nat → Loop} {l k b : Nat} {w w' : World} (h : Rec r l k w) (e : But b w w') (hne : l ≠ b) : Rec r l k w' := (e.block l h.lt hne).trans h

theorem Began.ext {w w1 : World} {r : Nat → Loop} {d l : Nat} (h : Began w r d l w1) : Ext w w1 := by
  rw [h.2.2]; exact ((Below.refl _ w).alloc (Nat.le_refl _) _).alloc (by simp) _
theorem Began.sizes {w w1 : World} {r : Nat → Loop} {d l : Nat} (h : Began w r d l w1) : d = w.heap.size ∧ l = w.heap.size + 1 ∧ w1.heap.size = w.heap.size + 2 := ⟨h.1, h.2.1, by rw [h.2.2]; simp⟩
theorem Began.rec {w w1 : World} {r : Nat → Loop} {d l : Nat} (h : Began w r d l w1) : Rec r l 0 w1 := by
  unfold Rec
  rw [h.2.2, h.2.1]
  have := World.alloc_heap_new (w.alloc (.deferred (some []))) (.loop (r 0))
  rwa [World.size_alloc] at this
/-- The block for deferred calls is open. -/
def Dfr (d : Nat) (w : World) : Prop := w.heap[d]? = some (.deferred (some []))
theorem Began.dfr {w w1 : World} {r : Nat → Loop} {d l : Nat} (h : Began w r d l w1) : Dfr d w1 := by
  unfold Dfr
  rw [h.2.2, h.1]
  rw [Below.heap_alloc _ _ _ (by simp)]
  exact World.alloc_heap_new w _
theorem Dfr.lt {d : Nat} {w : World} (h : Dfr d w) : d < w.heap.size := (Array.getElem?_eq_some_iff.1 h).1
theorem Dfr.ext {d : Nat} {w w' : World} (h : Dfr d w) (e : Ext w w') : Dfr d w' := (e.block d h.lt).trans h
theorem Dfr.but {d b : Nat} {w w' : World} (h : Dfr d w) (e : But b w w') (hne : d ≠ b) : Dfr d w' := (e.block d h.lt hne).trans h
theorem shut_but {d : Nat} {w : World} : But d w (w.putObj d (.deferred none)) ∧ (w.putObj d (.deferred none)).heap.size = w.heap.size :=
  ⟨⟨rfl, rfl, rfl, by simp, fun i _ hne => World.putObj_heap_other hne⟩, by simp⟩

/-! ### Blocks -/
/-- Block b holds the cells cs, and none of them is frozen. -/
def Blk (w : World) (b : Nat) (t : TypeId) (cs : Array Value) : Prop := w.heap[b]? = some (.cells cs t (0, 0))

theorem Blk.new {w w' : World} {b : Nat} {t : TypeId} {cs : Array Value} (h : New w (.cells cs t) b w') : Blk w' b t cs := h.obj
theorem Blk.lt {w : World} {b : Nat} {t : TypeId} {cs : Array Value} (h : Blk w b t cs) : b < w.heap.size := (Array.getElem?_eq_some_iff.1 h).1
theorem Blk.ext {w w' : World} {b : Nat} {t : TypeId} {cs : Array Value} (h : Blk w b t cs) (e : Ext w w') : Blk w' b t cs := (e.block b h.lt).trans h
theorem Blk.but {w w' : World} {b b' : Nat} {t : TypeId} {cs : Array Value} (h : Blk w b t cs) (e : But b' w w') (hne : b ≠ b') : Blk w' b t cs := (e.block b h.lt hne).trans h
theorem Blk.cell {w : World} {b : Nat} {t : TypeId} {cs : Array Value} (h : Blk w b t cs) (i : Nat) : w.cell? ⟨b, i, none⟩ = cs[i]? := by
  unfold World.cell?
  rw [show w.heap[b]? = _ from h]
  simp
/-- The one cell of a box. -/
theorem Blk.one {w : World} {b : Nat} {t : TypeId} {v : Value} (h : Blk w b t #[v]) : w.cell? ⟨b, 0, none⟩ = some v := by rw [h.cell]; rfl
theorem Blk.frozen {w : World} {b : Nat} {t : TypeId} {cs : Array Value} (h : Blk w b t cs) (i : Nat) : w.frozen? ⟨b, i, none⟩ = false := by
  unfold World.frozen?
  rw [show w.heap[b]? = _ from h]
  simp
theorem Blk.set {w : World} {b : Nat} {t : TypeId} {cs : Array Value} (h : Blk w b t cs) (i : Nat) (v : Value) : Blk (w.setCell ⟨b, i, none⟩ v) b t (cs.setIfInBounds i v) := by
  unfold Blk World.setCell
  rw [Array.getElem?_modify, if_pos rfl, show w.heap[b]? = _ from h]
  simp
def setA : Array Value → Nat → List Value → Array Value
  | cs, _, [] => cs
  | cs, i, v :: vs => setA (cs.setIfInBounds i v) (i + 1) vs
theorem off_succ (o j : Nat) : off o (j + 1) = off o j + 1 := by cases j <;> rfl
theorem Blk.setL : ∀ (vs : List Value) {w : World} {b : Nat} {t : TypeId} {cs : Array Value} (o j : Nat), Blk w b t cs → Blk (setL vs b o j w) b t (setA cs (off o j) vs)
  | [], _, _, _, _, _, _, h => h
  | v :: vs, w, b, t, cs, o, j, h => by
    have := Blk.setL vs o (j + 1) (h.set (off o j) v)
    rw [off_succ] at this
    exact this
theorem Blk.put {w w' : World} {b : Nat} {t : TypeId} {cs : Array Value} {o : Nat} {vs : List Value} (h : Blk w b t cs) (p : Put w b o vs w') : Blk w' b t (setA cs o vs) := by
  rw [p]; exact Blk.setL vs o 0 h
theorem Blk.put1 {w w' : World} {b : Nat} {t : TypeId} {cs : Array Value} {o : Nat} {v : Value} (h : Blk w b t cs) (p : Put w b o [v] w') : Blk w' b t (cs.setIfInBounds o v) := h.put p
theorem Blk.box {w w' : World} {b : Nat} {t : TypeId} {u v : Value} (h : Blk w b t #[u]) (p : Put w b 0 [v] w') : Blk w' b t #[v] := h.put p
theorem Blk.ne_rec {w : World} {b l k : Nat} {t : TypeId} {cs : Array Value} {r : Nat → Loop} (h : Blk w b t cs) (k' : Rec r l k w) : b ≠ l := by
  intro e; subst e; unfold Blk at h; unfold Rec at k'; rw [h] at k'; cases k'
theorem Blk.ne_dfr {w : World} {b d : Nat} {t : TypeId} {cs : Array Value} (h : Blk w b t cs) (k' : Dfr d w) : b ≠ d := by
  intro e; subst e; unfold Blk at h; unfold Dfr at k'; rw [h] at k'; cases k'
theorem Rec.ne_dfr {w : World} {l k d : Nat} {r : Nat → Loop} (h : Rec r l k w) (k' : Dfr d w) : l ≠ d := by
  intro e; subst e; unfold Rec at h; unfold Dfr at k'; rw [h] at k'; cases k'

/-! ### Values in a row -/
/-- The values vs lie at p, one behind the other. -/
def At (w : World) (p : Option Addr) (vs : List Value) : Prop :=
  vs = [] ∨ ∃ b o, p = some ⟨b, o, none⟩ ∧ ∀ i v, vs[i]? = some v → w.cell? ⟨b, o + i, none⟩ = some v

/-- Bytes as values. -/
def vB (l : List UInt8) : List Value := l.map fun x => .int .u8 ((x.toNat : Nat) : Int)
/-- Integers of a kind as values. -/
def vI (k : IntKind) (l : List Int) : List Value := l.map fun x => .int k x

theorem vB_length (l : List UInt8) : (vB l).length = l.length := by simp [vB]
theorem vI_length (k : IntKind) (l : List Int) : (vI k l).length = l.length := by simp [vI]
theorem vB_append (a b : List UInt8) : vB (a ++ b) = vB a ++ vB b := by simp [vB]
theorem vI_append (k : IntKind) (a b : List Int) : vI k (a ++ b) = vI k a ++ vI k b := by simp [vI]
theorem vB_one {l : List UInt8} : ∀ u ∈ vB l, u.oneCell' = true := by intro u hu; obtain ⟨x, _, rfl⟩ := List.mem_map.1 hu; rfl
theorem vI_one {k : IntKind} {l : List Int} : ∀ u ∈ vI k l, u.oneCell' = true := by intro u hu; obtain ⟨x, _, rfl⟩ := List.mem_map.1 hu; rfl
theorem vB_take (l : List UInt8) (n : Nat) : (vB l).take n = vB (l.take n) := by simp [vB]
theorem vB_drop (l : List UInt8) (n : Nat) : (vB l).drop n = vB (l.drop n) := by simp [vB]
theorem vI_take (k : IntKind) (l : List Int) (n : Nat) : (vI k l).take n = vI k (l.take n) := by simp [vI]
theorem vI_drop (k : IntKind) (l : List Int) (n : Nat) : (vI k l).drop n = vI k (l.drop n) := by simp [vI]

theorem cell_lt {w : World} {b o : Nat} {v : Value} (h : w.cell? ⟨b, o, none⟩ = some v) : b < w.heap.size := World.block_lt_of_cell? w _ h
theorem cell_of {w w' : World} {b o : Nat} {v : Value} (h : w.cell? ⟨b, o, none⟩ = some v) (hb : w'.heap[b]? = w.heap[b]?) : w'.cell? ⟨b, o, none⟩ = some v := by
  rw [← h]; simp [World.cell?, hb]
theorem cell_ext {w w' : World} {b o : Nat} {v : Value} (h : w.cell? ⟨b, o, none⟩ = some v) (e : Ext w w') : w'.cell? ⟨b, o, none⟩ = some v := cell_of h (e.block b (cell_lt h))

theorem At.nil (w : World) (p : Option Addr) : At w p [] := .inl rfl

theorem At.get {w : World} {p : Option Addr} {vs : List Value} (h : At w p vs) {i : Nat} (hi : i < vs.length) : ∃ b o, p = some ⟨b, o, none⟩ ∧ w.cell? ⟨b, o + i, none⟩ = some vs[i] := by
  rcases h with rfl | ⟨b, o, hp, hc⟩
  · simp at hi
  · exact ⟨b, o, hp, hc i _ (List.getElem?_eq_getElem hi)⟩
theorem At.getB {w : World} {p : Option Addr} {l : List UInt8} (h : At w p (vB l)) {i : Nat} (hi : i < l.length) : ∃ b o, p = some ⟨b, o, none⟩ ∧ w.cell? ⟨b, o + i, none⟩ = some (.int .u8 ((l[i].toNat : Nat) : Int)) := by
  obtain ⟨b, o, hp, hc⟩ := h.get (i := i) (by rw [vB_length]; exact hi)
  exact ⟨b, o, hp, by simpa [vB] using hc⟩
theorem At.getI {w : World} {p : Option Addr} {k : IntKind} {l : List Int} (h : At w p (vI k l)) {i : Nat} (hi : i < l.length) : ∃ b o, p = some ⟨b, o, none⟩ ∧ w.cell? ⟨b, o + i, none⟩ = some (.int k l[i]) := by
  obtain ⟨b, o, hp, hc⟩ := h.get (i := i) (by rw [vI_length]; exact hi)
  exact ⟨b, o, hp, by simpa [vI] using hc⟩

/-- A world in which p's block lies as it lay. -/
theorem At.kept {w w' : World} {p : Option Addr} {vs : List Value} (h : At w p vs) (hk : ∀ b o, p = some ⟨b, o, none⟩ → b < w.heap.size → w'.heap[b]? = w.heap[b]?) : At w' p vs := by
  rcases h with rfl | ⟨b, o, rfl, hc⟩
  · exact .inl rfl
  · refine .inr ⟨b, o, rfl, fun i v hv => ?_⟩
    have := hc i v hv
    exact cell_of this (hk b o rfl (cell_lt this))
theorem At.ext {w w' : World} {p : Option Addr} {vs : List Value} (h : At w p vs) (e : Ext w w') : At w' p vs := h.kept fun b _ _ hlt => e.block b hlt
theorem At.but {w w' : World} {b : Nat} {p : Option Addr} {vs : List Value} (h : At w p vs) (e : But b w w') (hne : ∀ b' o, p = some ⟨b', o, none⟩ → b' ≠ b) : At w' p vs := h.kept fun b' o hp hlt => e.block b' hlt (hne b' o hp)
theorem Blk.at {w : World} {b : Nat} {t : TypeId} {cs : Array Value} (h : Blk w b t cs) : At w (some ⟨b, 0, none⟩) cs.toList :=
  .inr ⟨b, 0, rfl, fun i v hv => by rw [h.cell, Nat.zero_add]; simpa using hv⟩
theorem New.at {w w' : World} {b : Nat} {t : TypeId} {cs : Array Value} {f : Nat × Nat} (h : New w (.cells cs t f) b w') : At w' (some ⟨b, 0, none⟩) cs.toList := by
  refine .inr ⟨b, 0, rfl, fun i v hv => ?_⟩
  rw [cell_of_row w' b (0 + i) cs t f h.obj]
  simpa using hv

theorem At.take {w : World} {p : Option Addr} {vs : List Value} (h : At w p vs) (n : Nat) : At w p (vs.take n) := by
  rcases h with rfl | ⟨b, o, rfl, hc⟩
  · exact .inl (by simp)
  · refine .inr ⟨b, o, rfl, fun i v hv => hc i v ?_⟩
    rw [List.getElem?_take] at hv
    split at hv
    · exact hv
    · cases hv

/-- s[l:k], of cells of size s. -/
theorem At.slice {w : World} {p : Option Addr} {vs : List Value} (h : At w p vs) (l k m s : Nat) (hk : k ≤ m) : At w (slBase p l m s) ((vs.take (k * s)).drop (l * s)) := by
  unfold slBase
  split
  · rename_i hm
    subst hm
    refine .inl ?_
    rw [List.drop_eq_nil_iff, List.length_take]
    have := Nat.mul_le_mul_right s hk
    omega
  · rcases h with rfl | ⟨b, o, rfl, hc⟩
    · exact .inl (by simp)
    · refine .inr ⟨b, o + l * s, ?_, fun i v hv => ?_⟩
      · simp only [Option.map, Addr.add_lit]
      · rw [List.getElem?_drop, List.getElem?_take] at hv
        split at hv
        · have := hc _ _ hv; rwa [← Nat.add_assoc] at this
        · cases hv
theorem slBase_some {p : Option Addr} {l m s : Nat} {x : Addr} (h : slBase p l m s = some x) : ∃ y, p = some y ∧ x.block = y.block := by
  unfold slBase at h
  split at h
  · exact ⟨x, h, rfl⟩
  · cases p with
    | none => cases h
    | some y => cases h; exact ⟨y, rfl, by simp only [Addr.add]; split <;> rfl⟩
theorem slBase_none {p : Option Addr} {l m s : Nat} (h : slBase p l m s = none) : p = none := by
  unfold slBase at h
  split at h
  · exact h
  · cases p with
    | none => rfl
    | some y => cases h

theorem At.bytes {w : World} {p : Option Addr} {l : List UInt8} (h : At w p (vB l)) : BytesAt w p l.length l := by
  refine ⟨rfl, fun hpos => ?_⟩
  rcases h with h | ⟨b, o, rfl, hc⟩
  · have := congrArg List.length h; simp [vB] at this; subst this; simp at hpos
  · refine ⟨b, o, rfl, fun i hi => hc i _ ?_⟩
    simp [vB, hi]
theorem At.bytes' {w : World} {p : Option Addr} {l : List UInt8} {n : Nat} (h : At w p (vB l)) (hn : l.length = n) : BytesAt w p n l := hn ▸ h.bytes

/-! ### Rows of one's own -/
/-- The slice (p, n, c) of elements of s cells leads to a row of our own that holds vs, or is nil. -/
def Mine (B : Nat) (t : TypeId) (s : Nat) (w : World) (p : Option Addr) (n c : Nat) (vs : List Value) : Prop := w.ownsRow B t s (.slice p n c) n vs

section
variable {B : Nat} {t : TypeId} {s : Nat} {w w' : World} {p : Option Addr} {n c : Nat} {vs : List Value}
theorem Mine.nil (B : Nat) (t : TypeId) (s : Nat) (w : World) : Mine B t s w none 0 0 [] := World.ownsRow_nil w B t s
theorem Mine.len (h : Mine B t s w p n c vs) : vs.length = n * s := h.1
theorem Mine.at (h : Mine B t s w p n c vs) : At w p vs := by
  rcases h.2 with ⟨e, hn⟩ | ⟨g, cap, cur, e, hb, hg, h1, h2, h3, h4⟩
  · cases e; left; have := h.1; cases vs with | nil => rfl | cons _ _ => simp at this
  · cases e
    refine .inr ⟨g, 0, rfl, fun i v hv => ?_⟩
    rw [cell_of_row w g (0 + i) cur t (0, 0) hg, Nat.zero_add]
    rw [← h4, List.getElem?_take] at hv
    split at hv
    · simpa using hv
    · cases hv
theorem Mine.ge (h : Mine B t s w p n c vs) : ∀ b o, p = some ⟨b, o, none⟩ → B ≤ b ∧ b < w.heap.size := by
  intro b o hp; subst hp; exact World.ownsRow.lt h b rfl
theorem Mine.shape (h : Mine B t s w p n c vs) : (p = none ∧ n = 0 ∧ c = 0 ∧ vs = []) ∨ ∃ b, p = some ⟨b, 0, none⟩ ∧ B ≤ b ∧ b < w.heap.size := by
  rcases h.2 with ⟨e, hn⟩ | ⟨g, cap, cur, e, hb, hg, _⟩
  · cases e; left; have := h.1; exact ⟨rfl, rfl, rfl, by cases vs with | nil => rfl | cons _ _ => simp at this⟩
  · cases e; exact .inr ⟨g, rfl, hb, (Array.getElem?_eq_some_iff.1 hg).1⟩
theorem Mine.kept (h : Mine B t s w p n c vs) (hk : ∀ b o, p = some ⟨b, o, none⟩ → b < w.heap.size → w'.heap[b]? = w.heap[b]?) : Mine B t s w' p n c vs := by
  refine ⟨h.1, ?_⟩
  rcases h.2 with hn | ⟨g, cap, cur, e, hb, hg, rest⟩
  · exact .inl hn
  · cases e
    exact .inr ⟨g, c, cur, rfl, hb, (hk g 0 rfl (Array.getElem?_eq_some_iff.1 hg).1).trans hg, rest⟩
theorem Mine.ext (h : Mine B t s w p n c vs) (e : Ext w w') : Mine B t s w' p n c vs := h.kept fun b _ _ hlt => e.block b hlt
theorem Mine.but {b : Nat} (h : Mine B t s w p n c vs) (e : But b w w') (hne : ∀ b' o, p = some ⟨b', o, none⟩ → b' ≠ b) : Mine B t s w' p n c vs := h.kept fun b' o hp hlt => e.block b' hlt (hne b' o hp)
theorem Mine.mono {B' : Nat} (h : Mine B t s w p n c vs) (hB : B' ≤ B) : Mine B' t s w p n c vs := by
  refine ⟨h.1, ?_⟩
  rcases h.2 with hn | ⟨g, cap, cur, e, hb, rest⟩
  · exact .inl hn
  · exact .inr ⟨g, cap, cur, e, by omega, rest⟩
theorem Mine.cap (h : Mine B t s w p n c vs) : n ≤ c ∧ c ≤ maxLen := by
  rcases h.2 with ⟨e, hn⟩ | ⟨g, cap, cur, e, hb, _, h1, h2, _⟩
  · cases e; simp [hn]
  · cases e; exact ⟨h1, h2⟩
theorem Mine.isNil (h : Mine B t s w p n c vs) (hp : p = none) : n = 0 ∧ c = 0 := by
  rcases h.2 with ⟨e, hn⟩ | ⟨g, cap, cur, e, _⟩
  · exact ⟨(Value.slice.inj e).2.1, (Value.slice.inj e).2.2⟩
  · subst hp; have := (Value.slice.inj e).1; cases this
/-- A row just made, of which nothing is in use. -/
theorem Mine.made {b : Nat} {cur : Array Value} {cap : Nat} (h : New w (.cells cur t) b w') (hB : B ≤ w.heap.size) (hm : cap ≤ maxLen) (hs : cur.size = cap * s) : Mine B t s w' (some ⟨b, 0, none⟩) 0 cap [] := by
  obtain ⟨rfl, rfl⟩ := h
  exact World.ownsRow_made w cur cap hB hm hs
/-- A row just laid, all of it in use. -/
theorem Mine.lit {b : Nat} {cur : Array Value} {cap : Nat} (h : New w (.cells cur t) b w') (hB : B ≤ w.heap.size) (hm : cap ≤ maxLen) (hs : cur.size = cap * s) : Mine B t s w' (some ⟨b, 0, none⟩) cap cap cur.toList := by
  obtain ⟨rfl, rfl⟩ := h
  exact World.ownsRow_lit w cur cap hB hm hs
theorem Mine.ne_rec {b o l k : Nat} {r : Nat → Loop} (h : Mine B t s w p n c vs) (hp : p = some ⟨b, o, none⟩) (k' : Rec r l k w) : b ≠ l := by
  rcases h.2 with ⟨e, hn⟩ | ⟨g, cap, cur, e, hb, hg, _⟩
  · subst hp; cases e
  · subst hp; cases e; intro e; subst e; unfold Rec at k'; rw [hg] at k'; cases k'
theorem Mine.ne_dfr {b o d : Nat} (h : Mine B t s w p n c vs) (hp : p = some ⟨b, o, none⟩) (k' : Dfr d w) : b ≠ d := by
  rcases h.2 with ⟨e, hn⟩ | ⟨g, cap, cur, e, hb, hg, _⟩
  · subst hp; cases e
  · subst hp; cases e; intro e; subst e; unfold Dfr at k'; rw [hg] at k'; cases k'
/-- The row's block by itself. -/
theorem Mine.blk (h : Mine B t s w p n c vs) (hn : 0 < n ∨ p ≠ none) : ∃ b cur, p = some ⟨b, 0, none⟩ ∧ B ≤ b ∧ Blk w b t cur ∧ cur.size = c * s ∧ cur.toList.take (n * s) = vs := by
  rcases h.2 with ⟨e, hn'⟩ | ⟨g, cap, cur, e, hb, hg, h1, h2, h3, h4⟩
  · cases e; rcases hn with hn | hn
    · omega
    · exact absurd rfl hn
  · cases e; exact ⟨g, cur, rfl, hb, hg, h3, h4⟩
/-- What was written into a row of one's own. -/
theorem setA_spec : ∀ (vs : List Value) (cs : Array Value) (o : Nat), (setA cs o vs).size = cs.size ∧ ∀ i, (setA cs o vs)[i]? = if o ≤ i ∧ i < o + vs.length ∧ i < cs.size then vs[i - o]? else cs[i]?
  | [], cs, o => ⟨rfl, fun i => by rw [if_neg (by simp; omega)]; rfl⟩
  | v :: vs, cs, o => by
    obtain ⟨h1, h2⟩ := setA_spec vs (cs.setIfInBounds o v) (o + 1)
    refine ⟨by simp only [setA, h1]; simp, fun i => ?_⟩
    simp only [setA, h2, Array.size_setIfInBounds, List.length_cons, Array.getElem?_setIfInBounds]
    by_cases ho : o = i
    · subst ho
      rw [if_neg (by omega)]
      by_cases hs : o < cs.size
      · rw [if_pos rfl, if_pos hs, if_pos (by omega)]; simp
      · rw [if_pos rfl, if_neg hs, if_neg (by omega)]; rw [Array.getElem?_eq_none (by omega)]
    · by_cases hc : o + 1 ≤ i ∧ i < o + 1 + vs.length ∧ i < cs.size
      · rw [if_pos hc, if_pos (by omega), show i - o = (i - (o + 1)) + 1 by omega]; simp
      · rw [if_neg hc, if_neg ho, if_neg (by omega)]
/-- A store into a row of one's own: element i becomes us. -/
theorem Mine.put {i : Nat} {us : List Value} (h : Mine B t s w p n c vs) (hi : i < n) (hu : us.length = s) :
    ∃ b, p = some ⟨b, 0, none⟩ ∧ B ≤ b ∧ b < w.heap.size ∧ (∀ j, j < s → (∃ u, w.cell? ⟨b, i * s + j, none⟩ = some u) ∧ w.frozen? ⟨b, i * s + j, none⟩ = false) ∧
      ∀ w', Put w b (i * s) us w' → Mine B t s w' p n c (vs.take (i * s) ++ us ++ vs.drop (i * s + s)) := by
  obtain ⟨b, cur, hp, hB, hblk, hsz, htk⟩ := h.blk (.inl (by omega))
  have hcap := h.cap
  have hlen := h.len
  have h1 : i * s + s ≤ n * s := by rw [← Nat.succ_mul]; exact Nat.mul_le_mul_right s hi
  have h2 : n * s ≤ c * s := Nat.mul_le_mul_right s hcap.1
  refine ⟨b, hp, hB, hblk.lt, fun j hj => ⟨?_, hblk.frozen _⟩, fun w' hput => ?_⟩
  · rw [hblk.cell]; exact ⟨cur[i * s + j]'(by omega), by simp⟩
  · have hb' := hblk.put hput
    obtain ⟨s1, s2⟩ := setA_spec us cur (i * s)
    refine ⟨by simp only [List.length_append, List.length_take, List.length_drop, hu]; omega, .inr ⟨b, c, _, by rw [hp], hB, hb', hcap.1, hcap.2, by rw [s1, hsz], ?_⟩⟩
    apply List.ext_getElem?
    intro k
    rw [List.getElem?_take]
    have hk2 : (setA cur (i * s) us).toList[k]? = (setA cur (i * s) us)[k]? := by simp
    rw [hk2, s2]
    have hvs : ∀ k, k < n * s → vs[k]? = cur[k]? := fun k hk => by rw [← htk, List.getElem?_take, if_pos hk]; simp
    by_cases hk : k < n * s
    · rw [if_pos hk]
      by_cases hc : i * s ≤ k ∧ k < i * s + us.length ∧ k < cur.size
      · rw [if_pos hc, List.append_assoc, List.getElem?_append_right (by simp; omega), List.getElem?_append_left (by simp; omega)]
        congr 1; simp; omega
      · rw [if_neg hc, ← hvs k hk]
        rcases Nat.lt_or_ge k (i * s) with hlt | hge
        · rw [List.append_assoc, List.getElem?_append_left (by simp; omega), List.getElem?_take, if_pos hlt]
        · rw [List.getElem?_append_right (by simp; omega), List.getElem?_drop]
          congr 1; simp; omega
    · rw [if_neg hk, List.getElem?_eq_none]
      simp only [List.length_append, List.length_take, List.length_drop, hu]; omega
end

/-! ### append -/
/-- What append leaves: a row of our own with the new values behind the old ones; no other block has turned. -/
theorem append_own {P : Program} {t ty u : TypeId} {z : Ty} {B s : Nat} {w : World} {p q : Option Addr} {n c m d : Nat} {xs news : List Value} (ht : P.underlying t = some (.slice u)) (hz : tyOf P u = some z)
    (h1 : z.ls.length = s) (h0 : 0 < s) (hown : Mine B u s w p n c xs) (hat : At w q news) (hm : news.length = m * s) (hq : q = none → m = 0 ∧ d = 0) (hone : ∀ x ∈ news, x.oneCell' = true) (hB : B ≤ w.heap.size)
    (hroom : ((n + m) + (n + m) / 4 + 192) * z.bytes ≤ 281474976710656) (hlen : n + m ≤ maxLen) :
    ∃ p' c' w', (Builtin.append_ #[t, t] ty #[.slice p n c, .slice q m d]).run P w = .ok (.slice p' (n + m) c') w' ∧ Mine B u s w' p' (n + m) c' (xs ++ news) ∧ w.grownBy w' (Value.slice p n c).ownBlock := by
  obtain ⟨i, d', hi, hzz, hd, hsz, hls, hag, hby⟩ := tyOf_spec hz
  have hsize : i.size = s := by rw [hsz]; have := h1; rw [hls, length_leavesOf] at this; simpa using this
  cases q with
  | none =>
    obtain ⟨rfl, rfl⟩ := hq rfl
    have hn : news = [] := by cases news with | nil => rfl | cons _ _ => simp at hm
    subst hn
    refine ⟨p, c, w, ?_, by simpa using hown, ⟨rfl, rfl, rfl, Nat.le_refl _, fun _ _ _ => rfl⟩⟩
    have hcap := hown.cap.1
    cases p with
    | none => simp [Builtin.append_, run_underlying ht, sizeOf, typeInfo, hi, Builtin.lenOf, hcap, Builtin.firstCells]
    | some a => simp [Builtin.append_, run_underlying ht, sizeOf, typeInfo, hi, Builtin.lenOf, hcap, Builtin.firstCells, storeCells]
  | some a =>
    have hnews : ∀ j x, news[j]? = some x → w.cell? (a.add j) = some x := by
      intro j x hx
      rcases hat with rfl | ⟨b, o, hp, hc⟩
      · simp at hx
      · cases hp; rw [Addr.add_lit]; exact hc j x hx
    obtain ⟨v', w', hrun, hown', hg, _⟩ := run_append_own_wide (P := P) w B t ty u i z.zero s z.bytes ht hi hzz hsize hby.symm (by rw [← hsz]; exact hsize) h0 (.slice p n c) n xs hown a m d news hm
      hnews hone hlen hroom hB
    rcases hown'.2 with ⟨rfl, hn0⟩ | ⟨g, cap, cur, rfl, rest⟩
    · exact ⟨none, 0, w', by rw [hrun, hn0], by rw [hn0] at hown' ⊢; exact hown', hg⟩
    · exact ⟨some ⟨g, 0, none⟩, cap, w', hrun, hown', hg⟩

/-- append(nil, make([]T, n)...): a row of our own that begins empty when it is cut to nothing. -/
theorem append_zeros_nil {P : Program} {t v ty u : TypeId} {k : IntKind} {z : Ty} {B : Nat} {w : World} {n : Nat} (ht : P.underlying t = some (.slice u)) (hv : P.underlying v = some (.int k)) (hz : tyOf P u = some z)
    (h1 : z.ls.length = 1) (hB : B ≤ w.heap.size) (h0 : 0 < n) (hroom : n * z.bytes ≤ 281474976710656) (hlen : n ≤ maxLen) :
    ∃ c w', (Builtin.append_ #[t, v] ty #[.slice none 0 0, .int .i64 (n : Int)]).run P w = .ok (.slice (some ⟨w.heap.size, 0, none⟩) n c) w' ∧ n ≤ c ∧ Mine B u 1 w' (some ⟨w.heap.size, 0, none⟩) 0 c [] ∧ Ext w w' := by
  obtain ⟨i, d', hi, hzz, hd, hsz, hls, hag, hby⟩ := tyOf_spec hz
  have hsize : i.size = 1 := by rw [hsz]; have := h1; rw [hls, length_leavesOf] at this; simpa using this
  rw [hby] at hroom
  have hlen' : n ≤ 9223372036854775807 := hlen
  have hw : IntKind.i64.wrap (n : Int) = n := by rw [IntKind.wrap_i64]; omega
  have n1 : ¬ ((n : Int) < 0) := by omega
  have n2 : ¬ (281474976710656 < (n : Int) * (i.bytes : Int)) := by
    have : ((n * i.bytes : Nat) : Int) ≤ 281474976710656 := Int.ofNat_le.2 hroom
    rw [Int.natCast_mul] at this
    omega
  have n3 : n ≠ 0 := by omega
  have n4 : ¬ (9223372036854775807 < (n : Int)) := by omega
  have n5 : ¬ (281474976710656 < Builtin.nextslicecap n 0 * i.bytes) := by rw [nextslicecap_zero h0]; omega
  refine ⟨grownCap w n 0 u, w.drew.alloc (.cells (Builtin.zeroCells z.zero.cells n ++ Builtin.zeroCells z.zero.cells (grownCap w n 0 u - n)) u), ?_, grownCap_ge w n 0 u, ?_, ?_⟩
  · simp [Builtin.append_, run_underlying ht, run_underlying hv, sizeOf, typeInfo, zeroValue, hi, hzz, hw, n1, n2, n3, n4, n5, Question.forced, run_firstCells_none, newRow, grownCap, asInt, asIntOf, hsize]
  · have := grownCap_ge w n 0 u
    have hm := grownCap_le_maxLen w n 0 u hlen
    exact Mine.made (w := w.drew) ⟨rfl, rfl⟩ hB hm (by simp only [Array.size_append, size_zeroCells]; rw [← hsz, hsize]; omega)
  · exact (Below.refl _ w).drew.alloc (Nat.le_refl _) _

/-- Behind an append onto a row of one's own. -/
theorem Mine.grown {B : Nat} {t : TypeId} {s : Nat} {w w' : World} {p : Option Addr} {n c : Nat} {vs : List Value} (h : Mine B t s w p n c vs) (hg : w.grownBy w' (Value.slice p n c).ownBlock) :
    (p = none ∧ Ext w w') ∨ ∃ b, p = some ⟨b, 0, none⟩ ∧ B ≤ b ∧ But b w w' := by
  rcases h.shape with ⟨rfl, _⟩ | ⟨b, rfl, hb, _⟩
  · exact .inl ⟨rfl, grown_nil hg⟩
  · exact .inr ⟨b, rfl, hb, grown_but hg⟩
theorem Mine.below {B B0 : Nat} {t : TypeId} {s : Nat} {a w w' : World} {p : Option Addr} {n c : Nat} {vs : List Value} (h : Mine B t s w p n c vs) (hg : w.grownBy w' (Value.slice p n c).ownBlock) (hb : Below B0 a w) (hB : B0 ≤ B) (hs : B0 ≤ w.heap.size) : Below B0 a w' := by
  rcases h.grown hg with ⟨_, e⟩ | ⟨b, _, hle, e⟩
  · exact hb.ext e hs
  · exact hb.but e (by omega) hs
theorem At.grown {B : Nat} {t : TypeId} {s : Nat} {w w' : World} {p q : Option Addr} {n c : Nat} {vs us : List Value} (h : Mine B t s w p n c vs) (hg : w.grownBy w' (Value.slice p n c).ownBlock) (hq : At w q us)
    (hne : ∀ b o b' o', q = some ⟨b, o, none⟩ → p = some ⟨b', o', none⟩ → b ≠ b') : At w' q us := by
  rcases h.grown hg with ⟨_, e⟩ | ⟨b, hp, hle, e⟩
  · exact hq.ext e
  · exact hq.but e fun b' o hq' => hne b' o b 0 hq' hp

/-- append(b, s...) onto bytes of one's own. -/
theorem append_str {P : Program} {t v ty u : TypeId} {z : Ty} {B : Nat} {w : World} {p : Option Addr} {n c : Nat} {xs : List Value} (ht : P.underlying t = some (.slice u)) (hv : P.underlying v = some .string) (hz : tyOf P u = some z)
    (h1 : z.zero = .int .u8 0) (h2 : z.bytes = 1) (hown : Mine B u 1 w p n c xs) (s : ByteArray) (hs : s.size ≤ 1099511627776) (hB : B ≤ w.heap.size) (hroom : n + s.size ≤ 211106232532992) :
    ∃ p' c' w', (Builtin.append_ #[t, v] ty #[.slice p n c, .string s]).run P w = .ok (.slice p' (n + s.size) c') w' ∧ Mine B u 1 w' p' (n + s.size) c' (xs ++ Lib.strCells s) ∧ w.grownBy w' (Value.slice p n c).ownBlock := by
  obtain ⟨i, d', hi, hzz, hd, hsz, hls, hag, hby⟩ := tyOf_spec hz
  rw [h1] at hzz hsz
  have hsize : i.size = 1 := by rw [hsz]; rfl
  have hb1 : i.bytes = 1 := by omega
  by_cases hsmall : n + s.size ≤ 140737488355328
  · obtain ⟨v', w', hrun, hown', hg, _⟩ := Lib.run_append_own_string (P := P) (w := w) B t v ty u i ht hv hi hzz hsize hb1 (.slice p n c) n xs hown s (by simp [maxLen]; omega) hsmall hB
    rcases hown'.2 with ⟨rfl, hn0⟩ | ⟨g, cap, cur, rfl, rest⟩
    · exact ⟨none, 0, w', by rw [hrun, hn0], by rw [hn0] at hown' ⊢; exact hown', hg⟩
    · exact ⟨some ⟨g, 0, none⟩, cap, w', hrun, hown', hg⟩
  · have hxl : xs.length = n := by have := hown.len; omega
    have hlen : (xs ++ Lib.strCells s).length = (n + s.size) * 1 := by rw [List.length_append, hxl, Lib.strCells_length]; omega
    obtain ⟨g, cur, rfl, hBg, hblk, hcs, htake⟩ := hown.blk (.inl (by omega))
    have hcap := hown.cap
    rw [Nat.mul_one] at hcs htake
    by_cases hfit : n + s.size ≤ c
    · have hr := Lib.run_append_room_string (P := P) (w := w) t v ty u i ht hv hi hsize g n c cur hblk s hfit (by omega)
      refine ⟨_, _, _, hr, ⟨hlen, .inr ⟨g, c, _, rfl, hBg, setRow_heap w g cur _ u _ hblk, hfit, hcap.2, ?_, ?_⟩⟩, ⟨rfl, rfl, rfl, by simp, fun k _ hk => setRow_other w g k _ (fun e => hk (by simp [Value.ownBlock, e]))⟩⟩
      · simp only [List.size_toArray, List.length_append, List.length_take, List.length_drop, Array.length_toList, Lib.strCells_length]
        omega
      · rw [htake, ← hlen]
        exact List.take_left
    · have holds : ∀ j x, xs[j]? = some x → w.cell? ((⟨g, 0, none⟩ : Addr).add j) = some x := fun j x hj => by
        rw [Addr.add_lit, hblk.cell, Nat.zero_add]
        rw [← htake, List.getElem?_take] at hj
        split at hj
        · simpa using hj
        · cases hj
      have hr := Lib.run_append_grow_string (P := P) (w := w) t v ty u i (.int .u8 0) ht hv hi hzz ⟨g, 0, none⟩ n c xs (by rw [hsize]; omega) holds s (by omega) (by omega)
        (by rw [hb1]; exact growslice_fits_wide (by omega) (by omega))
      have hge := grownCap_ge w (n + s.size) c u
      have hcm : grownCap w (n + s.size) c u ≤ maxLen := grownCap_le_maxLen w (n + s.size) c u (by simp [maxLen]; omega)
      refine ⟨_, _, _, hr, ⟨hlen, .inr ⟨w.heap.size, _, _, rfl, hB, World.alloc_heap_new w.drew _, hge, hcm, ?_, ?_⟩⟩, ⟨rfl, rfl, rfl, by simp, fun k hk _ => Below.heap_alloc w.drew _ k hk⟩⟩
      · have hz1 : (Value.int IntKind.u8 0).cells.size = 1 := rfl
        simp only [Array.size_append, List.size_toArray, size_zeroCells, hz1, hxl, Lib.strCells_length]
        omega
      · simp only [Array.toList_append, List.append_assoc]
        rw [← List.append_assoc, ← hlen]
        exact List.take_left

/-! ### Freezing -/
theorem cell_freeze (w : World) (a : Addr) (n : Nat) (b : Addr) : (w.freeze a n).cell? b = w.cell? b := by
  unfold World.freeze
  split
  · rfl
  · simp only [World.cell?, Array.getElem?_modify]
    by_cases h : a.block = b.block
    · rw [if_pos h]
      cases w.heap[b.block]? with
      | none => rfl
      | some o => cases o <;> rfl
    · rw [if_neg h]

theorem size_freeze (w : World) (a : Addr) (n : Nat) : (w.freeze a n).heap.size = w.heap.size := by
  unfold World.freeze; split <;> simp

theorem freeze_but (w : World) (a : Addr) (n : Nat) : But a.block w (w.freeze a n) := by
  refine ⟨?_, ?_, ?_, by rw [size_freeze]; exact Nat.le_refl _, fun k hk hne => ?_⟩
  · unfold World.freeze; split <;> rfl
  · unfold World.freeze; split <;> rfl
  · unfold World.freeze; split <;> rfl
  · unfold World.freeze
    split
    · rfl
    · simp only [Array.getElem?_modify]
      rw [if_neg (by omega)]

theorem At.freeze {w : World} {p : Option Addr} {vs : List Value} (h : At w p vs) (a : Addr) (n : Nat) : At (w.freeze a n) p vs := by
  rcases h with rfl | ⟨b, o, rfl, hc⟩
  · exact .inl rfl
  · exact .inr ⟨b, o, rfl, fun i v hv => by rw [cell_freeze]; exact hc i v hv⟩

/-! ### Numbers -/
theorem i64_fit {n : Int} (h0 : -9223372036854775808 ≤ n) (h1 : n ≤ 9223372036854775807) : IntKind.i64.wrap n = n := by rw [IntKind.wrap_i64]; omega
theorem u64_fit {n : Int} (h0 : 0 ≤ n) (h1 : n < 18446744073709551616) : IntKind.u64.wrap n = n := by simp [IntKind.wrap, IntKind.bits, IntKind.signed]; omega
theorem u8_fit {n : Int} (h0 : 0 ≤ n) (h1 : n < 256) : IntKind.u8.wrap n = n := by rw [IntKind.wrap_u8]; omega

/-! ### Arguments -/
theorem wf_u8 {n : Int} (h : (Lit.int .u8 n).wf = true) : 0 ≤ n ∧ n ≤ 255 := by
  simp only [Lit.wf, Bool.and_eq_true, decide_eq_true_eq] at h
  exact h
theorem wf_i64 {n : Int} (h : (Lit.int .i64 n).wf = true) : -9223372036854775808 ≤ n ∧ n ≤ 9223372036854775807 := by
  simp only [Lit.wf, Bool.and_eq_true, decide_eq_true_eq] at h
  exact h
theorem wf_u64 {n : Int} (h : (Lit.int .u64 n).wf = true) : 0 ≤ n ∧ n ≤ 18446744073709551615 := by
  simp only [Lit.wf, Bool.and_eq_true, decide_eq_true_eq] at h
  exact h

theorem ints_bytes : ∀ {zs : List Int}, (∀ n ∈ zs, (Lit.int .u8 n).wf = true) → ∃ l : List UInt8, vI .u8 zs = vB l ∧ l.length = zs.length
  | [], _ => ⟨[], rfl, rfl⟩
  | z :: zs, h => by
    obtain ⟨l, hl, hlen⟩ := ints_bytes (zs := zs) fun n hn => h n (List.mem_cons_of_mem _ hn)
    obtain ⟨h0, h1⟩ := wf_u8 (h z (by simp))
    refine ⟨UInt8.ofNat z.toNat :: l, ?_, by simp [hlen]⟩
    have : (((UInt8.ofNat z.toNat).toNat : Nat) : Int) = z := by simp; omega
    simp only [vI, vB, List.map_cons, this] at hl ⊢
    rw [hl]

/-- A slice of integers that came in. -/
theorem row_at {k : IntKind} {w : World} {a : Option Addr} {len cap : Nat} {zs : List Int}
    (h : (a = none ∧ len = 0 ∧ cap = 0 ∧ zs = []) ∨ ∃ x, a = some x ∧ len ≤ cap ∧ cap ≤ maxLen ∧ zs.length = cap ∧ (∀ i, i < zs.length → w.cell? (x.add i) = some (.int k (zs.getD i 0))) ∧ ∀ n ∈ zs, (Lit.int k n).wf = true) :
    At w a (vI k zs) ∧ zs.length = cap ∧ len ≤ cap ∧ cap ≤ maxLen ∧ (a = none → len = 0 ∧ cap = 0) ∧ ∀ n ∈ zs, (Lit.int k n).wf = true := by
  rcases h with ⟨rfl, rfl, rfl, rfl⟩ | ⟨x, rfl, h1, h2, h3, h4, h5⟩
  · exact ⟨.inl rfl, rfl, Nat.le_refl _, Nat.zero_le _, fun _ => ⟨rfl, rfl⟩, fun n hn => by cases hn⟩
  · refine ⟨?_, h3, h1, h2, fun e => (by cases e), h5⟩
    cases zs with
    | nil => exact .inl rfl
    | cons z zs =>
      have h0 := h4 0 (by simp)
      obtain ⟨b, o, s⟩ := x
      have hs : s = none := by
        cases s with
        | none => rfl
        | some y =>
          simp only [Addr.add, if_true, World.cell?] at h0
          split at h0 <;> simp at h0
      subst hs
      refine .inr ⟨b, o, rfl, fun i v hv => ?_⟩
      simp only [vI, List.getElem?_map] at hv
      cases hz : (z :: zs)[i]? with
      | none => rw [hz] at hv; cases hv
      | some y =>
        rw [hz] at hv
        cases hv
        have hi := (List.getElem?_eq_some_iff.1 hz).1
        have := h4 i hi
        rw [Addr.add_lit] at this
        rw [this, List.getD_eq_getElem?_getD, hz]
        rfl

theorem row_bytes {w : World} {a : Option Addr} {len cap : Nat} {zs : List Int}
    (h : (a = none ∧ len = 0 ∧ cap = 0 ∧ zs = []) ∨ ∃ x, a = some x ∧ len ≤ cap ∧ cap ≤ maxLen ∧ zs.length = cap ∧ (∀ i, i < zs.length → w.cell? (x.add i) = some (.int .u8 (zs.getD i 0))) ∧ ∀ n ∈ zs, (Lit.int .u8 n).wf = true) :
    ∃ l : List UInt8, At w a (vB l) ∧ l.length = cap ∧ len ≤ cap ∧ cap ≤ maxLen ∧ (a = none → len = 0 ∧ cap = 0) := by
  obtain ⟨h1, h2, h3, h4, h5, h6⟩ := row_at h
  obtain ⟨l, hl, hlen⟩ := ints_bytes h6
  exact ⟨l, hl ▸ h1, by omega, h3, h4, h5⟩

end Go.Vc
