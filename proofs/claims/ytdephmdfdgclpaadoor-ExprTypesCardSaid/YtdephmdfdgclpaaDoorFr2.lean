/- The frame, its blocks in any order; blocks for deferred calls that are not known one by one. -/
import Derived.Test.YtdephmdfdgclpaaDoorFrame
namespace Go.Vc
open Go Go.RowKit

section
variable {w0 W W' : World} {fs fs' gs : List (Nat × Obj)} {B d : Nat} {ds : List Nat} {ms : List Row}

theorem Hold.mem (h : Hold w0 W fs ms) {x : Nat × Obj} (hx : x ∈ fs) : W.heap[x.1]? = some x.2 := by
  obtain ⟨i, hi⟩ := List.mem_iff_getElem?.1 hx
  exact h.holds i x hi
theorem Hold.ltM (h : Hold w0 W fs ms) {x : Nat × Obj} (hx : x ∈ fs) : x.1 < W.heap.size := (Array.getElem?_eq_some_iff.1 (h.mem hx)).1
theorem Hold.blkM {b : Nat} {cs : Array Value} {t : TypeId} (h : Hold w0 W fs ms) (hx : (b, Obj.cells cs t (0, 0)) ∈ fs) : Blk W b t cs := h.mem hx
theorem Hold.nodup (h : Hold w0 W fs ms) : (fs.map (·.1)).Nodup := by
  rw [List.Nodup, List.pairwise_iff_getElem]
  intro i j hi hj hij
  simp only [List.getElem_map]
  simp only [List.length_map] at hi hj
  exact h.keys i j _ _ (List.getElem?_eq_getElem hi) (List.getElem?_eq_getElem hj) (by omega)
theorem Hold.make (e : Ext w0 W) (h : ∀ x ∈ fs, w0.heap.size ≤ x.1 ∧ W.heap[x.1]? = some x.2) (hn : (fs.map (·.1)).Nodup) : Hold w0 W fs [] := by
  refine ⟨e, fun x hx => (h x hx).1, fun i x hx => (h x (List.mem_of_getElem? hx)).2, fun i j x y hx hy hij => ?_, by simp, by simp, by simp⟩
  rw [List.Nodup, List.pairwise_iff_getElem] at hn
  obtain ⟨hi, rfl⟩ := List.getElem?_eq_some_iff.1 hx
  obtain ⟨hj, rfl⟩ := List.getElem?_eq_some_iff.1 hy
  rcases Nat.lt_or_ge i j with hlt | hge
  · have := hn i j (by simpa) (by simpa) hlt
    rwa [List.getElem_map, List.getElem_map] at this
  · have := hn j i (by simpa) (by simpa) (by omega)
    rw [List.getElem_map, List.getElem_map] at this
    exact this.symm
theorem Hold.perm (h : Hold w0 W fs []) (hp : fs.Perm fs') : Hold w0 W fs' [] :=
  Hold.make h.ext (fun x hx => ⟨h.ge x (hp.mem_iff.2 hx), h.mem (hp.mem_iff.2 hx)⟩) ((hp.map _).nodup_iff.1 h.nodup)
theorem Hold.sub (h : Hold w0 W fs []) (hp : fs'.Sublist fs) : Hold w0 W fs' [] :=
  Hold.make h.ext (fun x hx => ⟨h.ge x (hp.subset hx), h.mem (hp.subset hx)⟩) (h.nodup.sublist (hp.map _))
theorem Hold.swap {a b c : List (Nat × Obj)} (h : Hold w0 W ((a ++ b) ++ c) []) : Hold w0 W (b ++ (a ++ c)) [] := by
  rw [← List.append_assoc]
  exact h.perm (List.perm_append_comm.append_right c)
theorem Hold.left {a b : List (Nat × Obj)} (h : Hold w0 W (a ++ b) []) : Hold w0 W a [] := h.sub (List.sublist_append_left _ _)
theorem Hold.right {a b : List (Nat × Obj)} (h : Hold w0 W (a ++ b) []) : Hold w0 W b [] := h.sub (List.sublist_append_right _ _)
theorem Hold.but {b : Nat} (h : Hold w0 W fs []) (e : But b W W') (hb : w0.heap.size ≤ b) (hf : ∀ x ∈ fs, x.1 ≠ b) : Hold w0 W' fs [] :=
  Hold.make (h.ext.below.but e hb h.size) (fun x hx => ⟨h.ge x hx, (e.block _ (h.ltM hx) (hf x hx)).trans (h.mem hx)⟩) h.nodup

/-- Open blocks as held ones. -/
def dfs (ds : List Nat) : List (Nat × Obj) := ds.map fun d => (d, .deferred (some []))
theorem dfs_cons (d : Nat) (ds : List Nat) : dfs (d :: ds) = (d, .deferred (some [])) :: dfs ds := rfl
theorem Hold.addOpen (h : Hold w0 W fs []) (ho : Go.Vc.Open B ds W) (hB : w0.heap.size ≤ B) (hf : ∀ x ∈ fs, x.1 < B ∨ x.2 ≠ .deferred (some [])) : Hold w0 W (dfs ds ++ fs) [] := by
  refine Hold.make h.ext (fun x hx => ?_) ?_
  · rcases List.mem_append.1 hx with hx | hx
    · obtain ⟨d, hd, rfl⟩ := List.mem_map.1 hx
      obtain ⟨h1, h2⟩ := ho.2 d hd
      exact ⟨Nat.le_trans hB h1, h2⟩
    · exact ⟨h.ge x hx, h.mem hx⟩
  · rw [List.map_append, List.nodup_append]
    refine ⟨?_, h.nodup, ?_⟩
    · have : (dfs ds).map (·.1) = ds := by unfold dfs; rw [List.map_map]; exact List.map_id _
      rw [this]; exact ho.1
    · intro a ha b hb
      obtain ⟨x, hx, rfl⟩ := List.mem_map.1 ha
      obtain ⟨d, hd, rfl⟩ := List.mem_map.1 hx
      obtain ⟨y, hy, rfl⟩ := List.mem_map.1 hb
      intro e
      simp only at e
      obtain ⟨h1, h2⟩ := ho.2 d hd
      rcases hf y hy with hlt | hne
      · omega
      · have := h.mem hy
        rw [← e, h2] at this
        exact hne (Option.some.inj this).symm
theorem Hold.opened (h : Hold w0 W (dfs ds ++ fs) []) (hB : ∀ d ∈ ds, B ≤ d) : Go.Vc.Open B ds W := by
  constructor
  · have := h.left.nodup
    have e : (dfs ds).map (·.1) = ds := by unfold dfs; rw [List.map_map]; exact List.map_id _
    rwa [e] at this
  · intro d hd
    exact ⟨hB d hd, h.mem (x := (d, .deferred (some []))) (List.mem_append_left _ (List.mem_map.2 ⟨d, hd, rfl⟩))⟩
/-- The open blocks are taken: what is held below them is as it was. -/
theorem unD_hold {F : World → Prop} (hB : w0.heap.size ≤ B) (hf : ∀ x ∈ fs, x.1 < B) (hF : ∀ W', Hold w0 W' fs [] → F W') : ∀ (ds : List Nat) (W : World), Go.Vc.Open B ds W → Hold w0 W fs [] → unD ds W F := by
  intro ds
  induction ds with
  | nil => intro W _ h; exact hF W h
  | cons d r ih =>
    intro W ho h
    obtain ⟨h1, h2⟩ := ho.2 d (by simp)
    have hn := List.nodup_cons.1 ho.1
    refine ⟨h2, ih _ ⟨hn.2, fun x hx => ?_⟩ (h.but shut_but.1 (by omega) fun x hx e => ?_)⟩
    · obtain ⟨k1, k2⟩ := ho.2 x (by simp [hx])
      refine ⟨k1, (shut_but.1.block x (Array.getElem?_eq_some_iff.1 k2).1 fun e => ?_).trans k2⟩
      subst e; exact hn.1 hx
    · have := hf x hx; omega
end

theorem Blk.c6 {w : World} {b : Nat} {t : TypeId} {x y z u v q : Value} (h : Blk w b t #[x, y, z, u, v, q]) : w.cell? ⟨b, 0, none⟩ = some x ∧ w.cell? ⟨b, 1, none⟩ = some y ∧ w.cell? ⟨b, 2, none⟩ = some z ∧
    w.cell? ⟨b, 3, none⟩ = some u ∧ w.cell? ⟨b, 4, none⟩ = some v ∧ w.cell? ⟨b, 5, none⟩ = some q := by
  refine ⟨?_, ?_, ?_, ?_, ?_, ?_⟩ <;> (rw [h.cell]; rfl)
/-- A block of six cells can be written. -/
theorem Blk.w6 {w : World} {b : Nat} {t : TypeId} {x y z u v q : Value} (h : Blk w b t #[x, y, z, u, v, q]) {X : Prop} (hX : X) : (∃ u, w.cell? ⟨b, 0, none⟩ = some u) ∧ w.frozen? ⟨b, 0, none⟩ = false ∧ (∃ u, w.cell? ⟨b, 1, none⟩ = some u) ∧ w.frozen? ⟨b, 1, none⟩ = false ∧
    (∃ u, w.cell? ⟨b, 2, none⟩ = some u) ∧ w.frozen? ⟨b, 2, none⟩ = false ∧ (∃ u, w.cell? ⟨b, 3, none⟩ = some u) ∧ w.frozen? ⟨b, 3, none⟩ = false ∧ (∃ u, w.cell? ⟨b, 4, none⟩ = some u) ∧ w.frozen? ⟨b, 4, none⟩ = false ∧
    (∃ u, w.cell? ⟨b, 5, none⟩ = some u) ∧ w.frozen? ⟨b, 5, none⟩ = false ∧ X := by
  obtain ⟨a0, a1, a2, a3, a4, a5⟩ := h.c6
  exact ⟨⟨_, a0⟩, h.frozen _, ⟨_, a1⟩, h.frozen _, ⟨_, a2⟩, h.frozen _, ⟨_, a3⟩, h.frozen _, ⟨_, a4⟩, h.frozen _, ⟨_, a5⟩, h.frozen _, hX⟩
end Go.Vc
namespace Go.Vc
open Go Go.RowKit
/-- A value of three cells is written into a variable and read out of it. -/
theorem Hold.ret3 {w0 W : World} {fs : List (Nat × Obj)} {ms : List Row} {b : Nat} {t : TypeId} {x y z : Value} {X : Int → Int → ByteArray → World → Prop} (H : Hold w0 W fs ms) (i : Nat) (hi : fs[i]? = some (b, .cells #[x, y, z] t (0, 0))) (k n : Int) (s : ByteArray)
    (hX : ∀ W', Ext w0 W' → X k n s W') : (∃ u, W.cell? ⟨b, 0, none⟩ = some u) ∧ W.frozen? ⟨b, 0, none⟩ = false ∧ (∃ u, W.cell? ⟨b, 1, none⟩ = some u) ∧ W.frozen? ⟨b, 1, none⟩ = false ∧ (∃ u, W.cell? ⟨b, 2, none⟩ = some u) ∧ W.frozen? ⟨b, 2, none⟩ = false ∧
    ∀ W' : World, Put W b 0 [.int .i64 k, .int .i64 n, .string s] W' → ∃ k' : Int, W'.cell? ⟨b, 0, none⟩ = some (.int .i64 k') ∧ ∃ n' : Int, W'.cell? ⟨b, 1, none⟩ = some (.int .i64 n') ∧ ∃ s' : ByteArray, W'.cell? ⟨b, 2, none⟩ = some (.string s') ∧ X k' n' s' W' := by
  have B := H.blk i hi
  have c0 : W.cell? ⟨b, 0, none⟩ = some x := by rw [B.cell]; rfl
  have c1 : W.cell? ⟨b, 1, none⟩ = some y := by rw [B.cell]; rfl
  have c2 : W.cell? ⟨b, 2, none⟩ = some z := by rw [B.cell]; rfl
  refine ⟨⟨_, c0⟩, B.frozen _, ⟨_, c1⟩, B.frozen _, ⟨_, c2⟩, B.frozen _, fun W' h => ?_⟩
  have H' := H.put i hi h
  have B' : Blk W' b t #[.int .i64 k, .int .i64 n, .string s] := B.put h
  exact ⟨k, by rw [B'.cell]; rfl, n, by rw [B'.cell]; rfl, s, by rw [B'.cell]; rfl, hX W' H'.ext⟩
end Go.Vc
