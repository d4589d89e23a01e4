/- The frame: what a walk holds in memory of its own, boxes and rows, and how each step turns it. -/
import Derived.Test.YtdephmdfdgclpaaDoorMem
namespace Go.Vc
open Go Go.RowKit

/-! ### append, and where the row then lies -/
theorem ok_inj {v v' : Value} {w w' : World} {r : Result Value} (h : r = .ok v w) (h' : r = .ok v' w') : v = v' ∧ w = w' := by
  rw [h] at h'; cases h'; exact ⟨rfl, rfl⟩

/-- As append_own; the row lies where it lay, or is new. -/
theorem append_at {P : Program} {t ty u : TypeId} {z : Ty} {B s : Nat} {w : World} {p q : Option Addr} {n c m d : Nat} {xs news : List Value} (ht : P.underlying t = some (.slice u)) (hz : tyOf P u = some z)
    (h1 : z.ls.length = s) (h0 : 0 < s) (hown : Mine B u s w p n c xs) (hat : At w q news) (hm : news.length = m * s) (hq : q = none → m = 0 ∧ d = 0) (hone : ∀ x ∈ news, x.oneCell' = true) (hB : B ≤ w.heap.size)
    (hroom : ((n + m) + (n + m) / 4 + 192) * z.bytes ≤ 281474976710656) (hlen : n + m ≤ maxLen) :
    ∃ p' c' w', (Builtin.append_ #[t, t] ty #[.slice p n c, .slice q m d]).run P w = .ok (.slice p' (n + m) c') w' ∧ Mine B u s w' p' (n + m) c' (xs ++ news) ∧ w.grownBy w' (Value.slice p n c).ownBlock ∧
      (∀ b o, p' = some ⟨b, o, none⟩ → w.heap.size ≤ b ∨ p = some ⟨b, 0, none⟩) := by
  obtain ⟨p', c', w', hrun, hmine, hg⟩ := append_own (ty := ty) ht hz h1 h0 hown hat hm hq hone hB hroom hlen
  refine ⟨p', c', w', hrun, hmine, hg, ?_⟩
  rcases hown.shape with ⟨rfl, rfl, rfl, rfl⟩ | ⟨g, rfl, hg1, hg2⟩
  · obtain ⟨p2, c2, w2, hrun2, hmine2, _⟩ := append_own (ty := ty) ht hz h1 h0 (Mine.nil w.heap.size u s w) hat hm hq hone (Nat.le_refl _) hroom hlen
    obtain ⟨e, _⟩ := ok_inj hrun hrun2
    cases e
    exact fun b o hb => .inl (hmine2.ge b o hb).1
  · obtain ⟨g', cur, hp, _, hblk, hcs, htake⟩ := hown.blk (.inr (by simp))
    cases hp
    obtain ⟨i, d', hi, hzz, hd, hsz, hls, hag, hby⟩ := tyOf_spec hz
    have hsize : i.size = s := by rw [hsz]; have := h1; rw [hls, length_leavesOf] at this; simpa using this
    subst hsize
    cases q with
    | none =>
      obtain ⟨rfl, rfl⟩ := hq rfl
      have hcap := hown.cap.1
      have hr : (Builtin.append_ #[t, t] ty #[.slice (some ⟨g, 0, none⟩) n c, .slice none 0 0]).run P w = .ok (.slice (some ⟨g, 0, none⟩) n c) w := by
        simp [Builtin.append_, run_underlying ht, sizeOf, typeInfo, hi, Builtin.lenOf, hcap, Builtin.firstCells, storeCells]
      obtain ⟨e, _⟩ := ok_inj hrun hr
      cases e
      exact fun b o hb => .inr (by cases hb; rfl)
    | some a =>
      have hnews : ∀ j x, news[j]? = some x → w.cell? (a.add j) = some x := by
        intro j x hx
        rcases hat with rfl | ⟨b, o, hp, hc⟩
        · simp at hx
        · cases hp; rw [Addr.add_lit]; exact hc j x hx
      by_cases hfit : n + m ≤ c
      · have hr := run_append_room (P := P) w t ty u i ht hi g n c cur hblk a m d news hm hnews hone hfit (by rw [hm, hcs, ← Nat.add_mul]; exact Nat.mul_le_mul_right _ hfit)
        obtain ⟨e, _⟩ := ok_inj hrun hr
        cases e
        exact fun b o hb => .inr (by cases hb; rfl)
      · have holds : ∀ j x, xs[j]? = some x → w.cell? ((⟨g, 0, none⟩ : Addr).add j) = some x := by
          intro j x hj
          rw [Addr.add_lit, hblk.cell, Nat.zero_add]
          rw [← htake, List.getElem?_take] at hj
          split at hj
          · simpa using hj
          · cases hj
        simp only [maxLen] at hlen
        have hr := run_append_grow (P := P) w t ty u i _ ht hi hzz ⟨g, 0, none⟩ n c xs hown.len holds a m d news hm hnews (by omega) (by omega) (growslice_fits_wide (by omega) (by rw [← hby]; exact hroom))
        obtain ⟨e, _⟩ := ok_inj hrun hr
        cases e
        exact fun b o hb => .inl (by cases hb; exact Nat.le_refl _)

theorem append_str_at {P : Program} {t v ty u : TypeId} {z : Ty} {B : Nat} {w : World} {p : Option Addr} {n c : Nat} {xs : List Value} (ht : P.underlying t = some (.slice u)) (hv : P.underlying v = some .string) (hz : tyOf P u = some z)
    (h1 : z.zero = .int .u8 0) (h2 : z.bytes = 1) (hown : Mine B u 1 w p n c xs) (s : ByteArray) (hs : s.size ≤ 1099511627776) (hB : B ≤ w.heap.size) (hroom : n + s.size ≤ 211106232532992) :
    ∃ p' c' w', (Builtin.append_ #[t, v] ty #[.slice p n c, .string s]).run P w = .ok (.slice p' (n + s.size) c') w' ∧ Mine B u 1 w' p' (n + s.size) c' (xs ++ Lib.strCells s) ∧ w.grownBy w' (Value.slice p n c).ownBlock ∧
      (∀ b o, p' = some ⟨b, o, none⟩ → w.heap.size ≤ b ∨ p = some ⟨b, 0, none⟩) := by
  obtain ⟨p', c', w', hrun, hmine, hg⟩ := append_str (ty := ty) ht hv hz h1 h2 hown s hs hB hroom
  refine ⟨p', c', w', hrun, hmine, hg, ?_⟩
  rcases hown.shape with ⟨rfl, rfl, rfl, rfl⟩ | ⟨g, rfl, hg1, hg2⟩
  · obtain ⟨p2, c2, w2, hrun2, hmine2, _⟩ := append_str (ty := ty) ht hv hz h1 h2 (Mine.nil w.heap.size u 1 w) s hs (Nat.le_refl _) hroom
    obtain ⟨e, _⟩ := ok_inj hrun hrun2
    cases e
    exact fun b o hb => .inl (hmine2.ge b o hb).1
  · obtain ⟨g', cur, hp, _, hblk, hcs, htake⟩ := hown.blk (.inr (by simp))
    cases hp
    obtain ⟨i, d', hi, hzz, hd, hsz, hls, hag, hby⟩ := tyOf_spec hz
    rw [h1] at hzz hsz
    have hsize : i.size = 1 := by rw [hsz]; rfl
    have hb1 : i.bytes = 1 := by omega
    have hxl : xs.length = n := by have := hown.len; omega
    by_cases hfit : n + s.size ≤ c
    · have hr := Lib.run_append_room_string (P := P) (w := w) t v ty u i ht hv hi hsize g n c cur hblk s hfit (by omega)
      obtain ⟨e, _⟩ := ok_inj hrun hr
      cases e
      exact fun b o hb => .inr (by cases hb; rfl)
    · have holds : ∀ j x, xs[j]? = some x → w.cell? ((⟨g, 0, none⟩ : Addr).add j) = some x := by
        intro j x hj
        rw [Addr.add_lit, hblk.cell, Nat.zero_add]
        rw [← htake, List.getElem?_take] at hj
        split at hj
        · simpa using hj
        · cases hj
      have hr := Lib.run_append_grow_string (P := P) (w := w) t v ty u i (.int .u8 0) ht hv hi hzz ⟨g, 0, none⟩ n c xs (by rw [hsize]; omega) holds s (by omega) (by omega)
        (by rw [hb1]; exact growslice_fits_wide (by omega) (by omega))
      obtain ⟨e, _⟩ := ok_inj hrun hr
      cases e
      exact fun b o hb => .inl (by cases hb; exact Nat.le_refl _)

/-! ### The frame -/
/-- A growable row of our own: its elements' type, their cells, the slice, and what it holds. -/
structure Row where
  t : TypeId
  s : Nat
  p : Option Addr
  n : Nat
  c : Nat
  vs : List Value

/-- Since w0 we have laid the blocks fs and the rows ms, all unlike; all that was there is as it was. -/
structure Hold (w0 W : World) (fs : List (Nat × Obj)) (ms : List Row) : Prop where
  ext : Ext w0 W
  ge : ∀ x ∈ fs, w0.heap.size ≤ x.1
  holds : ∀ (i : Nat) x, fs[i]? = some x → W.heap[x.1]? = some x.2
  keys : ∀ (i j : Nat) x y, fs[i]? = some x → fs[j]? = some y → i ≠ j → x.1 ≠ y.1
  own : ∀ (i : Nat) m, ms[i]? = some m → Mine w0.heap.size m.t m.s W m.p m.n m.c m.vs
  apart : ∀ (i j : Nat) x m, fs[i]? = some x → ms[j]? = some m → ∀ b o, m.p = some ⟨b, o, none⟩ → x.1 ≠ b
  rows : ∀ (i j : Nat) m m', ms[i]? = some m → ms[j]? = some m' → i ≠ j → ∀ b o b' o', m.p = some ⟨b, o, none⟩ → m'.p = some ⟨b', o', none⟩ → b ≠ b'

section
variable {w0 W W' : World} {fs : List (Nat × Obj)} {ms : List Row} {b d l k : Nat} {o : Obj} {r : Nat → Loop} {t u : TypeId} {s n c : Nat} {p : Option Addr} {vs : List Value} {cs : Array Value}

theorem Hold.start (h : Ext w0 W) : Hold w0 W [] [] := ⟨h, by simp, by simp, by simp, by simp, by simp, by simp⟩
theorem Hold.size (h : Hold w0 W fs ms) : w0.heap.size ≤ W.heap.size := h.ext.size
theorem Hold.lt (h : Hold w0 W fs ms) (i : Nat) {x : Nat × Obj} (hi : fs[i]? = some x) : x.1 < W.heap.size := (Array.getElem?_eq_some_iff.1 (h.holds i x hi)).1

/-- All of ours is as it was. -/
theorem Hold.step (h : Hold w0 W fs ms) (e : Ext W W') : Hold w0 W' fs ms :=
  ⟨h.ext.trans e, h.ge, fun i x hx => (e.block _ (h.lt i hx)).trans (h.holds i x hx), h.keys, fun i m hm => (h.own i m hm).ext e, h.apart, h.rows⟩

/-- A new block. -/
theorem Hold.new (h : Hold w0 W fs ms) (e : New W o b W') : Hold w0 W' ((b, o) :: fs) ms := by
  have h' := h.step e.ext
  obtain ⟨hb, hs⟩ := e.size
  refine ⟨h'.ext, ?_, ?_, ?_, h'.own, ?_, h'.rows⟩
  · intro x hx
    rcases List.mem_cons.1 hx with rfl | hx
    · rw [hb]; exact h.size
    · exact h.ge x hx
  · intro i x hx
    cases i with
    | zero => cases hx; exact e.obj
    | succ i => exact h'.holds i x (by simpa using hx)
  · intro i j x y hx hy hij
    cases i with
    | zero =>
      cases hx
      cases j with
      | zero => omega
      | succ j => have := h.lt j (by simpa using hy); simp only; omega
    | succ i =>
      have h1 := h.lt i (by simpa using hx)
      cases j with
      | zero => cases hy; simp only; omega
      | succ j => exact h.keys i j x y (by simpa using hx) (by simpa using hy) (by omega)
  · intro i j x m hx hm b' o' hp
    cases i with
    | zero => cases hx; have := (h.own j m hm).ge b' o' hp; simp only; omega
    | succ i => exact h.apart i j x m (by simpa using hx) hm b' o' hp

/-- Block i has turned. -/
theorem Hold.upd (h : Hold w0 W fs ms) (i : Nat) {o o' : Obj} (hi : fs[i]? = some (b, o)) (e : But b W W') (ho : W'.heap[b]? = some o') : Hold w0 W' (fs.set i (b, o')) ms := by
  have hge := h.ge _ (List.mem_of_getElem? hi)
  have key : ∀ (j : Nat) x, (fs.set i (b, o'))[j]? = some x → ∃ y, fs[j]? = some y ∧ y.1 = x.1 ∧ (j ≠ i → y = x) := by
    intro j x hx
    rw [List.getElem?_set] at hx
    split at hx
    · rename_i hij
      subst hij
      split at hx
      · cases hx; exact ⟨_, hi, rfl, fun hne => absurd rfl hne⟩
      · cases hx
    · exact ⟨x, hx, rfl, fun _ => rfl⟩
  refine ⟨h.ext.below.but e hge h.size, ?_, ?_, ?_, ?_, ?_, h.rows⟩
  · intro x hx
    obtain ⟨j, hj⟩ := List.mem_iff_getElem?.1 hx
    obtain ⟨y, hy, hyx, _⟩ := key j x hj
    rw [← hyx]; exact h.ge _ (List.mem_of_getElem? hy)
  · intro j x hx
    by_cases hij : j = i
    · subst hij
      rw [List.getElem?_set, if_pos rfl] at hx
      split at hx
      · cases hx; exact ho
      · cases hx
    · obtain ⟨y, hy, _, hyx⟩ := key j x hx
      have := hyx hij
      subst this
      rw [e.block _ (h.lt j hy) (h.keys j i _ _ hy hi hij)]
      exact h.holds j _ hy
  · intro j k x y hx hy hjk
    obtain ⟨x', hx', e1, _⟩ := key j x hx
    obtain ⟨y', hy', e2, _⟩ := key k y hy
    rw [← e1, ← e2]; exact h.keys j k _ _ hx' hy' hjk
  · intro j m hm
    exact (h.own j m hm).but e fun b' o' hp hb => h.apart i j _ m hi hm b' o' hp hb.symm
  · intro j k x m hx hm b' o' hp
    obtain ⟨x', hx', e1, _⟩ := key j x hx
    rw [← e1]; exact h.apart j k _ m hx' hm b' o' hp

theorem Hold.base (h : Hold w0 W fs ms) (i : Nat) (hi : fs[i]? = some (b, o)) : w0.heap.size ≤ b := h.ge _ (List.mem_of_getElem? hi)
theorem Hold.blk (h : Hold w0 W fs ms) (i : Nat) (hi : fs[i]? = some (b, .cells cs t (0, 0))) : Blk W b t cs := h.holds i _ hi
theorem Hold.put (h : Hold w0 W fs ms) (i : Nat) {q : Nat} (hi : fs[i]? = some (b, .cells cs t (0, 0))) (e : Put W b q vs W') : Hold w0 W' (fs.set i (b, .cells (setA cs q vs) t (0, 0))) ms :=
  h.upd i hi e.but ((h.blk i hi).put e)
theorem Hold.box (h : Hold w0 W fs ms) (i : Nat) {v v' : Value} (hi : fs[i]? = some (b, .cells #[v] t (0, 0))) (e : Put W b 0 [v'] W') : Hold w0 W' (fs.set i (b, .cells #[v'] t (0, 0))) ms := h.put i hi e
theorem Hold.loop (h : Hold w0 W fs ms) (i : Nat) (hi : fs[i]? = some (l, .loop (r k))) : Rec r l k W := h.holds i _ hi
theorem Hold.dfr (h : Hold w0 W fs ms) (i : Nat) (hi : fs[i]? = some (d, .deferred (some []))) : Dfr d W := h.holds i _ hi
theorem Hold.turn (h : Hold w0 W fs ms) (i k' : Nat) (hi : fs[i]? = some (l, .loop (r k))) : Hold w0 (Go.Vc.turn r l k' W) (fs.set i (l, .loop (r k'))) ms :=
  h.upd i hi turn_but.1 ((h.loop i hi).turn k')
theorem Hold.shut (h : Hold w0 W fs ms) (i : Nat) (hi : fs[i]? = some (d, .deferred (some []))) : Hold w0 (W.putObj d (.deferred none)) (fs.set i (d, .deferred none)) ms :=
  h.upd i hi shut_but.1 (World.putObj_heap_same (h.dfr i hi).lt)
theorem Hold.began (h : Hold w0 W fs ms) (e : Began W r d l W') : Hold w0 W' ((l, .loop (r 0)) :: (d, .deferred (some [])) :: fs) ms := by
  obtain ⟨rfl, rfl, rfl⟩ := e
  exact (h.new ⟨rfl, rfl⟩).new ⟨by simp, rfl⟩

/-- Fewer are held. -/
theorem Hold.drop (h : Hold w0 W fs ms) (fs' : List (Nat × Obj)) (f : Nat → Nat) (hf : ∀ (i : Nat) x, fs'[i]? = some x → fs[f i]? = some x) (hj : ∀ i j, f i = f j → i = j) : Hold w0 W fs' ms :=
  ⟨h.ext, fun x hx => by obtain ⟨j, hj⟩ := List.mem_iff_getElem?.1 hx; exact h.ge x (List.mem_of_getElem? (hf j x hj)), fun i x hx => h.holds _ x (hf i x hx),
    fun i j x y hx hy hij => h.keys _ _ x y (hf i x hx) (hf j y hy) fun e => hij (hj _ _ e), h.own, fun i j x m hx => h.apart _ j x m (hf i x hx), h.rows⟩
theorem Hold.tail {x : Nat × Obj} (h : Hold w0 W (x :: fs) ms) : Hold w0 W fs ms := h.drop fs (· + 1) (fun i x hx => by simpa using hx) (fun i j e => by omega)

/-- Fewer rows are held. -/
theorem Hold.dropRows (h : Hold w0 W fs ms) (ms' : List Row) (f : Nat → Nat) (hf : ∀ (i : Nat) x, ms'[i]? = some x → ms[f i]? = some x) (hj : ∀ i j, f i = f j → i = j) : Hold w0 W fs ms' :=
  ⟨h.ext, h.ge, h.holds, h.keys, fun i m hm => h.own _ m (hf i m hm), fun i j x m hx hm => h.apart i _ x m hx (hf j m hm), fun i j m m' hm hm' hij => h.rows _ _ m m' (hf i m hm) (hf j m' hm') fun e => hij (hj _ _ e)⟩
theorem Hold.oneRow {m : Row} (h : Hold w0 W fs (m :: ms)) : Hold w0 W fs [m] := h.dropRows [m] (fun i => i) (fun i x hx => by cases i with | zero => exact hx | succ i => simp at hx) fun _ _ e => e
theorem Hold.tailRow {m : Row} (h : Hold w0 W fs (m :: ms)) : Hold w0 W fs ms := h.dropRows ms (· + 1) (fun i x hx => by simpa using hx) fun i j e => by omega
theorem Hold.noRow (h : Hold w0 W fs ms) : Hold w0 W fs [] := h.dropRows [] (fun i => i) (fun i x hx => by simp at hx) fun _ _ e => e

/-- A row of ours, nil. -/
theorem Hold.nilRow (h : Hold w0 W fs ms) (t : TypeId) (s : Nat) : Hold w0 W fs (⟨t, s, none, 0, 0, []⟩ :: ms) := by
  refine ⟨h.ext, h.ge, h.holds, h.keys, ?_, ?_, ?_⟩
  · intro i m hm
    cases i with
    | zero => cases hm; exact Mine.nil _ _ _ _
    | succ i => exact h.own i m (by simpa using hm)
  · intro i j x m hx hm b o hp
    cases j with
    | zero => cases hm; cases hp
    | succ j => exact h.apart i j x m hx (by simpa using hm) b o hp
  · intro i j m m' hm hm' hij b o b' o' hp hp'
    cases i with
    | zero => cases hm; cases hp
    | succ i =>
      cases j with
      | zero => cases hm'; cases hp'
      | succ j => exact h.rows i j m m' (by simpa using hm) (by simpa using hm') (by omega) b o b' o' hp hp'

/-- A row of ours, laid by a step that left all else. -/
theorem Hold.addRow (h : Hold w0 W fs ms) (e : Ext W W') (hm : Mine W.heap.size t s W' p n c vs) : Hold w0 W' fs (⟨t, s, p, n, c, vs⟩ :: ms) := by
  have h' := h.step e
  refine ⟨h'.ext, h'.ge, h'.holds, h'.keys, ?_, ?_, ?_⟩
  · intro i m hm'
    cases i with
    | zero => cases hm'; exact hm.mono h.size
    | succ i => exact h'.own i m (by simpa using hm')
  · intro i j x m hx hm' b o hp
    cases j with
    | zero => cases hm'; have := h.lt i hx; have := hm.ge b o hp; omega
    | succ j => exact h.apart i j x m hx (by simpa using hm') b o hp
  · intro i j m m' hm1 hm2 hij b o b' o' hp hp'
    cases i with
    | zero =>
      cases hm1
      cases j with
      | zero => omega
      | succ j => have := (h.own j m' (by simpa using hm2)).ge b' o' hp'; have := hm.ge b o hp; omega
    | succ i =>
      cases j with
      | zero => cases hm2; have := (h.own i m (by simpa using hm1)).ge b o hp; have := hm.ge b' o' hp'; omega
      | succ j => exact h.rows i j m m' (by simpa using hm1) (by simpa using hm2) (by omega) b o b' o' hp hp'
theorem Hold.madeRow (h : Hold w0 W fs ms) {cap : Nat} (e : New W (.cells cs t) b W') (hm : cap ≤ maxLen) (hs : cs.size = cap * s) : Hold w0 W' fs (⟨t, s, some ⟨b, 0, none⟩, 0, cap, []⟩ :: ms) := h.addRow e.ext (Mine.made e (Nat.le_refl _) hm hs)
theorem Hold.litRow (h : Hold w0 W fs ms) {cap : Nat} (e : New W (.cells cs t) b W') (hm : cap ≤ maxLen) (hs : cs.size = cap * s) : Hold w0 W' fs (⟨t, s, some ⟨b, 0, none⟩, cap, cap, cs.toList⟩ :: ms) := h.addRow e.ext (Mine.lit e (Nat.le_refl _) hm hs)

theorem Hold.row (h : Hold w0 W fs ms) (i : Nat) (hi : ms[i]? = some ⟨t, s, p, n, c, vs⟩) : Mine w0.heap.size t s W p n c vs := h.own i _ hi

/-- Row i has turned. -/
theorem Hold.updRow (h : Hold w0 W fs ms) (i : Nat) {p' : Option Addr} {n' c' : Nat} {vs' : List Value} (hi : ms[i]? = some ⟨t, s, p, n, c, vs⟩) (hg : (p = none ∧ Ext W W') ∨ ∃ b, p = some ⟨b, 0, none⟩ ∧ w0.heap.size ≤ b ∧ But b W W')
    (hm : Mine w0.heap.size t s W' p' n' c' vs') (hp : ∀ b o, p' = some ⟨b, o, none⟩ → W.heap.size ≤ b ∨ p = some ⟨b, 0, none⟩) : Hold w0 W' fs (ms.set i ⟨t, s, p', n', c', vs'⟩) := by
  have key : ∀ (j : Nat) m, (ms.set i ⟨t, s, p', n', c', vs'⟩)[j]? = some m → (j = i ∧ m = ⟨t, s, p', n', c', vs'⟩) ∨ (j ≠ i ∧ ms[j]? = some m) := by
    intro j m hm
    rw [List.getElem?_set] at hm
    split at hm
    · rename_i hij
      split at hm
      · cases hm; exact .inl ⟨hij.symm, rfl⟩
      · cases hm
    · rename_i hij; exact .inr ⟨fun e => hij e.symm, hm⟩
  have base : Ext w0 W' ∧ (∀ (i : Nat) x, fs[i]? = some x → W'.heap[x.1]? = some x.2) ∧ ∀ (j : Nat) m, j ≠ i → ms[j]? = some m → Mine w0.heap.size m.t m.s W' m.p m.n m.c m.vs := by
    rcases hg with ⟨_, e⟩ | ⟨b, hb, _, e⟩
    · have h' := h.step e
      exact ⟨h'.ext, h'.holds, fun j m _ hm => h'.own j m hm⟩
    · have hge := ((h.row i hi).ge b 0 hb).1
      refine ⟨h.ext.below.but e hge h.size, fun j x hx => ?_, fun j m hj hm => ?_⟩
      · rw [e.block _ (h.lt j hx) (h.apart j i x _ hx hi b 0 hb)]; exact h.holds j x hx
      · exact (h.own j m hm).but e fun b' o' hp' hbb => h.rows i j _ m hi hm (fun e => hj e.symm) b 0 b' o' hb hp' hbb.symm
  refine ⟨base.1, h.ge, base.2.1, h.keys, ?_, ?_, ?_⟩
  · intro j m hm'
    rcases key j m hm' with ⟨_, rfl⟩ | ⟨hj, hm''⟩
    · exact hm
    · exact base.2.2 j m hj hm''
  · intro j k x m hx hm' b o hb
    rcases key k m hm' with ⟨_, rfl⟩ | ⟨hj, hm''⟩
    · rcases hp b o hb with hlt | hold
      · have := h.lt j hx; omega
      · exact h.apart j i x _ hx hi b 0 hold
    · exact h.apart j k x m hx hm'' b o hb
  · intro j k m m' hm1 hm2 hjk b o b' o' hb hb'
    rcases key j m hm1 with ⟨rfl, rfl⟩ | ⟨hj, hm1'⟩
    · rcases key k m' hm2 with ⟨rfl, _⟩ | ⟨hk, hm2'⟩
      · exact absurd rfl hjk
      · rcases hp b o hb with hlt | hold
        · have := (h.own k m' hm2').ge b' o' hb'; omega
        · exact h.rows j k _ m' hi hm2' (fun e => hk e.symm) b 0 b' o' hold hb'
    · rcases key k m' hm2 with ⟨rfl, rfl⟩ | ⟨hk, hm2'⟩
      · rcases hp b' o' hb' with hlt | hold
        · have := (h.own j m hm1').ge b o hb; omega
        · exact h.rows j k m _ hm1' hi hj b o b' 0 hb hold
      · exact h.rows j k m m' hm1' hm2' hjk b o b' o' hb hb'

/-- A store into row i. -/
theorem Hold.putRow (h : Hold w0 W fs ms) (i : Nat) {j : Nat} {us : List Value} (hi : ms[i]? = some ⟨t, s, p, n, c, vs⟩) (hj : j < n) (hu : us.length = s) :
    ∃ b, p = some ⟨b, 0, none⟩ ∧ (∀ q, q < s → (∃ v, W.cell? ⟨b, j * s + q, none⟩ = some v) ∧ W.frozen? ⟨b, j * s + q, none⟩ = false) ∧
      ∀ W', Put W b (j * s) us W' → Hold w0 W' fs (ms.set i ⟨t, s, p, n, c, vs.take (j * s) ++ us ++ vs.drop (j * s + s)⟩) := by
  obtain ⟨b, hb, h1, h2, h3, h4⟩ := (h.row i hi).put hj hu
  refine ⟨b, hb, h3, fun W' hput => h.updRow i hi (.inr ⟨b, hb, h1, hput.but⟩) (h4 W' hput) fun b' o hp' => .inr ?_⟩
  rw [hb] at hp'; cases hp'; exact hb

/-- append onto row i. -/
theorem Hold.append {P : Program} {t' ty : TypeId} {z : Ty} {q : Option Addr} {m d' : Nat} {news : List Value} (h : Hold w0 W fs ms) (i : Nat) (hi : ms[i]? = some ⟨t, s, p, n, c, vs⟩) (ht : P.underlying t' = some (.slice t)) (hz : tyOf P t = some z)
    (h1 : z.ls.length = s) (h0 : 0 < s) (hat : At W q news) (hm : news.length = m * s) (hq : q = none → m = 0 ∧ d' = 0) (hone : ∀ x ∈ news, x.oneCell' = true)
    (hroom : ((n + m) + (n + m) / 4 + 192) * z.bytes ≤ 281474976710656) (hlen : n + m ≤ maxLen) :
    ∃ p' c' W', (Builtin.append_ #[t', t'] ty #[.slice p n c, .slice q m d']).run P W = .ok (.slice p' (n + m) c') W' ∧ Hold w0 W' fs (ms.set i ⟨t, s, p', n + m, c', vs ++ news⟩) := by
  obtain ⟨p', c', W', h2, h3, h4, h5⟩ := append_at (ty := ty) ht hz h1 h0 (h.row i hi) hat hm hq hone h.size hroom hlen
  exact ⟨p', c', W', h2, h.updRow i hi ((h.row i hi).grown h4) h3 h5⟩
theorem Hold.appendStr {P : Program} {t' v ty : TypeId} {z : Ty} (h : Hold w0 W fs ms) (i : Nat) (hi : ms[i]? = some ⟨t, 1, p, n, c, vs⟩) (ht : P.underlying t' = some (.slice t)) (hv : P.underlying v = some .string) (hz : tyOf P t = some z)
    (h1 : z.zero = .int .u8 0) (h2 : z.bytes = 1) (s : ByteArray) (hs : s.size ≤ 1099511627776) (hroom : n + s.size ≤ 211106232532992) :
    ∃ p' c' W', (Builtin.append_ #[t', v] ty #[.slice p n c, .string s]).run P W = .ok (.slice p' (n + s.size) c') W' ∧ Hold w0 W' fs (ms.set i ⟨t, 1, p', n + s.size, c', vs ++ Lib.strCells s⟩) := by
  obtain ⟨p', c', W', h2, h3, h4, h5⟩ := append_str_at (ty := ty) ht hv hz h1 h2 (h.row i hi) s hs h.size hroom
  exact ⟨p', c', W', h2, h.updRow i hi ((h.row i hi).grown h4) h3 h5⟩
end
end Go.Vc
