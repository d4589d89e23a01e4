/- Texts of the proof, one behind the other. -/
import Derived.Test.YtpjafkcmbinjiaaDoorMb
import Derived.SizedLaws
import Derived.Lib.Bytealg
import Derived.MapKept
set_option linter.unusedVariables false
set_option linter.unusedSimpArgs false
/- The frame: what a walk holds in memory of its own, boxes and rows, and how each step turns it. -/
namespace Go.Vc
open Go Go.RowKit

/-! ### append, and where the row then lies -/
theorem ok_inj {v v' : Value} {w w' : World} {r : Result Value} (h : r = .ok v w) (h' : r = .ok v' w') : v = v' ∧ w = w' := by
  rw [h] at h'; cases h'; exact ⟨rfl, rfl⟩

/-- As append_own; the row lies where it lay, or is new. -/
theorem append_at {P : Program} {t ty u : TypeId} {z : Ty} {B s : Nat} {w : World} {p q : Option Addr} {n c m d : Nat} {xs news : List Value} (ht : P.underlying t = some (.slice u)) (hz : tyOf P u = some z)
    (h1 : z.ls.length = s) (h0 : 0 < s) (hown : Mine B u s w p n c xs) (hat : At w q news) (hm : news.length = m * s) (hq : q = none → m = 0 ∧ d = 0) (hone : ∀ x ∈ news, x.oneCell' = true) (hB : B ≤ w.heap.size)
    (hroom : ((n + m) + (n + m) / 4 + 192) * z.bytes ≤ 281474976710656) (hlen : n + m ≤ maxLen) :
    ∃ p' c' w', (Builtin.append_ #[t, t] ty #[.slice p n c, .slice q m d]).run P w = .ok (.slice p' (n + m) c') w' ∧ Mine B u s w' p' (n + m) c' (xs ++ news) ∧ w.grownBy w' (Value.slice p n c).ownBlock ∧
      (∀ b o, p' = some ⟨b, o, none⟩ → w.heap.size ≤ b ∨ p = some ⟨b, 0, none⟩) := by
  obtain ⟨p', c', w', hrun, hmine, hg⟩ := append_own (ty := ty) ht hz h1 h0 hown hat hm hq hone hB hroom hlen
  refine ⟨p', c', w', hrun, hmine, hg, ?_⟩
  rcases hown.shape with ⟨rfl, rfl, rfl, rfl⟩ | ⟨g, rfl, hg1, hg2⟩
  · obtain ⟨p2, c2, w2, hrun2, hmine2, _⟩ := append_own (ty := ty) ht hz h1 h0 (Mine.nil w.heap.size u s w) hat hm hq hone (Nat.le_refl _) hroom hlen
    obtain ⟨e, _⟩ := ok_inj hrun hrun2
    cases e
    exact fun b o hb => .inl (hmine2.ge b o hb).1
  · obtain ⟨g', cur, hp, _, hblk, hcs, htake⟩ := hown.blk (.inr (by simp))
    cases hp
    obtain ⟨i, d', hi, hzz, hd, hsz, hls, hag, hby⟩ := tyOf_spec hz
    have hsize : i.size = s := by rw [hsz]; have := h1; rw [hls, length_leavesOf] at this; simpa using this
    subst hsize
    cases q with
    | none =>
      obtain ⟨rfl, rfl⟩ := hq rfl
      have hcap := hown.cap.1
      have hr : (Builtin.append_ #[t, t] ty #[.slice (some ⟨g, 0, none⟩) n c, .slice none 0 0]).run P w = .ok (.slice (some ⟨g, 0, none⟩) n c) w := by
        simp [Builtin.append_, run_underlying ht, sizeOf, typeInfo, hi, Builtin.lenOf, hcap, Builtin.firstCells, storeCells]
      obtain ⟨e, _⟩ := ok_inj hrun hr
      cases e
      exact fun b o hb => .inr (by cases hb; rfl)
    | some a =>
      have hnews : ∀ j x, news[j]? = some x → w.cell? (a.add j) = some x := by
        intro j x hx
        rcases hat with rfl | ⟨b, o, hp, hc⟩
        · simp at hx
        · cases hp; rw [Addr.add_lit]; exact hc j x hx
      by_cases hfit : n + m ≤ c
      · have hr := run_append_room (P := P) w t ty u i ht hi g n c cur hblk a m d news hm hnews hone hfit (by rw [hm, hcs, ← Nat.add_mul]; exact Nat.mul_le_mul_right _ hfit)
        obtain ⟨e, _⟩ := ok_inj hrun hr
        cases e
        exact fun b o hb => .inr (by cases hb; rfl)
      · have holds : ∀ j x, xs[j]? = some x → w.cell? ((⟨g, 0, none⟩ : Addr).add j) = some x := by
          intro j x hj
          rw [Addr.add_lit, hblk.cell, Nat.zero_add]
          rw [← htake, List.getElem?_take] at hj
          split at hj
          · simpa using hj
          · cases hj
        simp only [maxLen] at hlen
        have hr := run_append_grow (P := P) w t ty u i _ ht hi hzz ⟨g, 0, none⟩ n c xs hown.len holds a m d news hm hnews (by omega) (by omega) (growslice_fits_wide (by omega) (by rw [← hby]; exact hroom))
        obtain ⟨e, _⟩ := ok_inj hrun hr
        cases e
        exact fun b o hb => .inl (by cases hb; exact Nat.le_refl _)

theorem append_str_at {P : Program} {t v ty u : TypeId} {z : Ty} {B : Nat} {w : World} {p : Option Addr} {n c : Nat} {xs : List Value} (ht : P.underlying t = some (.slice u)) (hv : P.underlying v = some .string) (hz : tyOf P u = some z)
    (h1 : z.zero = .int .u8 0) (h2 : z.bytes = 1) (hown : Mine B u 1 w p n c xs) (s : ByteArray) (hs : s.size ≤ 1099511627776) (hB : B ≤ w.heap.size) (hroom : n + s.size ≤ 211106232532992) :
    ∃ p' c' w', (Builtin.append_ #[t, v] ty #[.slice p n c, .string s]).run P w = .ok (.slice p' (n + s.size) c') w' ∧ Mine B u 1 w' p' (n + s.size) c' (xs ++ Lib.strCells s) ∧ w.grownBy w' (Value.slice p n c).ownBlock ∧
      (∀ b o, p' = some ⟨b, o, none⟩ → w.heap.size ≤ b ∨ p = some ⟨b, 0, none⟩) := by
  obtain ⟨p', c', w', hrun, hmine, hg⟩ := append_str (ty := ty) ht hv hz h1 h2 hown s hs hB hroom
  refine ⟨p', c', w', hrun, hmine, hg, ?_⟩
  rcases hown.shape with ⟨rfl, rfl, rfl, rfl⟩ | ⟨g, rfl, hg1, hg2⟩
  · obtain ⟨p2, c2, w2, hrun2, hmine2, _⟩ := append_str (ty := ty) ht hv hz h1 h2 (Mine.nil w.heap.size u 1 w) s hs (Nat.le_refl _) hroom
    obtain ⟨e, _⟩ := ok_inj hrun hrun2
    cases e
    exact fun b o hb => .inl (hmine2.ge b o hb).1
  · obtain ⟨g', cur, hp, _, hblk, hcs, htake⟩ := hown.blk (.inr (by simp))
    cases hp
    obtain ⟨i, d', hi, hzz, hd, hsz, hls, hag, hby⟩ := tyOf_spec hz
    rw [h1] at hzz hsz
    have hsize : i.size = 1 := by rw [hsz]; rfl
    have hb1 : i.bytes = 1 := by omega
    have hxl : xs.length = n := by have := hown.len; omega
    by_cases hfit : n + s.size ≤ c
    · have hr := Lib.run_append_room_string (P := P) (w := w) t v ty u i ht hv hi hsize g n c cur hblk s hfit (by omega)
      obtain ⟨e, _⟩ := ok_inj hrun hr
      cases e
      exact fun b o hb => .inr (by cases hb; rfl)
    · have holds : ∀ j x, xs[j]? = some x → w.cell? ((⟨g, 0, none⟩ : Addr).add j) = some x := by
        intro j x hj
        rw [Addr.add_lit, hblk.cell, Nat.zero_add]
        rw [← htake, List.getElem?_take] at hj
        split at hj
        · simpa using hj
        · cases hj
      have hr := Lib.run_append_grow_string (P := P) (w := w) t v ty u i (.int .u8 0) ht hv hi hzz ⟨g, 0, none⟩ n c xs (by rw [hsize]; omega) holds s (by omega) (by omega)
        (by rw [hb1]; exact growslice_fits_wide (by omega) (by omega))
      obtain ⟨e, _⟩ := ok_inj hrun hr
      cases e
      exact fun b o hb => .inl (by cases hb; exact Nat.le_refl _)

/-! ### The frame -/
/-- A growable row of our own: its elements' type, their cells, the slice, and what it holds. -/
structure Row where
  t : TypeId
  s : Nat
  p : Option Addr
  n : Nat
  c : Nat
  vs : List Value

/-- Since w0 we have laid the blocks fs and the rows ms, all unlike; all that was there is as it was. -/
structure Hold (w0 W : World) (fs : List (Nat × Obj)) (ms : List Row) : Prop where
  ext : Ext w0 W
  ge : ∀ x ∈ fs, w0.heap.size ≤ x.1
  holds : ∀ (i : Nat) x, fs[i]? = some x → W.heap[x.1]? = some x.2
  keys : ∀ (i j : Nat) x y, fs[i]? = some x → fs[j]? = some y → i ≠ j → x.1 ≠ y.1
  own : ∀ (i : Nat) m, ms[i]? = some m → Mine w0.heap.size m.t m.s W m.p m.n m.c m.vs
  apart : ∀ (i j : Nat) x m, fs[i]? = some x → ms[j]? = some m → ∀ b o, m.p = some ⟨b, o, none⟩ → x.1 ≠ b
  rows : ∀ (i j : Nat) m m', ms[i]? = some m → ms[j]? = some m' → i ≠ j → ∀ b o b' o', m.p = some ⟨b, o, none⟩ → m'.p = some ⟨b', o', none⟩ → b ≠ b'

section
variable {w0 W W' : World} {fs : List (Nat × Obj)} {ms : List Row} {b d l k : Nat} {o : Obj} {r : Nat → Loop} {t u : TypeId} {s n c : Nat} {p : Option Addr} {vs : List Value} {cs : Array Value}

theorem Hold.start (h : Ext w0 W) : Hold w0 W [] [] := ⟨h, by simp, by simp, by simp, by simp, by simp, by simp⟩
theorem Hold.size (h : Hold w0 W fs ms) : w0.heap.size ≤ W.heap.size := h.ext.size
theorem Hold.lt (h : Hold w0 W fs ms) (i : Nat) {x : Nat × Obj} (hi : fs[i]? = some x) : x.1 < W.heap.size := (Array.getElem?_eq_some_iff.1 (h.holds i x hi)).1

/-- All of ours is as it was. -/
theorem Hold.step (h : Hold w0 W fs ms) (e : Ext W W') : Hold w0 W' fs ms :=
  ⟨h.ext.trans e, h.ge, fun i x hx => (e.block _ (h.lt i hx)).trans (h.holds i x hx), h.keys, fun i m hm => (h.own i m hm).ext e, h.apart, h.rows⟩

/-- A new block. -/
theorem Hold.new (h : Hold w0 W fs ms) (e : New W o b W') : Hold w0 W' ((b, o) :: fs) ms := by
  have h' := h.step e.ext
  obtain ⟨hb, hs⟩ := e.size
  refine ⟨h'.ext, ?_, ?_, ?_, h'.own, ?_, h'.rows⟩
  · intro x hx
    rcases List.mem_cons.1 hx with rfl | hx
    · rw [hb]; exact h.size
    · exact h.ge x hx
  · intro i x hx
    cases i with
    | zero => cases hx; exact e.obj
    | succ i => exact h'.holds i x (by simpa using hx)
  · intro i j x y hx hy hij
    cases i with
    | zero =>
      cases hx
      cases j with
      | zero => omega
      | succ j => have := h.lt j (by simpa using hy); simp only; omega
    | succ i =>
      have h1 := h.lt i (by simpa using hx)
      cases j with
      | zero => cases hy; simp only; omega
      | succ j => exact h.keys i j x y (by simpa using hx) (by simpa using hy) (by omega)
  · intro i j x m hx hm b' o' hp
    cases i with
    | zero => cases hx; have := (h.own j m hm).ge b' o' hp; simp only; omega
    | succ i => exact h.apart i j x m (by simpa using hx) hm b' o' hp

/-- Block i has turned. -/
theorem Hold.upd (h : Hold w0 W fs ms) (i : Nat) {o o' : Obj} (hi : fs[i]? = some (b, o)) (e : But b W W') (ho : W'.heap[b]? = some o') : Hold w0 W' (fs.set i (b, o')) ms := by
  have hge := h.ge _ (List.mem_of_getElem? hi)
  have key : ∀ (j : Nat) x, (fs.set i (b, o'))[j]? = some x → ∃ y, fs[j]? = some y ∧ y.1 = x.1 ∧ (j ≠ i → y = x) := by
    intro j x hx
    rw [List.getElem?_set] at hx
    split at hx
    · rename_i hij
      subst hij
      split at hx
      · cases hx; exact ⟨_, hi, rfl, fun hne => absurd rfl hne⟩
      · cases hx
    · exact ⟨x, hx, rfl, fun _ => rfl⟩
  refine ⟨h.ext.below.but e hge h.size, ?_, ?_, ?_, ?_, ?_, h.rows⟩
  · intro x hx
    obtain ⟨j, hj⟩ := List.mem_iff_getElem?.1 hx
    obtain ⟨y, hy, hyx, _⟩ := key j x hj
    rw [← hyx]; exact h.ge _ (List.mem_of_getElem? hy)
  · intro j x hx
    by_cases hij : j = i
    · subst hij
      rw [List.getElem?_set, if_pos rfl] at hx
      split at hx
      · cases hx; exact ho
      · cases hx
    · obtain ⟨y, hy, _, hyx⟩ := key j x hx
      have := hyx hij
      subst this
      rw [e.block _ (h.lt j hy) (h.keys j i _ _ hy hi hij)]
      exact h.holds j _ hy
  · intro j k x y hx hy hjk
    obtain ⟨x', hx', e1, _⟩ := key j x hx
    obtain ⟨y', hy', e2, _⟩ := key k y hy
    rw [← e1, ← e2]; exact h.keys j k _ _ hx' hy' hjk
  · intro j m hm
    exact (h.own j m hm).but e fun b' o' hp hb => h.apart i j _ m hi hm b' o' hp hb.symm
  · intro j k x m hx hm b' o' hp
    obtain ⟨x', hx', e1, _⟩ := key j x hx
    rw [← e1]; exact h.apart j k _ m hx' hm b' o' hp

theorem Hold.base (h : Hold w0 W fs ms) (i : Nat) (hi : fs[i]? = some (b, o)) : w0.heap.size ≤ b := h.ge _ (List.mem_of_getElem? hi)
theorem Hold.blk (h : Hold w0 W fs ms) (i : Nat) (hi : fs[i]? = some (b, .cells cs t (0, 0))) : Blk W b t cs := h.holds i _ hi
theorem Hold.put (h : Hold w0 W fs ms) (i : Nat) {q : Nat} (hi : fs[i]? = some (b, .cells cs t (0, 0))) (e : Put W b q vs W') : Hold w0 W' (fs.set i (b, .cells (setA cs q vs) t (0, 0))) ms :=
  h.upd i hi e.but ((h.blk i hi).put e)
theorem Hold.box (h : Hold w0 W fs ms) (i : Nat) {v v' : Value} (hi : fs[i]? = some (b, .cells #[v] t (0, 0))) (e : Put W b 0 [v'] W') : Hold w0 W' (fs.set i (b, .cells #[v'] t (0, 0))) ms := h.put i hi e
theorem Hold.loop (h : Hold w0 W fs ms) (i : Nat) (hi : fs[i]? = some (l, .loop (r k))) : Rec r l k W := h.holds i _ hi
theorem Hold.dfr (h : Hold w0 W fs ms) (i : Nat) (hi : fs[i]? = some (d, .deferred (some []))) : Dfr d W := h.holds i _ hi
theorem Hold.turn (h : Hold w0 W fs ms) (i k' : Nat) (hi : fs[i]? = some (l, .loop (r k))) : Hold w0 (Go.Vc.turn r l k' W) (fs.set i (l, .loop (r k'))) ms :=
  h.upd i hi turn_but.1 ((h.loop i hi).turn k')
theorem Hold.shut (h : Hold w0 W fs ms) (i : Nat) (hi : fs[i]? = some (d, .deferred (some []))) : Hold w0 (W.putObj d (.deferred none)) (fs.set i (d, .deferred none)) ms :=
  h.upd i hi shut_but.1 (World.putObj_heap_same (h.dfr i hi).lt)
theorem Hold.began (h : Hold w0 W fs ms) (e : Began W r d l W') : Hold w0 W' ((l, .loop (r 0)) :: (d, .deferred (some [])) :: fs) ms := by
  obtain ⟨rfl, rfl, rfl⟩ := e
  exact (h.new ⟨rfl, rfl⟩).new ⟨by simp, rfl⟩

/-- Fewer are held. -/
theorem Hold.drop (h : Hold w0 W fs ms) (fs' : List (Nat × Obj)) (f : Nat → Nat) (hf : ∀ (i : Nat) x, fs'[i]? = some x → fs[f i]? = some x) (hj : ∀ i j, f i = f j → i = j) : Hold w0 W fs' ms :=
  ⟨h.ext, fun x hx => by obtain ⟨j, hj⟩ := List.mem_iff_getElem?.1 hx; exact h.ge x (List.mem_of_getElem? (hf j x hj)), fun i x hx => h.holds _ x (hf i x hx),
    fun i j x y hx hy hij => h.keys _ _ x y (hf i x hx) (hf j y hy) fun e => hij (hj _ _ e), h.own, fun i j x m hx => h.apart _ j x m (hf i x hx), h.rows⟩
theorem Hold.tail {x : Nat × Obj} (h : Hold w0 W (x :: fs) ms) : Hold w0 W fs ms := h.drop fs (· + 1) (fun i x hx => by simpa using hx) (fun i j e => by omega)

/-- Fewer rows are held. -/
theorem Hold.dropRows (h : Hold w0 W fs ms) (ms' : List Row) (f : Nat → Nat) (hf : ∀ (i : Nat) x, ms'[i]? = some x → ms[f i]? = some x) (hj : ∀ i j, f i = f j → i = j) : Hold w0 W fs ms' :=
  ⟨h.ext, h.ge, h.holds, h.keys, fun i m hm => h.own _ m (hf i m hm), fun i j x m hx hm => h.apart i _ x m hx (hf j m hm), fun i j m m' hm hm' hij => h.rows _ _ m m' (hf i m hm) (hf j m' hm') fun e => hij (hj _ _ e)⟩
theorem Hold.oneRow {m : Row} (h : Hold w0 W fs (m :: ms)) : Hold w0 W fs [m] := h.dropRows [m] (fun i => i) (fun i x hx => by cases i with | zero => exact hx | succ i => simp at hx) fun _ _ e => e
theorem Hold.tailRow {m : Row} (h : Hold w0 W fs (m :: ms)) : Hold w0 W fs ms := h.dropRows ms (· + 1) (fun i x hx => by simpa using hx) fun i j e => by omega
theorem Hold.noRow (h : Hold w0 W fs ms) : Hold w0 W fs [] := h.dropRows [] (fun i => i) (fun i x hx => by simp at hx) fun _ _ e => e

/-- A row of ours, nil. -/
theorem Hold.nilRow (h : Hold w0 W fs ms) (t : TypeId) (s : Nat) : Hold w0 W fs (⟨t, s, none, 0, 0, []⟩ :: ms) := by
  refine ⟨h.ext, h.ge, h.holds, h.keys, ?_, ?_, ?_⟩
  · intro i m hm
    cases i with
    | zero => cases hm; exact Mine.nil _ _ _ _
    | succ i => exact h.own i m (by simpa using hm)
  · intro i j x m hx hm b o hp
    cases j with
    | zero => cases hm; cases hp
    | succ j => exact h.apart i j x m hx (by simpa using hm) b o hp
  · intro i j m m' hm hm' hij b o b' o' hp hp'
    cases i with
    | zero => cases hm; cases hp
    | succ i =>
      cases j with
      | zero => cases hm'; cases hp'
      | succ j => exact h.rows i j m m' (by simpa using hm) (by simpa using hm') (by omega) b o b' o' hp hp'

/-- A row of ours, laid by a step that left all else. -/
theorem Hold.addRow (h : Hold w0 W fs ms) (e : Ext W W') (hm : Mine W.heap.size t s W' p n c vs) : Hold w0 W' fs (⟨t, s, p, n, c, vs⟩ :: ms) := by
  have h' := h.step e
  refine ⟨h'.ext, h'.ge, h'.holds, h'.keys, ?_, ?_, ?_⟩
  · intro i m hm'
    cases i with
    | zero => cases hm'; exact hm.mono h.size
    | succ i => exact h'.own i m (by simpa using hm')
  · intro i j x m hx hm' b o hp
    cases j with
    | zero => cases hm'; have := h.lt i hx; have := hm.ge b o hp; omega
    | succ j => exact h.apart i j x m hx (by simpa using hm') b o hp
  · intro i j m m' hm1 hm2 hij b o b' o' hp hp'
    cases i with
    | zero =>
      cases hm1
      cases j with
      | zero => omega
      | succ j => have := (h.own j m' (by simpa using hm2)).ge b' o' hp'; have := hm.ge b o hp; omega
    | succ i =>
      cases j with
      | zero => cases hm2; have := (h.own i m (by simpa using hm1)).ge b o hp; have := hm.ge b' o' hp'; omega
      | succ j => exact h.rows i j m m' (by simpa using hm1) (by simpa using hm2) (by omega) b o b' o' hp hp'
theorem Hold.madeRow (h : Hold w0 W fs ms) {cap : Nat} (e : New W (.cells cs t) b W') (hm : cap ≤ maxLen) (hs : cs.size = cap * s) : Hold w0 W' fs (⟨t, s, some ⟨b, 0, none⟩, 0, cap, []⟩ :: ms) := h.addRow e.ext (Mine.made e (Nat.le_refl _) hm hs)
theorem Hold.litRow (h : Hold w0 W fs ms) {cap : Nat} (e : New W (.cells cs t) b W') (hm : cap ≤ maxLen) (hs : cs.size = cap * s) : Hold w0 W' fs (⟨t, s, some ⟨b, 0, none⟩, cap, cap, cs.toList⟩ :: ms) := h.addRow e.ext (Mine.lit e (Nat.le_refl _) hm hs)

theorem Hold.row (h : Hold w0 W fs ms) (i : Nat) (hi : ms[i]? = some ⟨t, s, p, n, c, vs⟩) : Mine w0.heap.size t s W p n c vs := h.own i _ hi

/-- Row i has turned. -/
theorem Hold.updRow (h : Hold w0 W fs ms) (i : Nat) {p' : Option Addr} {n' c' : Nat} {vs' : List Value} (hi : ms[i]? = some ⟨t, s, p, n, c, vs⟩) (hg : (p = none ∧ Ext W W') ∨ ∃ b, p = some ⟨b, 0, none⟩ ∧ w0.heap.size ≤ b ∧ But b W W')
    (hm : Mine w0.heap.size t s W' p' n' c' vs') (hp : ∀ b o, p' = some ⟨b, o, none⟩ → W.heap.size ≤ b ∨ p = some ⟨b, 0, none⟩) : Hold w0 W' fs (ms.set i ⟨t, s, p', n', c', vs'⟩) := by
  have key : ∀ (j : Nat) m, (ms.set i ⟨t, s, p', n', c', vs'⟩)[j]? = some m → (j = i ∧ m = ⟨t, s, p', n', c', vs'⟩) ∨ (j ≠ i ∧ ms[j]? = some m) := by
    intro j m hm
    rw [List.getElem?_set] at hm
    split at hm
    · rename_i hij
      split at hm
      · cases hm; exact .inl ⟨hij.symm, rfl⟩
      · cases hm
    · rename_i hij; exact .inr ⟨fun e => hij e.symm, hm⟩
  have base : Ext w0 W' ∧ (∀ (i : Nat) x, fs[i]? = some x → W'.heap[x.1]? = some x.2) ∧ ∀ (j : Nat) m, j ≠ i → ms[j]? = some m → Mine w0.heap.size m.t m.s W' m.p m.n m.c m.vs := by
    rcases hg with ⟨_, e⟩ | ⟨b, hb, _, e⟩
    · have h' := h.step e
      exact ⟨h'.ext, h'.holds, fun j m _ hm => h'.own j m hm⟩
    · have hge := ((h.row i hi).ge b 0 hb).1
      refine ⟨h.ext.below.but e hge h.size, fun j x hx => ?_, fun j m hj hm => ?_⟩
      · rw [e.block _ (h.lt j hx) (h.apart j i x _ hx hi b 0 hb)]; exact h.holds j x hx
      · exact (h.own j m hm).but e fun b' o' hp' hbb => h.rows i j _ m hi hm (fun e => hj e.symm) b 0 b' o' hb hp' hbb.symm
  refine ⟨base.1, h.ge, base.2.1, h.keys, ?_, ?_, ?_⟩
  · intro j m hm'
    rcases key j m hm' with ⟨_, rfl⟩ | ⟨hj, hm''⟩
    · exact hm
    · exact base.2.2 j m hj hm''
  · intro j k x m hx hm' b o hb
    rcases key k m hm' with ⟨_, rfl⟩ | ⟨hj, hm''⟩
    · rcases hp b o hb with hlt | hold
      · have := h.lt j hx; omega
      · exact h.apart j i x _ hx hi b 0 hold
    · exact h.apart j k x m hx hm'' b o hb
  · intro j k m m' hm1 hm2 hjk b o b' o' hb hb'
    rcases key j m hm1 with ⟨rfl, rfl⟩ | ⟨hj, hm1'⟩
    · rcases key k m' hm2 with ⟨rfl, _⟩ | ⟨hk, hm2'⟩
      · exact absurd rfl hjk
      · rcases hp b o hb with hlt | hold
        · have := (h.own k m' hm2').ge b' o' hb'; omega
        · exact h.rows j k _ m' hi hm2' (fun e => hk e.symm) b 0 b' o' hold hb'
    · rcases key k m' hm2 with ⟨rfl, rfl⟩ | ⟨hk, hm2'⟩
      · rcases hp b' o' hb' with hlt | hold
        · have := (h.own j m hm1').ge b o hb; omega
        · exact h.rows j k m _ hm1' hi hj b o b' 0 hb hold
      · exact h.rows j k m m' hm1' hm2' hjk b o b' o' hb hb'

/-- A store into row i. -/
theorem Hold.putRow (h : Hold w0 W fs ms) (i : Nat) {j : Nat} {us : List Value} (hi : ms[i]? = some ⟨t, s, p, n, c, vs⟩) (hj : j < n) (hu : us.length = s) :
    ∃ b, p = some ⟨b, 0, none⟩ ∧ (∀ q, q < s → (∃ v, W.cell? ⟨b, j * s + q, none⟩ = some v) ∧ W.frozen? ⟨b, j * s + q, none⟩ = false) ∧
      ∀ W', Put W b (j * s) us W' → Hold w0 W' fs (ms.set i ⟨t, s, p, n, c, vs.take (j * s) ++ us ++ vs.drop (j * s + s)⟩) := by
  obtain ⟨b, hb, h1, h2, h3, h4⟩ := (h.row i hi).put hj hu
  refine ⟨b, hb, h3, fun W' hput => h.updRow i hi (.inr ⟨b, hb, h1, hput.but⟩) (h4 W' hput) fun b' o hp' => .inr ?_⟩
  rw [hb] at hp'; cases hp'; exact hb

/-- append onto row i. -/
theorem Hold.append {P : Program} {t' ty : TypeId} {z : Ty} {q : Option Addr} {m d' : Nat} {news : List Value} (h : Hold w0 W fs ms) (i : Nat) (hi : ms[i]? = some ⟨t, s, p, n, c, vs⟩) (ht : P.underlying t' = some (.slice t)) (hz : tyOf P t = some z)
    (h1 : z.ls.length = s) (h0 : 0 < s) (hat : At W q news) (hm : news.length = m * s) (hq : q = none → m = 0 ∧ d' = 0) (hone : ∀ x ∈ news, x.oneCell' = true)
    (hroom : ((n + m) + (n + m) / 4 + 192) * z.bytes ≤ 281474976710656) (hlen : n + m ≤ maxLen) :
    ∃ p' c' W', (Builtin.append_ #[t', t'] ty #[.slice p n c, .slice q m d']).run P W = .ok (.slice p' (n + m) c') W' ∧ Hold w0 W' fs (ms.set i ⟨t, s, p', n + m, c', vs ++ news⟩) := by
  obtain ⟨p', c', W', h2, h3, h4, h5⟩ := append_at (ty := ty) ht hz h1 h0 (h.row i hi) hat hm hq hone h.size hroom hlen
  exact ⟨p', c', W', h2, h.updRow i hi ((h.row i hi).grown h4) h3 h5⟩
theorem Hold.appendStr {P : Program} {t' v ty : TypeId} {z : Ty} (h : Hold w0 W fs ms) (i : Nat) (hi : ms[i]? = some ⟨t, 1, p, n, c, vs⟩) (ht : P.underlying t' = some (.slice t)) (hv : P.underlying v = some .string) (hz : tyOf P t = some z)
    (h1 : z.zero = .int .u8 0) (h2 : z.bytes = 1) (s : ByteArray) (hs : s.size ≤ 1099511627776) (hroom : n + s.size ≤ 211106232532992) :
    ∃ p' c' W', (Builtin.append_ #[t', v] ty #[.slice p n c, .string s]).run P W = .ok (.slice p' (n + s.size) c') W' ∧ Hold w0 W' fs (ms.set i ⟨t, 1, p', n + s.size, c', vs ++ Lib.strCells s⟩) := by
  obtain ⟨p', c', W', h2, h3, h4, h5⟩ := append_str_at (ty := ty) ht hv hz h1 h2 (h.row i hi) s hs h.size hroom
  exact ⟨p', c', W', h2, h.updRow i hi ((h.row i hi).grown h4) h3 h5⟩
end
end Go.Vc

/- What is handed in, opened: of whatever depth. -/
namespace Go.Vc
open Go Go.RowKit

/-- The cells cs are a value of type t that can be read, and each string and slice in it is within the platform's reach. -/
def Arg (P : Program) (w : World) (t : TypeId) (cs : List Value) : Prop :=
  ∃ (H : Type) (enc : TypeId × Value → H) (fuel : Nat) (d : DataW H) (ps : List MemPlace), DataW.trod enc P w 0 (fun _ => true) true fuel t cs = some (d, ps) ∧ ∀ n ∈ d.weights P t, n ≤ 140737488351232

theorem mapM_some {α β : Type} {f : α → Option β} : ∀ {l : List α} {ys : List β}, l.mapM f = some ys → ys.length = l.length ∧ ∀ (i : Nat) x, l[i]? = some x → ∃ y, ys[i]? = some y ∧ f x = some y := by
  intro l
  induction l with
  | nil => intro ys h; simp at h; subst h; exact ⟨rfl, fun i x hx => by simp at hx⟩
  | cons a l ih =>
    intro ys h
    rw [List.mapM_cons] at h
    cases ha : f a with
    | none => rw [ha] at h; simp at h
    | some b =>
      rw [ha] at h
      cases hl : l.mapM f with
      | none => rw [hl] at h; simp at h
      | some zs =>
        rw [hl] at h
        simp at h
        subst h
        obtain ⟨h1, h2⟩ := ih hl
        refine ⟨by simp [h1], fun i x hx => ?_⟩
        cases i with
        | zero => simp at hx; subst hx; exact ⟨b, rfl, ha⟩
        | succ i => simp at hx; obtain ⟨y, hy, hf⟩ := h2 i x hx; exact ⟨y, by simpa using hy, hf⟩

theorem cells?_some {w : World} {b n : Nat} {a : Addr} {cs : List Value} (h : w.cells? b a n = some cs) : cs.length = n ∧ ∀ (j : Nat) v, cs[j]? = some v → w.cell? (a.add j) = some v := by
  unfold World.cells? at h
  split at h
  · obtain ⟨h1, h2⟩ := mapM_some h
    simp at h1
    refine ⟨h1, fun j v hj => ?_⟩
    have hjn : j < n := by have := (List.getElem?_eq_some_iff.1 hj).1; omega
    obtain ⟨y, hy, hf⟩ := h2 j j (by simp [hjn])
    rw [hj] at hy; cases hy
    exact hf
  · cases h

theorem weightsAll_mem {H : Type} {P : Program} {e : TypeId} : ∀ {ds : List (DataW H)} {d : DataW H}, d ∈ ds → ∀ n ∈ d.weights P e, n ∈ DataW.weightsAll P e ds := by
  intro ds
  induction ds with
  | nil => intro d h; cases h
  | cons x r ih =>
    intro d h n hn
    simp only [DataW.weightsAll, List.mem_append]
    rcases List.mem_cons.1 h with rfl | h
    · exact .inl hn
    · exact .inr (ih h n hn)

section
variable {P : Program} {w : World} {t : TypeId} {cs : List Value}

theorem Arg.int {k : IntKind} (hu : P.underlying t = some (.int k)) (h : Arg P w t cs) : ∃ n, cs = [.int k n] ∧ (Lit.int k n).wf = true := by
  obtain ⟨H, enc, fuel, d, ps, h, _⟩ := h
  cases fuel with
  | zero => cases h
  | succ f =>
    simp only [DataW.trod, hu] at h
    split at h <;> simp_all

theorem Arg.bool (hu : P.underlying t = some .bool) (h : Arg P w t cs) : ∃ b, cs = [.bool b] := by
  obtain ⟨H, enc, fuel, d, ps, h, _⟩ := h
  cases fuel with
  | zero => cases h
  | succ f =>
    simp only [DataW.trod, hu] at h
    split at h <;> simp_all

theorem Arg.string (hu : P.underlying t = some .string) (h : Arg P w t cs) : ∃ s, cs = [.string s] ∧ s.size ≤ 140737488351232 := by
  obtain ⟨H, enc, fuel, d, ps, h, hw⟩ := h
  cases fuel with
  | zero => cases h
  | succ f =>
    simp only [DataW.trod, hu] at h
    split at h <;> simp_all
    rename_i s
    obtain ⟨_, rfl, rfl⟩ := h
    exact hw _ (by simp [DataW.weights])

theorem Arg.struct {fs : Array Field} (hu : P.underlying t = some (.struct fs)) (h : Arg P w t cs) : cs.length = P.cellsOf t ∧ ∀ f ∈ fs.toList, Arg P w f.type ((cs.drop f.offset).take (P.cellsOf f.type)) := by
  obtain ⟨H, enc, fuel, d, ps, h, hw⟩ := h
  cases fuel with
  | zero => cases h
  | succ n =>
    simp only [DataW.trod, hu] at h
    split at h
    · rename_i hl
      refine ⟨hl, fun f hf => ?_⟩
      cases hm : fs.toList.mapM fun f => DataW.trod enc P w 0 (fun _ => true) true n f.type ((cs.drop f.offset).take (P.cellsOf f.type)) with
      | none => rw [hm] at h; cases h
      | some xs =>
        rw [hm] at h
        cases h
        obtain ⟨i, hi⟩ := List.mem_iff_getElem?.1 hf
        obtain ⟨h1, h2⟩ := mapM_some hm
        obtain ⟨y, hy, hfy⟩ := h2 i f hi
        refine ⟨H, enc, n, y.1, y.2, hfy, fun k hk => hw k ?_⟩
        simp only [DataW.weights, hu]
        exact DataW.weights_mem_each (j := i) (by simp [hi]) (by simp [hy]) k hk
    · cases h

theorem Arg.array {n : Nat} {e : TypeId} (hu : P.underlying t = some (.array n e)) (h : Arg P w t cs) : cs.length = P.cellsOf t ∧ ∀ i, i < n → Arg P w e ((cs.drop (i * P.cellsOf e)).take (P.cellsOf e)) := by
  obtain ⟨H, enc, fuel, d, ps, h, hw⟩ := h
  cases fuel with
  | zero => cases h
  | succ m =>
    simp only [DataW.trod, hu] at h
    split at h
    · rename_i hl
      refine ⟨hl, fun i hi => ?_⟩
      cases hm : (List.range n).mapM fun i => DataW.trod enc P w 0 (fun _ => true) true m e ((cs.drop (i * P.cellsOf e)).take (P.cellsOf e)) with
      | none => rw [hm] at h; cases h
      | some xs =>
        rw [hm] at h
        cases h
        obtain ⟨h1, h2⟩ := mapM_some hm
        obtain ⟨y, hy, hfy⟩ := h2 i i (by simp [hi])
        refine ⟨H, enc, m, y.1, y.2, hfy, fun k hk => hw k ?_⟩
        simp only [DataW.weights, hu]
        exact weightsAll_mem (List.mem_map.2 ⟨y, List.mem_of_getElem? hy, rfl⟩) k hk
    · cases h

theorem flatten_get {css : List (List Value)} {s : Nat} (hs : ∀ x ∈ css, x.length = s) {i j : Nat} (hj : j < s) : css.flatten[i * s + j]? = (css[i]?).bind fun x => x[j]? := by
  induction css generalizing i with
  | nil => simp
  | cons a r ih =>
    have ha := hs a (by simp)
    cases i with
    | zero => simp only [Nat.zero_mul, Nat.zero_add, List.flatten_cons]; rw [List.getElem?_append_left (by omega)]; rfl
    | succ i =>
      simp only [List.flatten_cons]
      rw [List.getElem?_append_right (by rw [ha, Nat.add_mul]; omega), show (i + 1) * s + j - a.length = i * s + j by rw [ha, Nat.add_mul]; omega, ih fun x hx => hs x (by simp [hx])]
      rfl

theorem Arg.slice {e : TypeId} (hu : P.underlying t = some (.slice e)) (h0 : 0 < P.cellsOf e) (h : Arg P w t cs) :
    ∃ (p : Option Addr) (n c : Nat) (css : List (List Value)), cs = [.slice p n c] ∧ n ≤ c ∧ c ≤ maxLen ∧ c * P.bytesOf e ≤ 140737488351232 ∧ css.length = c ∧ (∀ x ∈ css, x.length = P.cellsOf e ∧ Arg P w e x) ∧ At w p css.flatten ∧ (p = none → n = 0 ∧ c = 0) := by
  obtain ⟨H, enc, fuel, d, ps, h, hw⟩ := h
  cases fuel with
  | zero => cases h
  | succ m =>
    have shape : (cs = [.slice none 0 0]) ∨ ∃ a n c, cs = [.slice (some a) n c] := by
      match cs, h with
      | [], h => simp [DataW.trod, hu] at h
      | [.slice none 0 0], _ => exact .inl rfl
      | [.slice none (n + 1) c], h => simp [DataW.trod, hu] at h
      | [.slice none 0 (c + 1)], h => simp [DataW.trod, hu] at h
      | [.slice (some a) n c], _ => exact .inr ⟨a, n, c, rfl⟩
      | [.bool _], h => simp [DataW.trod, hu] at h
      | [.int _ _], h => simp [DataW.trod, hu] at h
      | [.float _ _], h => simp [DataW.trod, hu] at h
      | [.complex _ _ _], h => simp [DataW.trod, hu] at h
      | [.string _], h => simp [DataW.trod, hu] at h
      | [.pointer _], h => simp [DataW.trod, hu] at h
      | [.map _], h => simp [DataW.trod, hu] at h
      | [.chan _], h => simp [DataW.trod, hu] at h
      | [.nilFunc], h => simp [DataW.trod, hu] at h
      | [.func _ _ _], h => simp [DataW.trod, hu] at h
      | [.nilIface], h => simp [DataW.trod, hu] at h
      | [.iface _ _], h => simp [DataW.trod, hu] at h
      | [.tuple _], h => simp [DataW.trod, hu] at h
      | [.agg _], h => simp [DataW.trod, hu] at h
      | _ :: _ :: _, h => simp [DataW.trod, hu] at h
    rcases shape with rfl | ⟨a, len, cap, rfl⟩
    · exact ⟨none, 0, 0, [], rfl, Nat.le_refl _, Nat.zero_le _, by simp, rfl, fun x hx => by simp at hx, At.nil _ _, fun _ => ⟨rfl, rfl⟩⟩
    · simp only [DataW.trod, hu] at h
      split at h
      · rename_i hc
        obtain ⟨_, hlc, hcm⟩ := hc
        let elemAt : Nat → Option (DataW H × List MemPlace) := fun i => (w.cells? 0 (a.add (i * P.cellsOf e)) (P.cellsOf e)).bind (DataW.trod enc P w 0 (fun _ => true) true m e)
        change ((List.range len).mapM elemAt).bind _ = _ at h
        cases hm1 : (List.range len).mapM elemAt with
        | none => rw [hm1] at h; cases h
        | some elems =>
          rw [hm1] at h
          simp only [Option.bind_some, if_true] at h
          change ((List.range (cap - len)).mapM fun j => elemAt (len + j)).map _ = _ at h
          cases hm2 : (List.range (cap - len)).mapM fun j => elemAt (len + j) with
          | none => rw [hm2] at h; cases h
          | some rest =>
            rw [hm2] at h
            simp only [Option.map_some, Option.some.injEq, Prod.mk.injEq] at h
            obtain ⟨rfl, _⟩ := h
            obtain ⟨a1, a2⟩ := mapM_some hm1
            obtain ⟨b1, b2⟩ := mapM_some hm2
            simp only [List.length_range] at a1 b1
            simp only [DataW.weights, hu, List.length_map, List.mem_cons, List.mem_append] at hw
            have all : ∀ i, i < cap → ∃ cs, w.cells? 0 (a.add (i * P.cellsOf e)) (P.cellsOf e) = some cs ∧ Arg P w e cs := by
              intro i hi
              have key : ∃ y, elemAt i = some y ∧ ((∃ j : Nat, elems[j]? = some y) ∨ ∃ j : Nat, rest[j]? = some y) := by
                rcases Nat.lt_or_ge i len with hl | hl
                · obtain ⟨y, hy, hf⟩ := a2 i i (List.getElem?_range hl)
                  exact ⟨y, hf, .inl ⟨i, hy⟩⟩
                · obtain ⟨y, hy, hf⟩ := b2 (i - len) (i - len) (List.getElem?_range (by omega))
                  rw [show len + (i - len) = i by omega] at hf
                  exact ⟨y, hf, .inr ⟨_, hy⟩⟩
              obtain ⟨y, hf, hy⟩ := key
              have hf' : (w.cells? 0 (a.add (i * P.cellsOf e)) (P.cellsOf e)).bind (DataW.trod enc P w 0 (fun _ => true) true m e) = some y := hf
              clear hf
              cases hcs : w.cells? 0 (a.add (i * P.cellsOf e)) (P.cellsOf e) with
              | none => rw [hcs] at hf'; cases hf'
              | some cs =>
                rw [hcs] at hf'
                have hf : DataW.trod enc P w 0 (fun _ => true) true m e cs = some y := hf'
                refine ⟨cs, rfl, H, enc, m, y.1, y.2, hf, fun k hk => hw k (.inr ?_)⟩
                rcases hy with ⟨j, hy⟩ | ⟨j, hy⟩
                · exact .inl (weightsAll_mem (List.mem_map.2 ⟨y, List.mem_of_getElem? hy, rfl⟩) k hk)
                · exact .inr (weightsAll_mem (List.mem_map.2 ⟨y, List.mem_of_getElem? hy, rfl⟩) k hk)
            obtain ⟨css, hcl, hcss⟩ : ∃ css : List (List Value), css.length = cap ∧ ∀ i x, css[i]? = some x → w.cells? 0 (a.add (i * P.cellsOf e)) (P.cellsOf e) = some x ∧ Arg P w e x := by
              refine ⟨(List.range cap).map fun i => (w.cells? 0 (a.add (i * P.cellsOf e)) (P.cellsOf e)).getD [], by simp, fun i x hx => ?_⟩
              rw [List.getElem?_map] at hx
              have hi : i < cap := by
                rcases Nat.lt_or_ge i cap with h' | h'
                · exact h'
                · rw [List.getElem?_eq_none (by simpa using h')] at hx; cases hx
              rw [List.getElem?_range hi] at hx
              obtain ⟨cs, h1, h2⟩ := all i hi
              simp only [Option.map_some, h1, Option.getD_some, Option.some.injEq] at hx
              subst hx
              exact ⟨h1, h2⟩
            have hlen : ∀ x ∈ css, x.length = P.cellsOf e := fun x hx => by
              obtain ⟨i, hi⟩ := List.mem_iff_getElem?.1 hx
              exact (cells?_some (hcss i x hi).1).1
            refine ⟨some a, len, cap, css, rfl, hlc, hcm, ?_, hcl, fun x hx => ?_, ?_, fun e => by cases e⟩
            · have := hw ((elems.length + rest.length) * P.bytesOf e) (.inl rfl)
              rw [a1, b1, show len + (cap - len) = cap by omega] at this
              exact this
            · obtain ⟨i, hi⟩ := List.mem_iff_getElem?.1 hx
              exact ⟨hlen x hx, (hcss i x hi).2⟩
            · cases hcz : css with
              | nil => exact .inl rfl
              | cons c0 r =>
                rw [← hcz]
                have h00 := cells?_some (hcss 0 c0 (by rw [hcz]; rfl)).1
                have hc0 : 0 < c0.length := by rw [h00.1]; exact h0
                have hcell := h00.2 0 c0[0] (by simp [hc0])
                obtain ⟨ab, ao, ag⟩ := a
                have hs : ag = none := by
                  cases ag with
                  | none => rfl
                  | some y =>
                    have e0 : ((⟨ab, ao, some y⟩ : Addr).add (0 * P.cellsOf e)).add 0 = ⟨ab, ao, some y⟩ := by rw [Nat.zero_mul, Addr.add_zero', Addr.add_zero']
                    rw [e0] at hcell
                    simp only [World.cell?, Option.isSome_some, if_true] at hcell
                    split at hcell <;> cases hcell
                subst hs
                refine .inr ⟨ab, ao, rfl, fun i v hv => ?_⟩
                have hdm : i = i / P.cellsOf e * P.cellsOf e + i % P.cellsOf e := by rw [Nat.mul_comm]; exact (Nat.div_add_mod _ _).symm
                have hj := Nat.mod_lt i h0
                rw [hdm, flatten_get hlen hj] at hv
                cases hx : css[i / P.cellsOf e]? with
                | none => rw [hx] at hv; cases hv
                | some x =>
                  rw [hx] at hv
                  have := (cells?_some (hcss _ x hx).1).2 _ v hv
                  rw [Addr.add_lit, Addr.add_lit] at this
                  rw [hdm, ← Nat.add_assoc]; exact this
      · cases h
end

/-- An argument at the top. -/
theorem Arg.of {H : Type} {enc : TypeId × Value → H} {P : Program} {w : World} {ts : List TypeId} {ds : List (DataW H)} {t : TypeId} {v : Value} {d : DataW H} {ps : List MemPlace} {j : Nat}
    (h : DataW.Trod enc P w 0 (fun _ => true) true t v d ps) (hz : (DataW.weightsEach P ts ds).all (· ≤ reachBytes) = true) (ht : ts[j]? = some t) (hd : ds[j]? = some d) : Arg P w t v.cells.toList := by
  obtain ⟨fuel, h⟩ := h
  refine ⟨H, enc, fuel, d, ps, h, fun n hn => ?_⟩
  have := List.all_eq_true.1 hz n (DataW.weights_mem_each ht hd n hn)
  exact of_decide_eq_true this

theorem plain_cells {P : Program} {w : World} {r : Reach} {base : Nat} {t : TypeId} {v : Value} (hu : isAggD (P.underlying t) = false) (h : Value.okWide P w r base t v) (hn : P.underlying t ≠ none) : v.cells.toList = [v] := by
  have : ∀ cs, v ≠ .agg cs := by
    intro cs e
    subst e
    unfold Value.okWide at h
    split at h
    · rename_i hh; rw [hh] at hu; cases hu
    · rename_i hh; rw [hh] at hu; cases hu
    · unfold Cell.okWide at h
      split at h <;> simp_all [Cell.ok]
  cases v with
  | agg cs => exact absurd rfl (this cs)
  | _ => rfl
theorem agg_cells {P : Program} {w : World} {r : Reach} {base : Nat} {t : TypeId} {v : Value} (hu : isAggD (P.underlying t) = true) (h : Value.okWide P w r base t v) : ∃ cs, v = .agg cs ∧ v.cells.toList = cs.toList := by
  unfold Value.okWide at h
  split at h
  · obtain ⟨cs, rfl, _⟩ := h; exact ⟨cs, rfl, rfl⟩
  · obtain ⟨cs, rfl, _⟩ := h; exact ⟨cs, rfl, rfl⟩
  · rename_i h1 h2
    cases hh : P.underlying t with
    | none => rw [hh] at hu; cases hu
    | some d => cases d <;> simp_all [isAggD]

end Go.Vc

/- Values, rows and lists of rows as the memory bears them; how two values stand. Plain Lean, no program. -/
namespace Go.Vc
open Go Go.RowKit

/-! ### Numbers and texts, held against one another -/
def cmpI (x y : Int) : Int := if x < y then -1 else if y < x then 1 else 0
def cmpS (a b : ByteArray) : Int := Lib.compareBytes (tB a) (tB b)

theorem cmpI_spec (x y : Int) : (cmpI x y = -1 ∧ x < y) ∨ (cmpI x y = 0 ∧ x = y) ∨ (cmpI x y = 1 ∧ y < x) := by
  unfold cmpI
  split
  · exact .inl ⟨rfl, ‹_›⟩
  · split
    · exact .inr (.inr ⟨rfl, ‹_›⟩)
    · exact .inr (.inl ⟨rfl, by omega⟩)
theorem cmpI_cmp : Cmp cmpI := by
  refine ⟨fun x y => ?_, fun x y z h k => ?_⟩
  · have := cmpI_spec x y
    have := cmpI_spec y x
    omega
  · have := cmpI_spec x y
    have := cmpI_spec y z
    have := cmpI_spec x z
    omega
theorem cmpI_zero {x y : Int} : cmpI x y = 0 ↔ x = y := by have := cmpI_spec x y; omega
theorem compareBytes_anti : ∀ a b : List UInt8, Lib.compareBytes b a = - Lib.compareBytes a b
  | [], [] => rfl
  | [], _ :: _ => rfl
  | _ :: _, [] => rfl
  | x :: a, y :: b => by
    unfold Lib.compareBytes
    by_cases h1 : x < y
    · have h2 : ¬ y < x := UInt8.lt_asymm h1
      simp [h1, h2]
    · by_cases h2 : y < x
      · simp [h1, h2]
      · simp only [h1, h2, if_false]; exact compareBytes_anti a b
theorem u8_eq {x y : UInt8} (h1 : ¬ x < y) (h2 : ¬ y < x) : x = y := UInt8.le_antisymm (UInt8.not_lt.1 h2) (UInt8.not_lt.1 h1)
theorem compareBytes_trans : ∀ a b c : List UInt8, Lib.compareBytes a b ≤ 0 → Lib.compareBytes b c ≤ 0 → Lib.compareBytes a c ≤ 0
  | [], _, [], _, _ => by simp [Lib.compareBytes]
  | [], _, _ :: _, _, _ => by simp [Lib.compareBytes]
  | _ :: _, [], _, h, _ => by simp [Lib.compareBytes] at h
  | _ :: _, _ :: _, [], _, h => by simp [Lib.compareBytes] at h
  | x :: a, y :: b, z :: c, h, k => by
    unfold Lib.compareBytes at h k ⊢
    by_cases h1 : x < y
    · by_cases k1 : y < z
      · simp [UInt8.lt_trans h1 k1]
      · by_cases k2 : z < y
        · simp [k1, k2] at k
        · have := u8_eq k1 k2; subst this; simp [h1]
    · by_cases h2 : y < x
      · simp [h1, h2] at h
      · have := u8_eq h1 h2; subst this
        simp only [h1, if_false] at h
        by_cases k1 : x < z
        · simp [k1]
        · by_cases k2 : z < x
          · simp [k1, k2] at k
          · simp only [k1, k2, if_false] at k ⊢
            exact compareBytes_trans a b c h k
theorem compareBytes_zero : ∀ {a b : List UInt8}, Lib.compareBytes a b = 0 ↔ a = b
  | [], [] => by simp [Lib.compareBytes]
  | [], _ :: _ => by simp [Lib.compareBytes]
  | _ :: _, [] => by simp [Lib.compareBytes]
  | x :: a, y :: b => by
    unfold Lib.compareBytes
    by_cases h1 : x < y
    · have : x ≠ y := fun e => by subst e; exact UInt8.lt_irrefl _ h1
      simp [h1, this]
    · by_cases h2 : y < x
      · have : x ≠ y := fun e => by subst e; exact UInt8.lt_irrefl _ h2
        simp [h1, h2, this]
      · have := u8_eq h1 h2; subst this
        simp only [h1, if_false, List.cons.injEq, true_and]
        exact compareBytes_zero
theorem compareBytes_lt : ∀ {a b : List UInt8}, Op.bytesLess a b = true ↔ Lib.compareBytes a b < 0
  | [], [] => by simp [Lib.compareBytes, Op.bytesLess]
  | [], _ :: _ => by simp [Lib.compareBytes, Op.bytesLess]
  | _ :: _, [] => by simp [Lib.compareBytes, Op.bytesLess]
  | x :: a, y :: b => by
    unfold Lib.compareBytes Op.bytesLess
    by_cases h1 : x < y
    · simp [h1]
    · by_cases h2 : y < x
      · have : x ≠ y := fun e => by subst e; exact UInt8.lt_irrefl _ h2
        simp [h1, h2, this]
      · have := u8_eq h1 h2; subst this
        simp only [h1, if_false, decide_false, Bool.false_or, beq_self_eq_true, Bool.true_and]
        exact compareBytes_lt
theorem ba_toList (s : ByteArray) : s.toList = tB s := Lib.toList_data s
theorem cmpS_cmp : Cmp cmpS := ⟨fun a b => compareBytes_anti _ _, fun a b c => compareBytes_trans _ _ _⟩
theorem cmpS_zero {a b : ByteArray} : cmpS a b = 0 ↔ a = b := by unfold cmpS; rw [compareBytes_zero]; exact tB_inj
theorem sLt_iff {a b : ByteArray} : sLt a b = true ↔ cmpS a b < 0 := by unfold sLt cmpS; rw [ba_toList, ba_toList]; exact compareBytes_lt

section
variable {α β : Type} {c d : α → α → Int}
def lexC (c d : α → α → Int) (x y : α) : Int := if c x y ≠ 0 then c x y else d x y
theorem Cmp.lex (hc : Cmp c) (hd : Cmp d) : Cmp (lexC c d) := by
  refine ⟨fun x y => ?_, fun x y z h k => ?_⟩
  · have := hc.anti x y
    have := hd.anti x y
    unfold lexC
    split <;> split <;> omega
  · unfold lexC at h k ⊢
    by_cases h0 : c x y = 0
    · rw [if_neg (by simpa using h0)] at h
      by_cases k0 : c y z = 0
      · rw [if_neg (by simpa using k0)] at k
        rw [if_neg (by simpa using hc.eq_trans h0 k0)]
        exact hd.trans x y z h k
      · rw [if_pos k0] at k
        have : c x z < 0 := hc.of_lt (by omega) (y := y) (by omega)
        rw [if_pos (by omega)]; omega
    · rw [if_pos h0] at h
      have : c x z < 0 := by
        by_cases k0 : c y z = 0
        · exact hc.lt_of (y := y) (by omega) (by omega)
        · rw [if_pos k0] at k
          exact hc.lt_of (y := y) (by omega) k
      rw [if_pos (by omega)]; omega
theorem Cmp.on (f : β → α) (hc : Cmp c) : Cmp fun x y => c (f x) (f y) := ⟨fun _ _ => hc.anti _ _, fun _ _ _ => hc.trans _ _ _⟩
theorem Cmp.neg (hc : Cmp c) : Cmp fun x y => - c x y := by
  refine ⟨fun x y => by rw [hc.anti x y], fun x y z h k => ?_⟩
  have h1 := hc.anti x y
  have h2 := hc.anti y z
  have h3 := hc.anti x z
  have := hc.trans z y x (by omega) (by omega)
  omega
theorem Cmp.none : Cmp (fun _ _ : α => (0 : Int)) := ⟨fun _ _ => by simp, fun _ _ _ _ _ => Int.le_refl 0⟩
end

/-! ### Values -/
structure Val where
  k : Int
  n : Int
  s : ByteArray

theorem Val.ext' {a b : Val} : a = b ↔ a.k = b.k ∧ a.n = b.n ∧ a.s = b.s := by cases a; cases b; simp
instance : DecidableEq Val := fun _ _ => decidable_of_iff _ Val.ext'.symm
instance : Inhabited Val := ⟨⟨0, 0, ⟨#[]⟩⟩⟩
def nullV : Val := ⟨0, 0, ⟨#[]⟩⟩
def numV (n : Int) : Val := ⟨1, n, ⟨#[]⟩⟩

def Val.cs (v : Val) : List Value := [.int .i64 v.k, .int .i64 v.n, .string v.s]
def Val.agg (v : Val) : Value := .agg #[.int .i64 v.k, .int .i64 v.n, .string v.s]
def i64F (x : Int) : Prop := -9223372036854775808 ≤ x ∧ x ≤ 9223372036854775807
def Val.fit (v : Val) : Prop := i64F v.k ∧ i64F v.n

theorem Val.agg_eq (v : Val) : v.agg = .agg v.cs.toArray := rfl
theorem Val.cs_length (v : Val) : v.cs.length = 3 := rfl
theorem Val.cs_one (v : Val) : ∀ u ∈ v.cs, u.oneCell' = true := by
  intro u hu
  simp only [Val.cs, List.mem_cons, List.not_mem_nil, or_false] at hu
  rcases hu with rfl | rfl | rfl <;> rfl

/-- May a value be? -/
def Val.Ok (v : Val) : Prop := (v.k = 0 ∧ v.n = 0 ∧ v.s = ⟨#[]⟩) ∨ (v.k = 1 ∧ v.s = ⟨#[]⟩) ∨ (v.k = 2 ∧ (v.n = 0 ∨ v.n = 1) ∧ v.s = ⟨#[]⟩) ∨ (v.k = 3 ∧ v.n = 0 ∧ v.s.size ≤ 1024)
instance (v : Val) : Decidable v.Ok := by unfold Val.Ok; exact inferInstance
def Val.right (v : Val) : Bool := decide v.Ok
def rightL (l : List Val) : Bool := l.all Val.right

def cmpV : Val → Val → Int := lexC (fun a b => cmpI a.k b.k) (lexC (fun a b => cmpI a.n b.n) fun a b => cmpS a.s b.s)
theorem cmpV_cmp : Cmp cmpV := (cmpI_cmp.on Val.k).lex ((cmpI_cmp.on Val.n).lex (cmpS_cmp.on Val.s))
theorem cmpV_def (a b : Val) : cmpV a b = if cmpI a.k b.k ≠ 0 then cmpI a.k b.k else if cmpI a.n b.n ≠ 0 then cmpI a.n b.n else cmpS a.s b.s := rfl
theorem cmpV_zero {a b : Val} : cmpV a b = 0 ↔ a = b := by
  have h1 := cmpI_spec a.k b.k
  have h2 := cmpI_spec a.n b.n
  rw [Val.ext', cmpV_def]
  split
  · constructor
    · intro h; omega
    · intro h; omega
  · split
    · constructor
      · intro h; omega
      · intro h; omega
    · constructor
      · intro h; exact ⟨by omega, by omega, cmpS_zero.1 h⟩
      · exact fun h => cmpS_zero.2 h.2.2

/-- The document's way to hold two values against one another. -/
def lessV (a b : Val) : Bool := if a.k ≠ b.k then decide (a.k < b.k) else if a.k = 3 then sLt a.s b.s else decide (a.n < b.n)
def rcmpV (a b : Val) : Int := if lessV a b then -1 else if lessV b a then 1 else 0
theorem cmpS_self (a : ByteArray) : cmpS a a = 0 := cmpS_zero.2 rfl
theorem cmpS_range (a b : ByteArray) : cmpS a b = -1 ∨ cmpS a b = 0 ∨ cmpS a b = 1 := by
  unfold cmpS
  generalize tB a = x
  generalize tB b = y
  induction x generalizing y with
  | nil => cases y <;> simp [Lib.compareBytes]
  | cons p x ih =>
    cases y with
    | nil => simp [Lib.compareBytes]
    | cons q y =>
      unfold Lib.compareBytes
      split
      · simp
      · split
        · simp
        · exact ih y
theorem cmpV_range (a b : Val) : cmpV a b = -1 ∨ cmpV a b = 0 ∨ cmpV a b = 1 := by
  have := cmpS_range a.s b.s
  have := cmpI_spec a.k b.k
  have := cmpI_spec a.n b.n
  rw [cmpV_def]
  split
  · omega
  · split <;> omega
theorem rcmpV_eq {a b : Val} (ha : a.Ok) (hb : b.Ok) : rcmpV a b = cmpV a b := by
  have e3 := cmpS_range a.s b.s
  have e4 : cmpS b.s a.s = - cmpS a.s b.s := cmpS_cmp.anti _ _
  by_cases hk : a.k = b.k
  · by_cases h3 : a.k = 3
    · have hn : a.n = b.n := by
        unfold Val.Ok at ha hb
        omega
      have l1 : lessV a b = sLt a.s b.s := by unfold lessV; rw [if_neg (by simpa using hk), if_pos h3]
      have l2 : lessV b a = sLt b.s a.s := by unfold lessV; rw [if_neg (by simpa using hk.symm), if_pos (hk ▸ h3)]
      have c1 : cmpV a b = cmpS a.s b.s := by rw [cmpV_def]; simp [cmpI_zero.2 hk, cmpI_zero.2 hn]
      unfold rcmpV
      rw [l1, l2, c1]
      by_cases x1 : sLt a.s b.s = true
      · rw [if_pos x1]; have := sLt_iff.1 x1; omega
      · rw [if_neg x1]
        have x1' : ¬ cmpS a.s b.s < 0 := fun h => x1 (sLt_iff.2 h)
        by_cases x2 : sLt b.s a.s = true
        · rw [if_pos x2]; have := sLt_iff.1 x2; omega
        · rw [if_neg x2]
          have x2' : ¬ cmpS b.s a.s < 0 := fun h => x2 (sLt_iff.2 h)
          omega
    · have hs : a.s = b.s := by
        unfold Val.Ok at ha hb
        have ha' : a.s = ⟨#[]⟩ := by
          rcases ha with h | h | h | h
          · exact h.2.2
          · exact h.2
          · exact h.2.2
          · exact absurd h.1 h3
        have hb' : b.s = ⟨#[]⟩ := by
          rcases hb with h | h | h | h
          · exact h.2.2
          · exact h.2
          · exact h.2.2
          · exact absurd (hk.trans h.1) h3
        rw [ha', hb']
      have l1 : lessV a b = decide (a.n < b.n) := by unfold lessV; rw [if_neg (by simpa using hk), if_neg h3]
      have l2 : lessV b a = decide (b.n < a.n) := by unfold lessV; rw [if_neg (by simpa using hk.symm), if_neg (hk ▸ h3)]
      have c1 : cmpV a b = cmpI a.n b.n := by
        rw [cmpV_def, hs, cmpS_self]
        by_cases h : cmpI a.n b.n = 0 <;> simp [cmpI_zero.2 hk, h]
      unfold rcmpV
      rw [l1, l2, c1]
      unfold cmpI
      simp only [decide_eq_true_eq]
  · have l1 : lessV a b = decide (a.k < b.k) := by unfold lessV; rw [if_pos hk]
    have l2 : lessV b a = decide (b.k < a.k) := by unfold lessV; rw [if_pos (Ne.symm hk)]
    have c1 : cmpV a b = cmpI a.k b.k := by
      have : cmpI a.k b.k ≠ 0 := fun h => hk (cmpI_zero.1 h)
      rw [cmpV_def, if_pos this]
    unfold rcmpV
    rw [l1, l2, c1]
    unfold cmpI
    simp only [decide_eq_true_eq]

/-! ### Lists of things of some cells each -/
section
variable {α : Type}
structure Ls (enc : α → List Value) (w : World) (p : Option Addr) (n c : Nat) (l : List α) : Prop where
  len : l.length = n
  cap : n ≤ c ∧ c ≤ maxLen
  lies : At w p (l.flatMap enc)
  nil : p = none → n = 0 ∧ c = 0
variable {enc : α → List Value} {s : Nat} {w w' : World} {p : Option Addr} {n c : Nat} {l : List α}
theorem Ls.ext (h : Ls enc w p n c l) (e : Ext w w') : Ls enc w' p n c l := ⟨h.len, h.cap, h.lies.ext e, h.nil⟩
theorem Ls.le (h : Ls enc w p n c l) : n ≤ maxLen := Nat.le_trans h.cap.1 h.cap.2
theorem Ls.kept (h : Ls enc w p n c l) (hk : ∀ b o, p = some ⟨b, o, none⟩ → b < w.heap.size → w'.heap[b]? = w.heap[b]?) : Ls enc w' p n c l := ⟨h.len, h.cap, h.lies.kept hk, h.nil⟩
theorem Ls.nothing (enc : α → List Value) (w : World) : Ls enc w none 0 0 [] := ⟨rfl, ⟨Nat.le_refl _, Nat.zero_le _⟩, .inl rfl, fun _ => ⟨rfl, rfl⟩⟩
theorem flatMap_get {enc : α → List Value} (hs : ∀ x, (enc x).length = s) {i j : Nat} {x : α} (hi : l[i]? = some x) (hj : j < s) : (l.flatMap enc)[i * s + j]? = (enc x)[j]? := by
  rw [List.flatMap_def, flatten_get (s := s) (by intro y hy; obtain ⟨z, _, rfl⟩ := List.mem_map.1 hy; exact hs z) hj, List.getElem?_map, hi]
  rfl
/-- The cells of thing i. -/
theorem At.things (hs : ∀ x, (enc x).length = s) (h0 : 0 < s) (h : At w p (l.flatMap enc)) {i : Nat} {x : α} (hi : l[i]? = some x) :
    ∃ b o, p = some ⟨b, o, none⟩ ∧ ∀ j v, (enc x)[j]? = some v → w.cell? ⟨b, o + (i * s + j), none⟩ = some v := by
  rcases h with h | ⟨b, o, hp, hc⟩
  · have := flatMap_get (enc := enc) (s := s) hs hi h0
    rw [h] at this
    have h1 : (enc x)[0]? = some ((enc x)[0]'(by rw [hs]; exact h0)) := List.getElem?_eq_getElem _
    rw [h1] at this; simp at this
  · refine ⟨b, o, hp, fun j v hv => hc _ _ ?_⟩
    have hj : j < s := by rw [← hs x]; exact (List.getElem?_eq_some_iff.1 hv).1
    rw [flatMap_get hs hi hj, hv]
theorem flatMap_length (hs : ∀ x, (enc x).length = s) : ∀ l : List α, (l.flatMap enc).length = l.length * s
  | [] => by simp
  | x :: l => by rw [List.flatMap_cons, List.length_append, hs, flatMap_length hs l, List.length_cons, Nat.succ_mul, Nat.add_comm]
theorem flatMap_take (hs : ∀ x, (enc x).length = s) : ∀ (l : List α) (k : Nat), (l.take k).flatMap enc = (l.flatMap enc).take (k * s)
  | [], k => by simp
  | x :: l, 0 => by simp
  | x :: l, k + 1 => by
    rw [List.take_succ_cons, List.flatMap_cons, List.flatMap_cons, flatMap_take hs l k, Nat.succ_mul, Nat.add_comm, List.take_append, hs, Nat.add_sub_cancel_left, List.take_of_length_le (l := enc x) (by rw [hs]; omega)]
theorem flatMap_drop (hs : ∀ x, (enc x).length = s) : ∀ (l : List α) (k : Nat), (l.drop k).flatMap enc = (l.flatMap enc).drop (k * s)
  | [], k => by simp
  | x :: l, 0 => by simp
  | x :: l, k + 1 => by
    rw [List.drop_succ_cons, List.flatMap_cons, flatMap_drop hs l k, Nat.succ_mul, Nat.add_comm, List.drop_append, hs, Nat.add_sub_cancel_left, @List.drop_eq_nil_of_le _ (enc x) _ (by rw [hs]; omega), List.nil_append]
/-- s[lo:hi]. -/
theorem Ls.slice (hs : ∀ x, (enc x).length = s) (h : Ls enc w p n c l) {lo hi : Nat} (h1 : lo ≤ hi) (h2 : hi ≤ n) : Ls enc w (slBase p lo c s) (hi - lo) (c - lo) ((l.take hi).drop lo) := by
  have hc := h.cap
  refine ⟨by rw [List.length_drop, List.length_take, h.len]; omega, ⟨by omega, by omega⟩, ?_, fun e => ?_⟩
  · rw [flatMap_drop hs, flatMap_take hs]
    exact h.lies.slice lo hi c s (by omega)
  · have := h.nil (slBase_none e); omega
theorem Ls.take (hs : ∀ x, (enc x).length = s) (h : Ls enc w p n c l) {k : Nat} (h2 : k ≤ n) : Ls enc w p k c (l.take k) := by
  have hc := h.cap
  refine ⟨by rw [List.length_take, h.len]; omega, ⟨by omega, hc.2⟩, ?_, fun e => ?_⟩
  · rw [flatMap_take hs]; exact h.lies.take _
  · have := h.nil e; omega
/-- A row of our own that holds things. -/
theorem Mine.ls {B : Nat} {t : TypeId} (hs : ∀ x, (enc x).length = s) (h0 : 0 < s) (h : Mine B t s w p n c (l.flatMap enc)) : Ls enc w p n c l := by
  have h1 := h.len
  rw [flatMap_length hs] at h1
  exact ⟨Nat.eq_of_mul_eq_mul_right h0 h1, h.cap, h.at, h.isNil⟩
theorem flatMap_one (h : ∀ x, ∀ u ∈ enc x, u.oneCell' = true) (l : List α) : ∀ u ∈ l.flatMap enc, u.oneCell' = true := by
  intro u hu
  obtain ⟨x, _, hx⟩ := List.mem_flatMap.1 hu
  exact h x u hx

theorem list_lift {β : Type} {f : α → β} {Q : α → Prop} : ∀ {ys : List β}, (∀ y ∈ ys, ∃ a, y = f a ∧ Q a) → ∃ l : List α, ys = l.map f ∧ ∀ a ∈ l, Q a
  | [], _ => ⟨[], rfl, by simp⟩
  | y :: ys, h => by
    obtain ⟨a, rfl, ha⟩ := h y (by simp)
    obtain ⟨l, rfl, hl⟩ := list_lift (ys := ys) fun z hz => h z (by simp [hz])
    exact ⟨a :: l, rfl, fun b hb => by rcases List.mem_cons.1 hb with rfl | hb; exact ha; exact hl b hb⟩
/-- A slice that came in. -/
theorem arg_ls {P : Program} {t e : TypeId} {v : Value} {Q : α → Prop} (hu : P.underlying t = some (.slice e)) (h0 : 0 < P.cellsOf e) (hQ : ∀ x, Arg P w e x → ∃ a, x = enc a ∧ Q a) (hs : ∀ a, (enc a).length = P.cellsOf e) (h : Arg P w t [v]) :
    ∃ p n c l, v = .slice p n c ∧ Ls enc w p n c l ∧ (∀ a ∈ l, Q a) ∧ c * P.bytesOf e ≤ 140737488351232 := by
  obtain ⟨p, n, c, css, he, h1, h2, h3, h4, h5, h6, h7⟩ := Arg.slice hu h0 h
  cases he
  obtain ⟨full, rfl, hf⟩ := list_lift (f := enc) (Q := Q) (ys := css) fun x hx => hQ x (h5 x hx).2
  rw [← List.flatMap_def] at h6
  rw [List.length_map] at h4
  refine ⟨p, n, c, full.take n, rfl, ⟨by rw [List.length_take]; omega, ⟨h1, h2⟩, ?_, h7⟩, fun a ha => hf a (List.mem_of_mem_take ha), h3⟩
  rw [flatMap_take hs]
  exact h6.take _
end

theorem Blk.c3 {w : World} {b : Nat} {t : TypeId} {x y z : Value} (h : Blk w b t #[x, y, z]) : w.cell? ⟨b, 0, none⟩ = some x ∧ w.cell? ⟨b, 1, none⟩ = some y ∧ w.cell? ⟨b, 2, none⟩ = some z :=
  ⟨by rw [h.cell]; rfl, by rw [h.cell]; rfl, by rw [h.cell]; rfl⟩

theorem and1_i64 (n : Int) : bits .and .i64 n 1 = n % 2 := by
  have e : bits .and .i64 n 1 = IntKind.i64.wrap (((BitVec.ofInt 64 n &&& 1#64).toNat : Nat) : Int) := rfl
  rw [e, BitVec.toNat_and, BitVec.toNat_ofInt, show (1#64).toNat = 1 from rfl, Nat.and_one_is_mod, i64_fit (by omega) (by omega)]
  omega

/-! ### Slices as things -/
structure Sl where
  p : Option Addr
  n : Nat
  c : Nat
def Sl.v (h : Sl) : Value := .slice h.p h.n h.c
def Sl.cs (h : Sl) : List Value := [.slice h.p h.n h.c]
theorem Sl.cs_length (h : Sl) : h.cs.length = 1 := rfl
theorem Sl.cs_one (h : Sl) : ∀ u ∈ h.cs, u.oneCell' = true := by intro u hu; simp [Sl.cs] at hu; subst hu; rfl

/-- Values in a row. -/
abbrev Vs := Ls Val.cs
/-- Rows: their heads hs, what they hold. -/
structure Rws (w : World) (p : Option Addr) (n c : Nat) (hs : List Sl) (L : List (List Val)) : Prop where
  heads : Ls Sl.cs w p n c hs
  rows : ∀ (i : Nat) (h : Sl) (r : List Val), hs[i]? = some h → L[i]? = some r → Vs w h.p h.n h.c r
  len : L.length = n
section
variable {w w' : World} {p : Option Addr} {n c : Nat} {hs : List Sl} {L : List (List Val)}
theorem Rws.ext (h : Rws w p n c hs L) (e : Ext w w') : Rws w' p n c hs L := ⟨h.heads.ext e, fun i x r hx hr => (h.rows i x r hx hr).ext e, h.len⟩
theorem Rws.hlen (h : Rws w p n c hs L) : hs.length = n := h.heads.len
theorem Rws.nothing (w : World) : Rws w none 0 0 [] [] := ⟨Ls.nothing _ w, by simp, rfl⟩
theorem Rws.get (h : Rws w p n c hs L) {i : Nat} {r : List Val} (hi : L[i]? = some r) : ∃ x, hs[i]? = some x ∧ Vs w x.p x.n x.c r ∧ ∃ b o, p = some ⟨b, o, none⟩ ∧ w.cell? ⟨b, o + i, none⟩ = some (.slice x.p x.n x.c) := by
  have hlt : i < hs.length := by rw [h.hlen, ← h.len]; exact (List.getElem?_eq_some_iff.1 hi).1
  obtain ⟨b, o, hp, hc⟩ := h.heads.lies.things Sl.cs_length (by decide) (List.getElem?_eq_getElem hlt)
  refine ⟨hs[i], List.getElem?_eq_getElem hlt, h.rows i _ _ (List.getElem?_eq_getElem hlt) hi, b, o, hp, ?_⟩
  have := hc 0 _ rfl
  simpa using this
theorem Ls.val {r : List Val} (h : Vs w p n c r) {i : Nat} {v : Val} (hi : r[i]? = some v) :
    ∃ b o, p = some ⟨b, o, none⟩ ∧ w.cell? ⟨b, o + i * 3, none⟩ = some (.int .i64 v.k) ∧ w.cell? ⟨b, o + i * 3 + 1, none⟩ = some (.int .i64 v.n) ∧ w.cell? ⟨b, o + i * 3 + 2, none⟩ = some (.string v.s) := by
  obtain ⟨b, o, hp, hc⟩ := h.lies.things Val.cs_length (by decide) hi
  exact ⟨b, o, hp, by have := hc 0 _ rfl; simpa [Nat.add_assoc] using this, by have := hc 1 _ rfl; rwa [← Nat.add_assoc] at this, by have := hc 2 _ rfl; rwa [← Nat.add_assoc] at this⟩
theorem Rws.take (h : Rws w p n c hs L) {k : Nat} (hk : k ≤ n) : Rws w p k c (hs.take k) (L.take k) :=
  ⟨h.heads.take Sl.cs_length hk, fun i x r hx hr => h.rows i x r (by rw [List.getElem?_take] at hx; split at hx; exact hx; cases hx) (by rw [List.getElem?_take] at hr; split at hr; exact hr; cases hr), by rw [List.length_take, h.len]; omega⟩
theorem Rws.le (h : Rws w p n c hs L) : n ≤ maxLen := h.heads.le
end

/-- The types and the places of a struct's fields. -/
def structOf (P : Program) (t : TypeId) : Option (List (TypeId × Nat)) := match P.underlying t with
  | some (.struct fs) => some (fs.toList.map fun f => (f.type, f.offset))
  | _ => none
theorem Arg.fields {P : Program} {w : World} {t : TypeId} {cs : List Value} {l : List (TypeId × Nat)} (hu : structOf P t = some l) (h : Arg P w t cs) :
    cs.length = P.cellsOf t ∧ ∀ x ∈ l, Arg P w x.1 ((cs.drop x.2).take (P.cellsOf x.1)) := by
  unfold structOf at hu
  split at hu
  · rename_i fs hfs
    cases hu
    obtain ⟨h1, h2⟩ := Arg.struct hfs h
    refine ⟨h1, fun x hx => ?_⟩
    obtain ⟨f, hf, rfl⟩ := List.mem_map.1 hx
    exact h2 f hf
  · cases hu
theorem arg_val {P : Program} {w : World} {t ti tn ts : TypeId} {cs : List Value} (hu : structOf P t = some [(ti, 0), (tn, 1), (ts, 2)]) (hc : P.cellsOf t = 3) (h1 : P.cellsOf ti = 1) (h2 : P.cellsOf tn = 1) (h3 : P.cellsOf ts = 1)
    (u1 : P.underlying ti = some (.int .i64)) (u2 : P.underlying tn = some (.int .i64)) (u3 : P.underlying ts = some .string) (h : Arg P w t cs) : ∃ v : Val, cs = v.cs ∧ v.fit := by
  obtain ⟨hl, hf⟩ := Arg.fields hu h
  rw [hc] at hl
  obtain ⟨a, b, d, rfl⟩ : ∃ a b d, cs = [a, b, d] := by
    match cs, hl with
    | [a, b, d], _ => exact ⟨a, b, d, rfl⟩
  have f1 := hf (ti, 0) (by simp)
  have f2 := hf (tn, 1) (by simp)
  have f3 := hf (ts, 2) (by simp)
  simp only [h1, h2, h3] at f1 f2 f3
  obtain ⟨k, e1, w1⟩ := Arg.int u1 f1
  obtain ⟨n, e2, w2⟩ := Arg.int u2 f2
  obtain ⟨s, e3, _⟩ := Arg.string u3 f3
  simp at e1 e2 e3
  subst e1 e2 e3
  exact ⟨⟨k, n, s⟩, rfl, wf_i64 w1, wf_i64 w2⟩
end Go.Vc

/- Maps with texts as keys: what a lookup and an update do, over a list of what the map holds. -/
namespace Go.Vc
open Go Go.RowKit

theorem ba_beq {a b : ByteArray} : (a == b) = true ↔ a = b := by
  constructor
  · intro h
    obtain ⟨a⟩ := a
    obtain ⟨b⟩ := b
    have : (a == b) = true := h
    rw [beq_iff_eq.1 this]
  · rintro rfl
    obtain ⟨a⟩ := a
    show (a == a) = true
    rw [beq_iff_eq]
instance : LawfulBEq ByteArray where
  rfl := ba_beq.2 rfl
  eq_of_beq := ba_beq.1
theorem ba_bne {a b : ByteArray} (h : ¬ a = b) : (a == b) = false := by rw [← Bool.not_eq_true, ba_beq]; exact h
/-- The entries es are those of l: texts and what they lead to. -/
def MapL (es : Array MapEntry) (l : List (ByteArray × Value)) : Prop := es.toList.map (fun e => (e.key, e.val)) = l.map fun p => (Value.string p.1, p.2)
def lookS (l : List (ByteArray × Value)) (s : ByteArray) : Option Value := match l with
  | [] => none
  | p :: r => if p.1 = s then some p.2 else lookS r s
def setS (l : List (ByteArray × Value)) (s : ByteArray) (v : Value) : List (ByteArray × Value) := match l with
  | [] => [(s, v)]
  | p :: r => if p.1 = s then (s, v) :: r else p :: setS r s v

theorem MapL.nil : MapL #[] [] := rfl
theorem lookS_setS (l : List (ByteArray × Value)) (s : ByteArray) (v : Value) (t : ByteArray) : lookS (setS l s v) t = if s = t then some v else lookS l t := by
  induction l with
  | nil => simp [setS, lookS]
  | cons p r ih =>
    unfold setS
    by_cases h : p.1 = s
    · rw [if_pos h]
      unfold lookS
      by_cases h2 : s = t
      · simp [h2]
      · have : ¬ p.1 = t := fun e => h2 (h.symm.trans e)
        simp [h2, this]
    · rw [if_neg h]
      unfold lookS
      by_cases h2 : p.1 = t
      · have : ¬ s = t := fun e => h (h2.trans e.symm)
        simp [h2, this]
      · simp only [h2, if_false]; exact ih

theorem findNow_none {s : ByteArray} : ∀ {el : List MapEntry} {l : List (ByteArray × Value)} (i : Nat), el.map (fun e => (e.key, e.val)) = l.map (fun p => (Value.string p.1, p.2)) → lookS l s = none → Instr.findNow .string (.string s) el i = some none
  | [], l, i, _, _ => rfl
  | e :: el, [], i, h, _ => by simp at h
  | e :: el, p :: l, i, h, hl => by
    simp only [List.map_cons, List.cons.injEq, Prod.mk.injEq] at h
    unfold lookS at hl
    split at hl
    · cases hl
    · rename_i hne
      unfold Instr.findNow
      rw [h.1.1]
      have : (s == p.1) = false := ba_bne fun e => hne e.symm
      simp only [Instr.sameNow, this]
      exact findNow_none (i + 1) h.2 hl
theorem findNow_some {s : ByteArray} {v : Value} : ∀ {el : List MapEntry} {l : List (ByteArray × Value)} (i : Nat), el.map (fun e => (e.key, e.val)) = l.map (fun p => (Value.string p.1, p.2)) → lookS l s = some v →
    ∃ j e, Instr.findNow .string (.string s) el i = some (some (i + j, v)) ∧ el[j]? = some e ∧ e.key = .string s ∧ ∀ v', (el.modify j fun e => { e with key := .string s, val := v' }).map (fun e => (e.key, e.val)) = (setS l s v').map fun p => (Value.string p.1, p.2)
  | [], [], i, _, h => by cases h
  | [], p :: l, i, h, _ => by simp at h
  | e :: el, [], i, h, _ => by simp at h
  | e :: el, p :: l, i, h, hl => by
    simp only [List.map_cons, List.cons.injEq, Prod.mk.injEq] at h
    unfold lookS at hl
    split at hl
    · rename_i heq
      cases hl
      refine ⟨0, e, ?_, rfl, by rw [h.1.1, heq], fun v' => ?_⟩
      · unfold Instr.findNow
        rw [h.1.1]
        have : (s == p.1) = true := ba_beq.2 heq.symm
        simp only [Instr.sameNow, this]
        rw [h.1.2]; rfl
      · unfold setS
        rw [if_pos heq]
        simp [List.modify, h.2]
    · rename_i hne
      obtain ⟨j, e', h1, h2, h3, h4⟩ := findNow_some (i + 1) h.2 hl
      refine ⟨j + 1, e', ?_, by simpa using h2, h3, fun v' => ?_⟩
      · unfold Instr.findNow
        rw [h.1.1]
        have : (s == p.1) = false := ba_bne fun e => hne e.symm
        simp only [Instr.sameNow, this]
        rw [h1, show i + 1 + j = i + (j + 1) by omega]
      · unfold setS
        rw [if_neg hne]
        simp only [List.modify_succ_cons, List.map_cons, h4 v', h.1.1, h.1.2]

section
variable {P : Program} {t kt e : TypeId} {w : World} {b : Nat} {es : Array MapEntry} {clock : Nat} {l : List (ByteArray × Value)} {s : ByteArray}
def zeroOf (P : Program) (t : TypeId) : Option Value := match P.info? t with | some i => i.zero | none => none
theorem run_zeroOf {z : Value} (h : zeroOf P e = some z) (w : World) : (zeroValue e).run P w = .ok z w := by
  unfold zeroOf at h
  split at h
  · rename_i i hi; exact run_zeroValue hi h w
  · cases h
theorem run_checkStr (hk : P.underlying kt = some .string) (em : Bool) : (Instr.checkKey em 10000 kt (.string s)).run P w = .ok () w := by
  unfold Instr.checkKey
  simp [run_underlying hk]
/-- m[s]. -/
theorem map_look (ht : P.underlying t = some (.map kt e)) (hk : P.underlying kt = some .string) {z : Value} (hz : (zeroValue e).run P w = .ok z w) (hb : w.heap[b]? = some (.map es clock)) (hl : MapL es l) :
    (Instr.lookup t (.map (some b)) (.string s) false).run P w = .ok ((lookS l s).getD z) w := by
  cases hs : lookS l s with
  | none =>
    have := findNow_none (s := s) 0 hl hs
    simp [Instr.lookup, run_underlying ht, MapKept.run_getObj_map hb, run_checkStr hk, Instr.findKey, run_underlying hk, this, hz]
  | some v =>
    obtain ⟨j, e', h1, _, _, _⟩ := findNow_some (s := s) 0 hl hs
    simp [Instr.lookup, run_underlying ht, MapKept.run_getObj_map hb, run_checkStr hk, Instr.findKey, run_underlying hk, h1]
theorem sameBits_str (s : ByteArray) : Instr.sameBits 10000 (.string s) (.string s) = true := by
  unfold Instr.sameBits
  exact ba_beq.2 rfl
/-- m[s] = v. -/
theorem map_set (ht : P.underlying t = some (.map kt e)) (hk : P.underlying kt = some .string) (hb : w.heap[b]? = some (.map es clock)) (hl : MapL es l) (v : Value) :
    ∃ w' es' clock', (Instr.mapUpdate t (.map (some b)) (.string s) v).run P w = .ok () w' ∧ w'.heap[b]? = some (.map es' clock') ∧ MapL es' (setS l s v) ∧ But b w w' ∧ w'.heap.size = w.heap.size := by
  have hlt : b < w.heap.size := (Array.getElem?_eq_some_iff.1 hb).1
  have fin : ∀ o, But b w { w with heap := w.heap.setIfInBounds b o } ∧ ({ w with heap := w.heap.setIfInBounds b o } : World).heap.size = w.heap.size ∧ ({ w with heap := w.heap.setIfInBounds b o } : World).heap[b]? = some o := fun o =>
    ⟨⟨rfl, rfl, rfl, by simp, fun k _ hne => by simp [Array.getElem?_setIfInBounds, Ne.symm hne]⟩, by simp, by simp [hlt]⟩
  cases hs : lookS l s with
  | none =>
    have h1 := findNow_none (s := s) 0 hl hs
    refine ⟨_, es.push { key := .string s, val := v, born := clock }, clock + 1, ?_, (fin _).2.2, ?_, (fin _).1, (fin _).2.1⟩
    · simp [Instr.mapUpdate, run_underlying ht, MapKept.run_getObj_map hb, run_checkStr hk, Instr.findKey, run_underlying hk, h1, MapKept.run_setObj_map _ hb]
    · have : setS l s v = l ++ [(s, v)] := by
        clear h1 hl
        induction l with
        | nil => rfl
        | cons p r ih =>
          unfold lookS at hs
          split at hs
          · cases hs
          · rename_i hne
            unfold setS
            rw [if_neg hne, ih hs]; rfl
      unfold MapL at hl ⊢
      rw [this, Array.toList_push, List.map_append, hl, List.map_append]
      rfl
  | some v0 =>
    obtain ⟨j, e', h1, h2, h3, h4⟩ := findNow_some (s := s) 0 hl hs
    rw [Nat.zero_add] at h1
    have hj : es[j]? = some e' := by simpa using h2
    refine ⟨_, es.modify j fun e => { e with key := .string s, val := v }, clock, ?_, (fin _).2.2, ?_, (fin _).1, (fin _).2.1⟩
    · simp [Instr.mapUpdate, run_underlying ht, MapKept.run_getObj_map hb, run_checkStr hk, Instr.findKey, run_underlying hk, h1, hj, h3, Instr.keyThatStays, sameBits_str, MapKept.run_setObj_map _ hb]
    · have := h4 v
      unfold MapL
      rw [Array.toList_modify]
      exact this
end
end Go.Vc

/- Schemas: names, columns, rows that fit. Plain Lean, no program. -/
namespace Go.Vc
open Go Go.RowKit

/-! ### Names -/
def letterB (c : UInt8) : Bool := decide (97 ≤ c.toNat ∧ c.toNat ≤ 122)
def otherB (c : UInt8) : Bool := letterB c || decide (48 ≤ c.toNat ∧ c.toNat ≤ 57) || decide (c.toNat = 95)
def isNameL : List UInt8 → Bool
  | [] => false
  | c :: r => letterB c && r.all otherB && decide ((c :: r).length ≤ 24)
def isName (s : ByteArray) : Bool := isNameL (tB s)

/-! ### Columns -/
structure Col where
  name : ByteArray
  kind : Int
  null : Bool
theorem Col.ext' {a b : Col} : a = b ↔ a.name = b.name ∧ a.kind = b.kind ∧ a.null = b.null := by cases a; cases b; simp
instance : DecidableEq Col := fun _ _ => decidable_of_iff _ Col.ext'.symm
def Col.cs (c : Col) : List Value := [.string c.name, .int .i64 c.kind, .bool c.null]
def Col.agg (x : Col) : Value := .agg #[.string x.name, .int .i64 x.kind, .bool x.null]
theorem Col.cs_length (c : Col) : c.cs.length = 3 := rfl
theorem Col.cs_one (v : Col) : ∀ u ∈ v.cs, u.oneCell' = true := by
  intro u hu
  simp only [Col.cs, List.mem_cons, List.not_mem_nil, or_false] at hu
  rcases hu with rfl | rfl | rfl <;> rfl
abbrev Cols := Ls Col.cs
theorem Ls.col {w : World} {p : Option Addr} {n c : Nat} {l : List Col} (h : Cols w p n c l) {i : Nat} {x : Col} (hi : l[i]? = some x) :
    ∃ b o, p = some ⟨b, o, none⟩ ∧ w.cell? ⟨b, o + i * 3, none⟩ = some (.string x.name) ∧ w.cell? ⟨b, o + i * 3 + 1, none⟩ = some (.int .i64 x.kind) ∧ w.cell? ⟨b, o + i * 3 + 2, none⟩ = some (.bool x.null) := by
  obtain ⟨b, o, hp, hc⟩ := h.lies.things Col.cs_length (by decide) hi
  exact ⟨b, o, hp, by have := hc 0 _ rfl; simpa [Nat.add_assoc] using this, by have := hc 1 _ rfl; rwa [← Nat.add_assoc] at this, by have := hc 2 _ rfl; rwa [← Nat.add_assoc] at this⟩

/-- One column, after those of the names 'met'. -/
def colOk (met : List ByteArray) (c : Col) : Bool := isName c.name && !(met.contains c.name) && decide (1 ≤ c.kind ∧ c.kind ≤ 3)
def colsOk : List ByteArray → List Col → Bool
  | _, [] => true
  | met, c :: r => colOk met c && colsOk (met ++ [c.name]) r
def rightC (cols : List Col) : Bool := decide (1 ≤ cols.length ∧ cols.length ≤ 16) && colsOk [] cols
/-- Where a column stands, or -1. -/
def findC : List Col → ByteArray → Int
  | [], _ => -1
  | c :: r, s => if c.name = s then 0 else if findC r s < 0 then -1 else findC r s + 1
theorem findC_range : ∀ (l : List Col) (s : ByteArray), -1 ≤ findC l s ∧ findC l s < (l.length : Int)
  | [], _ => by simp [findC]
  | c :: r, s => by
    have := findC_range r s
    unfold findC
    simp only [List.length_cons]
    split
    · omega
    · split <;> omega
/-- The first place that has the name. -/
theorem findC_at {l : List Col} {s : ByteArray} {k : Nat} {x : Col} (hx : l[k]? = some x) (hn : x.name = s) (hb : ∀ (j : Nat) y, j < k → l[j]? = some y → y.name ≠ s) : findC l s = (k : Int) := by
  induction l generalizing k with
  | nil => simp at hx
  | cons c r ih =>
    cases k with
    | zero => cases hx; unfold findC; rw [if_pos hn]; rfl
    | succ k =>
      have h0 := hb 0 c (by omega) rfl
      have := ih (k := k) (by simpa using hx) fun j y hj hy => hb (j + 1) y (by omega) (by simpa using hy)
      unfold findC
      rw [if_neg h0, this, if_neg (by omega)]
      omega
theorem findC_none {l : List Col} {s : ByteArray} (hb : ∀ x ∈ l, x.name ≠ s) : findC l s = -1 := by
  induction l with
  | nil => rfl
  | cons c r ih =>
    unfold findC
    rw [if_neg (hb c (by simp)), ih fun x hx => hb x (by simp [hx])]
    rfl
theorem findC_get {l : List Col} {s : ByteArray} (h : 0 ≤ findC l s) : ∃ x, l[(findC l s).toNat]? = some x ∧ x.name = s := by
  induction l with
  | nil => simp [findC] at h
  | cons c r ih =>
    unfold findC at h ⊢
    split
    · exact ⟨c, rfl, ‹_›⟩
    · rename_i hne
      rw [if_neg hne] at h
      split at h
      · omega
      · rename_i hge
        rw [if_neg hge]
        obtain ⟨x, hx, hn⟩ := ih (by omega)
        exact ⟨x, by rw [show (findC r s + 1).toNat = (findC r s).toNat + 1 by omega]; simpa using hx, hn⟩

theorem colsOk_append (met : List ByteArray) (a b : List Col) : colsOk met (a ++ b) = (colsOk met a && colsOk (met ++ a.map Col.name) b) := by
  induction a generalizing met with
  | nil => simp [colsOk]
  | cons c a ih => simp [colsOk, ih, Bool.and_assoc]
/-- The document's look at one column. -/
def colRef (cols : List Col) (i : Nat) (c : Col) : Bool := isName c.name && decide (findC cols c.name = (i : Int)) && decide (1 ≤ c.kind ∧ c.kind ≤ 3)
theorem colRef_eq {cols : List Col} {i : Nat} {c : Col} (hc : cols[i]? = some c) : colRef cols i c = colOk ((cols.take i).map Col.name) c := by
  unfold colRef colOk
  congr 2
  rw [Bool.eq_iff_iff, decide_eq_true_eq, Bool.not_eq_true', ← Bool.not_eq_true, List.contains_iff_mem]
  constructor
  · intro h hm
    obtain ⟨y, hy, hyn⟩ := List.mem_map.1 hm
    obtain ⟨j, hj⟩ := List.mem_iff_getElem?.1 hy
    rw [List.getElem?_take] at hj
    split at hj
    · rename_i hji
      -- the first place with the name is before i
      have key : ∀ (l : List Col) (j : Nat) (y : Col), l[j]? = some y → y.name = c.name → findC l c.name ≤ (j : Int) := by
        intro l
        induction l with
        | nil => intro j y h; simp at h
        | cons d r ih =>
          intro j y hj hyn
          unfold findC
          cases j with
          | zero => cases hj; rw [if_pos hyn]; simp
          | succ j =>
            have := ih j y (by simpa using hj) hyn
            split
            · omega
            · split <;> omega
      have := key cols j y hj hyn
      omega
    · cases hj
  · intro h
    refine findC_at hc rfl fun j y hj hy hyn => h ?_
    exact List.mem_map.2 ⟨y, List.mem_of_getElem? (i := j) (by rw [List.getElem?_take, if_pos hj]; exact hy), hyn⟩

/-! ### Rows that fit -/
def valFits (c : Col) (v : Val) : Bool := v.right && (decide (v.k = c.kind) || (c.null && decide (v.k = 0)))
def fitsL : List Col → List Val → Bool
  | [], [] => true
  | c :: cs, v :: vs => valFits c v && fitsL cs vs
  | _, _ => false
def fitsC (cols : List Col) (row : List Val) : Bool := rightC cols && fitsL cols row
theorem fitsL_length : ∀ {a : List Col} {b : List Val}, fitsL a b = true → a.length = b.length
  | [], [], _ => rfl
  | _ :: _, _ :: _, h => by
    unfold fitsL at h
    rw [Bool.and_eq_true] at h
    simp [fitsL_length h.2]
  | [], _ :: _, h => by cases h
  | _ :: _, [], h => by cases h
theorem fitsL_drop {a : List Col} {b : List Val} {k : Nat} {c : Col} {v : Val} (hc : a[k]? = some c) (hv : b[k]? = some v) : fitsL (a.drop k) (b.drop k) = (valFits c v && fitsL (a.drop (k + 1)) (b.drop (k + 1))) := by
  obtain ⟨h1, rfl⟩ := List.getElem?_eq_some_iff.1 hc
  obtain ⟨h2, rfl⟩ := List.getElem?_eq_some_iff.1 hv
  rw [List.drop_eq_getElem_cons h1, List.drop_eq_getElem_cons h2]
  rfl
theorem fitsL_get {a : List Col} {b : List Val} (h : fitsL a b = true) {k : Nat} {c : Col} {v : Val} (hc : a[k]? = some c) (hv : b[k]? = some v) : valFits c v = true := by
  induction a generalizing b k with
  | nil => simp at hc
  | cons x a ih =>
    cases b with
    | nil => simp at hv
    | cons y b =>
      unfold fitsL at h
      rw [Bool.and_eq_true] at h
      cases k with
      | zero => cases hc; cases hv; exact h.1
      | succ k => exact ih h.2 (by simpa using hc) (by simpa using hv)
end Go.Vc

/- What is handed in, opened, with the depth that is left: for things that hold things of their own type. -/
namespace Go.Vc
open Go Go.RowKit

/-- As 'Arg', of a depth that is told. -/
def ArgF (f : Nat) (P : Program) (w : World) (t : TypeId) (cs : List Value) : Prop :=
  ∃ (H : Type) (enc : TypeId × Value → H) (d : DataW H) (ps : List MemPlace), DataW.trod enc P w 0 (fun _ => true) true f t cs = some (d, ps) ∧ ∀ n ∈ d.weights P t, n ≤ 140737488351232
theorem Arg.told {P : Program} {w : World} {t : TypeId} {cs : List Value} (h : Arg P w t cs) : ∃ f, ArgF f P w t cs := by
  obtain ⟨H, enc, f, d, ps, h, hw⟩ := h
  exact ⟨f, H, enc, d, ps, h, hw⟩
theorem ArgF.arg {f : Nat} {P : Program} {w : World} {t : TypeId} {cs : List Value} (h : ArgF f P w t cs) : Arg P w t cs := by
  obtain ⟨H, enc, d, ps, h, hw⟩ := h
  exact ⟨H, enc, f, d, ps, h, hw⟩
theorem ArgF.pos {f : Nat} {P : Program} {w : World} {t : TypeId} {cs : List Value} (h : ArgF f P w t cs) : ∃ n, f = n + 1 := by
  obtain ⟨H, enc, d, ps, h, hw⟩ := h
  cases f with
  | zero => cases h
  | succ n => exact ⟨n, rfl⟩
section
variable {P : Program} {w : World} {t : TypeId} {cs : List Value}

theorem ArgF.struct {fs : Array Field} {n : Nat} (hu : P.underlying t = some (.struct fs)) (h : ArgF (n + 1) P w t cs) : cs.length = P.cellsOf t ∧ ∀ f ∈ fs.toList, ArgF n P w f.type ((cs.drop f.offset).take (P.cellsOf f.type)) := by
  obtain ⟨H, enc, d, ps, h, hw⟩ := h
  · simp only [DataW.trod, hu] at h
    split at h
    · rename_i hl
      refine ⟨hl, fun f hf => ?_⟩
      cases hm : fs.toList.mapM fun f => DataW.trod enc P w 0 (fun _ => true) true n f.type ((cs.drop f.offset).take (P.cellsOf f.type)) with
      | none => rw [hm] at h; cases h
      | some xs =>
        rw [hm] at h
        cases h
        obtain ⟨i, hi⟩ := List.mem_iff_getElem?.1 hf
        obtain ⟨h1, h2⟩ := mapM_some hm
        obtain ⟨y, hy, hfy⟩ := h2 i f hi
        refine ⟨H, enc, y.1, y.2, hfy, fun k hk => hw k ?_⟩
        simp only [DataW.weights, hu]
        exact DataW.weights_mem_each (j := i) (by simp [hi]) (by simp [hy]) k hk
    · cases h

theorem ArgF.slice {e : TypeId} {m : Nat} (hu : P.underlying t = some (.slice e)) (h0 : 0 < P.cellsOf e) (h : ArgF (m + 1) P w t cs) :
    ∃ (p : Option Addr) (n c : Nat) (css : List (List Value)), cs = [.slice p n c] ∧ n ≤ c ∧ c ≤ maxLen ∧ c * P.bytesOf e ≤ 140737488351232 ∧ css.length = c ∧ (∀ x ∈ css, x.length = P.cellsOf e ∧ ArgF m P w e x) ∧ At w p css.flatten ∧ (p = none → n = 0 ∧ c = 0) := by
  obtain ⟨H, enc, d, ps, h, hw⟩ := h
  · have shape : (cs = [.slice none 0 0]) ∨ ∃ a n c, cs = [.slice (some a) n c] := by
      match cs, h with
      | [], h => simp [DataW.trod, hu] at h
      | [.slice none 0 0], _ => exact .inl rfl
      | [.slice none (n + 1) c], h => simp [DataW.trod, hu] at h
      | [.slice none 0 (c + 1)], h => simp [DataW.trod, hu] at h
      | [.slice (some a) n c], _ => exact .inr ⟨a, n, c, rfl⟩
      | [.bool _], h => simp [DataW.trod, hu] at h
      | [.int _ _], h => simp [DataW.trod, hu] at h
      | [.float _ _], h => simp [DataW.trod, hu] at h
      | [.complex _ _ _], h => simp [DataW.trod, hu] at h
      | [.string _], h => simp [DataW.trod, hu] at h
      | [.pointer _], h => simp [DataW.trod, hu] at h
      | [.map _], h => simp [DataW.trod, hu] at h
      | [.chan _], h => simp [DataW.trod, hu] at h
      | [.nilFunc], h => simp [DataW.trod, hu] at h
      | [.func _ _ _], h => simp [DataW.trod, hu] at h
      | [.nilIface], h => simp [DataW.trod, hu] at h
      | [.iface _ _], h => simp [DataW.trod, hu] at h
      | [.tuple _], h => simp [DataW.trod, hu] at h
      | [.agg _], h => simp [DataW.trod, hu] at h
      | _ :: _ :: _, h => simp [DataW.trod, hu] at h
    rcases shape with rfl | ⟨a, len, cap, rfl⟩
    · exact ⟨none, 0, 0, [], rfl, Nat.le_refl _, Nat.zero_le _, by simp, rfl, fun x hx => by simp at hx, At.nil _ _, fun _ => ⟨rfl, rfl⟩⟩
    · simp only [DataW.trod, hu] at h
      split at h
      · rename_i hc
        obtain ⟨_, hlc, hcm⟩ := hc
        let elemAt : Nat → Option (DataW H × List MemPlace) := fun i => (w.cells? 0 (a.add (i * P.cellsOf e)) (P.cellsOf e)).bind (DataW.trod enc P w 0 (fun _ => true) true m e)
        change ((List.range len).mapM elemAt).bind _ = _ at h
        cases hm1 : (List.range len).mapM elemAt with
        | none => rw [hm1] at h; cases h
        | some elems =>
          rw [hm1] at h
          simp only [Option.bind_some, if_true] at h
          change ((List.range (cap - len)).mapM fun j => elemAt (len + j)).map _ = _ at h
          cases hm2 : (List.range (cap - len)).mapM fun j => elemAt (len + j) with
          | none => rw [hm2] at h; cases h
          | some rest =>
            rw [hm2] at h
            simp only [Option.map_some, Option.some.injEq, Prod.mk.injEq] at h
            obtain ⟨rfl, _⟩ := h
            obtain ⟨a1, a2⟩ := mapM_some hm1
            obtain ⟨b1, b2⟩ := mapM_some hm2
            simp only [List.length_range] at a1 b1
            simp only [DataW.weights, hu, List.length_map, List.mem_cons, List.mem_append] at hw
            have all : ∀ i, i < cap → ∃ cs, w.cells? 0 (a.add (i * P.cellsOf e)) (P.cellsOf e) = some cs ∧ ArgF m P w e cs := by
              intro i hi
              have key : ∃ y, elemAt i = some y ∧ ((∃ j : Nat, elems[j]? = some y) ∨ ∃ j : Nat, rest[j]? = some y) := by
                rcases Nat.lt_or_ge i len with hl | hl
                · obtain ⟨y, hy, hf⟩ := a2 i i (List.getElem?_range hl)
                  exact ⟨y, hf, .inl ⟨i, hy⟩⟩
                · obtain ⟨y, hy, hf⟩ := b2 (i - len) (i - len) (List.getElem?_range (by omega))
                  rw [show len + (i - len) = i by omega] at hf
                  exact ⟨y, hf, .inr ⟨_, hy⟩⟩
              obtain ⟨y, hf, hy⟩ := key
              have hf' : (w.cells? 0 (a.add (i * P.cellsOf e)) (P.cellsOf e)).bind (DataW.trod enc P w 0 (fun _ => true) true m e) = some y := hf
              clear hf
              cases hcs : w.cells? 0 (a.add (i * P.cellsOf e)) (P.cellsOf e) with
              | none => rw [hcs] at hf'; cases hf'
              | some cs =>
                rw [hcs] at hf'
                have hf : DataW.trod enc P w 0 (fun _ => true) true m e cs = some y := hf'
                refine ⟨cs, rfl, H, enc, y.1, y.2, hf, fun k hk => hw k (.inr ?_)⟩
                rcases hy with ⟨j, hy⟩ | ⟨j, hy⟩
                · exact .inl (weightsAll_mem (List.mem_map.2 ⟨y, List.mem_of_getElem? hy, rfl⟩) k hk)
                · exact .inr (weightsAll_mem (List.mem_map.2 ⟨y, List.mem_of_getElem? hy, rfl⟩) k hk)
            obtain ⟨css, hcl, hcss⟩ : ∃ css : List (List Value), css.length = cap ∧ ∀ i x, css[i]? = some x → w.cells? 0 (a.add (i * P.cellsOf e)) (P.cellsOf e) = some x ∧ ArgF m P w e x := by
              refine ⟨(List.range cap).map fun i => (w.cells? 0 (a.add (i * P.cellsOf e)) (P.cellsOf e)).getD [], by simp, fun i x hx => ?_⟩
              rw [List.getElem?_map] at hx
              have hi : i < cap := by
                rcases Nat.lt_or_ge i cap with h' | h'
                · exact h'
                · rw [List.getElem?_eq_none (by simpa using h')] at hx; cases hx
              rw [List.getElem?_range hi] at hx
              obtain ⟨cs, h1, h2⟩ := all i hi
              simp only [Option.map_some, h1, Option.getD_some, Option.some.injEq] at hx
              subst hx
              exact ⟨h1, h2⟩
            have hlen : ∀ x ∈ css, x.length = P.cellsOf e := fun x hx => by
              obtain ⟨i, hi⟩ := List.mem_iff_getElem?.1 hx
              exact (cells?_some (hcss i x hi).1).1
            refine ⟨some a, len, cap, css, rfl, hlc, hcm, ?_, hcl, fun x hx => ?_, ?_, fun e => by cases e⟩
            · have := hw ((elems.length + rest.length) * P.bytesOf e) (.inl rfl)
              rw [a1, b1, show len + (cap - len) = cap by omega] at this
              exact this
            · obtain ⟨i, hi⟩ := List.mem_iff_getElem?.1 hx
              exact ⟨hlen x hx, (hcss i x hi).2⟩
            · cases hcz : css with
              | nil => exact .inl rfl
              | cons c0 r =>
                rw [← hcz]
                have h00 := cells?_some (hcss 0 c0 (by rw [hcz]; rfl)).1
                have hc0 : 0 < c0.length := by rw [h00.1]; exact h0
                have hcell := h00.2 0 c0[0] (by simp [hc0])
                obtain ⟨ab, ao, ag⟩ := a
                have hs : ag = none := by
                  cases ag with
                  | none => rfl
                  | some y =>
                    have e0 : ((⟨ab, ao, some y⟩ : Addr).add (0 * P.cellsOf e)).add 0 = ⟨ab, ao, some y⟩ := by rw [Nat.zero_mul, Addr.add_zero', Addr.add_zero']
                    rw [e0] at hcell
                    simp only [World.cell?, Option.isSome_some, if_true] at hcell
                    split at hcell <;> cases hcell
                subst hs
                refine .inr ⟨ab, ao, rfl, fun i v hv => ?_⟩
                have hdm : i = i / P.cellsOf e * P.cellsOf e + i % P.cellsOf e := by rw [Nat.mul_comm]; exact (Nat.div_add_mod _ _).symm
                have hj := Nat.mod_lt i h0
                rw [hdm, flatten_get hlen hj] at hv
                cases hx : css[i / P.cellsOf e]? with
                | none => rw [hx] at hv; cases hv
                | some x =>
                  rw [hx] at hv
                  have := (cells?_some (hcss _ x hx).1).2 _ v hv
                  rw [Addr.add_lit, Addr.add_lit] at this
                  rw [hdm, ← Nat.add_assoc]; exact this
      · cases h
end


end Go.Vc

/- Expressions: as the memory bears them; which are well formed. Plain Lean, no program. -/
namespace Go.Vc
open Go Go.RowKit

inductive Ex where
  | mk (op : Int) (name : ByteArray) (v : Val) (kids : List Ex)
def Ex.op : Ex → Int | .mk o _ _ _ => o
def Ex.name : Ex → ByteArray | .mk _ n _ _ => n
def Ex.v : Ex → Val | .mk _ _ v _ => v
def Ex.kids : Ex → List Ex | .mk _ _ _ k => k

mutual
def ExAt (w : World) : Ex → List Value → Prop
  | .mk op name v kids, cs => ∃ (p : Option Addr) (n c : Nat) (css : List (List Value)), cs = [.int .i64 op, .string name, .int .i64 v.k, .int .i64 v.n, .string v.s, .slice p n c] ∧ (n ≤ c ∧ c ≤ maxLen) ∧ (p = none → n = 0 ∧ c = 0) ∧ css.length = n ∧
      (∀ x ∈ css, x.length = 6) ∧ At w p css.flatten ∧ ExsAt w kids css
def ExsAt (w : World) : List Ex → List (List Value) → Prop
  | [], [] => True
  | x :: xs, c :: cs => ExAt w x c ∧ ExsAt w xs cs
  | [], _ :: _ => False
  | _ :: _, [] => False
end

theorem ExsAt.length {w : World} : ∀ {xs : List Ex} {css : List (List Value)}, ExsAt w xs css → css.length = xs.length
  | [], [], _ => rfl
  | x :: xs, c :: cs, h => by
    unfold ExsAt at h
    simp [ExsAt.length h.2]
  | [], _ :: _, h => by unfold ExsAt at h; exact h.elim
  | _ :: _, [], h => by unfold ExsAt at h; exact h.elim
theorem ExsAt.get {w : World} : ∀ {xs : List Ex} {css : List (List Value)}, ExsAt w xs css → ∀ {i : Nat} {x : Ex}, xs[i]? = some x → ∃ c, css[i]? = some c ∧ ExAt w x c
  | [], [], _, i, x, hx => by simp at hx
  | x :: xs, c :: cs, h, i, y, hy => by
    unfold ExsAt at h
    cases i with
    | zero => cases hy; exact ⟨c, rfl, h.1⟩
    | succ i =>
      obtain ⟨c', h1, h2⟩ := ExsAt.get h.2 (i := i) (by simpa using hy)
      exact ⟨c', by simpa using h1, h2⟩
  | [], _ :: _, h, _, _, _ => by unfold ExsAt at h; exact h.elim
  | _ :: _, [], h, _, _, _ => by unfold ExsAt at h; exact h.elim
mutual
theorem ExAt.ext {w w' : World} (e : Ext w w') : ∀ {x : Ex} {cs : List Value}, ExAt w x cs → ExAt w' x cs
  | .mk op name v kids, cs, h => by
    unfold ExAt at h ⊢
    obtain ⟨p, n, c, css, h1, h2, h3, h4, h5, h6, h7⟩ := h
    exact ⟨p, n, c, css, h1, h2, h3, h4, h5, h6.ext e, ExsAt.ext e h7⟩
theorem ExsAt.ext {w w' : World} (e : Ext w w') : ∀ {xs : List Ex} {css : List (List Value)}, ExsAt w xs css → ExsAt w' xs css
  | [], [], _ => by unfold ExsAt; trivial
  | x :: xs, c :: cs, h => by
    unfold ExsAt at h ⊢
    exact ⟨ExAt.ext e h.1, ExsAt.ext e h.2⟩
  | [], _ :: _, h => by unfold ExsAt at h; exact h.elim
  | _ :: _, [], h => by unfold ExsAt at h; exact h.elim
end
/-- An expression's cells, and its kids. -/
theorem ExAt.cells {w : World} {x : Ex} {cs : List Value} (h : ExAt w x cs) : ∃ (p : Option Addr) (n c : Nat), cs = [.int .i64 x.op, .string x.name, .int .i64 x.v.k, .int .i64 x.v.n, .string x.v.s, .slice p n c] ∧ (n ≤ c ∧ c ≤ maxLen) ∧ x.kids.length = n ∧ (p = none → n = 0 ∧ c = 0) ∧
    ∀ {w' : World}, Ext w w' → ∀ {i : Nat} {k : Ex}, x.kids[i]? = some k → ∃ kc b o, ExAt w' k kc ∧ p = some ⟨b, o, none⟩ ∧ ∀ (j : Nat) v, kc[j]? = some v → w'.cell? ⟨b, o + (i * 6 + j), none⟩ = some v := by
  obtain ⟨op, name, v, kids⟩ := x
  unfold ExAt at h
  obtain ⟨p, n, c, css, h1, h2, h3, h4, h5, h6, h7⟩ := h
  refine ⟨p, n, c, h1, h2, by rw [← h4, h7.length]; rfl, h3, fun {w'} e {i} {k} hk => ?_⟩
  obtain ⟨kc, hkc, hx⟩ := h7.get hk
  rcases h6 with h6 | ⟨b, o, hp, hc⟩
  · exfalso
    have hl := h5 kc (List.mem_of_getElem? hkc)
    have := flatten_get (css := css) (s := 6) h5 (i := i) (j := 0) (by decide)
    rw [h6, hkc] at this
    have h0 : kc[0]? = some (kc[0]'(by omega)) := List.getElem?_eq_getElem _
    simp [h0] at this
  · refine ⟨kc, b, o, hx.ext e, hp, fun j v hv => cell_ext (hc _ _ ?_) e⟩
    have hj : j < 6 := by rw [← h5 kc (List.mem_of_getElem? hkc)]; exact (List.getElem?_eq_some_iff.1 hv).1
    rw [flatten_get h5 hj, hkc]
    exact hv

/-! ### Which are well formed -/
def manyOf (op : Int) : Int := if op = 1 ∨ op = 2 then 0 else if op = 8 ∨ op = 14 ∨ op = 15 ∨ op = 16 then 1 else if 3 ≤ op ∧ op ≤ 13 then 2 else -1
def NodeOk (x : Ex) : Prop := (x.kids.length : Int) = manyOf x.op ∧ (x.op = 1 ∨ x.name = ⟨#[]⟩) ∧ (x.op = 2 ∨ x.v = nullV) ∧ x.v.Ok
instance (x : Ex) : Decidable (NodeOk x) := by unfold NodeOk; exact inferInstance
mutual
def nodesT : Ex → List Ex
  | .mk o n v ks => .mk o n v ks :: nodesTs ks
def nodesTs : List Ex → List Ex
  | [] => []
  | k :: r => nodesT k ++ nodesTs r
end
mutual
def depthT : Ex → Nat
  | .mk _ _ _ ks => 1 + depthTs ks
def depthTs : List Ex → Nat
  | [] => 0
  | k :: r => max (depthT k) (depthTs r)
end
def FormedP (x : Ex) : Prop := (∀ y ∈ nodesT x, NodeOk y) ∧ depthT x ≤ 40 ∧ (nodesT x).length ≤ 400
instance (x : Ex) : Decidable (FormedP x) := by unfold FormedP; exact inferInstance
def formedB (x : Ex) : Bool := decide (FormedP x)

mutual
/-- The program's walk: no deeper than may be. -/
def walkT : Ex → Nat → List (Nat × Ex)
  | .mk o n v ks, d => (d, .mk o n v ks) :: (if 40 < d then [] else walkTs ks (d + 1))
def walkTs : List Ex → Nat → List (Nat × Ex)
  | [], _ => []
  | k :: r, d => walkT k d ++ walkTs r d
end
def goW : List (Nat × Ex) → Nat → Bool
  | [], _ => true
  | p :: r, m => if 40 < p.1 ∨ 400 < m + 1 ∨ ¬ NodeOk p.2 then false else goW r (m + 1)
theorem goW_iff : ∀ (l : List (Nat × Ex)) (m : Nat), m ≤ 400 → (goW l m = true ↔ (∀ p ∈ l, p.1 ≤ 40 ∧ NodeOk p.2) ∧ m + l.length ≤ 400)
  | [], m, hm => by simp [goW, hm]
  | p :: r, m, hm => by
    unfold goW
    split
    · rename_i h
      constructor
      · intro h'; cases h'
      · rintro ⟨h1, h2⟩
        have := h1 p (by simp)
        simp only [List.length_cons] at h2
        rcases h with h | h | h
        · omega
        · omega
        · exact absurd this.2 h
    · rename_i h
      have h1 : p.1 ≤ 40 := by omega
      have h2 : m + 1 ≤ 400 := by omega
      have h3 : NodeOk p.2 := Decidable.not_not.1 fun hn => h (.inr (.inr hn))
      rw [goW_iff r (m + 1) h2]
      simp only [List.length_cons, List.mem_cons, forall_eq_or_imp]
      constructor
      · rintro ⟨a, b⟩; exact ⟨⟨⟨h1, h3⟩, a⟩, by omega⟩
      · rintro ⟨⟨_, a⟩, b⟩; exact ⟨a, by omega⟩
mutual
theorem walkT_spec : ∀ (x : Ex) (d : Nat), ((∀ p ∈ walkT x d, p.1 ≤ 40) ↔ d + depthT x ≤ 41) ∧ (d + depthT x ≤ 41 → (walkT x d).map (·.2) = nodesT x)
  | .mk o n v ks, d => by
    have hk := walkTs_spec ks (d + 1)
    unfold walkT depthT nodesT
    by_cases hd : 40 < d
    · rw [if_pos hd]
      refine ⟨⟨fun h => ?_, fun h => ?_⟩, fun h => ?_⟩
      · have := h (d, .mk o n v ks) (by simp); simp at this; omega
      · omega
      · omega
    · rw [if_neg hd]
      refine ⟨⟨fun h => ?_, fun h => ?_⟩, fun h => ?_⟩
      · have := hk.1 fun p hp => h p (by simp [hp])
        omega
      · intro p hp
        rcases List.mem_cons.1 hp with rfl | hp
        · simp; omega
        · exact hk.2.1 (.inr (by omega)) p hp
      · rw [List.map_cons, hk.2.2 (.inr (by omega))]
theorem walkTs_spec : ∀ (xs : List Ex) (d : Nat), ((∀ p ∈ walkTs xs d, p.1 ≤ 40) → depthTs xs = 0 ∨ d + depthTs xs ≤ 41) ∧ ((depthTs xs = 0 ∨ d + depthTs xs ≤ 41) → ∀ p ∈ walkTs xs d, p.1 ≤ 40) ∧ ((depthTs xs = 0 ∨ d + depthTs xs ≤ 41) → (walkTs xs d).map (·.2) = nodesTs xs)
  | [], d => by simp [walkTs, depthTs, nodesTs]
  | k :: r, d => by
    have h1 := walkT_spec k d
    have h2 := walkTs_spec r d
    have hpos : 1 ≤ depthT k := by cases k; unfold depthT; omega
    unfold walkTs depthTs nodesTs
    refine ⟨fun h => ?_, fun h => ?_, fun h => ?_⟩
    · have a := h1.1.1 fun p hp => h p (List.mem_append_left _ hp)
      have b := h2.1 fun p hp => h p (List.mem_append_right _ hp)
      omega
    · intro p hp
      rcases List.mem_append.1 hp with hp | hp
      · exact h1.1.2 (by omega) p hp
      · exact h2.2.1 (by omega) p hp
    · rw [List.map_append, h1.2 (by omega), h2.2.2 (by omega)]
end
theorem goW_formed (x : Ex) : goW (walkT x 1) 0 = formedB x := by
  obtain ⟨h1, h2⟩ := walkT_spec x 1
  unfold formedB
  rw [Bool.eq_iff_iff, goW_iff _ _ (by omega), decide_eq_true_eq]
  unfold FormedP
  constructor
  · rintro ⟨a, b⟩
    have hd := h1.1 fun p hp => (a p hp).1
    have hm := h2 hd
    refine ⟨fun y hy => ?_, by omega, ?_⟩
    · rw [← hm] at hy
      obtain ⟨p, hp, rfl⟩ := List.mem_map.1 hy
      exact (a p hp).2
    · rw [← hm, List.length_map]; omega
  · rintro ⟨a, b, c⟩
    have hd : 1 + depthT x ≤ 41 := by omega
    have hm := h2 hd
    refine ⟨fun p hp => ⟨h1.2 hd p hp, a _ ?_⟩, ?_⟩
    · rw [← hm]; exact List.mem_map.2 ⟨p, hp, rfl⟩
    · rw [← hm, List.length_map] at c; omega

mutual
/-- The document's look: how many nodes are left; below 0: no. -/
def refF : Ex → Int → Int → Int
  | .mk o n v ks, d, left => if d < 1 ∨ left < 1 ∨ ¬ NodeOk (.mk o n v ks) then -1 else refFs ks (d - 1) (left - 1)
def refFs : List Ex → Int → Int → Int
  | [], _, left => left
  | k :: r, d, left => if left < 0 then left else refFs r d (refF k d left)
end
mutual
theorem refF_spec : ∀ (x : Ex) (d left : Int), (0 ≤ refF x d left ↔ (∀ y ∈ nodesT x, NodeOk y) ∧ (depthT x : Int) ≤ d ∧ ((nodesT x).length : Int) ≤ left) ∧ (0 ≤ refF x d left → refF x d left = left - (nodesT x).length)
  | .mk o n v ks, d, left => by
    have hk := refFs_spec ks (d - 1) (left - 1)
    unfold refF depthT nodesT
    simp only [List.length_cons, List.mem_cons, forall_eq_or_imp]
    split
    · rename_i h
      refine ⟨⟨fun h' => absurd h' (by decide), ?_⟩, fun h' => absurd h' (by decide)⟩
      rintro ⟨⟨a, _⟩, b, c⟩
      exfalso
      rcases h with h | h | h
      · omega
      · omega
      · exact h a
    · rename_i h
      have h1 : 1 ≤ d := by omega
      have h2 : 1 ≤ left := by omega
      have h3 : NodeOk (.mk o n v ks) := Decidable.not_not.1 fun hn => h (.inr (.inr hn))
      refine ⟨?_, fun h' => by rw [hk.2 h']; omega⟩
      rw [hk.1 (by omega)]
      constructor
      · rintro ⟨a, b, c⟩; exact ⟨⟨h3, a⟩, by omega, by omega⟩
      · rintro ⟨⟨_, a⟩, b, c⟩; exact ⟨a, by omega, by omega⟩
theorem refFs_spec : ∀ (xs : List Ex) (d left : Int), (0 ≤ left → (0 ≤ refFs xs d left ↔ (∀ y ∈ nodesTs xs, NodeOk y) ∧ (depthTs xs : Int) ≤ max d 0 ∧ ((nodesTs xs).length : Int) ≤ left)) ∧ (0 ≤ refFs xs d left → refFs xs d left = left - (nodesTs xs).length)
  | [], d, left => by
    unfold refFs nodesTs depthTs
    refine ⟨fun h => ⟨fun _ => ⟨by simp, by omega, by simpa using h⟩, fun _ => h⟩, fun _ => by simp⟩
  | k :: r, d, left => by
    have h1 := refF_spec k d left
    have h2 := refFs_spec r d (refF k d left)
    have hpos : 1 ≤ depthT k := by cases k; unfold depthT; omega
    have neg : refF k d left < 0 → refFs r d (refF k d left) < 0 := fun hn => by
      cases r with
      | nil => unfold refFs; exact hn
      | cons a b => unfold refFs; rw [if_pos hn]; exact hn
    unfold refFs nodesTs depthTs
    simp only [List.length_append, List.mem_append]
    refine ⟨fun hl => ?_, fun h => ?_⟩
    · rw [if_neg (by omega)]
      constructor
      · intro h
        have hk : 0 ≤ refF k d left := by
          rcases Int.lt_or_le (refF k d left) 0 with hlt | hge
          · have := neg hlt; omega
          · exact hge
        obtain ⟨a1, a2, a3⟩ := h1.1.1 hk
        obtain ⟨b1, b2, b3⟩ := (h2.1 hk).1 h
        have e := h1.2 hk
        refine ⟨fun y hy => ?_, by omega, by omega⟩
        rcases hy with hy | hy
        · exact a1 y hy
        · exact b1 y hy
      · rintro ⟨a, b, c⟩
        have hk : 0 ≤ refF k d left := h1.1.2 ⟨fun y hy => a y (.inl hy), by omega, by omega⟩
        have e := h1.2 hk
        exact (h2.1 hk).2 ⟨fun y hy => a y (.inr hy), by omega, by omega⟩
    · split at h
      · omega
      · rename_i hge
        rw [if_neg hge]
        have hk : 0 ≤ refF k d left := by
          rcases Int.lt_or_le (refF k d left) 0 with hlt | hge
          · have := neg hlt; omega
          · exact hge
        have e := h1.2 hk
        rw [h2.2 h]
        omega
end
theorem refF_formed (x : Ex) : decide (0 ≤ refF x 40 400) = formedB x := by
  unfold formedB
  rw [decide_eq_decide, (refF_spec x 40 400).1]
  unfold FormedP
  constructor
  · rintro ⟨a, b, c⟩; exact ⟨a, by omega, by omega⟩
  · rintro ⟨a, b, c⟩; exact ⟨a, by omega, by omega⟩
/-- An expression's cells. -/
theorem ExAt.six {w : World} {x : Ex} {cs : List Value} (h : ExAt w x cs) : ∃ (p : Option Addr) (n c : Nat), cs = [.int .i64 x.op, .string x.name, .int .i64 x.v.k, .int .i64 x.v.n, .string x.v.s, .slice p n c] ∧ x.kids.length = n ∧ n ≤ 9223372036854775807 ∧
    ∀ {w' : World}, Ext w w' → ∀ {i : Nat} {k : Ex}, x.kids[i]? = some k → ∃ kc b o, ExAt w k kc ∧ p = some ⟨b, o, none⟩ ∧ ∀ (j : Nat) v, kc[j]? = some v → w'.cell? ⟨b, o + i * 6 + j, none⟩ = some v := by
  obtain ⟨p, n, c, h1, h2, h3, h4, h5⟩ := h.cells
  refine ⟨p, n, c, h1, h3, Nat.le_trans h2.1 h2.2, fun {w'} e {i} {k} hk => ?_⟩
  obtain ⟨kc, b, o, a1, a2, a3⟩ := h5 Ext.rfl hk
  exact ⟨kc, b, o, a1, a2, fun j v hv => by rw [Nat.add_assoc]; exact cell_ext (a3 j v hv) e⟩

theorem depthTs_get : ∀ {l : List Ex} {i : Nat} {k : Ex}, l[i]? = some k → depthT k ≤ depthTs l
  | [], i, k, h => by simp at h
  | x :: r, i, k, h => by
    unfold depthTs
    cases i with
    | zero => cases h; omega
    | succ i => have := depthTs_get (l := r) (i := i) (by simpa using h); omega
theorem walkTs_take {l : List Ex} {i : Nat} {k : Ex} (d : Nat) (h : l[i]? = some k) : walkTs (l.take (i + 1)) d = walkTs (l.take i) d ++ walkT k d := by
  induction l generalizing i with
  | nil => simp at h
  | cons x r ih =>
    cases i with
    | zero => cases h; simp [walkTs]
    | succ i => simp [walkTs, ih (i := i) (by simpa using h)]
theorem walkTs_pre {l : List Ex} (i : Nat) (d : Nat) : ∃ r, walkTs l d = walkTs (l.take i) d ++ r := by
  induction l generalizing i with
  | nil => exact ⟨[], by simp [walkTs]⟩
  | cons x r ih =>
    cases i with
    | zero => exact ⟨walkTs (x :: r) d, by simp [walkTs]⟩
    | succ i => obtain ⟨q, hq⟩ := ih i; exact ⟨q, by simp [walkTs, hq]⟩
theorem walkTs_at {l : List Ex} {i : Nat} {k : Ex} {d j : Nat} {p : Nat × Ex} (h : l[i]? = some k) (hp : (walkT k d)[j]? = some p) : (walkTs l d)[(walkTs (l.take i) d).length + j]? = some p := by
  obtain ⟨r, hr⟩ := walkTs_pre (l := l) (i + 1) d
  rw [hr, walkTs_take d h, List.append_assoc, List.getElem?_append_right (by omega), Nat.add_sub_cancel_left, List.getElem?_append_left (List.getElem?_eq_some_iff.1 hp).1, hp]


/-! ### The table of shapes -/
def wantOf (op : Int) : Int := if 3 ≤ op ∧ op ≤ 8 then 1 else if 12 ≤ op ∧ op ≤ 14 then 2 else if op = 16 then 3 else 0
def kindOf (op : Int) : Int := if 3 ≤ op ∧ op ≤ 8 ∨ op = 16 then 1 else if 9 ≤ op ∧ op ≤ 15 then 2 else 0
def shapeC (i : Nat) : List Value := [.int .i64 (manyOf i), .int .i64 (wantOf i), .int .i64 (kindOf i)]
def shapesA : Array Value := ((List.range 17).flatMap shapeC).toArray
theorem shapes_at {i : Nat} (h : i < 17) : shapesA[i * 3]? = some (.int .i64 (manyOf i)) ∧ shapesA[i * 3 + 1]? = some (.int .i64 (wantOf i)) ∧ shapesA[i * 3 + 2]? = some (.int .i64 (kindOf i)) := by
  have hi : (List.range 17)[i]? = some i := List.getElem?_range h
  have hs : ∀ x, (shapeC x).length = 3 := fun x => rfl
  have key : ∀ j : Nat, j < 3 → shapesA[i * 3 + j]? = (shapeC i)[j]? := fun j hj => by
    have := flatMap_get hs hi hj
    unfold shapesA
    rw [List.getElem?_toArray]; exact this
  exact ⟨key 0 (by decide), key 1 (by decide), key 2 (by decide)⟩
theorem many_range {op : Int} (h : 0 ≤ manyOf op) : 1 ≤ op ∧ op ≤ 16 := by
  unfold manyOf at h
  split at h
  · omega
  · split at h
    · omega
    · split at h <;> omega
end Go.Vc

/- Numbers: signs of bitwise operations; products of 64 bits; which results are numbers of 64 bits. -/
namespace Go.Vc
open Go

theorem wrap_bv (v : BitVec 64) : IntKind.i64.wrap ((v.toNat : Nat) : Int) = v.toInt := by
  rw [IntKind.wrap_i64, BitVec.toInt_eq_toNat_cond]
  have := v.isLt
  split <;> omega
theorem toInt_of {a : Int} (h0 : -9223372036854775808 ≤ a) (h1 : a ≤ 9223372036854775807) : (BitVec.ofInt 64 a).toInt = a := by
  rw [BitVec.toInt_ofInt, Int.bmod_def]
  split <;> omega
theorem and_i64_bv (a b : Int) : bits .and .i64 a b = (BitVec.ofInt 64 a &&& BitVec.ofInt 64 b).toInt := by
  rw [← wrap_bv]; rfl
theorem xor_i64_bv (a b : Int) : bits .xor .i64 a b = (BitVec.ofInt 64 a ^^^ BitVec.ofInt 64 b).toInt := by
  rw [← wrap_bv]; rfl
theorem i64_range (v : BitVec 64) : -9223372036854775808 ≤ v.toInt ∧ v.toInt ≤ 9223372036854775807 := by
  rw [BitVec.toInt_eq_toNat_cond]
  have := v.isLt
  split <;> omega
theorem and_neg {a b : Int} (a0 : -9223372036854775808 ≤ a) (a1 : a ≤ 9223372036854775807) (b0 : -9223372036854775808 ≤ b) (b1 : b ≤ 9223372036854775807) : bits .and .i64 a b < 0 ↔ a < 0 ∧ b < 0 := by
  have h := BitVec.msb_and (x := BitVec.ofInt 64 a) (y := BitVec.ofInt 64 b)
  rw [BitVec.msb_eq_toInt, BitVec.msb_eq_toInt, BitVec.msb_eq_toInt, toInt_of a0 a1, toInt_of b0 b1] at h
  rw [and_i64_bv, ← decide_eq_true_iff (p := BitVec.toInt _ < 0), h]; simp
theorem xor_neg {a b : Int} (a0 : -9223372036854775808 ≤ a) (a1 : a ≤ 9223372036854775807) (b0 : -9223372036854775808 ≤ b) (b1 : b ≤ 9223372036854775807) : bits .xor .i64 a b < 0 ↔ ¬ (a < 0 ↔ b < 0) := by
  have h := BitVec.msb_xor (x := BitVec.ofInt 64 a) (y := BitVec.ofInt 64 b)
  rw [BitVec.msb_eq_toInt, BitVec.msb_eq_toInt, BitVec.msb_eq_toInt, toInt_of a0 a1, toInt_of b0 b1] at h
  rw [xor_i64_bv, ← decide_eq_true_iff (p := BitVec.toInt _ < 0), h]
  by_cases ha : a < 0 <;> by_cases hb : b < 0 <;> simp [ha, hb]
theorem xor_range (a b : Int) : -9223372036854775808 ≤ bits .xor .i64 a b ∧ bits .xor .i64 a b ≤ 9223372036854775807 := by rw [xor_i64_bv]; exact i64_range _

/-- A number of 64 bits. -/
def fitI (x : Int) : Prop := -9223372036854775808 ≤ x ∧ x ≤ 9223372036854775807
instance (x : Int) : Decidable (fitI x) := by unfold fitI; exact inferInstance
theorem add_over {a b : Int} (ha : fitI a) (hb : fitI b) : bits .and .i64 (bits .xor .i64 a (IntKind.i64.wrap (a + b))) (bits .xor .i64 b (IntKind.i64.wrap (a + b))) < 0 ↔ ¬ fitI (a + b) := by
  unfold fitI at *
  have hw := IntKind.wrap_i64 (a + b)
  obtain ⟨x0, x1⟩ := xor_range a (IntKind.i64.wrap (a + b))
  obtain ⟨y0, y1⟩ := xor_range b (IntKind.i64.wrap (a + b))
  rw [and_neg x0 x1 y0 y1, xor_neg ha.1 ha.2 (by omega) (by omega), xor_neg hb.1 hb.2 (by omega) (by omega)]
  omega
theorem sub_over {a b : Int} (ha : fitI a) (hb : fitI b) : bits .and .i64 (bits .xor .i64 a b) (bits .xor .i64 a (IntKind.i64.wrap (a - b))) < 0 ↔ ¬ fitI (a - b) := by
  unfold fitI at *
  have hw := IntKind.wrap_i64 (a - b)
  obtain ⟨x0, x1⟩ := xor_range a b
  obtain ⟨y0, y1⟩ := xor_range a (IntKind.i64.wrap (a - b))
  rw [and_neg x0 x1 y0 y1, xor_neg ha.1 ha.2 hb.1 hb.2, xor_neg ha.1 ha.2 (by omega) (by omega)]
  omega

theorem shr32_u64 (v : Nat) : shrI .u64 (v : Int) 32 = ((v / 4294967296 : Nat) : Int) := by
  have : shrI .u64 (v : Int) 32 = Int.fdiv (v : Int) 4294967296 := rfl
  rw [this, Int.fdiv_eq_ediv_of_nonneg _ (by decide)]; omega
theorem and32_u64 {v : Nat} (h : v < 18446744073709551616) : bits .and .u64 (v : Int) 4294967295 = ((v % 4294967296 : Nat) : Int) := by
  have := bits_mask .u64 64 (by decide) (fun m h0 h1 => by simp [IntKind.wrap, IntKind.bits, IntKind.signed]; omega) 32 (by decide) (v : Int) (by omega) (by show (v : Int) < 18446744073709551616; omega)
  rw [show ((2 : Int) ^ 32 - 1) = 4294967295 from rfl, show ((2 : Int) ^ 32) = 4294967296 from rfl] at this
  rw [this]; omega
/-- The product of two numbers of 64 bits, in two words. -/
theorem mul64_hi {x y : Nat} (hx : x < 18446744073709551616) (hy : y < 18446744073709551616) :
    (IntKind.u64.wrap (IntKind.u64.wrap (IntKind.u64.wrap (shrI .u64 (x : Int) 32 * shrI .u64 (y : Int) 32) + shrI .u64 (IntKind.u64.wrap (IntKind.u64.wrap (shrI .u64 (x : Int) 32 * bits .and .u64 (y : Int) 4294967295) + shrI .u64 (IntKind.u64.wrap (bits .and .u64 (x : Int) 4294967295 * bits .and .u64 (y : Int) 4294967295)) 32)) 32) +
      shrI .u64 (IntKind.u64.wrap (bits .and .u64 (IntKind.u64.wrap (IntKind.u64.wrap (shrI .u64 (x : Int) 32 * bits .and .u64 (y : Int) 4294967295) + shrI .u64 (IntKind.u64.wrap (bits .and .u64 (x : Int) 4294967295 * bits .and .u64 (y : Int) 4294967295)) 32)) 4294967295 + IntKind.u64.wrap (bits .and .u64 (x : Int) 4294967295 * shrI .u64 (y : Int) 32))) 32)) = ((x * y / 18446744073709551616 : Nat) : Int) := by
  rw [shr32_u64, shr32_u64, and32_u64 hx, and32_u64 hy]
  have hxd : x = x / 4294967296 * 4294967296 + x % 4294967296 := by omega
  have hyd : y = y / 4294967296 * 4294967296 + y % 4294967296 := by omega
  have hx1 : x / 4294967296 ≤ 4294967295 := by omega
  have hy1 : y / 4294967296 ≤ 4294967295 := by omega
  have hx0 : x % 4294967296 ≤ 4294967295 := by omega
  have hy0 : y % 4294967296 ≤ 4294967295 := by omega
  generalize x / 4294967296 = a at *
  generalize x % 4294967296 = b at *
  generalize y / 4294967296 = c at *
  generalize y % 4294967296 = d at *
  have p11 := Nat.mul_le_mul hx1 hy1
  have p10 := Nat.mul_le_mul hx1 hy0
  have p01 := Nat.mul_le_mul hx0 hy1
  have p00 := Nat.mul_le_mul hx0 hy0
  have hxy : x * y = a * c * 18446744073709551616 + (a * d + b * c) * 4294967296 + b * d := by
    rw [hxd, hyd]
    simp only [Nat.add_mul, Nat.mul_add]
    have e1 : a * 4294967296 * (c * 4294967296) = a * c * 18446744073709551616 := by rw [Nat.mul_mul_mul_comm]
    have e2 : a * 4294967296 * d = a * d * 4294967296 := by rw [Nat.mul_right_comm]
    have e3 : b * (c * 4294967296) = b * c * 4294967296 := by rw [Nat.mul_assoc]
    rw [e1, e2, e3]; omega
  rw [hxy, ← Int.natCast_mul, ← Int.natCast_mul, ← Int.natCast_mul, ← Int.natCast_mul]
  generalize a * c = p at *
  generalize a * d = q at *
  generalize b * c = r at *
  generalize b * d = s at *
  rw [u64_fit (n := (s : Int)) (by omega) (by omega), shr32_u64, u64_fit (n := (q : Int)) (by omega) (by omega), ← Int.natCast_add, u64_fit (n := ((q + s / 4294967296 : Nat) : Int)) (by omega) (by omega), shr32_u64, and32_u64 (by omega), u64_fit (n := (r : Int)) (by omega) (by omega), ← Int.natCast_add,
    u64_fit (n := (((q + s / 4294967296) % 4294967296 + r : Nat) : Int)) (by omega) (by omega), shr32_u64, u64_fit (n := (p : Int)) (by omega) (by omega)]
  rw [← Int.natCast_add, u64_fit (n := ((p + (q + s / 4294967296) / 4294967296 : Nat) : Int)) (by omega) (by omega), ← Int.natCast_add, u64_fit (by omega) (by omega)]
  omega
end Go.Vc

/- What expressions come to: kinds and values. Plain Lean, no program. -/
namespace Go.Vc
open Go Go.RowKit

/-! ### One behind the other, till one has an error -/
section
variable {α : Type} {f : Ex → α × Int}
def runL (f : Ex → α × Int) : List Ex → List α × Int
  | [] => ([], 0)
  | k :: r => if (f k).2 ≠ 0 then ([], (f k).2) else if (runL f r).2 ≠ 0 then ([], (runL f r).2) else ((f k).1 :: (runL f r).1, 0)
theorem runL_snoc (l : List Ex) (k : Ex) (h : (runL f l).2 = 0) : runL f (l ++ [k]) = if (f k).2 ≠ 0 then ([], (f k).2) else ((runL f l).1 ++ [(f k).1], 0) := by
  induction l with
  | nil => simp [runL]
  | cons x r ih =>
    unfold runL at h
    split at h
    · rename_i hx; exact absurd h hx
    · rename_i hx
      split at h
      · rename_i hr; exact absurd h hr
      · rename_i hr
        have := ih (by omega)
        rw [List.cons_append, runL, if_neg hx, this, runL, if_neg hx, if_neg hr]
        split
        · rename_i hk; simp
        · simp
theorem runL_take {l : List Ex} {j : Nat} {k : Ex} (hk : l[j]? = some k) (h : (runL f (l.take j)).2 = 0) : runL f (l.take (j + 1)) = if (f k).2 ≠ 0 then ([], (f k).2) else ((runL f (l.take j)).1 ++ [(f k).1], 0) := by
  have : l.take (j + 1) = l.take j ++ [k] := by rw [List.take_add_one, hk]; rfl
  rw [this, runL_snoc _ _ h]
theorem runL_err (a b : List Ex) (h : (runL f a).2 ≠ 0) : runL f (a ++ b) = ([], (runL f a).2) := by
  induction a with
  | nil => exact absurd rfl h
  | cons x r ih =>
    rw [List.cons_append]
    unfold runL at h ⊢
    split
    · rfl
    · rename_i hx
      rw [if_neg hx] at h
      split at h
      · rename_i hr
        rw [ih hr]; simp [hr]
      · exact absurd rfl h
theorem runL_stop {l : List Ex} {j : Nat} {k : Ex} (hk : l[j]? = some k) (h : (runL f (l.take j)).2 = 0) (he : (f k).2 ≠ 0) : runL f l = ([], (f k).2) := by
  have h1 := runL_take (f := f) hk h
  rw [if_pos he] at h1
  have h2 := runL_err (f := f) (l.take (j + 1)) (l.drop (j + 1)) (by rw [h1]; exact he)
  rw [List.take_append_drop, h1] at h2
  exact h2
theorem runL_len {l : List Ex} (h : (runL f l).2 = 0) : (runL f l).1.length = l.length := by
  induction l with
  | nil => rfl
  | cons x r ih =>
    unfold runL at h ⊢
    split at h
    · rename_i hx; exact absurd h hx
    · rename_i hx
      split at h
      · rename_i hr; exact absurd h hr
      · rename_i hr
        rw [if_neg hx, if_neg hr]
        simp [ih (by omega)]
theorem runL_get {l : List Ex} (h : (runL f l).2 = 0) {i : Nat} {k : Ex} (hk : l[i]? = some k) : (f k).2 = 0 ∧ (runL f l).1[i]? = some (f k).1 := by
  induction l generalizing i with
  | nil => simp at hk
  | cons x r ih =>
    unfold runL at h ⊢
    split at h
    · rename_i hx; exact absurd h hx
    · rename_i hx
      split at h
      · rename_i hr; exact absurd h hr
      · rename_i hr
        rw [if_neg hx, if_neg hr]
        cases i with
        | zero => cases hk; exact ⟨by omega, rfl⟩
        | succ i => simpa using ih (by omega) (i := i) (by simpa using hk)
theorem runL_nil {l : List Ex} (h : (runL f l).2 ≠ 0) : (runL f l).1 = [] := by
  cases l with
  | nil => rfl
  | cons x r =>
    unfold runL at h ⊢
    split
    · rfl
    · rename_i hx
      split
      · rfl
      · rename_i hr
        rw [if_neg hx, if_neg hr] at h
        exact absurd rfl h
end

/-! ### Kinds -/
def alikeB (a b : Int) : Bool := decide (a = b) || decide (a = 0) || decide (b = 0)
def kindN (cols : List Col) (op : Int) (name : ByteArray) (v : Val) (l : List Int) : Int × Int :=
  if wantOf op ≠ 0 ∧ ¬ (∀ g ∈ l, alikeB g (wantOf op) = true) then (0, 121)
  else if op = 1 then (if findC cols name < 0 then (0, 120) else (((cols[(findC cols name).toNat]?).map Col.kind).getD 0, 0))
  else if op = 2 then (v.k, 0)
  else if (op = 9 ∨ op = 10 ∨ op = 11) ∧ alikeB (l.getD 0 0) (l.getD 1 0) = false then (0, 121)
  else (kindOf op, 0)
mutual
def kindF (cols : List Col) : Ex → Int × Int
  | .mk op name v ks => if (kindsF cols ks).2 ≠ 0 then (0, (kindsF cols ks).2) else kindN cols op name v (kindsF cols ks).1
def kindsF (cols : List Col) : List Ex → List Int × Int
  | [] => ([], 0)
  | k :: r => if (kindF cols k).2 ≠ 0 then ([], (kindF cols k).2) else if (kindsF cols r).2 ≠ 0 then ([], (kindsF cols r).2) else ((kindF cols k).1 :: (kindsF cols r).1, 0)
end
theorem kindsF_eq (cols : List Col) (l : List Ex) : kindsF cols l = runL (kindF cols) l := by
  induction l with
  | nil => simp [kindsF, runL]
  | cons k r ih => rw [kindsF, runL, ih]
theorem kindF_eq (cols : List Col) (x : Ex) : kindF cols x = if (runL (kindF cols) x.kids).2 ≠ 0 then (0, (runL (kindF cols) x.kids).2) else kindN cols x.op x.name x.v (runL (kindF cols) x.kids).1 := by
  cases x; rw [kindF, kindsF_eq]; rfl

/-! ### Values -/
def truthV (b : Bool) : Val := ⟨2, if b then 1 else 0, ⟨#[]⟩⟩
def thirdI (v : Val) : Int := if v.k = 0 then 2 else v.n
def answerV (n : Int) : Val := if n = 2 then nullV else truthV (decide (n = 1))
def andI (i j : Int) : Int := if i = 0 ∨ j = 0 then 0 else if i = 2 ∨ j = 2 then 2 else 1
def orJ (i j : Int) : Int := if i = 1 ∨ j = 1 then 1 else if i = 2 ∨ j = 2 then 2 else 0
def tabA (f : Int → Int → Int) : Array Value := ((List.range 9).map fun i => Value.int .i64 (f ((i / 3 : Nat) : Int) ((i % 3 : Nat) : Int))).toArray
theorem tabA_at (f : Int → Int → Int) {i j : Nat} (hi : i < 3) (hj : j < 3) : (tabA f)[i * 3 + j]? = some (.int .i64 (f i j)) := by
  unfold tabA
  rw [List.getElem?_toArray, List.getElem?_map, List.getElem?_range (by omega)]
  simp only [Option.map_some]
  rw [show (i * 3 + j) / 3 = i by omega, show (i * 3 + j) % 3 = j by omega]
def overF (x : Int) : Int × Int := if fitI x then (x, 0) else (0, 100)
def arithF (op a b : Int) : Int × Int :=
  if (op = 6 ∨ op = 7) ∧ b = 0 then (0, 101) else if op = 3 then overF (a + b) else if op = 4 then overF (a - b) else if op = 5 then overF (a * b) else if op = 6 then overF (a.tdiv b) else if op = 7 then (a.tmod b, 0) else (0, 0)
def pairF (op : Int) (a b : Val) : Val × Int :=
  if op = 12 then (answerV (andI (thirdI a) (thirdI b)), 0) else if op = 13 then (answerV (orJ (thirdI a) (thirdI b)), 0)
  else if a.k = 0 ∨ b.k = 0 then (nullV, 0)
  else if op = 9 then (truthV (decide (cmpV a b = 0)), 0) else if op = 10 then (truthV (decide (cmpV a b < 0)), 0) else if op = 11 then (truthV (decide (cmpV a b ≤ 0)), 0)
  else if (arithF op a.n b.n).2 ≠ 0 then (nullV, (arithF op a.n b.n).2) else (numV (arithF op a.n b.n).1, 0)
def singleF (op : Int) (v : Val) : Val × Int :=
  if op = 15 then (truthV (decide (v.k = 0)), 0) else if v.k = 0 then (v, 0) else if op = 14 then (truthV (decide (v.n = 0)), 0)
  else if op = 16 then (numV v.s.size, 0) else pairF 4 (numV 0) v
def valueN (cols : List Col) (row : List Val) (op : Int) (name : ByteArray) (v : Val) (l : List Val) : Val × Int :=
  if op = 1 then ((row[(findC cols name).toNat]?).getD nullV, 0) else if op = 2 then (v, 0) else if l.length = 1 then singleF op (l.getD 0 nullV) else pairF op (l.getD 0 nullV) (l.getD 1 nullV)
mutual
def valueF (cols : List Col) (row : List Val) : Ex → Val × Int
  | .mk op name v ks => if (valuesF cols row ks).2 ≠ 0 then (nullV, (valuesF cols row ks).2) else valueN cols row op name v (valuesF cols row ks).1
def valuesF (cols : List Col) (row : List Val) : List Ex → List Val × Int
  | [] => ([], 0)
  | k :: r => if (valueF cols row k).2 ≠ 0 then ([], (valueF cols row k).2) else if (valuesF cols row r).2 ≠ 0 then ([], (valuesF cols row r).2) else ((valueF cols row k).1 :: (valuesF cols row r).1, 0)
end
theorem valuesF_eq (cols : List Col) (row : List Val) (l : List Ex) : valuesF cols row l = runL (valueF cols row) l := by
  induction l with
  | nil => simp [valuesF, runL]
  | cons k r ih => rw [valuesF, runL, ih]
theorem valueF_eq (cols : List Col) (row : List Val) (x : Ex) : valueF cols row x = if (runL (valueF cols row) x.kids).2 ≠ 0 then (nullV, (runL (valueF cols row) x.kids).2) else valueN cols row x.op x.name x.v (runL (valueF cols row) x.kids).1 := by
  cases x; rw [valueF, valuesF_eq]; rfl

/-! ### Type and Eval -/
def typeF (cols : List Col) (x : Ex) : Int × Int := if rightC cols = false then (0, 50) else if formedB x = false then (0, 122) else kindF cols x
def evalF (cols : List Col) (row : List Val) (x : Ex) : Val × Int := if (typeF cols x).2 ≠ 0 then (nullV, (typeF cols x).2) else if fitsC cols row = false then (nullV, 2) else valueF cols row x

/-! ### Quotients -/
theorem tdiv_fit {a b : Int} (ha : fitI a) (hb : b ≠ 0) : fitI (a.tdiv b) ↔ ¬ (a = -9223372036854775808 ∧ b = -1) := by
  unfold fitI at *
  by_cases h1 : b = -1
  · subst h1
    rw [Int.tdiv_neg, Int.tdiv_one]; omega
  · have hn : (a.tdiv b).natAbs = a.natAbs / b.natAbs := Int.natAbs_tdiv a b
    have : ¬ (a = -9223372036854775808 ∧ b = -1) := fun h => h1 h.2
    simp only [this, not_false_eq_true, iff_true]
    by_cases h2 : b = 1
    · subst h2; rw [Int.tdiv_one]; exact ha
    · have hb2 : 2 ≤ b.natAbs := by omega
      have : a.natAbs / b.natAbs ≤ a.natAbs / 2 := Nat.div_le_div_left hb2 (by decide)
      omega
theorem tmod_fit {a b : Int} (hb : fitI b) (h0 : b ≠ 0) : fitI (a.tmod b) := by
  unfold fitI at *
  have : (a.tmod b).natAbs = a.natAbs % b.natAbs := Int.natAbs_tmod a b
  have h2 := Nat.mod_lt a.natAbs (y := b.natAbs) (by omega)
  omega
end Go.Vc

/- An expression that has a kind has a value of that kind, or null, or one of two errors. Plain Lean, no program. -/
namespace Go.Vc
open Go Go.RowKit

theorem self_node (x : Ex) : x ∈ nodesT x := by cases x; unfold nodesT; exact List.mem_cons_self
theorem nodesTs_mem : ∀ {l : List Ex} {i : Nat} {k y : Ex}, l[i]? = some k → y ∈ nodesT k → y ∈ nodesTs l
  | [], i, k, y, h, _ => by simp at h
  | x :: r, i, k, y, h, hy => by
    unfold nodesTs
    cases i with
    | zero => cases h; exact List.mem_append_left _ hy
    | succ i => exact List.mem_append_right _ (nodesTs_mem (i := i) (by simpa using h) hy)
theorem kid_node {x k y : Ex} {i : Nat} (h : x.kids[i]? = some k) (hy : y ∈ nodesT k) : y ∈ nodesT x := by
  cases x; unfold nodesT; exact List.mem_cons_of_mem _ (nodesTs_mem h hy)
theorem kid_depth {x k : Ex} {i : Nat} (h : x.kids[i]? = some k) : depthT k + 1 ≤ depthT x := by
  have := depthTs_get h
  obtain ⟨o, n, v, ks⟩ := x
  have e : depthT (.mk o n v ks) = 1 + depthTs ks := by rw [depthT]
  simp only [Ex.kids] at this
  omega

/-- A value of kind k (or null), or an error. -/
def GoodV (k : Int) (v : Val) : Prop := v.Ok ∧ fitI v.n ∧ (v.k = 0 ∨ v.k = k)
def Good (k : Int) (q : Val × Int) : Prop := (q.2 = 0 ∧ GoodV k q.1) ∨ ((q.2 = 100 ∨ q.2 = 101) ∧ q.1 = nullV)
theorem null_ok : nullV.Ok := .inl ⟨rfl, rfl, rfl⟩
theorem GoodV.null (k : Int) : GoodV k nullV := ⟨null_ok, by unfold fitI nullV; decide, .inl rfl⟩
theorem GoodV.truth (b : Bool) : GoodV 2 (truthV b) := by
  refine ⟨.inr (.inr (.inl ⟨rfl, ?_, rfl⟩)), ?_, .inr rfl⟩
  · cases b
    · exact .inl rfl
    · exact .inr rfl
  · cases b <;> (unfold fitI truthV; decide)
theorem GoodV.num {n : Int} (h : fitI n) : GoodV 1 (numV n) := ⟨.inr (.inl ⟨rfl, rfl⟩), h, .inr rfl⟩
theorem GoodV.answer (n : Int) : GoodV 2 (answerV n) := by
  unfold answerV
  split
  · exact .null 2
  · exact .truth _
theorem GoodV.trio {v : Val} (h : GoodV 2 v) : 0 ≤ thirdI v ∧ thirdI v < 3 := by
  obtain ⟨ho, _, hk⟩ := h
  unfold thirdI
  unfold Val.Ok at ho
  split
  · omega
  · rcases ho with ho | ho | ho | ho <;> omega
theorem overF_spec (x : Int) : ((overF x).2 = 0 ∧ fitI (overF x).1) ∨ (overF x).2 = 100 := by
  unfold overF
  split
  · exact .inl ⟨rfl, ‹_›⟩
  · exact .inr rfl
theorem arithF_spec (op a b : Int) (hb : fitI b) : ((arithF op a b).2 = 0 ∧ fitI (arithF op a b).1) ∨ (arithF op a b).2 = 100 ∨ (arithF op a b).2 = 101 := by
  have z : fitI 0 := by unfold fitI; decide
  unfold arithF
  split
  · exact .inr (.inr rfl)
  · rename_i h0
    split
    · rcases overF_spec (a + b) with h | h
      · exact .inl h
      · exact .inr (.inl h)
    · split
      · rcases overF_spec (a - b) with h | h
        · exact .inl h
        · exact .inr (.inl h)
      · split
        · rcases overF_spec (a * b) with h | h
          · exact .inl h
          · exact .inr (.inl h)
        · split
          · rcases overF_spec (a.tdiv b) with h | h
            · exact .inl h
            · exact .inr (.inl h)
          · split
            · exact .inl ⟨rfl, tmod_fit hb (by omega)⟩
            · exact .inl ⟨rfl, z⟩
theorem pairF_arith {op : Int} (h12 : op ≠ 12) (h13 : op ≠ 13) (h9 : op ≠ 9) (h10 : op ≠ 10) (h11 : op ≠ 11) (a b : Val) (hb : fitI b.n) : Good 1 (pairF op a b) := by
  unfold pairF
  rw [if_neg h12, if_neg h13]
  by_cases hz : a.k = 0 ∨ b.k = 0
  · rw [if_pos hz]; exact .inl ⟨rfl, .null 1⟩
  · rw [if_neg hz, if_neg h9, if_neg h10, if_neg h11]
    split
    · rename_i he
      rcases arithF_spec op a.n b.n hb with h | h
      · exact absurd h.1 he
      · exact .inr ⟨h, rfl⟩
    · rename_i he
      rcases arithF_spec op a.n b.n hb with h | h
      · exact .inl ⟨rfl, .num h.2⟩
      · exfalso; omega

theorem alike_want {g w : Int} (h : alikeB g w = true) (hw : w ≠ 0) : g = w ∨ g = 0 := by
  unfold alikeB at h
  simp only [Bool.or_eq_true, decide_eq_true_eq] at h
  omega
/-- One node, its kids being reckoned. -/
theorem node_good {cols : List Col} {row : List Val} {op : Int} {name : ByteArray} {v : Val} {l : List Int} {vl : List Val} (hm : (vl.length : Int) = manyOf op) (hl : l.length = vl.length) (hv : v.Ok) (hvn : fitI v.n)
    (hrel : ∀ (i : Nat) g u, l[i]? = some g → vl[i]? = some u → GoodV g u) (hk : (kindN cols op name v l).2 = 0) (hf : fitsL cols row = true) (hr : ∀ u ∈ row, fitI u.n) :
    Good (kindN cols op name v l).1 (valueN cols row op name v vl) ∧ (op = 12 ∨ op = 13 → (∀ u ∈ vl, GoodV 2 u)) ∧ (op = 1 → 0 ≤ findC cols name ∧ findC cols name < (row.length : Int)) := by
  have hop := many_range (op := op) (by omega)
  have hrel' : ∀ u ∈ vl, wantOf op ≠ 0 → GoodV (wantOf op) u := by
    intro u hu hw
    obtain ⟨i, hi⟩ := List.mem_iff_getElem?.1 hu
    have hi' : i < l.length := by rw [hl]; exact (List.getElem?_eq_some_iff.1 hi).1
    obtain ⟨h1, h2, h3⟩ := hrel i l[i] u (List.getElem?_eq_getElem hi') hi
    refine ⟨h1, h2, ?_⟩
    unfold kindN at hk
    split at hk
    · exact absurd hk (by decide)
    · rename_i hal
      have := Decidable.not_not.1 fun hn => hal ⟨hw, hn⟩
      rcases alike_want (this l[i] (List.getElem_mem hi')) hw with h | h <;> omega
  have hwant : ¬ (wantOf op ≠ 0 ∧ ¬ (∀ g ∈ l, alikeB g (wantOf op) = true)) := by
    intro h
    unfold kindN at hk
    rw [if_pos h] at hk
    cases hk
  unfold kindN at hk ⊢
  rw [if_neg hwant] at hk ⊢
  unfold valueN
  by_cases h1 : op = 1
  · rw [if_pos h1] at hk ⊢
    rw [if_pos h1]
    split at hk
    · exact absurd hk (by decide)
    · rename_i hge
      rw [if_neg hge]
      obtain ⟨c, hc, hn⟩ := findC_get (l := cols) (s := name) (by omega)
      have hrange := findC_range cols name
      have hlen := fitsL_length hf
      have hu : row[(findC cols name).toNat]? = some (row[(findC cols name).toNat]'(by omega)) := List.getElem?_eq_getElem _
      generalize row[(findC cols name).toNat]'(by omega) = u at hu
      have hfit := fitsL_get hf hc hu
      unfold valFits at hfit
      simp only [Bool.and_eq_true, Bool.or_eq_true, decide_eq_true_eq] at hfit
      refine ⟨.inl ⟨rfl, ?_⟩, fun h => by omega, fun _ => by omega⟩
      rw [hc, hu]
      exact ⟨of_decide_eq_true hfit.1, hr u (List.mem_of_getElem? hu), by rcases hfit.2 with h | h <;> simp [h]⟩
  rw [if_neg h1] at hk ⊢
  rw [if_neg h1]
  by_cases h2 : op = 2
  · rw [if_pos h2] at hk ⊢
    rw [if_pos h2]
    exact ⟨.inl ⟨rfl, hv, hvn, .inr rfl⟩, fun h => by omega, fun h => absurd h h1⟩
  rw [if_neg h2] at hk ⊢
  rw [if_neg h2]
  split at hk
  · exact absurd hk (by decide)
  rename_i h9
  rw [if_neg h9]
  have h2nd : op = 12 ∨ op = 13 → ∀ u ∈ vl, GoodV 2 u := by
    intro h u hu
    have hw : wantOf op = 2 := by unfold wantOf; rw [if_neg (by omega), if_pos (by omega)]
    have := hrel' u hu (by omega)
    rwa [hw] at this
  refine ⟨?_, h2nd, fun h => absurd h h1⟩
  by_cases hone : vl.length = 1
  · rw [if_pos hone]
    obtain ⟨a, rfl⟩ := List.length_eq_one_iff.1 hone
    have hm1 : op = 8 ∨ op = 14 ∨ op = 15 ∨ op = 16 := by
      unfold manyOf at hm
      simp only [List.length_cons, List.length_nil] at hm
      split at hm
      · omega
      · split at hm
        · assumption
        · split at hm <;> omega
    show Good (kindOf op) (singleF op a)
    have ga := hrel' a (by simp)
    obtain ⟨ga1, ga2, _⟩ := hrel 0 (l[0]'(by rw [hl]; simp)) a (List.getElem?_eq_getElem _) rfl
    unfold singleF
    by_cases h15 : op = 15
    · rw [if_pos h15]
      have : kindOf op = 2 := by unfold kindOf; rw [if_neg (by omega), if_pos (by omega)]
      rw [this]; exact .inl ⟨rfl, .truth _⟩
    rw [if_neg h15]
    by_cases hz : a.k = 0
    · rw [if_pos hz]; exact .inl ⟨rfl, ga1, ga2, .inl hz⟩
    rw [if_neg hz]
    by_cases h14 : op = 14
    · rw [if_pos h14]
      have : kindOf op = 2 := by unfold kindOf; rw [if_neg (by omega), if_pos (by omega)]
      rw [this]; exact .inl ⟨rfl, .truth _⟩
    rw [if_neg h14]
    have hk1 : kindOf op = 1 := by unfold kindOf; rw [if_pos (by omega)]
    rw [hk1]
    by_cases h16 : op = 16
    · rw [if_pos h16]
      have hw : wantOf op = 3 := by unfold wantOf; rw [if_neg (by omega), if_neg (by omega), if_pos h16]
      have := ga (by omega)
      rw [hw] at this
      obtain ⟨ho, _, hk3⟩ := this
      refine .inl ⟨rfl, .num ?_⟩
      unfold Val.Ok at ho
      unfold fitI
      rcases ho with ho | ho | ho | ho <;> omega
    · rw [if_neg h16]
      exact pairF_arith (by decide) (by decide) (by decide) (by decide) (by decide) _ _ ga2
  · rw [if_neg hone]
    have hm2 : (3 ≤ op ∧ op ≤ 7) ∨ (9 ≤ op ∧ op ≤ 13) := by
      unfold manyOf at hm
      split at hm
      · omega
      · split at hm
        · exfalso; omega
        · split at hm <;> omega
    have htwo : vl.length = 2 := by
      unfold manyOf at hm
      rw [if_neg (by omega), if_neg (by omega), if_pos (by omega)] at hm
      omega
    match vl, htwo with
    | [a, b], _ =>
      show Good (kindOf op) (pairF op a b)
      obtain ⟨b1, b2, _⟩ := hrel 1 (l[1]'(by rw [hl]; simp)) b (List.getElem?_eq_getElem _) rfl
      rcases hm2 with h | h
      · have hk1 : kindOf op = 1 := by unfold kindOf; rw [if_pos (by omega)]
        rw [hk1]
        exact pairF_arith (by omega) (by omega) (by omega) (by omega) (by omega) _ _ b2
      · have hk2 : kindOf op = 2 := by unfold kindOf; rw [if_neg (by omega), if_pos (by omega)]
        rw [hk2]
        unfold pairF
        split
        · exact .inl ⟨rfl, .answer _⟩
        · split
          · exact .inl ⟨rfl, .answer _⟩
          · split
            · exact .inl ⟨rfl, .null 2⟩
            · split
              · exact .inl ⟨rfl, .truth _⟩
              · split
                · exact .inl ⟨rfl, .truth _⟩
                · split
                  · exact .inl ⟨rfl, .truth _⟩
                  · exfalso; omega

/-- The kinds and the values of the kids. -/
theorem kids_kinds {cols : List Col} {x : Ex} (h : (kindF cols x).2 = 0) : (runL (kindF cols) x.kids).2 = 0 ∧ kindF cols x = kindN cols x.op x.name x.v (runL (kindF cols) x.kids).1 := by
  rw [kindF_eq] at h ⊢
  split at h
  · rename_i hn; exact absurd h hn
  · rename_i hn
    exact ⟨by omega, by rw [if_neg hn]⟩
theorem typed {cols : List Col} {row : List Val} (hf : fitsL cols row = true) (hr : ∀ u ∈ row, fitI u.n) : ∀ (N : Nat) (x : Ex), depthT x ≤ N → (∀ y ∈ nodesT x, NodeOk y ∧ fitI y.v.n) → (kindF cols x).2 = 0 → Good (kindF cols x).1 (valueF cols row x) := by
  intro N
  induction N with
  | zero => intro x hd; cases x; unfold depthT at hd; omega
  | succ N ih =>
    intro x hd hn hk
    obtain ⟨hk1, hk2⟩ := kids_kinds hk
    have hkid : ∀ (i : Nat) k, x.kids[i]? = some k → Good (kindF cols k).1 (valueF cols row k) := fun i k hi =>
      ih k (by have := kid_depth hi; omega) (fun y hy => hn y (kid_node hi hy)) (runL_get hk1 hi).1
    rw [valueF_eq]
    split
    · rename_i he
      -- some kid has an error
      have : (runL (valueF cols row) x.kids).2 = 100 ∨ (runL (valueF cols row) x.kids).2 = 101 := by
        have key : ∀ l : List Ex, (∀ k ∈ l, (valueF cols row k).2 = 0 ∨ (valueF cols row k).2 = 100 ∨ (valueF cols row k).2 = 101) → (runL (valueF cols row) l).2 = 0 ∨ (runL (valueF cols row) l).2 = 100 ∨ (runL (valueF cols row) l).2 = 101 := by
          intro l
          induction l with
          | nil => intro _; exact .inl rfl
          | cons k r ih2 =>
            intro h
            have h1 := h k (by simp)
            have h2 := ih2 fun q hq => h q (by simp [hq])
            unfold runL
            split
            · rename_i hne; rcases h1 with h1 | h1
              · exact absurd h1 hne
              · exact .inr h1
            · split
              · rename_i hne; rcases h2 with h2 | h2
                · exact absurd h2 hne
                · exact .inr h2
              · exact .inl rfl
        rcases key x.kids (fun k hk => by
          obtain ⟨i, hi⟩ := List.mem_iff_getElem?.1 hk
          rcases hkid i k hi with h | h
          · exact .inl h.1
          · exact .inr h.1) with h | h
        · exact absurd h he
        · exact h
      exact .inr ⟨this, rfl⟩
    · rename_i he
      have hv1 : (runL (valueF cols row) x.kids).2 = 0 := by omega
      obtain ⟨hno, hnf⟩ := hn x (self_node x)
      rw [hk2]
      have hlv := runL_len hv1
      have hlk := runL_len hk1
      refine (node_good (by rw [hlv]; exact hno.1) (by omega) hno.2.2.2 hnf (fun i g u hg hu => ?_) (by rw [← hk2]; exact hk) hf hr).1
      have hi : i < x.kids.length := by rw [← hlk]; exact (List.getElem?_eq_some_iff.1 hg).1
      have hki : x.kids[i]? = some x.kids[i] := List.getElem?_eq_getElem hi
      have e1 := runL_get hk1 hki
      have e2 := runL_get hv1 hki
      rw [hg] at e1
      rw [hu] at e2
      have := hkid i _ hki
      cases e1.2
      cases e2.2
      rcases this with h | h
      · exact h.2
      · have := e2.1; omega
end Go.Vc

/- What the laws on expressions say of kinds and values. Plain Lean, no program. -/
namespace Go.Vc
open Go Go.RowKit

def mk1 (op : Int) (a : Ex) : Ex := .mk op ⟨#[]⟩ nullV [a]
def mk2 (op : Int) (a b : Ex) : Ex := .mk op ⟨#[]⟩ nullV [a, b]
def F2 (a b : Ex) : Prop := (∀ y ∈ nodesT a, NodeOk y) ∧ (∀ y ∈ nodesT b, NodeOk y) ∧ depthT a ≤ 39 ∧ depthT b ≤ 39 ∧ (nodesT a).length + (nodesT b).length ≤ 399
def F1 (a : Ex) : Prop := (∀ y ∈ nodesT a, NodeOk y) ∧ depthT a ≤ 39 ∧ (nodesT a).length ≤ 399
theorem F2.symm {a b : Ex} (h : F2 a b) : F2 b a := ⟨h.2.1, h.1, h.2.2.2.1, h.2.2.1, by have := h.2.2.2.2; omega⟩
theorem formed2 {op : Int} {a b : Ex} (h : manyOf op = 2) : formedB (mk2 op a b) = true ↔ F2 a b := by
  have hn : nodesT (mk2 op a b) = mk2 op a b :: (nodesT a ++ (nodesT b ++ [])) := by
    unfold mk2; rw [nodesT, nodesTs, nodesTs, nodesTs]
  have hd : depthT (mk2 op a b) = 1 + max (depthT a) (max (depthT b) 0) := by
    unfold mk2; rw [depthT, depthTs, depthTs, depthTs]
  have ho : NodeOk (mk2 op a b) := ⟨by rw [show (mk2 op a b).op = op from rfl, h]; rfl, .inr rfl, .inr rfl, null_ok⟩
  unfold formedB F2
  rw [decide_eq_true_eq]
  unfold FormedP
  rw [hn, hd]
  simp only [List.mem_cons, List.mem_append, List.not_mem_nil, or_false, List.length_cons, List.length_append, List.length_nil]
  constructor
  · rintro ⟨h1, h2, h3⟩
    exact ⟨fun y hy => h1 y (.inr (.inl hy)), fun y hy => h1 y (.inr (.inr hy)), by omega, by omega, by omega⟩
  · rintro ⟨h1, h2, h3, h4, h5⟩
    refine ⟨fun y hy => ?_, by omega, by omega⟩
    rcases hy with rfl | hy | hy
    · exact ho
    · exact h1 y hy
    · exact h2 y hy
theorem formed1 {op : Int} {a : Ex} (h : manyOf op = 1) : formedB (mk1 op a) = true ↔ F1 a := by
  have hn : nodesT (mk1 op a) = mk1 op a :: (nodesT a ++ []) := by
    unfold mk1; rw [nodesT, nodesTs, nodesTs]
  have hd : depthT (mk1 op a) = 1 + max (depthT a) 0 := by
    unfold mk1; rw [depthT, depthTs, depthTs]
  have ho : NodeOk (mk1 op a) := ⟨by rw [show (mk1 op a).op = op from rfl, h]; rfl, .inr rfl, .inr rfl, null_ok⟩
  unfold formedB F1
  rw [decide_eq_true_eq]
  unfold FormedP
  rw [hn, hd]
  simp only [List.mem_cons, List.mem_append, List.not_mem_nil, or_false, List.length_cons, List.length_append, List.length_nil]
  constructor
  · rintro ⟨h1, h2, h3⟩
    exact ⟨fun y hy => h1 y (.inr hy), by omega, by omega⟩
  · rintro ⟨h1, h2, h3⟩
    refine ⟨fun y hy => ?_, by omega, by omega⟩
    rcases hy with rfl | hy
    · exact ho
    · exact h1 y hy

section
variable {cols : List Col} {row : List Val} {op : Int} {a b x : Ex}
theorem kind2 : kindF cols (mk2 op a b) = if (kindF cols a).2 ≠ 0 then (0, (kindF cols a).2) else if (kindF cols b).2 ≠ 0 then (0, (kindF cols b).2) else kindN cols op ⟨#[]⟩ nullV [(kindF cols a).1, (kindF cols b).1] := by
  rw [kindF_eq]
  simp only [mk2, Ex.kids, Ex.op, Ex.name, Ex.v, runL]
  by_cases h1 : (kindF cols a).2 = 0
  · by_cases h2 : (kindF cols b).2 = 0
    · simp [h1, h2]
    · simp [h1, h2]
  · simp [h1]
theorem kind1 : kindF cols (mk1 op a) = if (kindF cols a).2 ≠ 0 then (0, (kindF cols a).2) else kindN cols op ⟨#[]⟩ nullV [(kindF cols a).1] := by
  rw [kindF_eq]
  simp only [mk1, Ex.kids, Ex.op, Ex.name, Ex.v, runL]
  by_cases h1 : (kindF cols a).2 = 0
  · simp [h1]
  · simp [h1]
theorem value2 (h1 : op ≠ 1) (h2 : op ≠ 2) : valueF cols row (mk2 op a b) = if (valueF cols row a).2 ≠ 0 then (nullV, (valueF cols row a).2) else if (valueF cols row b).2 ≠ 0 then (nullV, (valueF cols row b).2) else pairF op (valueF cols row a).1 (valueF cols row b).1 := by
  rw [valueF_eq]
  simp only [mk2, Ex.kids, Ex.op, Ex.name, Ex.v, runL]
  by_cases h3 : (valueF cols row a).2 = 0
  · by_cases h4 : (valueF cols row b).2 = 0
    · simp [h3, h4, valueN, h1, h2]
    · simp [h3, h4]
  · simp [h3]
theorem value1 (h1 : op ≠ 1) (h2 : op ≠ 2) : valueF cols row (mk1 op a) = if (valueF cols row a).2 ≠ 0 then (nullV, (valueF cols row a).2) else singleF op (valueF cols row a).1 := by
  rw [valueF_eq]
  simp only [mk1, Ex.kids, Ex.op, Ex.name, Ex.v, runL]
  by_cases h3 : (valueF cols row a).2 = 0
  · simp [h3, valueN, h1, h2]
  · simp [h3]

/-- An expression has a value over a row just if all is well; else it has an error, and no value. -/
def Well (cols : List Col) (row : List Val) (x : Ex) : Prop := rightC cols = true ∧ formedB x = true ∧ (kindF cols x).2 = 0 ∧ fitsL cols row = true ∧ (valueF cols row x).2 = 0
def FitX (x : Ex) : Prop := ∀ y ∈ nodesT x, fitI y.v.n
def FitR (row : List Val) : Prop := ∀ u ∈ row, fitI u.n
theorem evalF_cases (hr : FitR row) (hx : FitX x) : ((evalF cols row x).2 = 0 ∧ Well cols row x ∧ (evalF cols row x).1 = (valueF cols row x).1 ∧ GoodV (kindF cols x).1 (valueF cols row x).1) ∨ ((evalF cols row x).2 ≠ 0 ∧ (evalF cols row x).1 = nullV ∧ ¬ Well cols row x) := by
  unfold evalF typeF Well
  by_cases h1 : rightC cols = true
  · by_cases h2 : formedB x = true
    · by_cases h3 : (kindF cols x).2 = 0
      · have hf : fitsC cols row = fitsL cols row := by unfold fitsC; rw [h1]; rfl
        by_cases h4 : fitsL cols row = true
        · have hfp : FormedP x := of_decide_eq_true h2
          have ht := typed (x := x) h4 hr _ (Nat.le_refl _) (fun y hy => ⟨hfp.1 y hy, hx y hy⟩) h3
          rcases ht with ht | ht
          · left; simp [h1, h2, h3, h4, hf, ht.1, ht.2]
          · right
            have hne : (valueF cols row x).2 ≠ 0 := by omega
            simp [h1, h2, h3, h4, hf, hne, ht.2]
        · right; simp [h1, h2, h3, h4, hf]
      · right; simp [h1, h2, h3]
    · right; simp [h1, h2]
  · right; simp [h1]
theorem evalF_form (h : rightC cols = true) : (evalF cols row x).2 = 122 ∨ formedB x = true := by
  by_cases h2 : formedB x = true
  · exact .inr h2
  · left; simp [evalF, typeF, h, h2]
end

theorem alikeB_symm (g h : Int) : alikeB g h = alikeB h g := by
  unfold alikeB
  by_cases h1 : g = h
  · subst h1; rfl
  · have : ¬ h = g := fun e => h1 e.symm
    simp [h1, this, Bool.or_comm]
section
variable {cols : List Col} {row : List Val} {op : Int} {a b x : Ex} {name : ByteArray} {v : Val} {g h : Int}
theorem kindN_cmp (ho : op = 9 ∨ op = 10 ∨ op = 11) : kindN cols op name v [g, h] = if alikeB g h = false then (0, 121) else (2, 0) := by
  have hw : wantOf op = 0 := by unfold wantOf; rw [if_neg (by omega), if_neg (by omega), if_neg (by omega)]
  have hk : kindOf op = 2 := by unfold kindOf; rw [if_neg (by omega), if_pos (by omega)]
  unfold kindN
  rw [hw, hk, if_neg (by simp), if_neg (by omega), if_neg (by omega)]
  simp [ho]
theorem kindN_two (ho : (3 ≤ op ∧ op ≤ 7) ∨ op = 12 ∨ op = 13) : (kindN cols op name v [g, h]).2 = 0 ↔ alikeB g (wantOf op) = true ∧ alikeB h (wantOf op) = true := by
  have hw : wantOf op ≠ 0 := by
    unfold wantOf
    rcases ho with ho | ho
    · rw [if_pos (by omega)]; decide
    · rw [if_neg (by omega), if_pos (by omega)]; decide
  unfold kindN
  by_cases hc : alikeB g (wantOf op) = true ∧ alikeB h (wantOf op) = true
  · rw [if_neg (by simp [hc.1, hc.2]), if_neg (by omega), if_neg (by omega), if_neg (by omega)]
    simp [hc]
  · rw [if_pos ⟨hw, fun hn => hc ⟨hn g (by simp), hn h (by simp)⟩⟩]
    simp only [hc, iff_false]; decide
theorem kindN_one (ho : op = 14) : (kindN cols op name v [g]).2 = 0 ↔ alikeB g 2 = true := by
  subst ho
  unfold kindN
  have hw : wantOf 14 = 2 := rfl
  rw [hw]
  by_cases hc : alikeB g 2 = true
  · rw [if_neg (by simp [hc]), if_neg (by omega), if_neg (by omega), if_neg (by omega)]
    simp [hc]
  · rw [if_pos ⟨by decide, fun hn => hc (hn g (by simp))⟩]
    simp only [hc, iff_false]; decide
theorem kindN_one_kind (ho : op = 14) (h : alikeB g 2 = true) : (kindN cols op name v [g]).1 = 2 := by
  subst ho
  unfold kindN
  have hw : wantOf 14 = 2 := rfl
  rw [hw, if_neg (by simp [h]), if_neg (by omega), if_neg (by omega), if_neg (by omega)]
  rfl
theorem kindN_two_kind (ho : op = 12 ∨ op = 13) (h1 : alikeB g 2 = true) (h2 : alikeB h 2 = true) : (kindN cols op name v [g, h]).1 = 2 := by
  have hw : wantOf op = 2 := by unfold wantOf; rw [if_neg (by omega), if_pos (by omega)]
  unfold kindN
  rw [hw, if_neg (by simp [h1, h2]), if_neg (by omega), if_neg (by omega), if_neg (by omega)]
  show kindOf op = 2
  unfold kindOf; rw [if_neg (by omega), if_pos (by omega)]
theorem many2 (ho : (3 ≤ op ∧ op ≤ 7) ∨ (9 ≤ op ∧ op ≤ 13)) : manyOf op = 2 := by unfold manyOf; rw [if_neg (by omega), if_neg (by omega), if_pos (by omega)]
theorem many1 (ho : op = 14) : manyOf op = 1 := by unfold manyOf; rw [if_neg (by omega), if_pos (by omega)]

theorem FitX.mk2 (ha : FitX a) (hb : FitX b) : FitX (mk2 op a b) := by
  intro y hy
  unfold Go.Vc.mk2 at hy
  rw [nodesT, nodesTs, nodesTs, nodesTs] at hy
  simp only [List.mem_cons, List.mem_append, List.not_mem_nil, or_false] at hy
  rcases hy with rfl | hy | hy
  · show fitI 0; unfold fitI; decide
  · exact ha y hy
  · exact hb y hy
theorem FitX.mk1 (ha : FitX a) : FitX (mk1 op a) := by
  intro y hy
  unfold Go.Vc.mk1 at hy
  rw [nodesT, nodesTs, nodesTs] at hy
  simp only [List.mem_cons, List.mem_append, List.not_mem_nil, or_false] at hy
  rcases hy with rfl | hy
  · show fitI 0; unfold fitI; decide
  · exact ha y hy

/-- Both sides are well. -/
def Sides (cols : List Col) (row : List Val) (a b : Ex) : Prop := rightC cols = true ∧ F2 a b ∧ (kindF cols a).2 = 0 ∧ (kindF cols b).2 = 0 ∧ fitsL cols row = true ∧ (valueF cols row a).2 = 0 ∧ (valueF cols row b).2 = 0
theorem Sides.symm (h : Sides cols row a b) : Sides cols row b a := ⟨h.1, h.2.1.symm, h.2.2.2.1, h.2.2.1, h.2.2.2.2.1, h.2.2.2.2.2.2, h.2.2.2.2.2.1⟩
theorem pair_fine (ho : 9 ≤ op ∧ op ≤ 13) (u v : Val) : (pairF op u v).2 = 0 := by
  unfold pairF
  split
  · rfl
  · split
    · rfl
    · split
      · rfl
      · split
        · rfl
        · split
          · rfl
          · split
            · rfl
            · exfalso; omega
theorem well2 (ho : (3 ≤ op ∧ op ≤ 7) ∨ (9 ≤ op ∧ op ≤ 13)) : Well cols row (mk2 op a b) ↔ Sides cols row a b ∧ (kindN cols op ⟨#[]⟩ nullV [(kindF cols a).1, (kindF cols b).1]).2 = 0 ∧ (pairF op (valueF cols row a).1 (valueF cols row b).1).2 = 0 := by
  unfold Well Sides
  rw [formed2 (many2 ho), kind2, value2 (by omega) (by omega)]
  by_cases h1 : (kindF cols a).2 = 0
  · by_cases h2 : (kindF cols b).2 = 0
    · by_cases h3 : (valueF cols row a).2 = 0
      · by_cases h4 : (valueF cols row b).2 = 0
        · simp only [h1, h2, h3, h4, ne_eq, not_true_eq_false, if_false, true_and, and_true]
          constructor
          · rintro ⟨a, b, c, d, e⟩; exact ⟨⟨a, b, d⟩, c, e⟩
          · rintro ⟨⟨a, b, d⟩, c, e⟩; exact ⟨a, b, c, d, e⟩
        · simp [h3, h4]
      · simp [h3]
    · simp [h1, h2]
  · simp [h1]
theorem value_two (ho : (3 ≤ op ∧ op ≤ 7) ∨ (9 ≤ op ∧ op ≤ 13)) (hs : Sides cols row a b) : valueF cols row (mk2 op a b) = pairF op (valueF cols row a).1 (valueF cols row b).1 := by
  rw [value2 (by omega) (by omega), if_neg (by simp [hs.2.2.2.2.2.1]), if_neg (by simp [hs.2.2.2.2.2.2])]
theorem well1 : Well cols row (mk1 14 a) ↔ (rightC cols = true ∧ F1 a ∧ (kindF cols a).2 = 0 ∧ fitsL cols row = true ∧ (valueF cols row a).2 = 0) ∧ alikeB (kindF cols a).1 2 = true := by
  unfold Well
  rw [formed1 (many1 rfl), kind1, value1 (by decide) (by decide)]
  by_cases h1 : (kindF cols a).2 = 0
  · have hk := kindN_one (cols := cols) (name := ⟨#[]⟩) (v := nullV) (g := (kindF cols a).1) (op := 14) rfl
    have hs : ∀ u, (singleF 14 u).2 = 0 := by
      intro u; unfold singleF
      rw [if_neg (by decide)]
      split
      · rfl
      · rw [if_pos rfl]
    by_cases h3 : (valueF cols row a).2 = 0
    · simp only [h1, h3, hs, hk, ne_eq, not_true_eq_false, if_false, true_and, and_true]
      constructor
      · rintro ⟨a, b, c, d⟩; exact ⟨⟨a, b, d⟩, c⟩
      · rintro ⟨⟨a, b, d⟩, c⟩; exact ⟨a, b, c, d⟩
    · simp [h3]
  · simp [h1]
theorem value_one (h : (valueF cols row a).2 = 0) : valueF cols row (mk1 14 a) = singleF 14 (valueF cols row a).1 := by
  rw [value1 (by decide) (by decide), if_neg (by simp [h])]
theorem kindN_cmp_ok (ho : op = 9 ∨ op = 10 ∨ op = 11) : (kindN cols op name v [g, h]).2 = 0 ↔ alikeB g h = true := by
  rw [kindN_cmp ho]
  by_cases hc : alikeB g h = true
  · simp [hc]
  · simp [hc]
theorem well_cmp (ho : op = 9 ∨ op = 10 ∨ op = 11) : Well cols row (mk2 op a b) ↔ Sides cols row a b ∧ alikeB (kindF cols a).1 (kindF cols b).1 = true := by
  rw [well2 (.inr (by omega)), kindN_cmp_ok ho]
  simp [pair_fine (op := op) (by omega)]
theorem well_log (ho : op = 12 ∨ op = 13) : Well cols row (mk2 op a b) ↔ Sides cols row a b ∧ alikeB (kindF cols a).1 2 = true ∧ alikeB (kindF cols b).1 2 = true := by
  have hw : wantOf op = 2 := by unfold wantOf; rw [if_neg (by omega), if_pos (by omega)]
  rw [well2 (.inr (by omega)), kindN_two (.inr ho), hw]
  simp [pair_fine (op := op) (by omega)]
end

/-! ### The laws -/
section
variable {cols : List Col} {row : List Val} {a b x : Ex}
/-- Of two values just one of less, equal, and turned round less is true. -/
theorem orders_law (hr : FitR row) (ha : FitX a) (hb : FitX b) :
    ((evalF cols row (mk2 10 a b)).2 ≠ 0 ∧ (evalF cols row (mk2 9 a b)).2 ≠ 0 ∧ (evalF cols row (mk2 10 b a)).2 ≠ 0) ∨
    ((evalF cols row (mk2 10 a b)).2 = 0 ∧ (evalF cols row (mk2 9 a b)).2 = 0 ∧ (evalF cols row (mk2 10 b a)).2 = 0 ∧
      (((evalF cols row (mk2 10 a b)).1.k = 0 ∧ (evalF cols row (mk2 9 a b)).1.k = 0 ∧ (evalF cols row (mk2 10 b a)).1.k = 0) ∨
       ((evalF cols row (mk2 10 a b)).1.k ≠ 0 ∧ (evalF cols row (mk2 10 a b)).1.n + (evalF cols row (mk2 9 a b)).1.n + (evalF cols row (mk2 10 b a)).1.n = 1 ∧
        0 ≤ (evalF cols row (mk2 10 a b)).1.n ∧ 0 ≤ (evalF cols row (mk2 9 a b)).1.n ∧ 0 ≤ (evalF cols row (mk2 10 b a)).1.n))) := by
  have c1 := evalF_cases (cols := cols) hr (ha.mk2 (op := 10) hb)
  have c2 := evalF_cases (cols := cols) hr (ha.mk2 (op := 9) hb)
  have c3 := evalF_cases (cols := cols) hr (hb.mk2 (op := 10) ha)
  rw [well_cmp (by decide)] at c1 c2 c3
  rw [alikeB_symm (kindF cols b).1] at c3
  by_cases hs : Sides cols row a b ∧ alikeB (kindF cols a).1 (kindF cols b).1 = true
  · have hs' : Sides cols row b a ∧ alikeB (kindF cols a).1 (kindF cols b).1 = true := ⟨hs.1.symm, hs.2⟩
    simp only [hs, hs', not_true_eq_false, and_false, or_false, true_and] at c1 c2 c3
    rw [value_two (.inr (by omega)) hs.1] at c1 c2
    rw [value_two (.inr (by omega)) hs'.1] at c3
    rw [c1.2.1, c2.2.1, c3.2.1]
    refine .inr ⟨c1.1, c2.1, c3.1, ?_⟩
    generalize (valueF cols row a).1 = u
    generalize (valueF cols row b).1 = v
    simp only [pairF]
    by_cases hz : u.k = 0 ∨ v.k = 0
    · have hz' : v.k = 0 ∨ u.k = 0 := hz.symm
      simp [hz, hz', nullV]
    · have hz' : ¬ (v.k = 0 ∨ u.k = 0) := fun h => hz h.symm
      simp only [hz, hz', if_false]
      have han := cmpV_cmp.anti u v
      have hrg := cmpV_range u v
      simp only [truthV, han]
      right
      rcases hrg with h | h | h <;> rw [h] <;> simp
  · have hs' : ¬ (Sides cols row b a ∧ alikeB (kindF cols a).1 (kindF cols b).1 = true) := fun h => hs ⟨h.1.symm, h.2⟩
    simp only [hs, hs', false_and, and_false, false_or, not_false_eq_true, and_true] at c1 c2 c3
    exact .inl ⟨c1.1, c2.1, c3.1⟩

theorem andI_comm (i j : Int) : andI i j = andI j i := by unfold andI; simp only [or_comm]
theorem orJ_comm (i j : Int) : orJ i j = orJ j i := by unfold orJ; simp only [or_comm]
theorem pair_comm {op : Int} (ho : op = 3 ∨ op = 5 ∨ op = 9 ∨ op = 12 ∨ op = 13) (u v : Val) : pairF op u v = pairF op v u := by
  unfold pairF
  have hz : (u.k = 0 ∨ v.k = 0) ↔ (v.k = 0 ∨ u.k = 0) := or_comm
  have har : op = 3 ∨ op = 5 → arithF op u.n v.n = arithF op v.n u.n := by
    intro h
    rcases h with rfl | rfl
    · simp [arithF, Int.add_comm]
    · simp [arithF, Int.mul_comm]
  have hce : cmpV u v = 0 ↔ cmpV v u = 0 := by rw [cmpV_cmp.anti u v]; omega
  simp only [andI_comm (thirdI v), orJ_comm (thirdI v), hz, hce]
  rcases ho with rfl | rfl | rfl | rfl | rfl
  · simp [har]
  · simp [har]
  · simp
  · simp
  · simp
theorem kindN_comm {op g h : Int} {name : ByteArray} {v : Val} (ho : op = 3 ∨ op = 5 ∨ op = 9 ∨ op = 12 ∨ op = 13) : (kindN cols op name v [g, h]) = (kindN cols op name v [h, g]) := by
  have e1 : (∀ y ∈ [g, h], alikeB y (wantOf op) = true) ↔ (∀ y ∈ [h, g], alikeB y (wantOf op) = true) := by simp [and_comm]
  have e2 : alikeB ([g, h].getD 0 0) ([g, h].getD 1 0) = alikeB ([h, g].getD 0 0) ([h, g].getD 1 0) := alikeB_symm g h
  unfold kindN
  simp only [e1, e2]
/-- Where neither side has an error, turned round they are the same. -/
theorem swaps_law {op : Int} (ho : op = 3 ∨ op = 5 ∨ op = 9 ∨ op = 12 ∨ op = 13) (ha : (evalF cols row a).2 = 0) (hb : (evalF cols row b).2 = 0) (hr : FitR row) (fa : FitX a) (fb : FitX b) :
    evalF cols row (mk2 op a b) = evalF cols row (mk2 op b a) := by
  rcases evalF_cases (cols := cols) hr fa with h | h
  · rcases evalF_cases (cols := cols) hr fb with k | k
    · obtain ⟨_, ⟨h1, h2, h3, h4, h5⟩, _⟩ := h
      obtain ⟨_, ⟨k1, k2, k3, k4, k5⟩, _⟩ := k
      have hm : manyOf op = 2 := many2 (by omega)
      have hf : formedB (mk2 op a b) = formedB (mk2 op b a) := by
        rw [Bool.eq_iff_iff, formed2 hm, formed2 hm]
        exact ⟨F2.symm, F2.symm⟩
      unfold evalF typeF
      rw [hf, kind2, kind2, value2 (by omega) (by omega), value2 (by omega) (by omega)]
      simp only [h3, k3, h5, k5, ne_eq, not_true_eq_false, if_false]
      rw [kindN_comm (g := (kindF cols a).1) ho, pair_comm ho (valueF cols row a).1]
    · exact absurd hb k.1
  · exact absurd ha h.1

theorem answer_and_or {u v : Val} (hu : GoodV 2 u) (hv : GoodV 2 v) : (singleF 14 (pairF 12 u v).1).1 = (pairF 13 (singleF 14 u).1 (singleF 14 v).1).1 := by
  obtain ⟨uk, un, us⟩ := u
  obtain ⟨vk, vn, vs⟩ := v
  obtain ⟨hu1, _, hu2⟩ := hu
  obtain ⟨hv1, _, hv2⟩ := hv
  simp only [Val.Ok] at hu1 hv1 hu2 hv2
  have key : ∀ {k n : Int} {s : ByteArray}, ((k = 0 ∧ n = 0 ∧ s = ⟨#[]⟩) ∨ (k = 1 ∧ s = ⟨#[]⟩) ∨ (k = 2 ∧ (n = 0 ∨ n = 1) ∧ s = ⟨#[]⟩) ∨ (k = 3 ∧ n = 0 ∧ s.size ≤ 1024)) → (k = 0 ∨ k = 2) → (⟨k, n, s⟩ : Val) = nullV ∨ (⟨k, n, s⟩ : Val) = truthV false ∨ (⟨k, n, s⟩ : Val) = truthV true := by
    intro k n s h1 h2
    rcases h1 with ⟨rfl, rfl, rfl⟩ | ⟨h, _⟩ | ⟨rfl, rfl | rfl, rfl⟩ | ⟨h, _⟩
    · exact .inl rfl
    · omega
    · exact .inr (.inl rfl)
    · exact .inr (.inr rfl)
    · omega
  have A := key hu1 hu2
  have B := key hv1 hv2
  generalize (⟨uk, un, us⟩ : Val) = u at A
  generalize (⟨vk, vn, vs⟩ : Val) = v at B
  rcases A with rfl | rfl | rfl <;> rcases B with rfl | rfl | rfl <;> decide +kernel
theorem good_two {g : Int} {v : Val} (h : GoodV g v) (hg : alikeB g 2 = true) : GoodV 2 v := by
  obtain ⟨h1, h2, h3⟩ := h
  refine ⟨h1, h2, ?_⟩
  unfold alikeB at hg
  simp only [Bool.or_eq_true, decide_eq_true_eq] at hg
  omega
theorem good_of {cols : List Col} {row : List Val} {x : Ex} (hr : FitR row) (hx : FitX x) (hf : ∀ y ∈ nodesT x, NodeOk y) (h2 : (kindF cols x).2 = 0) (h3 : fitsL cols row = true) (h4 : (valueF cols row x).2 = 0) : GoodV (kindF cols x).1 (valueF cols row x).1 := by
  rcases typed (x := x) h3 hr _ (Nat.le_refl _) (fun y hy => ⟨hf y hy, hx y hy⟩) h2 with h | h
  · exact h.2
  · exfalso; omega
theorem and_right {cols : List Col} {row : List Val} {a b : Ex} (hs : Sides cols row a b) (ho : alikeB (kindF cols a).1 2 = true ∧ alikeB (kindF cols b).1 2 = true) {op : Int} (hop : op = 12 ∨ op = 13) : kindF cols (mk2 op a b) = (2, 0) := by
  rw [kind2, if_neg (by simp [hs.2.2.1]), if_neg (by simp [hs.2.2.2.1])]
  have h1 := kindN_two_kind (cols := cols) (name := ⟨#[]⟩) (v := nullV) hop ho.1 ho.2
  have hw : wantOf op = 2 := by unfold wantOf; rw [if_neg (by omega), if_pos (by omega)]
  have h2 := (kindN_two (cols := cols) (op := op) (name := ⟨#[]⟩) (v := nullV) (g := (kindF cols a).1) (h := (kindF cols b).1) (.inr hop)).2 (by rw [hw]; exact ho)
  rw [← h1, ← h2]
theorem not_right {cols : List Col} {a : Ex} (ha : (kindF cols a).2 = 0) (ho : alikeB (kindF cols a).1 2 = true) : kindF cols (mk1 14 a) = (2, 0) := by
  rw [kind1, if_neg (by simp [ha])]
  rw [← kindN_one_kind (cols := cols) (op := 14) (name := ⟨#[]⟩) (v := nullV) rfl ho, ← (kindN_one (cols := cols) (op := 14) (name := ⟨#[]⟩) (v := nullV) (g := (kindF cols a).1) rfl).2 ho]
/-- Not of a and b is not a or not b. -/
theorem turns_and (hr : FitR row) (ha : FitX a) (hb : FitX b)
    (h1 : (evalF cols row (mk1 14 (mk2 12 a b))).2 ≠ 122) (h2 : (evalF cols row (mk2 13 (mk1 14 a) (mk1 14 b))).2 ≠ 122) :
    (evalF cols row (mk1 14 (mk2 12 a b))).1 = (evalF cols row (mk2 13 (mk1 14 a) (mk1 14 b))).1 ∧
    ((evalF cols row (mk1 14 (mk2 12 a b))).2 = 0 ↔ (evalF cols row (mk2 13 (mk1 14 a) (mk1 14 b))).2 = 0) := by
  have c1 := evalF_cases (cols := cols) hr ((ha.mk2 (op := 12) hb).mk1 (op := 14))
  have c2 := evalF_cases (cols := cols) hr ((ha.mk1 (op := 14)).mk2 (op := 13) (hb.mk1 (op := 14)))
  by_cases hright : rightC cols = true
  · have f1 := (evalF_form (row := row) (x := mk1 14 (mk2 12 a b)) hright).resolve_left h1
    have f2 := (evalF_form (row := row) (x := mk2 13 (mk1 14 a) (mk1 14 b)) hright).resolve_left h2
    rw [formed1 (by decide)] at f1
    rw [formed2 (by decide)] at f2
    have f3 : F2 a b := by
      obtain ⟨g1, g2, g3, g4, g5⟩ := f2
      have e1 : nodesT (mk1 14 a) = mk1 14 a :: (nodesT a ++ []) := by unfold mk1; rw [nodesT, nodesTs, nodesTs]
      have e2 : nodesT (mk1 14 b) = mk1 14 b :: (nodesT b ++ []) := by unfold mk1; rw [nodesT, nodesTs, nodesTs]
      have d1 : depthT (mk1 14 a) = 1 + max (depthT a) 0 := by unfold mk1; rw [depthT, depthTs, depthTs]
      have d2 : depthT (mk1 14 b) = 1 + max (depthT b) 0 := by unfold mk1; rw [depthT, depthTs, depthTs]
      rw [e1] at g1 g5
      rw [e2] at g2 g5
      simp only [List.mem_cons, List.append_nil, List.length_cons] at g1 g2 g5
      exact ⟨fun y hy => g1 y (.inr hy), fun y hy => g2 y (.inr hy), by omega, by omega, by omega⟩
    have hF1 : F1 a ∧ F1 b := by
      obtain ⟨g1, g2, g3, g4, g5⟩ := f3
      exact ⟨⟨g1, g3, by omega⟩, g2, g4, by omega⟩
    by_cases hs : Sides cols row a b ∧ alikeB (kindF cols a).1 2 = true ∧ alikeB (kindF cols b).1 2 = true
    · obtain ⟨hs1, hs2⟩ := hs
      have ka := and_right hs1 hs2 (op := 12) (.inl rfl)
      have va := value_two (op := 12) (.inr (by decide)) hs1
      have wa : (valueF cols row (mk2 12 a b)).2 = 0 := by rw [va]; exact pair_fine (by decide) _ _
      have n1 := not_right hs1.2.2.1 hs2.1
      have n2 := not_right hs1.2.2.2.1 hs2.2
      have sv : ∀ u, (singleF 14 u).2 = 0 := by
        intro u; unfold singleF
        rw [if_neg (by decide)]
        split
        · rfl
        · rw [if_pos rfl]
      have v1 := value_one hs1.2.2.2.2.2.1
      have v2 := value_one hs1.2.2.2.2.2.2
      have hside : Sides cols row (mk1 14 a) (mk1 14 b) := ⟨hs1.1, f2, by rw [n1], by rw [n2], hs1.2.2.2.2.1, by rw [v1]; exact sv _, by rw [v2]; exact sv _⟩
      have w1 : Well cols row (mk1 14 (mk2 12 a b)) := well1.2 ⟨⟨hright, f1, by rw [ka], hs1.2.2.2.2.1, wa⟩, by rw [ka]; decide⟩
      have w2 : Well cols row (mk2 13 (mk1 14 a) (mk1 14 b)) := (well_log (.inr rfl)).2 ⟨hside, by rw [n1]; decide, by rw [n2]; decide⟩
      simp only [w1, w2, not_true_eq_false, and_false, or_false, true_and] at c1 c2
      refine ⟨?_, by rw [c1.1, c2.1]⟩
      rw [c1.2.1, c2.2.1, value_one wa, va, value_two (.inr (by decide)) hside, v1, v2]
      exact answer_and_or (good_two (good_of hr ha f3.1 hs1.2.2.1 hs1.2.2.2.2.1 hs1.2.2.2.2.2.1) hs2.1) (good_two (good_of hr hb f3.2.1 hs1.2.2.2.1 hs1.2.2.2.2.1 hs1.2.2.2.2.2.2) hs2.2)
    · have w1 : ¬ Well cols row (mk1 14 (mk2 12 a b)) := by
        intro w
        obtain ⟨⟨_, _, k, ft, v⟩, _⟩ := well1.1 w
        apply hs
        have hf : formedB (mk2 12 a b) = true := (formed2 (by decide)).2 f3
        exact (well_log (.inl rfl)).1 ⟨hright, hf, k, ft, v⟩
      have w2 : ¬ Well cols row (mk2 13 (mk1 14 a) (mk1 14 b)) := by
        intro w
        obtain ⟨⟨_, _, k1, k2, ft, v1, v2⟩, _⟩ := (well_log (.inr rfl)).1 w
        apply hs
        obtain ⟨⟨_, _, p1, _, p2⟩, p3⟩ := well1.1 (⟨hright, (formed1 (by decide)).2 hF1.1, k1, ft, v1⟩ : Well cols row (mk1 14 a))
        obtain ⟨⟨_, _, q1, _, q2⟩, q3⟩ := well1.1 (⟨hright, (formed1 (by decide)).2 hF1.2, k2, ft, v2⟩ : Well cols row (mk1 14 b))
        exact ⟨⟨hright, f3, p1, q1, ft, p2, q2⟩, p3, q3⟩
      simp only [w1, w2, false_and, and_false, false_or, not_false_eq_true, and_true] at c1 c2
      exact ⟨by rw [c1.2, c2.2], by simp [c1.1, c2.1]⟩
  · have w1 : ¬ Well cols row (mk1 14 (mk2 12 a b)) := fun w => hright w.1
    have w2 : ¬ Well cols row (mk2 13 (mk1 14 a) (mk1 14 b)) := fun w => hright w.1
    simp only [w1, w2, false_and, and_false, false_or, not_false_eq_true, and_true] at c1 c2
    exact ⟨by rw [c1.2, c2.2], by simp [c1.1, c2.1]⟩
/-- a less than b is not b at most a. -/
theorem turns_less (hr : FitR row) (ha : FitX a) (hb : FitX b) :
    ((evalF cols row (mk2 10 a b)).2 = 0 ∧ (evalF cols row (mk1 14 (mk2 11 b a))).2 = 0 ∧ (evalF cols row (mk2 10 a b)).1 = (evalF cols row (mk1 14 (mk2 11 b a))).1) ∨
    ((evalF cols row (mk2 10 a b)).2 ≠ 0 ∧ (evalF cols row (mk1 14 (mk2 11 b a))).2 ≠ 0) ∨ (evalF cols row (mk2 10 a b)).2 = 122 ∨ (evalF cols row (mk1 14 (mk2 11 b a))).2 = 122 := by
  have c1 := evalF_cases (cols := cols) hr (ha.mk2 (op := 10) hb)
  have c2 := evalF_cases (cols := cols) hr ((hb.mk2 (op := 11) ha).mk1 (op := 14))
  by_cases hright : rightC cols = true
  · rcases evalF_form (row := row) (x := mk2 10 a b) hright with h | f1
    · exact .inr (.inr (.inl h))
    rcases evalF_form (row := row) (x := mk1 14 (mk2 11 b a)) hright with h | f2
    · exact .inr (.inr (.inr h))
    rw [formed2 (by decide)] at f1
    rw [formed1 (by decide)] at f2
    by_cases hs : Sides cols row a b ∧ alikeB (kindF cols a).1 (kindF cols b).1 = true
    · have hs' : Sides cols row b a ∧ alikeB (kindF cols b).1 (kindF cols a).1 = true := ⟨hs.1.symm, by rw [alikeB_symm]; exact hs.2⟩
      have w1 : Well cols row (mk2 10 a b) := (well_cmp (by decide)).2 hs
      have w3 : Well cols row (mk2 11 b a) := (well_cmp (by decide)).2 hs'
      have k3 : kindF cols (mk2 11 b a) = (2, 0) := by
        rw [kind2, if_neg (by simp [hs'.1.2.2.1]), if_neg (by simp [hs'.1.2.2.2.1]), kindN_cmp (by decide), if_neg (by simp [hs'.2])]
      have w2 : Well cols row (mk1 14 (mk2 11 b a)) := well1.2 ⟨⟨hright, f2, w3.2.2.1, w3.2.2.2.1, w3.2.2.2.2⟩, by rw [k3]; decide⟩
      simp only [w1, w2, not_true_eq_false, and_false, or_false, true_and] at c1 c2
      refine .inl ⟨c1.1, c2.1, ?_⟩
      rw [c1.2.1, c2.2.1, value_one w3.2.2.2.2, value_two (.inr (by decide)) hs.1, value_two (.inr (by decide)) hs'.1]
      generalize (valueF cols row a).1 = u
      generalize (valueF cols row b).1 = v
      have han := cmpV_cmp.anti u v
      simp only [pairF]
      by_cases hz : u.k = 0 ∨ v.k = 0
      · have hz' : v.k = 0 ∨ u.k = 0 := hz.symm
        simp [hz, hz', singleF, nullV]
      · have hz' : ¬ (v.k = 0 ∨ u.k = 0) := fun h => hz h.symm
        simp only [hz, hz', if_false, singleF, truthV, han]
        rcases cmpV_range u v with h | h | h <;> rw [h] <;> simp
    · have w1 : ¬ Well cols row (mk2 10 a b) := fun w => hs ((well_cmp (by decide)).1 w)
      have w2 : ¬ Well cols row (mk1 14 (mk2 11 b a)) := by
        intro w
        obtain ⟨⟨_, _, k, ft, v⟩, _⟩ := well1.1 w
        have := (well_cmp (cols := cols) (row := row) (op := 11) (a := b) (b := a) (by decide)).1 ⟨hright, (formed2 (by decide)).2 f1.symm, k, ft, v⟩
        exact hs ⟨this.1.symm, by rw [alikeB_symm]; exact this.2⟩
      simp only [w1, w2, false_and, and_false, false_or, not_false_eq_true, and_true] at c1 c2
      exact .inr (.inl ⟨c1.1, c2.1⟩)
  · have w1 : ¬ Well cols row (mk2 10 a b) := fun w => hright w.1
    have w2 : ¬ Well cols row (mk1 14 (mk2 11 b a)) := fun w => hright w.1
    simp only [w1, w2, false_and, and_false, false_or, not_false_eq_true, and_true] at c1 c2
    exact .inr (.inl ⟨c1.1, c2.1⟩)
/-- A value is null, or of its expression's kind. -/
theorem kinds_law (hr : FitR row) (hx : FitX x) :
    (((typeF cols x).2 ≠ 0 ∨ fitsC cols row = false) ∧ (evalF cols row x).2 ≠ 0 ∧ (evalF cols row x).1 = nullV ∧ ((typeF cols x).2 = 0 ∨ (evalF cols row x).2 = (typeF cols x).2)) ∨
    ((typeF cols x).2 = 0 ∧ fitsC cols row = true ∧ (((evalF cols row x).2 ≠ 0 ∧ ((evalF cols row x).2 = 100 ∨ (evalF cols row x).2 = 101) ∧ (evalF cols row x).1 = nullV) ∨
      ((evalF cols row x).2 = 0 ∧ ((evalF cols row x).1.k = 0 ∨ (evalF cols row x).1.k = (typeF cols x).1)))) := by
  by_cases h1 : (typeF cols x).2 = 0
  · by_cases h2 : fitsC cols row = true
    · refine .inr ⟨h1, h2, ?_⟩
      have he : evalF cols row x = valueF cols row x := by unfold evalF; rw [if_neg (by simp [h1]), if_neg (by simp [h2])]
      have hr1 : rightC cols = true := by
        unfold fitsC at h2; rw [Bool.and_eq_true] at h2; exact h2.1
      have hr2 : fitsL cols row = true := by
        unfold fitsC at h2; rw [Bool.and_eq_true] at h2; exact h2.2
      unfold typeF at h1
      rw [if_neg (by simp [hr1])] at h1
      split at h1
      · exact absurd h1 (by decide)
      · rename_i hf
        have hf' : formedB x = true := by simpa using hf
        have ht : typeF cols x = kindF cols x := by unfold typeF; rw [if_neg (by simp [hr1]), if_neg hf]
        have hfp : FormedP x := of_decide_eq_true hf'
        rw [he, ht]
        rcases typed (x := x) hr2 hr _ (Nat.le_refl _) (fun y hy => ⟨hfp.1 y hy, hx y hy⟩) h1 with h | h
        · exact .inr ⟨h.1, h.2.2.2⟩
        · exact .inl ⟨by omega, h.1, h.2⟩
    · have he : evalF cols row x = (nullV, 2) := by unfold evalF; rw [if_neg (by simp [h1]), if_pos (by simpa using h2)]
      refine .inl ⟨.inr (by simpa using h2), ?_⟩
      rw [he]
      exact ⟨by decide, rfl, .inl h1⟩
  · have he : evalF cols row x = (nullV, (typeF cols x).2) := by unfold evalF; rw [if_pos h1]
    refine .inl ⟨.inl h1, ?_⟩
    rw [he]
    exact ⟨h1, rfl, .inr rfl⟩
end
end Go.Vc

/- Answers that a condition may have: zones, sides, sets. Plain Lean, no program. -/
namespace Go.Vc
open Go Go.RowKit

structure Zn where
  nulls : Int
  lo : Val
  hi : Val
def Zn.cs (z : Zn) : List Value := [.int .i64 z.nulls, .int .i64 z.lo.k, .int .i64 z.lo.n, .string z.lo.s, .int .i64 z.hi.k, .int .i64 z.hi.n, .string z.hi.s]
theorem Zn.cs_length (z : Zn) : z.cs.length = 7 := rfl

/-! ### Sets of answers -/
structure S3 where
  no : Bool
  yes : Bool
  null : Bool
deriving DecidableEq
def S3.i (s : S3) : Int := (if s.no then 1 else 0) + (if s.yes then 2 else 0) + (if s.null then 4 else 0)
def S3.not (s : S3) : S3 := ⟨s.yes, s.no, s.null⟩
def S3.any (s : S3) : Bool := s.no || s.yes || s.null
def S3.and (s t : S3) : S3 := ⟨s.no && t.any || t.no && s.any, s.yes && t.yes, s.null && (t.yes || t.null) || t.null && s.yes⟩
def S3.or (s t : S3) : S3 := (s.not.and t.not).not
def S3.all : S3 := ⟨true, true, true⟩
def S3.Le (s t : S3) : Prop := (s.no = true → t.no = true) ∧ (s.yes = true → t.yes = true) ∧ (s.null = true → t.null = true)
instance (s t : S3) : Decidable (S3.Le s t) := by unfold S3.Le; exact inferInstance
theorem S3.le_all (s : S3) : S3.Le s .all := ⟨fun _ => rfl, fun _ => rfl, fun _ => rfl⟩
theorem S3.le_rfl (s : S3) : S3.Le s s := ⟨id, id, id⟩
theorem S3.le_not {s t : S3} (h : S3.Le s t) : S3.Le s.not t.not := ⟨h.2.1, h.1, h.2.2⟩
theorem S3.le_and {s t u v : S3} (h : S3.Le s t) (k : S3.Le u v) : S3.Le (s.and u) (t.and v) := by
  obtain ⟨h1, h2, h3⟩ := h
  obtain ⟨k1, k2, k3⟩ := k
  unfold S3.Le
  simp only [S3.and, S3.any, Bool.and_eq_true, Bool.or_eq_true]
  exact ⟨fun hh => hh.imp (fun ⟨a, b⟩ => ⟨h1 a, b.imp (Or.imp k1 k2) k3⟩) (fun ⟨a, b⟩ => ⟨k1 a, b.imp (Or.imp h1 h2) h3⟩), fun ⟨a, b⟩ => ⟨h2 a, k2 b⟩,
    fun hh => hh.imp (fun ⟨a, b⟩ => ⟨h3 a, b.imp k2 k3⟩) (fun ⟨a, b⟩ => ⟨k3 a, h2 b⟩)⟩
theorem S3.le_or {s t u v : S3} (h : S3.Le s t) (k : S3.Le u v) : S3.Le (s.or u) (t.or v) := S3.le_not (S3.le_and (S3.le_not h) (S3.le_not k))

/-! ### Zones -/
def zoneOk (c : Col) (z : Zn) (n : Int) : Bool := decide (z.lo.Ok ∧ z.hi.Ok ∧ 0 ≤ z.nulls ∧ z.nulls ≤ n ∧ (0 < z.nulls → c.null = true)) && (if z.nulls = n then decide (z.lo = nullV ∧ z.hi = nullV) else decide (z.lo.k = c.kind ∧ z.hi.k = c.kind ∧ cmpV z.lo z.hi ≤ 0))
def zonesL : List Col → List Zn → Int → Bool
  | [], [], _ => true
  | c :: cs, z :: zs, n => zoneOk c z n && zonesL cs zs n
  | _, _, _ => false
theorem zonesL_length : ∀ {a : List Col} {b : List Zn} {n : Int}, zonesL a b n = true → a.length = b.length
  | [], [], _, _ => rfl
  | _ :: _, _ :: _, _, h => by
    unfold zonesL at h
    rw [Bool.and_eq_true] at h
    simp [zonesL_length h.2]
  | [], _ :: _, _, h => by cases h
  | _ :: _, [], _, h => by cases h
theorem zonesL_get {a : List Col} {b : List Zn} {n : Int} (h : zonesL a b n = true) {k : Nat} {c : Col} {z : Zn} (hc : a[k]? = some c) (hz : b[k]? = some z) : zoneOk c z n = true := by
  induction a generalizing b k with
  | nil => simp at hc
  | cons x a ih =>
    cases b with
    | nil => simp at hz
    | cons y b =>
      unfold zonesL at h
      rw [Bool.and_eq_true] at h
      cases k with
      | zero => cases hc; cases hz; exact h.1
      | succ k => exact ih h.2 (by simpa using hc) (by simpa using hz)
theorem zonesL_drop {a : List Col} {b : List Zn} {n : Int} {k : Nat} {c : Col} {z : Zn} (hc : a[k]? = some c) (hz : b[k]? = some z) : zonesL (a.drop k) (b.drop k) n = (zoneOk c z n && zonesL (a.drop (k + 1)) (b.drop (k + 1)) n) := by
  obtain ⟨h1, rfl⟩ := List.getElem?_eq_some_iff.1 hc
  obtain ⟨h2, rfl⟩ := List.getElem?_eq_some_iff.1 hz
  rw [List.drop_eq_getElem_cons h1, List.drop_eq_getElem_cons h2]
  rfl
def zonesOk (cols : List Col) (zones : List Zn) (n : Int) : Bool := decide (zones.length = cols.length ∧ 0 ≤ n ∧ n ≤ 1024) && zonesL cols zones n

/-- What a side of a comparison may be. -/
structure Sd where
  null : Bool
  full : Bool
  lo : Val
  hi : Val
def sideF (cols : List Col) (zones : List Zn) (n : Int) (x : Ex) : Option Sd :=
  if x.op = 2 then some ⟨decide (x.v.k = 0), decide (x.v.k ≠ 0), x.v, x.v⟩
  else if x.op = 1 then (zones[(findC cols x.name).toNat]?).map fun z => ⟨decide (0 < z.nulls), decide (z.nulls < n), z.lo, z.hi⟩
  else none
def cmpS3 (op : Int) (a b : Sd) : S3 :=
  if (!a.full || !b.full) = true then ⟨false, false, a.null || b.null⟩
  else if op = 9 then ⟨decide (cmpV a.lo b.hi ≠ 0 ∨ cmpV a.hi b.lo ≠ 0), decide (cmpV a.lo b.hi ≤ 0 ∧ 0 ≤ cmpV a.hi b.lo), a.null || b.null⟩
  else if op = 10 then ⟨decide (0 ≤ cmpV a.hi b.lo), decide (cmpV a.lo b.hi < 0), a.null || b.null⟩
  else ⟨decide (0 < cmpV a.hi b.lo), decide (cmpV a.lo b.hi ≤ 0), a.null || b.null⟩
def ownS (v : Val) : S3 := ⟨decide (v.k ≠ 0 ∧ v.n ≠ 1), decide (v.k ≠ 0 ∧ v.n = 1), decide (v.k = 0)⟩
def colS (z : Zn) (n : Int) : S3 := ⟨decide (z.nulls < n ∧ z.lo.n = 0), decide (z.nulls < n ∧ z.hi.n = 1), decide (0 < z.nulls)⟩
def nodeS (cols : List Col) (zones : List Zn) (n : Int) (op : Int) (name : ByteArray) (v : Val) (ks : List Ex) (l : List S3) : S3 :=
  if op = 2 then ownS v
  else if op = 1 then (match zones[(findC cols name).toNat]? with | some z => colS z n | none => .all)
  else if op = 14 then (l.getD 0 .all).not
  else if op = 12 then (l.getD 0 .all).and (l.getD 1 .all)
  else if op = 13 then (l.getD 0 .all).or (l.getD 1 .all)
  else if op = 15 then (match (ks[0]?).bind (sideF cols zones n) with | some a => ⟨a.full, a.null, false⟩ | none => .all)
  else if op = 9 ∨ op = 10 ∨ op = 11 then (match (ks[0]?).bind (sideF cols zones n), (ks[1]?).bind (sideF cols zones n) with | some a, some b => cmpS3 op a b | _, _ => .all)
  else .all
mutual
def ansF (cols : List Col) (zones : List Zn) (n : Int) : Ex → S3
  | .mk op name v ks => nodeS cols zones n op name v ks (anssF cols zones n ks)
def anssF (cols : List Col) (zones : List Zn) (n : Int) : List Ex → List S3
  | [] => []
  | k :: r => ansF cols zones n k :: anssF cols zones n r
end
theorem anssF_eq (cols : List Col) (zones : List Zn) (n : Int) (l : List Ex) : anssF cols zones n l = l.map (ansF cols zones n) := by
  induction l with
  | nil => simp [anssF]
  | cons k r ih => rw [anssF, ih]; rfl
theorem ansF_eq (cols : List Col) (zones : List Zn) (n : Int) (x : Ex) : ansF cols zones n x = nodeS cols zones n x.op x.name x.v x.kids (x.kids.map (ansF cols zones n)) := by
  cases x; rw [ansF, anssF_eq]; rfl
mutual
def bareF : Ex → Bool
  | .mk op _ _ ks => !(decide (3 ≤ op ∧ op ≤ 8)) && baresF ks
def baresF : List Ex → Bool
  | [] => true
  | k :: r => bareF k && baresF r
end
theorem baresF_eq (l : List Ex) : baresF l = l.all bareF := by
  induction l with
  | nil => simp [baresF]
  | cons k r ih => rw [baresF, ih]; rfl
theorem bareF_eq (x : Ex) : bareF x = (!(decide (3 ≤ x.op ∧ x.op ≤ 8)) && x.kids.all bareF) := by
  cases x; rw [bareF, baresF_eq]; rfl
/-- The answers, and whether a row may have to be looked at. -/
def answersF (cols : List Col) (zones : List Zn) (n : Int) (x : Ex) : Int × Int :=
  if (typeF cols x).2 ≠ 0 then (0, (typeF cols x).2) else if (typeF cols x).1 ≠ 2 ∧ (typeF cols x).1 ≠ 0 then (0, 121) else if zonesOk cols zones n = false then (0, 2) else if n = 0 then (0, 0) else ((ansF cols zones n x).i, 0)
def mayF (cols : List Col) (zones : List Zn) (n : Int) (x : Ex) : Bool × Int :=
  if (answersF cols zones n x).2 ≠ 0 then (false, (answersF cols zones n x).2) else (decide (0 < n) && (!bareF x || decide ((answersF cols zones n x).1 % 4 / 2 = 1)), 0)

/-! ### Conditions without errors -/
section
variable {cols : List Col} {row : List Val} {zones : List Zn} {n : Int} {x : Ex}
theorem bare_fine : ∀ (N : Nat) (x : Ex), depthT x ≤ N → (∀ y ∈ nodesT x, NodeOk y) → bareF x = true → (valueF cols row x).2 = 0 := by
  intro N
  induction N with
  | zero => intro x hd; cases x; unfold depthT at hd; omega
  | succ N ih =>
    intro x hd hn hb
    rw [bareF_eq, Bool.and_eq_true, List.all_eq_true] at hb
    have hno := hn x (self_node x)
    have hop : ¬ (3 ≤ x.op ∧ x.op ≤ 8) := by
      have := hb.1
      simp only [Bool.not_eq_true', decide_eq_false_iff_not] at this
      exact this
    have hmr := many_range (op := x.op) (by have := hno.1; omega)
    have key : ∀ l : List Ex, (∀ k ∈ l, (valueF cols row k).2 = 0) → (runL (valueF cols row) l).2 = 0 := by
      intro l
      induction l with
      | nil => intro _; rfl
      | cons k r ih2 =>
        intro h
        unfold runL
        rw [if_neg (by simp [h k (by simp)]), if_neg (by simp [ih2 fun q hq => h q (by simp [hq])])]
    have hk : (runL (valueF cols row) x.kids).2 = 0 := key _ fun k hk => by
      obtain ⟨i, hi⟩ := List.mem_iff_getElem?.1 hk
      exact ih k (by have := kid_depth hi; omega) (fun y hy => hn y (kid_node hi hy)) (hb.2 k hk)
    have hlen := runL_len hk
    rw [valueF_eq, if_neg (by simp [hk])]
    generalize (runL (valueF cols row) x.kids).1 = l at hlen
    unfold valueN
    split
    · rfl
    · split
      · rfl
      · have hno1 := hno.1
        split
        · rename_i h1 h2 hl
          have : x.op = 14 ∨ x.op = 15 ∨ x.op = 16 := by
            unfold manyOf at hno1
            rw [if_neg (by omega)] at hno1
            split at hno1
            · omega
            · split at hno1
              · omega
              · omega
          unfold singleF
          rcases this with h | h | h
          · rw [h, if_neg (by decide)]; split
            · rfl
            · rw [if_pos rfl]
          · rw [h, if_pos rfl]
          · rw [h, if_neg (by decide)]; split
            · rfl
            · rw [if_neg (by decide), if_pos rfl]
        · rename_i h1 h2 hl
          refine pair_fine ?_ _ _
          unfold manyOf at hno1
          rw [if_neg (by omega)] at hno1
          split at hno1
          · omega
          · split at hno1
            · omega
            · omega

/-! ### Each row's answer is one of them -/
/-- A zone holds a value. -/
def Cov (z : Zn) (n : Int) (u : Val) : Prop := (u.k = 0 → 0 < z.nulls) ∧ (u.k ≠ 0 → z.nulls < n ∧ cmpV z.lo u ≤ 0 ∧ cmpV u z.hi ≤ 0)
/-- A side holds a value. -/
def InSd (a : Sd) (u : Val) : Prop := (u.k = 0 → a.null = true) ∧ (u.k ≠ 0 → a.full = true ∧ cmpV a.lo u ≤ 0 ∧ cmpV u a.hi ≤ 0)
theorem cmpV_self (a : Val) : cmpV a a = 0 := cmpV_zero.2 rfl
theorem cmpV_tr {a b c : Val} (h : cmpV a b ≤ 0) (k : cmpV b c ≤ 0) : cmpV a c ≤ 0 := cmpV_cmp.trans a b c h k
theorem cmpV_le_anti {a b : Val} (h : cmpV a b ≤ 0) (k : cmpV b a ≤ 0) : a = b := by
  have := cmpV_cmp.anti a b
  exact cmpV_zero.1 (by omega)
theorem cmpV_lt_tr {a b c : Val} (h : cmpV a b ≤ 0) (k : cmpV b c < 0) : cmpV a c < 0 := by
  have h1 := cmpV_tr h (Int.le_of_lt k)
  rcases Int.lt_or_eq_of_le h1 with h2 | h2
  · exact h2
  · have e := cmpV_zero.1 h2
    subst e
    have := cmpV_cmp.anti a b
    omega
theorem cmpV_tr_lt {a b c : Val} (h : cmpV a b < 0) (k : cmpV b c ≤ 0) : cmpV a c < 0 := by
  have h1 := cmpV_tr (Int.le_of_lt h) k
  rcases Int.lt_or_eq_of_le h1 with h2 | h2
  · exact h2
  · have e := cmpV_zero.1 h2
    subst e
    have := cmpV_cmp.anti a b
    omega
theorem truth_own (b : Bool) : ownS (truthV b) = ⟨!b, b, false⟩ := by cases b <;> decide
theorem null_own : ownS nullV = ⟨false, false, true⟩ := by decide
theorem cmp_sound {op : Int} (ho : op = 9 ∨ op = 10 ∨ op = 11) {a b : Sd} {u v : Val} (ha : InSd a u) (hb : InSd b v) (hla : a.full = true → cmpV a.lo a.hi ≤ 0) (hlb : b.full = true → cmpV b.lo b.hi ≤ 0) : S3.Le (ownS (pairF op u v).1) (cmpS3 op a b) := by
  unfold pairF
  rw [if_neg (by omega), if_neg (by omega)]
  by_cases hz : u.k = 0 ∨ v.k = 0
  · rw [if_pos hz]
    rw [null_own]
    have hn : (a.null || b.null) = true := by
      rcases hz with h | h
      · rw [ha.1 h]; rfl
      · rw [hb.1 h]; simp
    refine ⟨fun h => (by cases h), fun h => (by cases h), fun _ => ?_⟩
    unfold cmpS3
    split
    · exact hn
    · split
      · exact hn
      · split
        · exact hn
        · exact hn
  · rw [if_neg hz]
    obtain ⟨fa, la, ra⟩ := ha.2 (fun h => hz (.inl h))
    obtain ⟨fb, lb, rb⟩ := hb.2 (fun h => hz (.inr h))
    have hfull : (!a.full || !b.full) = false := by rw [fa, fb]; rfl
    have an1 := cmpV_cmp.anti u v
    have an2 := cmpV_cmp.anti a.hi b.lo
    have an3 := cmpV_cmp.anti a.lo b.hi
    unfold cmpS3
    rcases ho with rfl | rfl | rfl <;> simp only [Int.reduceEq, reduceIte, hfull, Bool.false_eq_true, truth_own]
    · refine ⟨fun h => ?_, fun h => ?_, fun h => (by cases h)⟩
      · have hne : cmpV u v ≠ 0 := by simpa using h
        simp only [decide_eq_true_eq]
        refine Decidable.byContradiction fun hc => hne ?_
        have h1 : cmpV a.lo b.hi = 0 := by omega
        have h2 : cmpV a.hi b.lo = 0 := by omega
        have e1 := cmpV_zero.1 h1
        have e2 := cmpV_zero.1 h2
        have k1 : cmpV u v ≤ 0 := cmpV_tr ra (by rw [e2]; exact lb)
        have k2 : cmpV v u ≤ 0 := cmpV_tr rb (by rw [← e1]; exact la)
        omega
      · have he : cmpV u v = 0 := by simpa using h
        have e := cmpV_zero.1 he
        subst e
        simp only [decide_eq_true_eq]
        have k1 := cmpV_tr la rb
        have k2 := cmpV_tr lb ra
        exact ⟨k1, by omega⟩
    · refine ⟨fun h => ?_, fun h => ?_, fun h => (by cases h)⟩
      · have he : ¬ cmpV u v < 0 := by simpa using h
        simp only [decide_eq_true_eq]
        have k2 := cmpV_tr lb (cmpV_tr (show cmpV v u ≤ 0 by omega) ra)
        omega
      · have he : cmpV u v < 0 := by simpa using h
        simp only [decide_eq_true_eq]
        exact cmpV_lt_tr la (cmpV_tr_lt he rb)
    · refine ⟨fun h => ?_, fun h => ?_, fun h => (by cases h)⟩
      · have he : ¬ cmpV u v ≤ 0 := by simpa using h
        simp only [decide_eq_true_eq]
        have k2 := cmpV_lt_tr lb (cmpV_tr_lt (show cmpV v u < 0 by omega) ra)
        omega
      · have he : cmpV u v ≤ 0 := by simpa using h
        simp only [decide_eq_true_eq]
        exact cmpV_tr la (cmpV_tr he rb)
end
end Go.Vc

/- Each row's answer is one of those that a condition may have; more rows, more answers. Plain Lean, no program. -/
namespace Go.Vc
open Go Go.RowKit

theorem three_truths {v : Val} (h : GoodV 2 v) : v = nullV ∨ v = truthV false ∨ v = truthV true := by
  obtain ⟨k, n, s⟩ := v
  obtain ⟨h1, _, h2⟩ := h
  simp only [Val.Ok] at h1 h2
  rcases h1 with ⟨rfl, rfl, rfl⟩ | ⟨h, _⟩ | ⟨rfl, rfl | rfl, rfl⟩ | ⟨h, _⟩
  · exact .inl rfl
  · omega
  · exact .inr (.inl rfl)
  · exact .inr (.inr rfl)
  · omega
theorem own_and {u v : Val} (hu : GoodV 2 u) (hv : GoodV 2 v) : ownS (pairF 12 u v).1 = (ownS u).and (ownS v) := by
  rcases three_truths hu with rfl | rfl | rfl <;> rcases three_truths hv with rfl | rfl | rfl <;> decide +kernel
theorem own_or {u v : Val} (hu : GoodV 2 u) (hv : GoodV 2 v) : ownS (pairF 13 u v).1 = (ownS u).or (ownS v) := by
  rcases three_truths hu with rfl | rfl | rfl <;> rcases three_truths hv with rfl | rfl | rfl <;> decide +kernel
theorem own_not {u : Val} (hu : GoodV 2 u) : ownS (singleF 14 u).1 = (ownS u).not := by
  rcases three_truths hu with rfl | rfl | rfl <;> decide +kernel

section
variable {cols : List Col} {row : List Val} {zones zones' : List Zn} {n n' : Int}
/-- A node that names a column. -/
theorem col_node {x : Ex} (h1 : x.op = 1) (ho : NodeOk x) (hk : (kindF cols x).2 = 0) : ∃ c, cols[(findC cols x.name).toNat]? = some c ∧ kindF cols x = (c.kind, 0) := by
  obtain ⟨_, hk2⟩ := kids_kinds hk
  rw [hk2] at hk ⊢
  unfold kindN at hk ⊢
  have hw : wantOf x.op = 0 := by rw [h1]; rfl
  rw [hw, if_neg (by simp), if_pos h1] at hk ⊢
  split at hk
  · exact absurd hk (by decide)
  · rename_i hge
    rw [if_neg hge]
    obtain ⟨c, hc, _⟩ := findC_get (l := cols) (s := x.name) (by omega)
    exact ⟨c, hc, by rw [hc]; rfl⟩
theorem col_value {x : Ex} (h1 : x.op = 1) (ho : NodeOk x) (hf : fitsL cols row = true) {c : Col} (hc : cols[(findC cols x.name).toNat]? = some c) : ∃ u, row[(findC cols x.name).toNat]? = some u ∧ valueF cols row x = (u, 0) ∧ valFits c u = true := by
  have hl := fitsL_length hf
  have hi := (List.getElem?_eq_some_iff.1 hc).1
  have hu : row[(findC cols x.name).toNat]? = some (row[(findC cols x.name).toNat]'(by omega)) := List.getElem?_eq_getElem _
  generalize row[(findC cols x.name).toNat]'(by omega) = u at hu
  refine ⟨u, hu, ?_, fitsL_get hf hc hu⟩
  have hk0 : x.kids = [] := by
    have := ho.1
    rw [h1] at this
    have h0 : manyOf 1 = 0 := rfl
    rw [h0] at this
    exact List.length_eq_zero_iff.1 (by omega)
  rw [valueF_eq, hk0]
  simp [runL, valueN, h1, hu]
theorem const_value {x : Ex} (h2 : x.op = 2) (ho : NodeOk x) : valueF cols row x = (x.v, 0) := by
  have hk0 : x.kids = [] := by
    have := ho.1
    rw [h2] at this
    have h0 : manyOf 2 = 0 := rfl
    rw [h0] at this
    exact List.length_eq_zero_iff.1 (by omega)
  rw [valueF_eq, hk0]
  simp [runL, valueN, h2]
theorem zone_get (hz : zonesL cols zones n = true) {i : Nat} {c : Col} (hc : cols[i]? = some c) : ∃ z, zones[i]? = some z ∧ zoneOk c z n = true := by
  have hl := zonesL_length hz
  have hi := (List.getElem?_eq_some_iff.1 hc).1
  have hu : zones[i]? = some (zones[i]'(by omega)) := List.getElem?_eq_getElem _
  exact ⟨_, hu, zonesL_get hz hc hu⟩
theorem zoneOk_full {c : Col} {z : Zn} (h : zoneOk c z n = true) (hf : z.nulls < n) : z.lo.Ok ∧ z.hi.Ok ∧ z.lo.k = c.kind ∧ z.hi.k = c.kind ∧ cmpV z.lo z.hi ≤ 0 := by
  unfold zoneOk at h
  rw [Bool.and_eq_true, decide_eq_true_eq, if_neg (by omega), decide_eq_true_eq] at h
  exact ⟨h.1.1, h.1.2.1, h.2⟩
theorem side_in (hf : fitsL cols row = true) (hz : zonesL cols zones n = true) (hcov : ∀ (i : Nat) u z, row[i]? = some u → zones[i]? = some z → Cov z n u) {x : Ex} (ho : NodeOk x) (hk : (kindF cols x).2 = 0) {s : Sd} (hs : sideF cols zones n x = some s) :
    InSd s (valueF cols row x).1 ∧ (s.full = true → cmpV s.lo s.hi ≤ 0) := by
  unfold sideF at hs
  split at hs
  · rename_i h2
    cases hs
    rw [const_value h2 ho]
    refine ⟨⟨fun h => by simpa using h, fun h => ⟨by simpa using h, ?_, ?_⟩⟩, fun _ => ?_⟩ <;> exact Int.le_of_eq (cmpV_self _)
  · split at hs
    · rename_i h1
      obtain ⟨c, hc, _⟩ := col_node h1 ho hk
      obtain ⟨u, hu, hv, _⟩ := col_value h1 ho hf hc
      obtain ⟨z, hzz, hzo⟩ := zone_get hz hc
      rw [hzz] at hs
      cases hs
      rw [hv]
      obtain ⟨c1, c2⟩ := hcov _ u z hu hzz
      refine ⟨⟨fun h => decide_eq_true (c1 h), fun h => ⟨decide_eq_true (c2 h).1, (c2 h).2⟩⟩, fun h => ?_⟩
      exact (zoneOk_full hzo (of_decide_eq_true h)).2.2.2.2
    · cases hs

theorem kid_kind {x : Ex} (ho : x.op = 12 ∨ x.op = 13 ∨ x.op = 14) (hk : (kindF cols x).2 = 0) {i : Nat} {k : Ex} (hi : x.kids[i]? = some k) : (kindF cols k).1 = 2 ∨ (kindF cols k).1 = 0 := by
  obtain ⟨hk1, hk2⟩ := kids_kinds hk
  have hg := (runL_get hk1 hi).2
  rw [hk2] at hk
  unfold kindN at hk
  have hw : wantOf x.op = 2 := by unfold wantOf; rw [if_neg (by omega), if_pos (by omega)]
  rw [hw] at hk
  split at hk
  · exact absurd hk (by decide)
  · rename_i hn
    have := Decidable.not_not.1 fun hne => hn ⟨by decide, hne⟩
    exact alike_want (this _ (List.mem_of_getElem? hg)) (by decide)

theorem ans_sound (hf : fitsL cols row = true) (hr : FitR row) (hz : zonesL cols zones n = true) (hcov : ∀ (i : Nat) u z, row[i]? = some u → zones[i]? = some z → Cov z n u) : ∀ (N : Nat) (x : Ex), depthT x ≤ N → (∀ y ∈ nodesT x, NodeOk y ∧ fitI y.v.n) → (kindF cols x).2 = 0 →
    ((kindF cols x).1 = 2 ∨ (kindF cols x).1 = 0) → (valueF cols row x).2 = 0 → S3.Le (ownS (valueF cols row x).1) (ansF cols zones n x) := by
  intro N
  induction N with
  | zero => intro x hd; cases x; unfold depthT at hd; omega
  | succ N ih =>
    intro x hd hn hk hkk hv
    obtain ⟨hk1, hk2⟩ := kids_kinds hk
    have ho := (hn x (self_node x)).1
    have hvl : (runL (valueF cols row) x.kids).2 = 0 := by
      rw [valueF_eq] at hv
      split at hv
      · rename_i hne; exact absurd hv hne
      · rename_i hne; omega
    have hkid : ∀ (i : Nat) k, x.kids[i]? = some k → (kindF cols k).2 = 0 ∧ (valueF cols row k).2 = 0 ∧ (runL (valueF cols row) x.kids).1[i]? = some (valueF cols row k).1 := fun i k hi => ⟨(runL_get hk1 hi).1, (runL_get hvl hi).1, (runL_get hvl hi).2⟩
    have hsub : ∀ (i : Nat) k, x.kids[i]? = some k → x.op = 12 ∨ x.op = 13 ∨ x.op = 14 → S3.Le (ownS (valueF cols row k).1) (ansF cols zones n k) ∧ GoodV 2 (valueF cols row k).1 := by
      intro i k hi hop
      have kk := kid_kind hop hk hi
      refine ⟨ih k (by have := kid_depth hi; omega) (fun y hy => hn y (kid_node hi hy)) (hkid i k hi).1 kk (hkid i k hi).2.1, ?_⟩
      rcases typed (x := k) hf hr _ (Nat.le_refl _) (fun y hy => hn y (kid_node hi hy)) (hkid i k hi).1 with h | h
      · obtain ⟨g1, g2, g3⟩ := h.2
        exact ⟨g1, g2, by omega⟩
      · have := (hkid i k hi).2.1; omega
    have hlen := runL_len hvl
    have hno1 := ho.1
    rw [ansF_eq]
    unfold nodeS
    by_cases h2 : x.op = 2
    · rw [if_pos h2, const_value h2 ho]; exact S3.le_rfl _
    rw [if_neg h2]
    by_cases h1 : x.op = 1
    · rw [if_pos h1]
      obtain ⟨c, hc, hkc⟩ := col_node h1 ho hk
      obtain ⟨u, hu, hvv, hfit⟩ := col_value h1 ho hf hc
      obtain ⟨z, hzz, hzo⟩ := zone_get hz hc
      rw [hzz, hvv]
      obtain ⟨c1, c2⟩ := hcov _ u z hu hzz
      have hck : c.kind = 2 ∨ c.kind = 0 := by rw [hkc] at hkk; exact hkk
      unfold valFits at hfit
      simp only [Bool.and_eq_true, Bool.or_eq_true, decide_eq_true_eq] at hfit
      have huo : u.Ok := of_decide_eq_true hfit.1
      have key : u.k ≠ 0 → z.nulls < n ∧ (u.n = 1 → z.hi.n = 1) ∧ (u.n ≠ 1 → z.lo.n = 0) := by
        intro hne
        obtain ⟨a1, a2, a3⟩ := c2 hne
        obtain ⟨b1, b2, b3, b4, _⟩ := zoneOk_full hzo a1
        have hu2 : u.k = 2 ∧ c.kind = 2 := by rcases hfit.2 with h | h <;> omega
        unfold Val.Ok at huo b1 b2
        rw [cmpV_def] at a2 a3
        have hk0 : cmpI z.lo.k u.k = 0 := cmpI_zero.2 (by omega)
        have hk1 : cmpI u.k z.hi.k = 0 := cmpI_zero.2 (by omega)
        rw [if_neg (by simp [hk0])] at a2
        rw [if_neg (by simp [hk1])] at a3
        refine ⟨a1, fun h => ?_, fun h => ?_⟩
        · have := cmpI_spec u.n z.hi.n
          split at a3 <;> omega
        · have := cmpI_spec z.lo.n u.n
          split at a2 <;> omega
      unfold ownS colS
      refine ⟨fun h => ?_, fun h => ?_, fun h => ?_⟩
      · simp only [decide_eq_true_eq] at h ⊢
        obtain ⟨k1, k2, k3⟩ := key h.1
        exact ⟨k1, k3 h.2⟩
      · simp only [decide_eq_true_eq] at h ⊢
        obtain ⟨k1, k2, k3⟩ := key h.1
        exact ⟨k1, k2 h.2⟩
      · simp only [decide_eq_true_eq] at h ⊢
        exact c1 h
    rw [if_neg h1]
    have hval : (valueF cols row x).1 = (if (runL (valueF cols row) x.kids).1.length = 1 then singleF x.op ((runL (valueF cols row) x.kids).1.getD 0 nullV) else pairF x.op ((runL (valueF cols row) x.kids).1.getD 0 nullV) ((runL (valueF cols row) x.kids).1.getD 1 nullV)).1 := by
      rw [valueF_eq, if_neg (by simp [hvl])]
      unfold valueN
      rw [if_neg h1, if_neg h2]
    rw [hval]
    by_cases h14 : x.op = 14
    · rw [if_pos h14]
      have hm : manyOf x.op = 1 := by rw [h14]; rfl
      obtain ⟨k, hk0⟩ := List.length_eq_one_iff.1 (show x.kids.length = 1 by omega)
      have hi : x.kids[0]? = some k := by rw [hk0]; rfl
      obtain ⟨hs, hg⟩ := hsub 0 k hi (by omega)
      have hv0 := (hkid 0 k hi).2.2
      rw [if_pos (by omega), List.getD_eq_getElem?_getD, hv0, Option.getD_some, h14, own_not hg, hk0]
      exact S3.le_not hs
    rw [if_neg h14]
    by_cases h1213 : x.op = 12 ∨ x.op = 13
    · have hm : manyOf x.op = 2 := by unfold manyOf; rw [if_neg (by omega), if_neg (by omega), if_pos (by omega)]
      have hkl : x.kids.length = 2 := by omega
      have g0 : x.kids[0]? = some (x.kids[0]'(by omega)) := List.getElem?_eq_getElem _
      have g1 : x.kids[1]? = some (x.kids[1]'(by omega)) := List.getElem?_eq_getElem _
      generalize x.kids[0]'(by omega) = k0 at g0
      generalize x.kids[1]'(by omega) = k1 at g1
      obtain ⟨hs0, hg0⟩ := hsub 0 k0 g0 (by omega)
      obtain ⟨hs1, hg1⟩ := hsub 1 k1 g1 (by omega)
      have hv0 := (hkid 0 k0 g0).2.2
      have hv1 := (hkid 1 k1 g1).2.2
      rw [if_neg (by omega), List.getD_eq_getElem?_getD, List.getD_eq_getElem?_getD, hv0, hv1, Option.getD_some, Option.getD_some]
      have e0 : (x.kids.map (ansF cols zones n)).getD 0 .all = ansF cols zones n k0 := by rw [List.getD_eq_getElem?_getD, List.getElem?_map, g0]; rfl
      have e1 : (x.kids.map (ansF cols zones n)).getD 1 .all = ansF cols zones n k1 := by rw [List.getD_eq_getElem?_getD, List.getElem?_map, g1]; rfl
      rw [e0, e1]
      rcases h1213 with h | h
      · rw [if_pos h, h, own_and hg0 hg1]; exact S3.le_and hs0 hs1
      · rw [if_neg (by omega), if_pos h, h, own_or hg0 hg1]; exact S3.le_or hs0 hs1
    rw [if_neg (show ¬ x.op = 12 by omega), if_neg (show ¬ x.op = 13 by omega)]
    by_cases h15 : x.op = 15
    · rw [if_pos h15]
      have hm : manyOf x.op = 1 := by rw [h15]; rfl
      obtain ⟨k, hk0⟩ := List.length_eq_one_iff.1 (show x.kids.length = 1 by omega)
      have hi : x.kids[0]? = some k := by rw [hk0]; rfl
      have hv0 := (hkid 0 k hi).2.2
      rw [if_pos (by omega), List.getD_eq_getElem?_getD, hv0, Option.getD_some, h15, hi, Option.bind_some]
      cases hsd : sideF cols zones n k with
      | none => exact S3.le_all _
      | some s =>
        obtain ⟨⟨a1, a2⟩, _⟩ := side_in hf hz hcov (hn k (kid_node hi (self_node k))).1 (hkid 0 k hi).1 hsd
        show S3.Le (ownS (truthV (decide ((valueF cols row k).1.k = 0)))) _
        rw [truth_own]
        refine ⟨fun h => ?_, fun h => ?_, fun h => (by cases h)⟩
        · exact (a2 (by simpa using h)).1
        · exact a1 (by simpa using h)
    rw [if_neg h15]
    by_cases hc : x.op = 9 ∨ x.op = 10 ∨ x.op = 11
    · rw [if_pos hc]
      have hm : manyOf x.op = 2 := by unfold manyOf; rw [if_neg (by omega), if_neg (by omega), if_pos (by omega)]
      have g0 : x.kids[0]? = some (x.kids[0]'(by omega)) := List.getElem?_eq_getElem _
      have g1 : x.kids[1]? = some (x.kids[1]'(by omega)) := List.getElem?_eq_getElem _
      generalize x.kids[0]'(by omega) = k0 at g0
      generalize x.kids[1]'(by omega) = k1 at g1
      have hv0 := (hkid 0 k0 g0).2.2
      have hv1 := (hkid 1 k1 g1).2.2
      rw [if_neg (by omega), List.getD_eq_getElem?_getD, List.getD_eq_getElem?_getD, hv0, hv1, Option.getD_some, Option.getD_some, g0, g1, Option.bind_some, Option.bind_some]
      cases hs0 : sideF cols zones n k0 with
      | none => exact S3.le_all _
      | some s0 =>
        cases hs1 : sideF cols zones n k1 with
        | none => exact S3.le_all _
        | some s1 =>
          obtain ⟨a1, a2⟩ := side_in hf hz hcov (hn k0 (kid_node g0 (self_node k0))).1 (hkid 0 k0 g0).1 hs0
          obtain ⟨b1, b2⟩ := side_in hf hz hcov (hn k1 (kid_node g1 (self_node k1))).1 (hkid 1 k1 g1).1 hs1
          exact cmp_sound hc a1 b1 a2 b2
    · rw [if_neg hc]; exact S3.le_all _
end
end Go.Vc

/- Zones of rows; more rows, more answers. Plain Lean, no program. -/
namespace Go.Vc
open Go Go.RowKit

/-! ### The zone of values -/
def nullsN (l : List Val) : Nat := (l.filter fun u => decide (u.k = 0)).length
def zstep (s : Zn × Bool) (v : Val) : Zn × Bool :=
  if v.k = 0 then (⟨s.1.nulls + 1, s.1.lo, s.1.hi⟩, s.2)
  else (⟨s.1.nulls, if s.2 = true ∨ cmpV v s.1.lo < 0 then v else s.1.lo, if s.2 = true ∨ 0 < cmpV v s.1.hi then v else s.1.hi⟩, false)
def zoneS (l : List Val) : Zn × Bool := l.foldl zstep (⟨0, nullV, nullV⟩, true)
def zoneF (l : List Val) : Zn := (zoneS l).1
theorem zoneS_snoc (l : List Val) (v : Val) : zoneS (l ++ [v]) = zstep (zoneS l) v := by unfold zoneS; rw [List.foldl_append]; rfl
theorem zoneS_take {l : List Val} {j : Nat} {v : Val} (h : l[j]? = some v) : zoneS (l.take (j + 1)) = zstep (zoneS (l.take j)) v := by
  rw [List.take_add_one, h]; exact zoneS_snoc _ _
theorem nullsN_le (l : List Val) : nullsN l ≤ l.length := List.length_filter_le _ _
theorem nullsN_append (a b : List Val) : nullsN (a ++ b) = nullsN a + nullsN b := by unfold nullsN; rw [List.filter_append, List.length_append]
theorem nullsN_all {l : List Val} : nullsN l = l.length ↔ ∀ u ∈ l, u.k = 0 := by
  unfold nullsN
  rw [List.length_filter_eq_length_iff]
  simp
theorem nullsN_pos {l : List Val} {u : Val} (hu : u ∈ l) (hk : u.k = 0) : 0 < nullsN l := by
  unfold nullsN
  exact List.length_pos_of_mem (List.mem_filter.2 ⟨hu, by simpa using hk⟩)

structure ZSpec (l : List Val) (z : Zn) (first : Bool) : Prop where
  nulls : z.nulls = (nullsN l : Int)
  isFirst : first = true ↔ ∀ u ∈ l, u.k = 0
  none : first = true → z.lo = nullV ∧ z.hi = nullV
  some : first = false → (z.lo ∈ l ∧ z.lo.k ≠ 0) ∧ (z.hi ∈ l ∧ z.hi.k ≠ 0) ∧ ∀ u ∈ l, u.k ≠ 0 → cmpV z.lo u ≤ 0 ∧ cmpV u z.hi ≤ 0
theorem zstep_spec {l : List Val} {s : Zn × Bool} (h : ZSpec l s.1 s.2) (v : Val) : ZSpec (l ++ [v]) (zstep s v).1 (zstep s v).2 := by
  obtain ⟨h1, h2, h3, h4⟩ := h
  unfold zstep
  by_cases hv : v.k = 0
  · rw [if_pos hv]
    refine ⟨?_, ?_, h3, fun hf => ?_⟩
    · rw [nullsN_append, h1]
      have : nullsN [v] = 1 := by unfold nullsN; simp [hv]
      rw [this]; simp
    · rw [h2]
      simp only [List.mem_append, List.mem_singleton]
      constructor
      · rintro h u (hu | rfl)
        · exact h u hu
        · exact hv
      · exact fun h u hu => h u (.inl hu)
    · obtain ⟨a, b, c⟩ := h4 hf
      refine ⟨⟨List.mem_append_left _ a.1, a.2⟩, ⟨List.mem_append_left _ b.1, b.2⟩, fun u hu hk => ?_⟩
      rcases List.mem_append.1 hu with hu | hu
      · exact c u hu hk
      · rw [List.mem_singleton] at hu; subst hu; exact absurd hv hk
  · rw [if_neg hv]
    refine ⟨?_, ?_, fun h => (by cases h), fun _ => ?_⟩
    · show s.1.nulls = _
      rw [nullsN_append, h1]
      have : nullsN [v] = 0 := by unfold nullsN; simp [hv]
      rw [this]; simp
    · constructor
      · intro h; cases h
      · intro h; exact absurd (h v (by simp)) hv
    · cases hs : s.2 with
      | true =>
        have hall := h2.1 hs
        simp only [true_or, if_true]
        refine ⟨⟨by simp, hv⟩, ⟨by simp, hv⟩, fun u hu hk => ?_⟩
        rcases List.mem_append.1 hu with hu | hu
        · exact absurd (hall u hu) hk
        · rw [List.mem_singleton] at hu; subst hu
          exact ⟨Int.le_of_eq (cmpV_self _), Int.le_of_eq (cmpV_self _)⟩
      | false =>
        obtain ⟨a, b, c⟩ := h4 hs
        simp only [Bool.false_eq_true, false_or]
        refine ⟨?_, ?_, fun u hu hk => ⟨?_, ?_⟩⟩
        · split
          · exact ⟨by simp, hv⟩
          · exact ⟨List.mem_append_left _ a.1, a.2⟩
        · split
          · exact ⟨by simp, hv⟩
          · exact ⟨List.mem_append_left _ b.1, b.2⟩
        · have an := cmpV_cmp.anti v s.1.lo
          rcases List.mem_append.1 hu with hu | hu
          · have := (c u hu hk).1
            split
            · rename_i hlt; exact cmpV_tr (Int.le_of_lt hlt) this
            · exact this
          · rw [List.mem_singleton] at hu; subst hu
            split
            · exact Int.le_of_eq (cmpV_self _)
            · omega
        · have an := cmpV_cmp.anti v s.1.hi
          rcases List.mem_append.1 hu with hu | hu
          · have := (c u hu hk).2
            split
            · rename_i hlt; exact cmpV_tr this (by omega)
            · exact this
          · rw [List.mem_singleton] at hu; subst hu
            split
            · exact Int.le_of_eq (cmpV_self _)
            · omega
theorem zoneS_spec (l : List Val) : ZSpec l (zoneS l).1 (zoneS l).2 := by
  have key : ∀ (r l : List Val) (s : Zn × Bool), ZSpec l s.1 s.2 → ZSpec (l ++ r) (r.foldl zstep s).1 (r.foldl zstep s).2 := by
    intro r
    induction r with
    | nil => intro l s h; simpa using h
    | cons v r ih =>
      intro l s h
      have := ih (l ++ [v]) _ (zstep_spec h v)
      simpa using this
  have h0 : ZSpec [] (⟨0, nullV, nullV⟩ : Zn) true := ⟨rfl, by simp, fun _ => ⟨rfl, rfl⟩, fun h => by cases h⟩
  have := key l [] (⟨0, nullV, nullV⟩, true) h0
  simpa [zoneS] using this

/-! ### The zones of rows that fit -/
def colOf (rows : List (List Val)) (i : Nat) : List Val := rows.map fun r => (r[i]?).getD nullV
def zonesOf (cols : List Col) (rows : List (List Val)) : List Zn := (List.range cols.length).map fun i => zoneF (colOf rows i)
def FitRows (cols : List Col) (rows : List (List Val)) : Prop := ∀ r ∈ rows, fitsL cols r = true ∧ FitR r
section
variable {cols : List Col} {rows more : List (List Val)}
theorem zonesOf_get {i : Nat} {c : Col} (hc : cols[i]? = some c) : (zonesOf cols rows)[i]? = some (zoneF (colOf rows i)) := by
  have hi := (List.getElem?_eq_some_iff.1 hc).1
  unfold zonesOf
  rw [List.getElem?_map, List.getElem?_range hi]; rfl
theorem fits_at (h : FitRows cols rows) {i : Nat} {c : Col} (hc : cols[i]? = some c) {r : List Val} (hr : r ∈ rows) : ∃ u, r[i]? = some u ∧ u ∈ colOf rows i ∧ valFits c u = true ∧ fitI u.n := by
  obtain ⟨hf, hfr⟩ := h r hr
  have hl := fitsL_length hf
  have hi := (List.getElem?_eq_some_iff.1 hc).1
  have hu : r[i]? = some (r[i]'(by omega)) := List.getElem?_eq_getElem _
  generalize r[i]'(by omega) = u at hu
  exact ⟨u, hu, List.mem_map.2 ⟨r, hr, by rw [hu]; rfl⟩, fitsL_get hf hc hu, hfr u (List.mem_of_getElem? hu)⟩
theorem colOf_fit (h : FitRows cols rows) {i : Nat} {c : Col} (hc : cols[i]? = some c) {u : Val} (hu : u ∈ colOf rows i) : u.Ok ∧ (u.k = c.kind ∨ (c.null = true ∧ u.k = 0)) ∧ fitI u.n := by
  obtain ⟨r, hr, rfl⟩ := List.mem_map.1 hu
  obtain ⟨u, h1, _, h3, h4⟩ := fits_at h hc hr
  rw [h1]
  unfold valFits at h3
  simp only [Bool.and_eq_true, Bool.or_eq_true, decide_eq_true_eq] at h3
  exact ⟨of_decide_eq_true h3.1, h3.2, h4⟩
/-- A column's kinds are those of values. -/
theorem right_kind (hr : rightC cols = true) {i : Nat} {c : Col} (hc : cols[i]? = some c) : 1 ≤ c.kind ∧ c.kind ≤ 3 := by
  unfold rightC at hr
  rw [Bool.and_eq_true] at hr
  have key : ∀ (l : List Col) (met : List ByteArray), colsOk met l = true → ∀ c ∈ l, 1 ≤ c.kind ∧ c.kind ≤ 3 := by
    intro l
    induction l with
    | nil => intro _ _ c hc; cases hc
    | cons x l ih =>
      intro met h c hc
      unfold colsOk at h
      rw [Bool.and_eq_true] at h
      rcases List.mem_cons.1 hc with rfl | hc
      · have := h.1
        unfold colOk at this
        simp only [Bool.and_eq_true, decide_eq_true_eq] at this
        exact this.2
      · exact ih _ h.2 c hc
  exact key cols [] hr.2 c (List.mem_of_getElem? hc)
/-- A zone that bounds values of a column that fit. -/
structure ZFit (c : Col) (l : List Val) (z : Zn) : Prop where
  nulls : z.nulls = (nullsN l : Int)
  none : (∀ u ∈ l, u.k = 0) → z.lo = nullV ∧ z.hi = nullV
  some : ¬ (∀ u ∈ l, u.k = 0) → (z.lo ∈ l ∧ z.lo.k ≠ 0) ∧ (z.hi ∈ l ∧ z.hi.k ≠ 0) ∧ ∀ u ∈ l, u.k ≠ 0 → cmpV z.lo u ≤ 0 ∧ cmpV u z.hi ≤ 0
theorem zoneF_fit (c : Col) (l : List Val) : ZFit c l (zoneF l) := by
  obtain ⟨h1, h2, h3, h4⟩ := zoneS_spec l
  refine ⟨h1, fun h => h3 (h2.2 h), fun h => h4 ?_⟩
  cases hs : (zoneS l).2 with
  | true => exact absurd (h2.1 hs) h
  | false => rfl
def FitC (c : Col) (l : List Val) : Prop := ∀ u ∈ l, u.Ok ∧ (u.k = c.kind ∨ (c.null = true ∧ u.k = 0)) ∧ fitI u.n
theorem ZFit.ok {c : Col} {l : List Val} {z : Zn} (hck : c.kind ≠ 0) (h : ZFit c l z) (hf : FitC c l) : zoneOk c z (l.length : Int) = true := by
  obtain ⟨h1, h2, h3⟩ := h
  have hle := nullsN_le l
  have hnull : 0 < z.nulls → c.null = true := by
    intro hpos
    obtain ⟨u, hu⟩ := List.exists_mem_of_length_pos (show 0 < (l.filter fun u => decide (u.k = 0)).length by rw [h1] at hpos; unfold nullsN at hpos; omega)
    obtain ⟨hu1, hu2⟩ := List.mem_filter.1 hu
    have hk : u.k = 0 := by simpa using hu2
    rcases (hf u hu1).2.1 with h | h
    · omega
    · exact h.1
  unfold zoneOk
  rw [Bool.and_eq_true, decide_eq_true_eq]
  by_cases hall : ∀ u ∈ l, u.k = 0
  · obtain ⟨e1, e2⟩ := h2 hall
    have := nullsN_all.2 hall
    rw [e1, e2, if_pos (by omega)]
    exact ⟨⟨null_ok, null_ok, by omega, by omega, hnull⟩, by decide⟩
  · obtain ⟨⟨a1, a2⟩, ⟨b1, b2⟩, hb⟩ := h3 hall
    have hne : nullsN l ≠ l.length := fun e => hall (nullsN_all.1 e)
    rw [if_neg (by omega), decide_eq_true_eq]
    refine ⟨⟨(hf _ a1).1, (hf _ b1).1, by omega, by omega, hnull⟩, ?_, ?_, (hb _ b1 b2).1⟩
    · rcases (hf _ a1).2.1 with h | h
      · exact h
      · exact absurd h.2 a2
    · rcases (hf _ b1).2.1 with h | h
      · exact h
      · exact absurd h.2 b2
theorem ZFit.cov {c : Col} {l : List Val} {z : Zn} (h : ZFit c l z) {u : Val} (hu : u ∈ l) : Cov z (l.length : Int) u := by
  obtain ⟨h1, h2, h3⟩ := h
  have hle := nullsN_le l
  refine ⟨fun hk => by have := nullsN_pos hu hk; omega, fun hk => ?_⟩
  have hall : ¬ ∀ u ∈ l, u.k = 0 := fun h => hk (h u hu)
  have hne : nullsN l ≠ l.length := fun e => hall (nullsN_all.1 e)
  exact ⟨by omega, (h3 hall).2.2 u hu hk⟩
end

/-! ### More rows -/
def widerZ (a b : Zn) : Zn :=
  if a.lo.k = 0 then ⟨a.nulls + b.nulls, b.lo, b.hi⟩
  else if b.lo.k ≠ 0 then ⟨a.nulls + b.nulls, (zoneF [a.lo, a.hi, b.lo, b.hi]).lo, (zoneF [a.lo, a.hi, b.lo, b.hi]).hi⟩
  else ⟨a.nulls + b.nulls, a.lo, a.hi⟩
theorem ZFit.null_iff {c : Col} {l : List Val} {z : Zn} (h : ZFit c l z) : z.lo.k = 0 ↔ ∀ u ∈ l, u.k = 0 := by
  constructor
  · intro hk
    refine Decidable.byContradiction fun hall => ?_
    exact (h.some hall).1.2 hk
  · intro hall
    rw [(h.none hall).1]; rfl
theorem wider_fit {c : Col} {A B : List Val} {a b : Zn} (ha : ZFit c A a) (hb : ZFit c B b) : ZFit c (A ++ B) (widerZ a b) := by
  have hn : a.nulls + b.nulls = (nullsN (A ++ B) : Int) := by rw [ha.nulls, hb.nulls, nullsN_append]; omega
  unfold widerZ
  by_cases h1 : a.lo.k = 0
  · have hA := ha.null_iff.1 h1
    rw [if_pos h1]
    refine ⟨hn, fun h => hb.none fun u hu => h u (List.mem_append_right _ hu), fun h => ?_⟩
    have hB : ¬ ∀ u ∈ B, u.k = 0 := fun hB => h fun u hu => (List.mem_append.1 hu).elim (hA u) (hB u)
    obtain ⟨x, y, k⟩ := hb.some hB
    refine ⟨⟨List.mem_append_right _ x.1, x.2⟩, ⟨List.mem_append_right _ y.1, y.2⟩, fun u hu hk => ?_⟩
    rcases List.mem_append.1 hu with hu | hu
    · exact absurd (hA u hu) hk
    · exact k u hu hk
  · have hA : ¬ ∀ u ∈ A, u.k = 0 := fun h => h1 (ha.null_iff.2 h)
    rw [if_neg h1]
    obtain ⟨x, y, k⟩ := ha.some hA
    have hAB : ¬ ∀ u ∈ A ++ B, u.k = 0 := fun h => hA fun u hu => h u (List.mem_append_left _ hu)
    by_cases h2 : b.lo.k ≠ 0
    · rw [if_pos h2]
      have hB : ¬ ∀ u ∈ B, u.k = 0 := fun h => h2 (hb.null_iff.2 h)
      obtain ⟨x2, y2, k2⟩ := hb.some hB
      have hz := zoneF_fit c [a.lo, a.hi, b.lo, b.hi]
      obtain ⟨⟨m1, n1⟩, ⟨m2, n2⟩, k3⟩ := hz.some fun h => h1 (h a.lo (by simp))
      have mem : ∀ u ∈ [a.lo, a.hi, b.lo, b.hi], u ∈ A ++ B := by
        intro u hu
        simp only [List.mem_cons, List.not_mem_nil, or_false] at hu
        rcases hu with rfl | rfl | rfl | rfl
        · exact List.mem_append_left _ x.1
        · exact List.mem_append_left _ y.1
        · exact List.mem_append_right _ x2.1
        · exact List.mem_append_right _ y2.1
      refine ⟨hn, fun h => absurd h hAB, fun _ => ⟨⟨mem _ m1, n1⟩, ⟨mem _ m2, n2⟩, fun u hu hk => ?_⟩⟩
      rcases List.mem_append.1 hu with hu | hu
      · exact ⟨cmpV_tr (k3 a.lo (by simp) x.2).1 (k u hu hk).1, cmpV_tr (k u hu hk).2 (k3 a.hi (by simp) y.2).2⟩
      · exact ⟨cmpV_tr (k3 b.lo (by simp) x2.2).1 (k2 u hu hk).1, cmpV_tr (k2 u hu hk).2 (k3 b.hi (by simp) y2.2).2⟩
    · rw [if_neg h2]
      have hB := hb.null_iff.1 (Decidable.not_not.1 h2)
      refine ⟨hn, fun h => absurd h hAB, fun _ => ⟨⟨List.mem_append_left _ x.1, x.2⟩, ⟨List.mem_append_left _ y.1, y.2⟩, fun u hu hk => ?_⟩⟩
      rcases List.mem_append.1 hu with hu | hu
      · exact k u hu hk
      · exact absurd (hB u hu) hk
def ZLe (z z' : Zn) (n n' : Int) : Prop := z.nulls ≤ z'.nulls ∧ (z.nulls < n → z'.nulls < n' ∧ cmpV z'.lo z.lo ≤ 0 ∧ cmpV z.hi z'.hi ≤ 0)
theorem fit_le {c : Col} {A B : List Val} {z z' : Zn} (h : ZFit c A z) (h' : ZFit c (A ++ B) z') : ZLe z z' (A.length : Int) ((A ++ B).length : Int) := by
  refine ⟨by rw [h.nulls, h'.nulls, nullsN_append]; omega, fun hlt => ?_⟩
  have hA : ¬ ∀ u ∈ A, u.k = 0 := fun hall => by have := nullsN_all.2 hall; have := h.nulls; omega
  have hAB : ¬ ∀ u ∈ A ++ B, u.k = 0 := fun h => hA fun u hu => h u (List.mem_append_left _ hu)
  have hne : nullsN (A ++ B) ≠ (A ++ B).length := fun e => hAB (nullsN_all.1 e)
  have hle := nullsN_le (A ++ B)
  obtain ⟨x, y, _⟩ := h.some hA
  obtain ⟨_, _, k⟩ := h'.some hAB
  exact ⟨by rw [h'.nulls]; omega, (k _ (List.mem_append_left _ x.1) x.2).1, (k _ (List.mem_append_left _ y.1) y.2).2⟩

section
variable {cols : List Col} {zones zones' : List Zn} {n n' : Int}
theorem side_mono (hz : zonesL cols zones n = true) (hz' : zonesL cols zones' n' = true) (hle : ∀ (i : Nat) z z', zones[i]? = some z → zones'[i]? = some z' → ZLe z z' n n') {x : Ex} (ho : NodeOk x) (hk : (kindF cols x).2 = 0) {s : Sd} (hs : sideF cols zones n x = some s) :
    ∃ s', sideF cols zones' n' x = some s' ∧ (s.null = true → s'.null = true) ∧ (s.full = true → s'.full = true ∧ cmpV s'.lo s.lo ≤ 0 ∧ cmpV s.hi s'.hi ≤ 0 ∧ cmpV s.lo s.hi ≤ 0) := by
  unfold sideF at hs ⊢
  split at hs
  · rename_i h2
    cases hs
    rw [if_pos h2]
    exact ⟨_, rfl, id, fun h => ⟨h, Int.le_of_eq (cmpV_self _), Int.le_of_eq (cmpV_self _), Int.le_of_eq (cmpV_self _)⟩⟩
  · rename_i h2
    split at hs
    · rename_i h1
      rw [if_neg h2, if_pos h1]
      obtain ⟨c, hc, _⟩ := col_node h1 ho hk
      obtain ⟨z, hzz, hzo⟩ := zone_get hz hc
      obtain ⟨z', hzz', hzo'⟩ := zone_get hz' hc
      rw [hzz] at hs
      cases hs
      rw [hzz']
      obtain ⟨l1, l2⟩ := hle _ z z' hzz hzz'
      refine ⟨_, rfl, fun h => ?_, fun h => ?_⟩
      · have : 0 < z.nulls := by simpa using h
        exact decide_eq_true (by omega)
      · have hf : z.nulls < n := by simpa using h
        obtain ⟨q1, q2, q3⟩ := l2 hf
        exact ⟨decide_eq_true q1, q2, q3, (zoneOk_full hzo hf).2.2.2.2⟩
    · cases hs
theorem cmp_mono {op : Int} {a b a' b' : Sd} (na : a.null = true → a'.null = true) (nb : b.null = true → b'.null = true)
    (fa : a.full = true → a'.full = true ∧ cmpV a'.lo a.lo ≤ 0 ∧ cmpV a.hi a'.hi ≤ 0 ∧ cmpV a.lo a.hi ≤ 0) (fb : b.full = true → b'.full = true ∧ cmpV b'.lo b.lo ≤ 0 ∧ cmpV b.hi b'.hi ≤ 0 ∧ cmpV b.lo b.hi ≤ 0) : S3.Le (cmpS3 op a b) (cmpS3 op a' b') := by
  have hn : (a.null || b.null) = true → (a'.null || b'.null) = true := by
    intro h
    rw [Bool.or_eq_true] at h ⊢
    exact h.imp na nb
  have hnull : ∀ (o : Int) (x y : Sd), (cmpS3 o x y).null = (x.null || y.null) := by
    intro o x y; unfold cmpS3; split
    · rfl
    · split
      · rfl
      · split <;> rfl
  by_cases hf : (!a.full || !b.full) = true
  · have e : cmpS3 op a b = ⟨false, false, a.null || b.null⟩ := by unfold cmpS3; rw [if_pos hf]
    rw [e]
    exact ⟨fun h => (by cases h), fun h => (by cases h), fun h => by rw [hnull]; exact hn h⟩
  · have hfa : a.full = true := by revert hf; cases a.full <;> simp
    have hfb : b.full = true := by revert hf; cases b.full <;> simp
    obtain ⟨a1, a2, a3, a4⟩ := fa hfa
    obtain ⟨b1, b2, b3, b4⟩ := fb hfb
    have hf' : ¬ (!a'.full || !b'.full) = true := by rw [a1, b1]; decide
    have an1 := cmpV_cmp.anti a.hi b.lo
    have an2 := cmpV_cmp.anti a'.hi b'.lo
    have an3 := cmpV_cmp.anti a'.lo b'.hi
    have an4 := cmpV_cmp.anti a.lo b.hi
    refine ⟨fun h => ?_, fun h => ?_, fun h => by rw [hnull] at h ⊢; exact hn h⟩
    · unfold cmpS3 at h ⊢
      rw [if_neg hf] at h
      rw [if_neg hf']
      split at h
      · rename_i h9
        rw [if_pos h9]
        simp only [decide_eq_true_eq] at h ⊢
        refine Decidable.byContradiction fun hc => ?_
        have e1 := cmpV_zero.1 (show cmpV a'.lo b'.hi = 0 by omega)
        have e2 := cmpV_zero.1 (show cmpV a'.hi b'.lo = 0 by omega)
        have k1 : cmpV a.hi b.lo ≤ 0 := cmpV_tr a3 (by rw [e2]; exact b2)
        have k2 : cmpV b.hi a.lo ≤ 0 := cmpV_tr b3 (by rw [← e1]; exact a2)
        have k3 : cmpV a.lo b.hi ≤ 0 := cmpV_tr a4 (cmpV_tr k1 b4)
        have k4 : cmpV b.lo a.hi ≤ 0 := cmpV_tr b4 (cmpV_tr k2 a4)
        omega
      · rename_i h9
        rw [if_neg h9]
        split at h
        · rename_i h10
          rw [if_pos h10]
          simp only [decide_eq_true_eq] at h ⊢
          have := cmpV_tr b2 (cmpV_tr (show cmpV b.lo a.hi ≤ 0 by omega) a3)
          omega
        · rename_i h10
          rw [if_neg h10]
          simp only [decide_eq_true_eq] at h ⊢
          have := cmpV_lt_tr b2 (cmpV_tr_lt (show cmpV b.lo a.hi < 0 by omega) a3)
          omega
    · unfold cmpS3 at h ⊢
      rw [if_neg hf] at h
      rw [if_neg hf']
      split at h
      · rename_i h9
        rw [if_pos h9]
        simp only [decide_eq_true_eq] at h ⊢
        have k1 := cmpV_tr a2 (cmpV_tr h.1 b3)
        have k2 := cmpV_tr b2 (cmpV_tr (show cmpV b.lo a.hi ≤ 0 by omega) a3)
        exact ⟨k1, by omega⟩
      · rename_i h9
        rw [if_neg h9]
        split at h
        · rename_i h10
          rw [if_pos h10]
          simp only [decide_eq_true_eq] at h ⊢
          exact cmpV_lt_tr a2 (cmpV_tr_lt h b3)
        · rename_i h10
          rw [if_neg h10]
          simp only [decide_eq_true_eq] at h ⊢
          exact cmpV_tr a2 (cmpV_tr h b3)
theorem ans_mono (hz : zonesL cols zones n = true) (hz' : zonesL cols zones' n' = true) (hle : ∀ (i : Nat) z z', zones[i]? = some z → zones'[i]? = some z' → ZLe z z' n n') : ∀ (N : Nat) (x : Ex), depthT x ≤ N → (∀ y ∈ nodesT x, NodeOk y) → (kindF cols x).2 = 0 →
    ((kindF cols x).1 = 2 ∨ (kindF cols x).1 = 0) → S3.Le (ansF cols zones n x) (ansF cols zones' n' x) := by
  intro N
  induction N with
  | zero => intro x hd; cases x; unfold depthT at hd; omega
  | succ N ih =>
    intro x hd hn hk hkk
    obtain ⟨hk1, hk2⟩ := kids_kinds hk
    have ho := hn x (self_node x)
    have hsub : ∀ (i : Nat) k, x.kids[i]? = some k → x.op = 12 ∨ x.op = 13 ∨ x.op = 14 → S3.Le (ansF cols zones n k) (ansF cols zones' n' k) := by
      intro i k hi hop
      exact ih k (by have := kid_depth hi; omega) (fun y hy => hn y (kid_node hi hy)) (runL_get hk1 hi).1 (kid_kind hop hk hi)
    have hget : ∀ (i : Nat), x.op = 12 ∨ x.op = 13 ∨ x.op = 14 → S3.Le ((x.kids.map (ansF cols zones n)).getD i .all) ((x.kids.map (ansF cols zones' n')).getD i .all) := by
      intro i hop
      rw [List.getD_eq_getElem?_getD, List.getD_eq_getElem?_getD, List.getElem?_map, List.getElem?_map]
      cases hi : x.kids[i]? with
      | none => exact S3.le_rfl _
      | some k => exact hsub i k hi hop
    rw [ansF_eq, ansF_eq]
    unfold nodeS
    by_cases h2 : x.op = 2
    · rw [if_pos h2, if_pos h2]; exact S3.le_rfl _
    rw [if_neg h2, if_neg h2]
    by_cases h1 : x.op = 1
    · rw [if_pos h1, if_pos h1]
      obtain ⟨c, hc, hkc⟩ := col_node h1 ho hk
      obtain ⟨z, hzz, hzo⟩ := zone_get hz hc
      obtain ⟨z', hzz', hzo'⟩ := zone_get hz' hc
      rw [hzz, hzz']
      obtain ⟨l1, l2⟩ := hle _ z z' hzz hzz'
      have hck : c.kind = 2 ∨ c.kind = 0 := by rw [hkc] at hkk; exact hkk
      have key : z.nulls < n → z'.nulls < n' ∧ (z.lo.n = 0 → z'.lo.n = 0) ∧ (z.hi.n = 1 → z'.hi.n = 1) := by
        intro hf
        obtain ⟨q1, q2, q3⟩ := l2 hf
        obtain ⟨a1, a2, a3, a4, _⟩ := zoneOk_full hzo hf
        obtain ⟨b1, b2, b3, b4, _⟩ := zoneOk_full hzo' q1
        unfold Val.Ok at a1 a2 b1 b2
        rw [cmpV_def] at q2 q3
        have hk0 : cmpI z'.lo.k z.lo.k = 0 := cmpI_zero.2 (by omega)
        have hk1 : cmpI z.hi.k z'.hi.k = 0 := cmpI_zero.2 (by omega)
        rw [if_neg (by simp [hk0])] at q2
        rw [if_neg (by simp [hk1])] at q3
        refine ⟨q1, fun h => ?_, fun h => ?_⟩
        · have := cmpI_spec z'.lo.n z.lo.n
          split at q2 <;> omega
        · have := cmpI_spec z.hi.n z'.hi.n
          split at q3 <;> omega
      unfold colS
      refine ⟨fun h => ?_, fun h => ?_, fun h => ?_⟩
      · simp only [decide_eq_true_eq] at h ⊢
        obtain ⟨k1, k2, k3⟩ := key h.1
        exact ⟨k1, k2 h.2⟩
      · simp only [decide_eq_true_eq] at h ⊢
        obtain ⟨k1, k2, k3⟩ := key h.1
        exact ⟨k1, k3 h.2⟩
      · simp only [decide_eq_true_eq] at h ⊢
        omega
    rw [if_neg h1, if_neg h1]
    by_cases h14 : x.op = 14
    · rw [if_pos h14, if_pos h14]; exact S3.le_not (hget 0 (by omega))
    rw [if_neg h14, if_neg h14]
    by_cases h12 : x.op = 12
    · rw [if_pos h12, if_pos h12]; exact S3.le_and (hget 0 (by omega)) (hget 1 (by omega))
    rw [if_neg h12, if_neg h12]
    by_cases h13 : x.op = 13
    · rw [if_pos h13, if_pos h13]; exact S3.le_or (hget 0 (by omega)) (hget 1 (by omega))
    rw [if_neg h13, if_neg h13]
    have hside : ∀ (i : Nat) s, (x.kids[i]?).bind (sideF cols zones n) = some s → ∃ s', (x.kids[i]?).bind (sideF cols zones' n') = some s' ∧ (s.null = true → s'.null = true) ∧ (s.full = true → s'.full = true ∧ cmpV s'.lo s.lo ≤ 0 ∧ cmpV s.hi s'.hi ≤ 0 ∧ cmpV s.lo s.hi ≤ 0) := by
      intro i s hs
      cases hi : x.kids[i]? with
      | none => rw [hi] at hs; cases hs
      | some k =>
        rw [hi, Option.bind_some] at hs
        rw [Option.bind_some]
        exact side_mono hz hz' hle (hn k (kid_node hi (self_node k))) (runL_get hk1 hi).1 hs
    by_cases h15 : x.op = 15
    · rw [if_pos h15, if_pos h15]
      cases hs : (x.kids[0]?).bind (sideF cols zones n) with
      | none =>
        have : (x.kids[0]?).bind (sideF cols zones' n') = none := by
          cases hi : x.kids[0]? with
          | none => rfl
          | some k =>
            rw [hi, Option.bind_some] at hs
            rw [Option.bind_some]
            unfold sideF at hs ⊢
            split at hs
            · cases hs
            · rename_i q2
              split at hs
              · rename_i q1
                obtain ⟨c, hc, _⟩ := col_node q1 (hn k (kid_node hi (self_node k))) (runL_get hk1 hi).1
                obtain ⟨z, hzz, _⟩ := zone_get hz hc
                rw [hzz] at hs; cases hs
              · rename_i q1; rw [if_neg q2, if_neg q1]
        rw [this]; exact S3.le_rfl _
      | some s =>
        obtain ⟨s', hs', m1, m2⟩ := hside 0 s hs
        rw [hs']
        exact ⟨fun h => (m2 h).1, m1, fun h => (by cases h)⟩
    rw [if_neg h15, if_neg h15]
    by_cases hc : x.op = 9 ∨ x.op = 10 ∨ x.op = 11
    · rw [if_pos hc, if_pos hc]
      have hnone : ∀ i : Nat, (x.kids[i]?).bind (sideF cols zones n) = none → (x.kids[i]?).bind (sideF cols zones' n') = none := by
        intro i hs
        cases hi : x.kids[i]? with
        | none => rfl
        | some k =>
          rw [hi, Option.bind_some] at hs
          rw [Option.bind_some]
          unfold sideF at hs ⊢
          split at hs
          · cases hs
          · rename_i q2
            split at hs
            · rename_i q1
              obtain ⟨c, hc, _⟩ := col_node q1 (hn k (kid_node hi (self_node k))) (runL_get hk1 hi).1
              obtain ⟨z, hzz, _⟩ := zone_get hz hc
              rw [hzz] at hs; cases hs
            · rename_i q1; rw [if_neg q2, if_neg q1]
      cases hs0 : (x.kids[0]?).bind (sideF cols zones n) with
      | none => rw [hnone 0 hs0]; exact S3.le_rfl _
      | some s0 =>
        obtain ⟨t0, ht0, m1, m2⟩ := hside 0 s0 hs0
        rw [ht0]
        cases hs1 : (x.kids[1]?).bind (sideF cols zones n) with
        | none => rw [hnone 1 hs1]; exact S3.le_rfl _
        | some s1 =>
          obtain ⟨t1, ht1, m3, m4⟩ := hside 1 s1 hs1
          rw [ht1]
          exact cmp_mono m1 m3 m2 m4
    · rw [if_neg hc, if_neg hc]; exact S3.le_rfl _
end
end Go.Vc

/- The frame, its blocks in any order; blocks for deferred calls that are not known one by one. -/
namespace Go.Vc
open Go Go.RowKit

section
variable {w0 W W' : World} {fs fs' gs : List (Nat × Obj)} {B d : Nat} {ds : List Nat} {ms : List Row}

theorem Hold.mem (h : Hold w0 W fs ms) {x : Nat × Obj} (hx : x ∈ fs) : W.heap[x.1]? = some x.2 := by
  obtain ⟨i, hi⟩ := List.mem_iff_getElem?.1 hx
  exact h.holds i x hi
theorem Hold.ltM (h : Hold w0 W fs ms) {x : Nat × Obj} (hx : x ∈ fs) : x.1 < W.heap.size := (Array.getElem?_eq_some_iff.1 (h.mem hx)).1
theorem Hold.blkM {b : Nat} {cs : Array Value} {t : TypeId} (h : Hold w0 W fs ms) (hx : (b, Obj.cells cs t (0, 0)) ∈ fs) : Blk W b t cs := h.mem hx
theorem Hold.nodup (h : Hold w0 W fs ms) : (fs.map (·.1)).Nodup := by
  rw [List.Nodup, List.pairwise_iff_getElem]
  intro i j hi hj hij
  simp only [List.getElem_map]
  simp only [List.length_map] at hi hj
  exact h.keys i j _ _ (List.getElem?_eq_getElem hi) (List.getElem?_eq_getElem hj) (by omega)
theorem Hold.make (e : Ext w0 W) (h : ∀ x ∈ fs, w0.heap.size ≤ x.1 ∧ W.heap[x.1]? = some x.2) (hn : (fs.map (·.1)).Nodup) : Hold w0 W fs [] := by
  refine ⟨e, fun x hx => (h x hx).1, fun i x hx => (h x (List.mem_of_getElem? hx)).2, fun i j x y hx hy hij => ?_, by simp, by simp, by simp⟩
  rw [List.Nodup, List.pairwise_iff_getElem] at hn
  obtain ⟨hi, rfl⟩ := List.getElem?_eq_some_iff.1 hx
  obtain ⟨hj, rfl⟩ := List.getElem?_eq_some_iff.1 hy
  rcases Nat.lt_or_ge i j with hlt | hge
  · have := hn i j (by simpa) (by simpa) hlt
    rwa [List.getElem_map, List.getElem_map] at this
  · have := hn j i (by simpa) (by simpa) (by omega)
    rw [List.getElem_map, List.getElem_map] at this
    exact this.symm
theorem Hold.perm (h : Hold w0 W fs []) (hp : fs.Perm fs') : Hold w0 W fs' [] :=
  Hold.make h.ext (fun x hx => ⟨h.ge x (hp.mem_iff.2 hx), h.mem (hp.mem_iff.2 hx)⟩) ((hp.map _).nodup_iff.1 h.nodup)
theorem Hold.sub (h : Hold w0 W fs []) (hp : fs'.Sublist fs) : Hold w0 W fs' [] :=
  Hold.make h.ext (fun x hx => ⟨h.ge x (hp.subset hx), h.mem (hp.subset hx)⟩) (h.nodup.sublist (hp.map _))
theorem Hold.swap {a b c : List (Nat × Obj)} (h : Hold w0 W ((a ++ b) ++ c) []) : Hold w0 W (b ++ (a ++ c)) [] := by
  rw [← List.append_assoc]
  exact h.perm (List.perm_append_comm.append_right c)
theorem Hold.left {a b : List (Nat × Obj)} (h : Hold w0 W (a ++ b) []) : Hold w0 W a [] := h.sub (List.sublist_append_left _ _)
theorem Hold.right {a b : List (Nat × Obj)} (h : Hold w0 W (a ++ b) []) : Hold w0 W b [] := h.sub (List.sublist_append_right _ _)
theorem Hold.but {b : Nat} (h : Hold w0 W fs []) (e : But b W W') (hb : w0.heap.size ≤ b) (hf : ∀ x ∈ fs, x.1 ≠ b) : Hold w0 W' fs [] :=
  Hold.make (h.ext.below.but e hb h.size) (fun x hx => ⟨h.ge x hx, (e.block _ (h.ltM hx) (hf x hx)).trans (h.mem hx)⟩) h.nodup

/-- Open blocks as held ones. -/
def dfs (ds : List Nat) : List (Nat × Obj) := ds.map fun d => (d, .deferred (some []))
theorem dfs_cons (d : Nat) (ds : List Nat) : dfs (d :: ds) = (d, .deferred (some [])) :: dfs ds := rfl
theorem Hold.addOpen (h : Hold w0 W fs []) (ho : Go.Vc.Open B ds W) (hB : w0.heap.size ≤ B) (hf : ∀ x ∈ fs, x.1 < B ∨ x.2 ≠ .deferred (some [])) : Hold w0 W (dfs ds ++ fs) [] := by
  refine Hold.make h.ext (fun x hx => ?_) ?_
  · rcases List.mem_append.1 hx with hx | hx
    · obtain ⟨d, hd, rfl⟩ := List.mem_map.1 hx
      obtain ⟨h1, h2⟩ := ho.2 d hd
      exact ⟨Nat.le_trans hB h1, h2⟩
    · exact ⟨h.ge x hx, h.mem hx⟩
  · rw [List.map_append, List.nodup_append]
    refine ⟨?_, h.nodup, ?_⟩
    · have : (dfs ds).map (·.1) = ds := by unfold dfs; rw [List.map_map]; exact List.map_id _
      rw [this]; exact ho.1
    · intro a ha b hb
      obtain ⟨x, hx, rfl⟩ := List.mem_map.1 ha
      obtain ⟨d, hd, rfl⟩ := List.mem_map.1 hx
      obtain ⟨y, hy, rfl⟩ := List.mem_map.1 hb
      intro e
      simp only at e
      obtain ⟨h1, h2⟩ := ho.2 d hd
      rcases hf y hy with hlt | hne
      · omega
      · have := h.mem hy
        rw [← e, h2] at this
        exact hne (Option.some.inj this).symm
theorem Hold.opened (h : Hold w0 W (dfs ds ++ fs) []) (hB : ∀ d ∈ ds, B ≤ d) : Go.Vc.Open B ds W := by
  constructor
  · have := h.left.nodup
    have e : (dfs ds).map (·.1) = ds := by unfold dfs; rw [List.map_map]; exact List.map_id _
    rwa [e] at this
  · intro d hd
    exact ⟨hB d hd, h.mem (x := (d, .deferred (some []))) (List.mem_append_left _ (List.mem_map.2 ⟨d, hd, rfl⟩))⟩
/-- The open blocks are taken: what is held below them is as it was. -/
theorem unD_hold {F : World → Prop} (hB : w0.heap.size ≤ B) (hf : ∀ x ∈ fs, x.1 < B) (hF : ∀ W', Hold w0 W' fs [] → F W') : ∀ (ds : List Nat) (W : World), Go.Vc.Open B ds W → Hold w0 W fs [] → unD ds W F := by
  intro ds
  induction ds with
  | nil => intro W _ h; exact hF W h
  | cons d r ih =>
    intro W ho h
    obtain ⟨h1, h2⟩ := ho.2 d (by simp)
    have hn := List.nodup_cons.1 ho.1
    refine ⟨h2, ih _ ⟨hn.2, fun x hx => ?_⟩ (h.but shut_but.1 (by omega) fun x hx e => ?_)⟩
    · obtain ⟨k1, k2⟩ := ho.2 x (by simp [hx])
      refine ⟨k1, (shut_but.1.block x (Array.getElem?_eq_some_iff.1 k2).1 fun e => ?_).trans k2⟩
      subst e; exact hn.1 hx
    · have := hf x hx; omega
end

theorem Blk.c6 {w : World} {b : Nat} {t : TypeId} {x y z u v q : Value} (h : Blk w b t #[x, y, z, u, v, q]) : w.cell? ⟨b, 0, none⟩ = some x ∧ w.cell? ⟨b, 1, none⟩ = some y ∧ w.cell? ⟨b, 2, none⟩ = some z ∧
    w.cell? ⟨b, 3, none⟩ = some u ∧ w.cell? ⟨b, 4, none⟩ = some v ∧ w.cell? ⟨b, 5, none⟩ = some q := by
  refine ⟨?_, ?_, ?_, ?_, ?_, ?_⟩ <;> (rw [h.cell]; rfl)
/-- A block of six cells can be written. -/
theorem Blk.w6 {w : World} {b : Nat} {t : TypeId} {x y z u v q : Value} (h : Blk w b t #[x, y, z, u, v, q]) {X : Prop} (hX : X) : (∃ u, w.cell? ⟨b, 0, none⟩ = some u) ∧ w.frozen? ⟨b, 0, none⟩ = false ∧ (∃ u, w.cell? ⟨b, 1, none⟩ = some u) ∧ w.frozen? ⟨b, 1, none⟩ = false ∧
    (∃ u, w.cell? ⟨b, 2, none⟩ = some u) ∧ w.frozen? ⟨b, 2, none⟩ = false ∧ (∃ u, w.cell? ⟨b, 3, none⟩ = some u) ∧ w.frozen? ⟨b, 3, none⟩ = false ∧ (∃ u, w.cell? ⟨b, 4, none⟩ = some u) ∧ w.frozen? ⟨b, 4, none⟩ = false ∧
    (∃ u, w.cell? ⟨b, 5, none⟩ = some u) ∧ w.frozen? ⟨b, 5, none⟩ = false ∧ X := by
  obtain ⟨a0, a1, a2, a3, a4, a5⟩ := h.c6
  exact ⟨⟨_, a0⟩, h.frozen _, ⟨_, a1⟩, h.frozen _, ⟨_, a2⟩, h.frozen _, ⟨_, a3⟩, h.frozen _, ⟨_, a4⟩, h.frozen _, ⟨_, a5⟩, h.frozen _, hX⟩
end Go.Vc
namespace Go.Vc
open Go Go.RowKit
/-- A value of three cells is written into a variable and read out of it. -/
theorem Hold.ret3 {w0 W : World} {fs : List (Nat × Obj)} {ms : List Row} {b : Nat} {t : TypeId} {x y z : Value} {X : Int → Int → ByteArray → World → Prop} (H : Hold w0 W fs ms) (i : Nat) (hi : fs[i]? = some (b, .cells #[x, y, z] t (0, 0))) (k n : Int) (s : ByteArray)
    (hX : ∀ W', Ext w0 W' → X k n s W') : (∃ u, W.cell? ⟨b, 0, none⟩ = some u) ∧ W.frozen? ⟨b, 0, none⟩ = false ∧ (∃ u, W.cell? ⟨b, 1, none⟩ = some u) ∧ W.frozen? ⟨b, 1, none⟩ = false ∧ (∃ u, W.cell? ⟨b, 2, none⟩ = some u) ∧ W.frozen? ⟨b, 2, none⟩ = false ∧
    ∀ W' : World, Put W b 0 [.int .i64 k, .int .i64 n, .string s] W' → ∃ k' : Int, W'.cell? ⟨b, 0, none⟩ = some (.int .i64 k') ∧ ∃ n' : Int, W'.cell? ⟨b, 1, none⟩ = some (.int .i64 n') ∧ ∃ s' : ByteArray, W'.cell? ⟨b, 2, none⟩ = some (.string s') ∧ X k' n' s' W' := by
  have B := H.blk i hi
  have c0 : W.cell? ⟨b, 0, none⟩ = some x := by rw [B.cell]; rfl
  have c1 : W.cell? ⟨b, 1, none⟩ = some y := by rw [B.cell]; rfl
  have c2 : W.cell? ⟨b, 2, none⟩ = some z := by rw [B.cell]; rfl
  refine ⟨⟨_, c0⟩, B.frozen _, ⟨_, c1⟩, B.frozen _, ⟨_, c2⟩, B.frozen _, fun W' h => ?_⟩
  have H' := H.put i hi h
  have B' : Blk W' b t #[.int .i64 k, .int .i64 n, .string s] := B.put h
  exact ⟨k, by rw [B'.cell]; rfl, n, by rw [B'.cell]; rfl, s, by rw [B'.cell]; rfl, hX W' H'.ext⟩
end Go.Vc

/- Cells out of the frame, one by one: what the printed steps of a walk use. -/
namespace Go.Vc
open Go Go.RowKit

section
variable {w0 W W' : World} {fs : List (Nat × Obj)} {ms : List Row} {b k : Nat} {t : TypeId} {cs : Array Value} {v : Value}
theorem Hold.get (h : Hold w0 W fs ms) (i : Nat) (hi : fs[i]? = some (b, .cells cs t (0, 0))) (hk : cs[k]? = some v) : W.cell? ⟨b, k, none⟩ = some v := by
  rw [(h.blk i hi).cell]; exact hk
theorem Hold.frz (h : Hold w0 W fs ms) (i : Nat) (hi : fs[i]? = some (b, .cells cs t (0, 0))) : W.frozen? ⟨b, k, none⟩ = false := (h.blk i hi).frozen k
end
end Go.Vc

/- The verification conditions of the functions, evaluated: printed by program. -/
namespace Go.Proofs.YtpjafkcmbinjiaaDoor
open Go Go.Vc
set_option maxRecDepth 20000

set_option maxRecDepth 100000 in
def vright_T (v0 : Int) (v1 : Int) (v2 : ByteArray) (w : World) (R : Ending → World → Prop) : Prop :=
  ∀ b1 w'2, New w (Obj.cells #[.int .i64 v0, .int .i64 v1, .string v2] 25) b1 w'2 → ∃ n4, w'2.cell? ⟨b1, 0, none⟩ = some (.int .i64 n4) ∧ ∀ b5 w'6, New w'2 (Obj.cells #[.int .i64 0, .int .i64 0, .string ⟨#[]⟩] 25) b5 w'6 → (∃ u8, w'6.cell? ⟨b5, 0, none⟩ = some u8) ∧ w'6.frozen? ⟨b5, 0, none⟩ = false ∧ (∃ u9, w'6.cell? ⟨b5, 1, none⟩ = some u9) ∧ w'6.frozen? ⟨b5, 1, none⟩ = false ∧ (∃ u10, w'6.cell? ⟨b5, 2, none⟩ = some u10) ∧ w'6.frozen? ⟨b5, 2, none⟩ = false ∧ ∀ w'11, Put w'6 b5 0 [.int .i64 n4, .int .i64 0, .string ⟨#[]⟩] w'11 → ∃ n13, w'11.cell? ⟨b1, 0, none⟩ = some (.int .i64 n13) ∧ (n13 = 0 → ∃ n15, w'11.cell? ⟨b1, 0, none⟩ = some (.int .i64 n15) ∧ (0 ≤ n15 → ∃ n17, w'11.cell? ⟨b1, 0, none⟩ = some (.int .i64 n17) ∧ (n17 < 4 → ∃ n19, w'11.cell? ⟨b1, 0, none⟩ = some (.int .i64 n19) ∧ ∃ n20, w'11.cell? ⟨b1, 1, none⟩ = some (.int .i64 n20) ∧ ∃ s21, w'11.cell? ⟨b1, 2, none⟩ = some (.string s21) ∧ ∃ n22, w'11.cell? ⟨b5, 0, none⟩ = some (.int .i64 n22) ∧ ∃ n23, w'11.cell? ⟨b5, 1, none⟩ = some (.int .i64 n23) ∧ ∃ s24, w'11.cell? ⟨b5, 2, none⟩ = some (.string s24) ∧ (n19 = n22 ∧ n20 = n23 ∧ s21 = s24 → ∃ s26, w'11.cell? ⟨b1, 2, none⟩ = some (.string s26) ∧ R (.returned (.bool (decide ((↑s26.size : Int) ≤ 1024)))) w'11) ∧ (n19 ≠ n22 ∨ n20 ≠ n23 ∨ s21 ≠ s24 → R (.returned (.bool false)) w'11)) ∧ (4 ≤ n17 → R (.returned (.bool false)) w'11)) ∧ (n15 < 0 → R (.returned (.bool false)) w'11)) ∧ (n13 ≠ 0 → (n13 = 1 → ∃ n32, w'11.cell? ⟨b1, 1, none⟩ = some (.int .i64 n32) ∧ (∃ u33, w'11.cell? ⟨b5, 1, none⟩ = some u33) ∧ w'11.frozen? ⟨b5, 1, none⟩ = false ∧ ∀ w'34, Put w'11 b5 1 [.int .i64 n32] w'34 → ∃ n36, w'34.cell? ⟨b1, 0, none⟩ = some (.int .i64 n36) ∧ (0 ≤ n36 → ∃ n38, w'34.cell? ⟨b1, 0, none⟩ = some (.int .i64 n38) ∧ (n38 < 4 → ∃ n40, w'34.cell? ⟨b1, 0, none⟩ = some (.int .i64 n40) ∧ ∃ n41, w'34.cell? ⟨b1, 1, none⟩ = some (.int .i64 n41) ∧ ∃ s42, w'34.cell? ⟨b1, 2, none⟩ = some (.string s42) ∧ ∃ n43, w'34.cell? ⟨b5, 0, none⟩ = some (.int .i64 n43) ∧ ∃ n44, w'34.cell? ⟨b5, 1, none⟩ = some (.int .i64 n44) ∧ ∃ s45, w'34.cell? ⟨b5, 2, none⟩ = some (.string s45) ∧ (n40 = n43 ∧ n41 = n44 ∧ s42 = s45 → ∃ s47, w'34.cell? ⟨b1, 2, none⟩ = some (.string s47) ∧ R (.returned (.bool (decide ((↑s47.size : Int) ≤ 1024)))) w'34) ∧ (n40 ≠ n43 ∨ n41 ≠ n44 ∨ s42 ≠ s45 → R (.returned (.bool false)) w'34)) ∧ (4 ≤ n38 → R (.returned (.bool false)) w'34)) ∧ (n36 < 0 → R (.returned (.bool false)) w'34)) ∧ (n13 ≠ 1 → (n13 = 2 → ∃ n53, w'11.cell? ⟨b1, 1, none⟩ = some (.int .i64 n53) ∧ (∃ u54, w'11.cell? ⟨b5, 1, none⟩ = some u54) ∧ w'11.frozen? ⟨b5, 1, none⟩ = false ∧ ∀ w'55, Put w'11 b5 1 [.int .i64 (bits BinOp.and IntKind.i64 n53 1)] w'55 → ∃ n57, w'55.cell? ⟨b1, 0, none⟩ = some (.int .i64 n57) ∧ (0 ≤ n57 → ∃ n59, w'55.cell? ⟨b1, 0, none⟩ = some (.int .i64 n59) ∧ (n59 < 4 → ∃ n61, w'55.cell? ⟨b1, 0, none⟩ = some (.int .i64 n61) ∧ ∃ n62, w'55.cell? ⟨b1, 1, none⟩ = some (.int .i64 n62) ∧ ∃ s63, w'55.cell? ⟨b1, 2, none⟩ = some (.string s63) ∧ ∃ n64, w'55.cell? ⟨b5, 0, none⟩ = some (.int .i64 n64) ∧ ∃ n65, w'55.cell? ⟨b5, 1, none⟩ = some (.int .i64 n65) ∧ ∃ s66, w'55.cell? ⟨b5, 2, none⟩ = some (.string s66) ∧ (n61 = n64 ∧ n62 = n65 ∧ s63 = s66 → ∃ s68, w'55.cell? ⟨b1, 2, none⟩ = some (.string s68) ∧ R (.returned (.bool (decide ((↑s68.size : Int) ≤ 1024)))) w'55) ∧ (n61 ≠ n64 ∨ n62 ≠ n65 ∨ s63 ≠ s66 → R (.returned (.bool false)) w'55)) ∧ (4 ≤ n59 → R (.returned (.bool false)) w'55)) ∧ (n57 < 0 → R (.returned (.bool false)) w'55)) ∧ (n13 ≠ 2 → (n13 = 3 → ∃ s74, w'11.cell? ⟨b1, 2, none⟩ = some (.string s74) ∧ (∃ u75, w'11.cell? ⟨b5, 2, none⟩ = some u75) ∧ w'11.frozen? ⟨b5, 2, none⟩ = false ∧ ∀ w'76, Put w'11 b5 2 [.string s74] w'76 → ∃ n78, w'76.cell? ⟨b1, 0, none⟩ = some (.int .i64 n78) ∧ (0 ≤ n78 → ∃ n80, w'76.cell? ⟨b1, 0, none⟩ = some (.int .i64 n80) ∧ (n80 < 4 → ∃ n82, w'76.cell? ⟨b1, 0, none⟩ = some (.int .i64 n82) ∧ ∃ n83, w'76.cell? ⟨b1, 1, none⟩ = some (.int .i64 n83) ∧ ∃ s84, w'76.cell? ⟨b1, 2, none⟩ = some (.string s84) ∧ ∃ n85, w'76.cell? ⟨b5, 0, none⟩ = some (.int .i64 n85) ∧ ∃ n86, w'76.cell? ⟨b5, 1, none⟩ = some (.int .i64 n86) ∧ ∃ s87, w'76.cell? ⟨b5, 2, none⟩ = some (.string s87) ∧ (n82 = n85 ∧ n83 = n86 ∧ s84 = s87 → ∃ s89, w'76.cell? ⟨b1, 2, none⟩ = some (.string s89) ∧ R (.returned (.bool (decide ((↑s89.size : Int) ≤ 1024)))) w'76) ∧ (n82 ≠ n85 ∨ n83 ≠ n86 ∨ s84 ≠ s87 → R (.returned (.bool false)) w'76)) ∧ (4 ≤ n80 → R (.returned (.bool false)) w'76)) ∧ (n78 < 0 → R (.returned (.bool false)) w'76)) ∧ (n13 ≠ 3 → ∃ n94, w'11.cell? ⟨b1, 0, none⟩ = some (.int .i64 n94) ∧ (0 ≤ n94 → ∃ n96, w'11.cell? ⟨b1, 0, none⟩ = some (.int .i64 n96) ∧ (n96 < 4 → ∃ n98, w'11.cell? ⟨b1, 0, none⟩ = some (.int .i64 n98) ∧ ∃ n99, w'11.cell? ⟨b1, 1, none⟩ = some (.int .i64 n99) ∧ ∃ s100, w'11.cell? ⟨b1, 2, none⟩ = some (.string s100) ∧ ∃ n101, w'11.cell? ⟨b5, 0, none⟩ = some (.int .i64 n101) ∧ ∃ n102, w'11.cell? ⟨b5, 1, none⟩ = some (.int .i64 n102) ∧ ∃ s103, w'11.cell? ⟨b5, 2, none⟩ = some (.string s103) ∧ (n98 = n101 ∧ n99 = n102 ∧ s100 = s103 → ∃ s105, w'11.cell? ⟨b1, 2, none⟩ = some (.string s105) ∧ R (.returned (.bool (decide ((↑s105.size : Int) ≤ 1024)))) w'11) ∧ (n98 ≠ n101 ∨ n99 ≠ n102 ∨ s100 ≠ s103 → R (.returned (.bool false)) w'11)) ∧ (4 ≤ n96 → R (.returned (.bool false)) w'11)) ∧ (n94 < 0 → R (.returned (.bool false)) w'11)))))

set_option maxRecDepth 100000 in
theorem vright_eq (v0 : Int) (v1 : Int) (v2 : ByteArray) (w : World) (R : Ending → World → Prop) : vright_T v0 v1 v2 w R = vcFn Tryd.prog [] [] Tryd.f38 [.agg #[.int .i64 v0, .int .i64 v1, .string v2]] w R := by kernel_rfl

set_option maxRecDepth 100000 in
theorem vright_vc (v0 : Int) (v1 : Int) (v2 : ByteArray) (w : World) (R : Ending → World → Prop) (h : vright_T v0 v1 v2 w R) : Calls Tryd.prog 38 #[.agg #[.int .i64 v0, .int .i64 v1, .string v2]] w R :=
  calls_of_vc (args := [.agg #[.int .i64 v0, .int .i64 v1, .string v2]]) [] [] Tryd.mixed Tryd.func38 (cast (vright_eq _ _ _ w R) h)

set_option maxRecDepth 100000 in
def vcompare_T (a0 : Int) (a1 : Int) (a2 : ByteArray) (b0 : Int) (b1 : Int) (b2 : ByteArray) (w : World) (R : Ending → World → Prop) : Prop :=
  ∀ b1_1 w'2, New w (Obj.cells #[.int .i64 a0, .int .i64 a1, .string a2] 25) b1_1 w'2 → ∀ b4 w'5, New w'2 (Obj.cells #[.int .i64 b0, .int .i64 b1, .string b2] 25) b4 w'5 → ∀ w'7, Drew w'5 w'7 → ∃ n9, w'7.cell? ⟨b1_1, 0, none⟩ = some (.int .i64 n9) ∧ ∃ n10, w'7.cell? ⟨b4, 0, none⟩ = some (.int .i64 n10) ∧ ∃ n11, w'7.cell? ⟨b1_1, 1, none⟩ = some (.int .i64 n11) ∧ ∃ n12, w'7.cell? ⟨b4, 1, none⟩ = some (.int .i64 n12) ∧ ∃ s13, w'7.cell? ⟨b1_1, 2, none⟩ = some (.string s13) ∧ ∃ s14, w'7.cell? ⟨b4, 2, none⟩ = some (.string s14) ∧ Calls Tryd.prog 62 #[.int .i64 n9, .int .i64 n10] w'7 fun e15 w16 ↦
 ∃ n17, e15 = .returned (.int .i64 n17) ∧ SameTo w'7 w'7 w16 ∧ Calls Tryd.prog 63 #[.int .i64 n11, .int .i64 n12] w16 fun e18 w19 ↦
 ∃ n20, e18 = .returned (.int .i64 n20) ∧ SameTo w'7 w16 w19 ∧ Calls Tryd.prog 64 #[.string s13, .string s14] w19 fun e21 w22 ↦
 ∃ n23, e21 = .returned (.int .i64 n23) ∧ ∀ b24 w'25, New w22 (Obj.cells #[.int .i64 n17, .int .i64 n20, .int .i64 n23] 3) b24 w'25 → Calls Tryd.prog 61 #[.slice (some ⟨b24, 0, none⟩) 3 3] w'25 fun e27 w28 ↦
 ∃ n29, e27 = .returned (.int .i64 n29) ∧ R (.returned (.int .i64 n29)) w28

set_option maxRecDepth 100000 in
theorem vcompare_eq (a0 : Int) (a1 : Int) (a2 : ByteArray) (b0 : Int) (b1 : Int) (b2 : ByteArray) (w : World) (R : Ending → World → Prop) : vcompare_T a0 a1 a2 b0 b1 b2 w R = vcFn Tryd.prog [] [(1, [2, 4, 6, 8, 12, 14, 16, 18, 22, 24, 26, 28, 11, 21, 30, 32, 34, 36, 0])] Tryd.f39 [.agg #[.int .i64 a0, .int .i64 a1, .string a2], .agg #[.int .i64 b0, .int .i64 b1, .string b2]] w R := by kernel_rfl

set_option maxRecDepth 100000 in
theorem vcompare_vc (a0 : Int) (a1 : Int) (a2 : ByteArray) (b0 : Int) (b1 : Int) (b2 : ByteArray) (w : World) (R : Ending → World → Prop) (h : vcompare_T a0 a1 a2 b0 b1 b2 w R) : Calls Tryd.prog 39 #[.agg #[.int .i64 a0, .int .i64 a1, .string a2], .agg #[.int .i64 b0, .int .i64 b1, .string b2]] w R :=
  calls_of_vc (args := [.agg #[.int .i64 a0, .int .i64 a1, .string a2], .agg #[.int .i64 b0, .int .i64 b1, .string b2]]) [] [(1, [2, 4, 6, 8, 12, 14, 16, 18, 22, 24, 26, 28, 11, 21, 30, 32, 34, 36, 0])] Tryd.mixed Tryd.func39 (cast (vcompare_eq _ _ _ _ _ _ w R) h)

set_option maxRecDepth 100000 in
def rvright_T (v0 : Int) (v1 : Int) (v2 : ByteArray) (w : World) (R : Ending → World → Prop) : Prop :=
  ∀ b1 w'2, New w (Obj.cells #[.int .i64 v0, .int .i64 v1, .string v2] 25) b1 w'2 → ∃ n4, w'2.cell? ⟨b1, 0, none⟩ = some (.int .i64 n4) ∧ (n4 = 0 → ∃ n6, w'2.cell? ⟨b1, 1, none⟩ = some (.int .i64 n6) ∧ (n6 = 0 → ∃ s8, w'2.cell? ⟨b1, 2, none⟩ = some (.string s8) ∧ R (.returned (.bool (sEq s8 ⟨#[]⟩))) w'2) ∧ (n6 ≠ 0 → R (.returned (.bool false)) w'2)) ∧ (n4 ≠ 0 → (n4 = 1 → ∃ s12, w'2.cell? ⟨b1, 2, none⟩ = some (.string s12) ∧ R (.returned (.bool (sEq s12 ⟨#[]⟩))) w'2) ∧ (n4 ≠ 1 → (n4 = 2 → ∃ n15, w'2.cell? ⟨b1, 1, none⟩ = some (.int .i64 n15) ∧ (n15 = 0 → ∃ s17, w'2.cell? ⟨b1, 2, none⟩ = some (.string s17) ∧ R (.returned (.bool (sEq s17 ⟨#[]⟩))) w'2) ∧ (n15 ≠ 0 → ∃ n19, w'2.cell? ⟨b1, 1, none⟩ = some (.int .i64 n19) ∧ (n19 = 1 → ∃ s21, w'2.cell? ⟨b1, 2, none⟩ = some (.string s21) ∧ R (.returned (.bool (sEq s21 ⟨#[]⟩))) w'2) ∧ (n19 ≠ 1 → R (.returned (.bool false)) w'2))) ∧ (n4 ≠ 2 → (n4 = 3 → ∃ n25, w'2.cell? ⟨b1, 1, none⟩ = some (.int .i64 n25) ∧ (n25 = 0 → ∃ s27, w'2.cell? ⟨b1, 2, none⟩ = some (.string s27) ∧ R (.returned (.bool (decide ((↑s27.size : Int) ≤ 1024)))) w'2) ∧ (n25 ≠ 0 → R (.returned (.bool false)) w'2)) ∧ (n4 ≠ 3 → R (.returned (.bool false)) w'2))))

set_option maxRecDepth 100000 in
theorem rvright_eq (v0 : Int) (v1 : Int) (v2 : ByteArray) (w : World) (R : Ending → World → Prop) : rvright_T v0 v1 v2 w R = vcFn Tryd.prog [] [] Tryd.f18 [.agg #[.int .i64 v0, .int .i64 v1, .string v2]] w R := by kernel_rfl

set_option maxRecDepth 100000 in
theorem rvright_vc (v0 : Int) (v1 : Int) (v2 : ByteArray) (w : World) (R : Ending → World → Prop) (h : rvright_T v0 v1 v2 w R) : Calls Tryd.prog 18 #[.agg #[.int .i64 v0, .int .i64 v1, .string v2]] w R :=
  calls_of_vc (args := [.agg #[.int .i64 v0, .int .i64 v1, .string v2]]) [] [] Tryd.mixed Tryd.func18 (cast (rvright_eq _ _ _ w R) h)

set_option maxRecDepth 100000 in
def rvcompare_T (a0 : Int) (a1 : Int) (a2 : ByteArray) (b0 : Int) (b1 : Int) (b2 : ByteArray) (w : World) (R : Ending → World → Prop) : Prop :=
  ∀ b1_1 w'2, New w (Obj.cells #[.int .i64 a0, .int .i64 a1, .string a2] 25) b1_1 w'2 → ∀ b4 w'5, New w'2 (Obj.cells #[.int .i64 b0, .int .i64 b1, .string b2] 25) b4 w'5 → ∃ n7, w'5.cell? ⟨b1_1, 0, none⟩ = some (.int .i64 n7) ∧ ∃ n8, w'5.cell? ⟨b1_1, 1, none⟩ = some (.int .i64 n8) ∧ ∃ s9, w'5.cell? ⟨b1_1, 2, none⟩ = some (.string s9) ∧ ∃ n10, w'5.cell? ⟨b4, 0, none⟩ = some (.int .i64 n10) ∧ ∃ n11, w'5.cell? ⟨b4, 1, none⟩ = some (.int .i64 n11) ∧ ∃ s12, w'5.cell? ⟨b4, 2, none⟩ = some (.string s12) ∧ Calls Tryd.prog 57
 #[.agg #[.int .i64 n7, .int .i64 n8, .string s9], .agg #[.int .i64 n10, .int .i64 n11, .string s12]]
 w'5 fun e13 w14 ↦
 ∃ b15, e13 = .returned (.bool b15) ∧ ∃ n16, w14.cell? ⟨b4, 0, none⟩ = some (.int .i64 n16) ∧ ∃ n17, w14.cell? ⟨b4, 1, none⟩ = some (.int .i64 n17) ∧ ∃ s18, w14.cell? ⟨b4, 2, none⟩ = some (.string s18) ∧ ∃ n19, w14.cell? ⟨b1_1, 0, none⟩ = some (.int .i64 n19) ∧ ∃ n20, w14.cell? ⟨b1_1, 1, none⟩ = some (.int .i64 n20) ∧ ∃ s21, w14.cell? ⟨b1_1, 2, none⟩ = some (.string s21) ∧ Calls Tryd.prog 57
 #[.agg #[.int .i64 n16, .int .i64 n17, .string s18], .agg #[.int .i64 n19, .int .i64 n20, .string s21]]
 w14 fun e22 w23 ↦
 ∃ b24, e22 = .returned (.bool b24) ∧ (b15 = true → R (.returned (.int .i64 (-1))) w23) ∧ (b15 = false → (b24 = true → R (.returned (.int .i64 1)) w23) ∧ (b24 = false → R (.returned (.int .i64 0)) w23))

set_option maxRecDepth 100000 in
theorem rvcompare_eq (a0 : Int) (a1 : Int) (a2 : ByteArray) (b0 : Int) (b1 : Int) (b2 : ByteArray) (w : World) (R : Ending → World → Prop) : rvcompare_T a0 a1 a2 b0 b1 b2 w R = vcFn Tryd.prog [] [] Tryd.f34 [.agg #[.int .i64 a0, .int .i64 a1, .string a2], .agg #[.int .i64 b0, .int .i64 b1, .string b2]] w R := by kernel_rfl

set_option maxRecDepth 100000 in
theorem rvcompare_vc (a0 : Int) (a1 : Int) (a2 : ByteArray) (b0 : Int) (b1 : Int) (b2 : ByteArray) (w : World) (R : Ending → World → Prop) (h : rvcompare_T a0 a1 a2 b0 b1 b2 w R) : Calls Tryd.prog 34 #[.agg #[.int .i64 a0, .int .i64 a1, .string a2], .agg #[.int .i64 b0, .int .i64 b1, .string b2]] w R :=
  calls_of_vc (args := [.agg #[.int .i64 a0, .int .i64 a1, .string a2], .agg #[.int .i64 b0, .int .i64 b1, .string b2]]) [] [] Tryd.mixed Tryd.func34 (cast (rvcompare_eq _ _ _ _ _ _ w R) h)

set_option maxRecDepth 100000 in
def rvless_T (a0 : Int) (a1 : Int) (a2 : ByteArray) (b0 : Int) (b1 : Int) (b2 : ByteArray) (w : World) (R : Ending → World → Prop) : Prop :=
  ∀ b1_1 w'2, New w (Obj.cells #[.int .i64 a0, .int .i64 a1, .string a2] 25) b1_1 w'2 → ∀ b4 w'5, New w'2 (Obj.cells #[.int .i64 b0, .int .i64 b1, .string b2] 25) b4 w'5 → ∃ n7, w'5.cell? ⟨b1_1, 0, none⟩ = some (.int .i64 n7) ∧ ∃ n8, w'5.cell? ⟨b4, 0, none⟩ = some (.int .i64 n8) ∧ (n7 ≠ n8 → ∃ n10, w'5.cell? ⟨b1_1, 0, none⟩ = some (.int .i64 n10) ∧ ∃ n11, w'5.cell? ⟨b4, 0, none⟩ = some (.int .i64 n11) ∧ R (.returned (.bool (decide (n10 < n11)))) w'5) ∧ (n7 = n8 → ∃ n13, w'5.cell? ⟨b1_1, 0, none⟩ = some (.int .i64 n13) ∧ (n13 = 3 → ∃ s15, w'5.cell? ⟨b1_1, 2, none⟩ = some (.string s15) ∧ ∃ s16, w'5.cell? ⟨b4, 2, none⟩ = some (.string s16) ∧ R (.returned (.bool (sLt s15 s16))) w'5) ∧ (n13 ≠ 3 → ∃ n18, w'5.cell? ⟨b1_1, 1, none⟩ = some (.int .i64 n18) ∧ ∃ n19, w'5.cell? ⟨b4, 1, none⟩ = some (.int .i64 n19) ∧ R (.returned (.bool (decide (n18 < n19)))) w'5))

set_option maxRecDepth 100000 in
theorem rvless_eq (a0 : Int) (a1 : Int) (a2 : ByteArray) (b0 : Int) (b1 : Int) (b2 : ByteArray) (w : World) (R : Ending → World → Prop) : rvless_T a0 a1 a2 b0 b1 b2 w R = vcFn Tryd.prog [] [] Tryd.f57 [.agg #[.int .i64 a0, .int .i64 a1, .string a2], .agg #[.int .i64 b0, .int .i64 b1, .string b2]] w R := by kernel_rfl

set_option maxRecDepth 100000 in
theorem rvless_vc (a0 : Int) (a1 : Int) (a2 : ByteArray) (b0 : Int) (b1 : Int) (b2 : ByteArray) (w : World) (R : Ending → World → Prop) (h : rvless_T a0 a1 a2 b0 b1 b2 w R) : Calls Tryd.prog 57 #[.agg #[.int .i64 a0, .int .i64 a1, .string a2], .agg #[.int .i64 b0, .int .i64 b1, .string b2]] w R :=
  calls_of_vc (args := [.agg #[.int .i64 a0, .int .i64 a1, .string a2], .agg #[.int .i64 b0, .int .i64 b1, .string b2]]) [] [] Tryd.mixed Tryd.func57 (cast (rvless_eq _ _ _ _ _ _ w R) h)

set_option maxRecDepth 100000 in
def cmpor_T (vals_p : Option Addr) (vals_n : Nat) (vals_c : Nat) (w : World) (R : Ending → World → Prop) : Prop :=
  ∃ (I1 : Int → World → Prop), ∃ (M2 : Int → World → Nat), I1 0 w ∧ ∀ (n3 : Int) (w'4 : World), I1 n3 w'4 → (n3 < (↑vals_n : Int) → ∃ b7, ∃ o8, vals_p = some ⟨b7, o8, none⟩ ∧ 0 ≤ n3 ∧ n3 < (↑vals_n : Int) ∧ ∃ n9, w'4.cell? ⟨b7, (o8 + n3.toNat), none⟩ = some (.int .i64 n9) ∧ (n9 ≠ 0 → R (.returned (.int .i64 n9)) w'4) ∧ (n9 = 0 → I1 (IntKind.i64.wrap (n3 + 1)) w'4 ∧ M2 (IntKind.i64.wrap (n3 + 1)) w'4 < M2 n3 w'4)) ∧ ((↑vals_n : Int) ≤ n3 → R (.returned (.int .i64 0)) w'4)

set_option maxRecDepth 100000 in
theorem cmpor_eq (vals_p : Option Addr) (vals_n : Nat) (vals_c : Nat) (w : World) (R : Ending → World → Prop) : cmpor_T vals_p vals_n vals_c w R = vcFn Tryd.prog [] [] Tryd.f61 [.slice vals_p vals_n vals_c] w R := by kernel_rfl

set_option maxRecDepth 100000 in
theorem cmpor_vc (vals_p : Option Addr) (vals_n : Nat) (vals_c : Nat) (w : World) (R : Ending → World → Prop) (h : cmpor_T vals_p vals_n vals_c w R) : Calls Tryd.prog 61 #[.slice vals_p vals_n vals_c] w R :=
  calls_of_vc (args := [.slice vals_p vals_n vals_c]) [] [] Tryd.mixed Tryd.func61 (cast (cmpor_eq _ _ _ w R) h)

set_option maxRecDepth 100000 in
def cmpint_T (x : Int) (y : Int) (w : World) (R : Ending → World → Prop) : Prop :=
  Calls Tryd.prog 81 #[.int .i64 x] w fun e1 w2 ↦
 ∃ b3, e1 = .returned (.bool b3) ∧ Calls Tryd.prog 81 #[.int .i64 y] w2 fun e4 w5 ↦
 ∃ b6, e4 = .returned (.bool b6) ∧ (b3 = true → (b6 = true → R (.returned (.int .i64 0)) w5) ∧ (b6 = false → R (.returned (.int .i64 (-1))) w5)) ∧ (b3 = false → (b6 = true → R (.returned (.int .i64 1)) w5) ∧ (b6 = false → (x < y → R (.returned (.int .i64 (-1))) w5) ∧ (y ≤ x → (y < x → R (.returned (.int .i64 1)) w5) ∧ (x ≤ y → R (.returned (.int .i64 0)) w5))))

set_option maxRecDepth 100000 in
theorem cmpint_eq (x : Int) (y : Int) (w : World) (R : Ending → World → Prop) : cmpint_T x y w R = vcFn Tryd.prog [] [] Tryd.f62 [.int .i64 x, .int .i64 y] w R := by kernel_rfl

set_option maxRecDepth 100000 in
theorem cmpint_vc (x : Int) (y : Int) (w : World) (R : Ending → World → Prop) (h : cmpint_T x y w R) : Calls Tryd.prog 62 #[.int .i64 x, .int .i64 y] w R :=
  calls_of_vc (args := [.int .i64 x, .int .i64 y]) [] [] Tryd.mixed Tryd.func62 (cast (cmpint_eq _ _ w R) h)

set_option maxRecDepth 100000 in
def cmpint64_T (x : Int) (y : Int) (w : World) (R : Ending → World → Prop) : Prop :=
  Calls Tryd.prog 82 #[.int .i64 x] w fun e1 w2 ↦
 ∃ b3, e1 = .returned (.bool b3) ∧ Calls Tryd.prog 82 #[.int .i64 y] w2 fun e4 w5 ↦
 ∃ b6, e4 = .returned (.bool b6) ∧ (b3 = true → (b6 = true → R (.returned (.int .i64 0)) w5) ∧ (b6 = false → R (.returned (.int .i64 (-1))) w5)) ∧ (b3 = false → (b6 = true → R (.returned (.int .i64 1)) w5) ∧ (b6 = false → (x < y → R (.returned (.int .i64 (-1))) w5) ∧ (y ≤ x → (y < x → R (.returned (.int .i64 1)) w5) ∧ (x ≤ y → R (.returned (.int .i64 0)) w5))))

set_option maxRecDepth 100000 in
theorem cmpint64_eq (x : Int) (y : Int) (w : World) (R : Ending → World → Prop) : cmpint64_T x y w R = vcFn Tryd.prog [] [] Tryd.f63 [.int .i64 x, .int .i64 y] w R := by kernel_rfl

set_option maxRecDepth 100000 in
theorem cmpint64_vc (x : Int) (y : Int) (w : World) (R : Ending → World → Prop) (h : cmpint64_T x y w R) : Calls Tryd.prog 63 #[.int .i64 x, .int .i64 y] w R :=
  calls_of_vc (args := [.int .i64 x, .int .i64 y]) [] [] Tryd.mixed Tryd.func63 (cast (cmpint64_eq _ _ w R) h)

set_option maxRecDepth 100000 in
def isnani_T (x : Int) (w : World) (R : Ending → World → Prop) : Prop :=
  R (.returned (.bool !decide (x = x))) w

set_option maxRecDepth 100000 in
theorem isnani_eq (x : Int) (w : World) (R : Ending → World → Prop) : isnani_T x w R = vcFn Tryd.prog [] [] Tryd.f81 [.int .i64 x] w R := by kernel_rfl

set_option maxRecDepth 100000 in
theorem isnani_vc (x : Int) (w : World) (R : Ending → World → Prop) (h : isnani_T x w R) : Calls Tryd.prog 81 #[.int .i64 x] w R :=
  calls_of_vc (args := [.int .i64 x]) [] [] Tryd.mixed Tryd.func81 (cast (isnani_eq _ w R) h)

set_option maxRecDepth 100000 in
def isnani64_T (x : Int) (w : World) (R : Ending → World → Prop) : Prop :=
  R (.returned (.bool !decide (x = x))) w

set_option maxRecDepth 100000 in
theorem isnani64_eq (x : Int) (w : World) (R : Ending → World → Prop) : isnani64_T x w R = vcFn Tryd.prog [] [] Tryd.f82 [.int .i64 x] w R := by kernel_rfl

set_option maxRecDepth 100000 in
theorem isnani64_vc (x : Int) (w : World) (R : Ending → World → Prop) (h : isnani64_T x w R) : Calls Tryd.prog 82 #[.int .i64 x] w R :=
  calls_of_vc (args := [.int .i64 x]) [] [] Tryd.mixed Tryd.func82 (cast (isnani64_eq _ w R) h)

set_option maxRecDepth 100000 in
def strcmp_T (a : ByteArray) (b : ByteArray) (w : World) (R : Ending → World → Prop) : Prop :=
  Calls Tryd.prog 83 #[.string a, .string b] w fun e1 w2 ↦
 ∃ n3, e1 = .returned (.int .i64 n3) ∧ R (.returned (.int .i64 n3)) w2

set_option maxRecDepth 100000 in
theorem strcmp_eq (a : ByteArray) (b : ByteArray) (w : World) (R : Ending → World → Prop) : strcmp_T a b w R = vcFn Tryd.prog [] [] Tryd.f64 [.string a, .string b] w R := by kernel_rfl

set_option maxRecDepth 100000 in
theorem strcmp_vc (a : ByteArray) (b : ByteArray) (w : World) (R : Ending → World → Prop) (h : strcmp_T a b w R) : Calls Tryd.prog 64 #[.string a, .string b] w R :=
  calls_of_vc (args := [.string a, .string b]) [] [] Tryd.mixed Tryd.func64 (cast (strcmp_eq _ _ w R) h)

set_option maxRecDepth 100000 in
def strcmp0_T (a : ByteArray) (b : ByteArray) (w : World) (R : Ending → World → Prop) : Prop :=
  ∃ n1, ∃ (w'2 : World), Sem.run Tryd.prog (callFunc 100 #[.string a, .string b]) w = Result.ok (Next.value (.int .i64 n1)) w'2 ∧ R (.returned (.int .i64 n1)) w'2

set_option maxRecDepth 100000 in
theorem strcmp0_eq (a : ByteArray) (b : ByteArray) (w : World) (R : Ending → World → Prop) : strcmp0_T a b w R = vcFn Tryd.prog [] [] Tryd.f83 [.string a, .string b] w R := by kernel_rfl

set_option maxRecDepth 100000 in
theorem strcmp0_vc (a : ByteArray) (b : ByteArray) (w : World) (R : Ending → World → Prop) (h : strcmp0_T a b w R) : Calls Tryd.prog 83 #[.string a, .string b] w R :=
  calls_of_vc (args := [.string a, .string b]) [] [] Tryd.mixed Tryd.func83 (cast (strcmp0_eq _ _ w R) h)


end Go.Proofs.YtpjafkcmbinjiaaDoor
