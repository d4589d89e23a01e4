/- What lies in memory, in the words of the contracts: values in a row, rows of one's own, what an append leaves. -/
import Derived.Test.YtdclhgcgpcddlaaVcF
namespace Go.Vc
open Go Go.RowKit

/-- The values vs lie at p, one behind the other. -/
def At (w : World) (p : Option Addr) (vs : List Value) : Prop :=
  vs = [] ∨ ∃ b o, p = some ⟨b, o, none⟩ ∧ ∀ i v, vs[i]? = some v → w.cell? ⟨b, o + i, none⟩ = some v

/-- Bytes as values. -/
def vB (l : List UInt8) : List Value := l.map fun x => .int .u8 ((x.toNat : Nat) : Int)
/-- Integers of a kind as values. -/
def vI (k : IntKind) (l : List Int) : List Value := l.map fun x => .int k x

theorem vB_length (l : List UInt8) : (vB l).length = l.length := by simp [vB]
theorem vI_length (k : IntKind) (l : List Int) : (vI k l).length = l.length := by simp [vI]
theorem vB_append (a b : List UInt8) : vB (a ++ b) = vB a ++ vB b := by simp [vB]
theorem vI_append (k : IntKind) (a b : List Int) : vI k (a ++ b) = vI k a ++ vI k b := by simp [vI]
theorem vB_one {l : List UInt8} : ∀ u ∈ vB l, u.oneCell' = true := by intro u hu; obtain ⟨x, _, rfl⟩ := List.mem_map.1 hu; rfl
theorem vI_one {k : IntKind} {l : List Int} : ∀ u ∈ vI k l, u.oneCell' = true := by intro u hu; obtain ⟨x, _, rfl⟩ := List.mem_map.1 hu; rfl

theorem cell_lt {w : World} {b o : Nat} {v : Value} (h : w.cell? ⟨b, o, none⟩ = some v) : b < w.heap.size := World.block_lt_of_cell? w _ h
theorem cell_of {w w' : World} {b o : Nat} {v : Value} (h : w.cell? ⟨b, o, none⟩ = some v) (hb : w'.heap[b]? = w.heap[b]?) : w'.cell? ⟨b, o, none⟩ = some v := by
  rw [← h]; simp [World.cell?, hb]

theorem At.nil (w : World) (p : Option Addr) : At w p [] := .inl rfl

theorem At.get {w : World} {p : Option Addr} {vs : List Value} (h : At w p vs) {i : Nat} (hi : i < vs.length) : ∃ b o, p = some ⟨b, o, none⟩ ∧ w.cell? ⟨b, o + i, none⟩ = some vs[i] := by
  rcases h with rfl | ⟨b, o, hp, hc⟩
  · simp at hi
  · exact ⟨b, o, hp, hc i _ (List.getElem?_eq_getElem hi)⟩

/-- A world in which p's block lies as it lay. -/
theorem At.kept {w w' : World} {p : Option Addr} {vs : List Value} (h : At w p vs) (hk : ∀ b o, p = some ⟨b, o, none⟩ → b < w.heap.size → w'.heap[b]? = w.heap[b]?) : At w' p vs := by
  rcases h with rfl | ⟨b, o, rfl, hc⟩
  · exact .inl rfl
  · refine .inr ⟨b, o, rfl, fun i v hv => ?_⟩
    have := hc i v hv
    exact cell_of this (hk b o rfl (cell_lt this))

theorem At.below {w w' : World} {p : Option Addr} {vs : List Value} (h : At w p vs) (hb : Below w.heap.size w w') : At w' p vs := h.kept fun b _ _ hlt => hb.block b hlt
theorem At.alloc {w : World} {p : Option Addr} {vs : List Value} (h : At w p vs) (o : Obj) : At (w.alloc o) p vs := h.below ((Below.refl _ w).alloc (Nat.le_refl _) o)
theorem At.drew {w : World} {p : Option Addr} {vs : List Value} (h : At w p vs) : At w.drew p vs := h.below (Below.refl _ w).drew
theorem At.setCell {w : World} {p : Option Addr} {vs : List Value} (h : At w p vs) {a : Addr} (u : Value) (hne : ∀ b o, p = some ⟨b, o, none⟩ → b ≠ a.block) : At (w.setCell a u) p vs :=
  h.kept fun b o hp _ => Below.heap_setCell w a u b (hne b o hp)

/-- A new block's own cells. -/
theorem At.new (w : World) (cs : Array Value) (t : TypeId) : At (w.alloc (.cells cs t)) (some ⟨w.heap.size, 0, none⟩) cs.toList := by
  refine .inr ⟨_, _, rfl, fun i v hv => ?_⟩
  rw [cell_of_row _ w.heap.size (0 + i) cs t (0, 0) (World.alloc_heap_new w _)]
  simpa using hv

theorem At.take {w : World} {p : Option Addr} {vs : List Value} (h : At w p vs) (n : Nat) : At w p (vs.take n) := by
  rcases h with rfl | ⟨b, o, rfl, hc⟩
  · exact .inl (by simp)
  · refine .inr ⟨b, o, rfl, fun i v hv => hc i v ?_⟩
    rw [List.getElem?_take] at hv
    split at hv
    · exact hv
    · cases hv

/-- s[l:h:m] of cells of size one. -/
theorem At.slice {w : World} {p : Option Addr} {vs : List Value} (h : At w p vs) (l k m : Nat) (hk : k ≤ m) : At w (slBase p l m 1) ((vs.take k).drop l) := by
  unfold slBase
  split
  · rename_i hm
    subst hm
    refine .inl ?_
    rw [List.drop_eq_nil_iff]; simp; omega
  · rcases h with rfl | ⟨b, o, rfl, hc⟩
    · exact .inl (by simp)
    · refine .inr ⟨b, o + l, ?_, fun i v hv => ?_⟩
      · simp only [Option.map, Nat.mul_one, Addr.add_lit]
      · rw [List.getElem?_drop, List.getElem?_take] at hv
        split at hv
        · have := hc _ _ hv; rwa [← Nat.add_assoc] at this
        · cases hv

theorem At.bytes {w : World} {p : Option Addr} {l : List UInt8} (h : At w p (vB l)) : BytesAt w p l.length l := by
  refine ⟨rfl, fun hpos => ?_⟩
  rcases h with h | ⟨b, o, rfl, hc⟩
  · have := congrArg List.length h; simp [vB] at this; subst this; simp at hpos
  · refine ⟨b, o, rfl, fun i hi => hc i _ ?_⟩
    simp [vB, hi]

/-! ### Rows of one's own -/
/-- The slice (p, n, c) leads to a row of our own that holds vs (its length is n), or is nil. -/
def Mine (B : Nat) (t : TypeId) (w : World) (p : Option Addr) (n c : Nat) (vs : List Value) : Prop := w.ownsRow B t 1 (.slice p n c) n vs

theorem Mine.nil (B : Nat) (t : TypeId) (w : World) : Mine B t w none 0 0 [] := World.ownsRow_nil w B t 1
theorem Mine.len {B : Nat} {t : TypeId} {w : World} {p : Option Addr} {n c : Nat} {vs : List Value} (h : Mine B t w p n c vs) : vs.length = n := by have := h.1; omega
theorem Mine.at {B : Nat} {t : TypeId} {w : World} {p : Option Addr} {n c : Nat} {vs : List Value} (h : Mine B t w p n c vs) : At w p vs := by
  rcases h.2 with ⟨e, hn⟩ | ⟨g, cap, cur, e, hb, hg, _⟩
  · cases e; left; have := h.len; cases vs with | nil => rfl | cons _ _ => simp at this
  · cases e
    refine .inr ⟨g, 0, rfl, fun i v hv => ?_⟩
    have := World.ownsRow.cells h (g := g) rfl i v hv
    rwa [Addr.add_lit] at this
theorem Mine.ge {B : Nat} {t : TypeId} {w : World} {p : Option Addr} {n c : Nat} {vs : List Value} (h : Mine B t w p n c vs) : ∀ b o, p = some ⟨b, o, none⟩ → B ≤ b ∧ b < w.heap.size := by
  intro b o hp; subst hp; exact World.ownsRow.lt h b rfl
theorem Mine.kept {B : Nat} {t : TypeId} {w w' : World} {p : Option Addr} {n c : Nat} {vs : List Value} (h : Mine B t w p n c vs) (hk : ∀ b o, p = some ⟨b, o, none⟩ → b < w.heap.size → w'.heap[b]? = w.heap[b]?) : Mine B t w' p n c vs := by
  refine ⟨h.1, ?_⟩
  rcases h.2 with hn | ⟨g, cap, cur, e, hb, hg, rest⟩
  · exact .inl hn
  · cases e
    exact .inr ⟨g, c, cur, rfl, hb, (hk g 0 rfl (Array.getElem?_eq_some_iff.1 hg).1).trans hg, rest⟩
theorem Mine.below {B : Nat} {t : TypeId} {w w' : World} {p : Option Addr} {n c : Nat} {vs : List Value} (h : Mine B t w p n c vs) (hb : Below w.heap.size w w') : Mine B t w' p n c vs := h.kept fun b _ _ hlt => hb.block b hlt
theorem Mine.alloc {B : Nat} {t : TypeId} {w : World} {p : Option Addr} {n c : Nat} {vs : List Value} (h : Mine B t w p n c vs) (o : Obj) : Mine B t (w.alloc o) p n c vs := h.below ((Below.refl _ w).alloc (Nat.le_refl _) o)
theorem Mine.drew {B : Nat} {t : TypeId} {w : World} {p : Option Addr} {n c : Nat} {vs : List Value} (h : Mine B t w p n c vs) : Mine B t w.drew p n c vs := h.below (Below.refl _ w).drew
theorem Mine.mono {B B' : Nat} {t : TypeId} {w : World} {p : Option Addr} {n c : Nat} {vs : List Value} (h : Mine B t w p n c vs) (hB : B' ≤ B) : Mine B' t w p n c vs := by
  refine ⟨h.1, ?_⟩
  rcases h.2 with hn | ⟨g, cap, cur, e, hb, rest⟩
  · exact .inl hn
  · exact .inr ⟨g, cap, cur, e, by omega, rest⟩
theorem Mine.cap {B : Nat} {t : TypeId} {w : World} {p : Option Addr} {n c : Nat} {vs : List Value} (h : Mine B t w p n c vs) : n ≤ c ∧ c ≤ maxLen := by
  rcases h.2 with ⟨e, hn⟩ | ⟨g, cap, cur, e, hb, _, h1, h2, _⟩
  · cases e; simp [hn]
  · cases e; exact ⟨h1, h2⟩
theorem Mine.isNil {B : Nat} {t : TypeId} {w : World} {p : Option Addr} {n c : Nat} {vs : List Value} (h : Mine B t w p n c vs) (hp : p = none) : n = 0 ∧ c = 0 := by
  rcases h.2 with ⟨e, hn⟩ | ⟨g, cap, cur, e, _⟩
  · exact ⟨(Value.slice.inj e).2.1, (Value.slice.inj e).2.2⟩
  · subst hp; have := (Value.slice.inj e).1; cases this
/-- A row just made. -/
theorem Mine.made {B : Nat} (w : World) (cur : Array Value) (t : TypeId) (cap : Nat) (hB : B ≤ w.heap.size) (hm : cap ≤ maxLen) (hs : cur.size = cap) :
    Mine B t (w.alloc (.cells cur t)) (some ⟨w.heap.size, 0, none⟩) 0 cap [] := World.ownsRow_made w cur cap hB hm (by simpa using hs)

/-- A store into a row of our own. -/
theorem Mine.store {B : Nat} {t : TypeId} {w : World} {p : Option Addr} {n c : Nat} {vs : List Value} (h : Mine B t w p n c vs) {i : Nat} (hi : i < n) (v : Value) :
    ∃ b, p = some ⟨b, 0, none⟩ ∧ B ≤ b ∧ b < w.heap.size ∧ (∃ u, w.cell? ⟨b, 0 + i, none⟩ = some u) ∧ w.frozen? ⟨b, 0 + i, none⟩ = false ∧ Mine B t (w.setCell ⟨b, 0 + i, none⟩ v) p n c (vs.set i v) := by
  have hlen := h.len
  rcases h.2 with ⟨e, hn⟩ | ⟨g, cap, cur, e, hb, hg, h1, h2, h3, h4⟩
  · omega
  · have hgs := (Array.getElem?_eq_some_iff.1 hg).1
    have hcur : i < cur.size := by omega
    cases e
    refine ⟨g, rfl, hb, hgs, ⟨cur[i], ?_⟩, ?_, ?_⟩
    · rw [Nat.zero_add, cell_of_row w g i cur t (0, 0) hg]; simp [hcur]
    · simp [World.frozen?, hg]
    · have hs : (w.setCell ⟨g, 0 + i, none⟩ v).heap[g]? = some (.cells (cur.setIfInBounds i v) t (0, 0)) := by
        simp [World.setCell, Array.getElem?_modify, hg]
      refine ⟨by simp; omega, .inr ⟨g, c, _, rfl, hb, hs, h1, h2, by simpa using h3, ?_⟩⟩
      rw [Array.toList_setIfInBounds, List.take_set, h4]

/-! ### append -/
/-- What append leaves: a row of our own with the new values behind the old ones; no other block has turned. -/
theorem append_own {P : Program} {t ty u : TypeId} {z : Ty} {B : Nat} {w : World} {p q : Option Addr} {n c m d : Nat} {xs news : List Value} (ht : P.underlying t = some (.slice u)) (hz : tyOf P u = some z)
    (h1 : z.ls.length = 1) (hown : Mine B u w p n c xs) (hat : At w q news) (hm : news.length = m) (hq : q = none → m = 0 ∧ d = 0) (hone : ∀ x ∈ news, x.oneCell' = true) (hB : B ≤ w.heap.size)
    (hroom : (n + m) * z.bytes ≤ 140737488355328) (hlen : n + m ≤ maxLen) :
    ∃ p' c' w', (Builtin.append_ #[t, t] ty #[.slice p n c, .slice q m d]).run P w = .ok (.slice p' (n + m) c') w' ∧ Mine B u w' p' (n + m) c' (xs ++ news) ∧ w.grownBy w' (Value.slice p n c).ownBlock := by
  obtain ⟨i, d', hi, hzz, hd, hsz, hls, hag, hby⟩ := tyOf_spec hz
  have hsize : i.size = 1 := by rw [hsz]; have := h1; rw [hls, length_leavesOf] at this; simpa using this
  cases q with
  | none =>
    obtain ⟨rfl, rfl⟩ := hq rfl
    have hn : news = [] := by cases news with | nil => rfl | cons _ _ => simp at hm
    subst hn
    refine ⟨p, c, w, ?_, by simpa using hown, ⟨rfl, rfl, rfl, Nat.le_refl _, fun _ _ _ => rfl⟩⟩
    have hcap := hown.cap.1
    cases p with
    | none => simp [Builtin.append_, run_underlying ht, sizeOf, typeInfo, hi, Builtin.lenOf, hcap, Builtin.firstCells]
    | some a => simp [Builtin.append_, run_underlying ht, sizeOf, typeInfo, hi, Builtin.lenOf, hcap, Builtin.firstCells, storeCells]
  | some a =>
    have hnews : ∀ j x, news[j]? = some x → w.cell? (a.add j) = some x := by
      intro j x hx
      rcases hat with rfl | ⟨b, o, hp, hc⟩
      · simp at hx
      · cases hp; rw [Addr.add_lit]; exact hc j x hx
    obtain ⟨v', w', hrun, hown', hg, _⟩ := run_append_own (P := P) w B t ty u i z.zero 1 z.bytes ht hi hzz hsize hby.symm (by rw [← hsz]; exact hsize) (by omega) (.slice p n c) n xs hown a m d news (by omega)
      hnews hone hlen hroom hB
    rcases hown'.2 with ⟨rfl, hn0⟩ | ⟨g, cap, cur, rfl, rest⟩
    · exact ⟨none, 0, w', by rw [hrun, hn0], by rw [hn0] at hown' ⊢; exact hown', hg⟩
    · exact ⟨some ⟨g, 0, none⟩, cap, w', hrun, hown', hg⟩

/-- append(nil, make([]T, n)...): a row of our own that begins empty when it is cut to nothing. -/
theorem append_zeros_nil {P : Program} {t v ty u : TypeId} {k : IntKind} {z : Ty} {B : Nat} {w : World} {n : Nat} (ht : P.underlying t = some (.slice u)) (hv : P.underlying v = some (.int k)) (hz : tyOf P u = some z)
    (h1 : z.ls.length = 1) (hB : B ≤ w.heap.size) (h0 : 0 < n) (hroom : n * z.bytes ≤ 140737488355328) (hlen : n ≤ maxLen) :
    ∃ c w', (Builtin.append_ #[t, v] ty #[.slice none 0 0, .int .i64 (n : Int)]).run P w = .ok (.slice (some ⟨w.heap.size, 0, none⟩) n c) w' ∧ n ≤ c ∧ Mine B u w' (some ⟨w.heap.size, 0, none⟩) 0 c [] ∧ Below B w w' := by
  obtain ⟨i, d', hi, hzz, hd, hsz, hls, hag, hby⟩ := tyOf_spec hz
  have hsize : i.size = 1 := by rw [hsz]; have := h1; rw [hls, length_leavesOf] at this; simpa using this
  rw [hby] at hroom
  have hlen' : n ≤ 9223372036854775807 := hlen
  have hw : IntKind.i64.wrap (n : Int) = n := by rw [IntKind.wrap_i64]; omega
  have n1 : ¬ ((n : Int) < 0) := by omega
  have n2 : ¬ (281474976710656 < (n : Int) * (i.bytes : Int)) := by
    have : ((n * i.bytes : Nat) : Int) ≤ 140737488355328 := Int.ofNat_le.2 hroom
    rw [Int.natCast_mul] at this
    omega
  have n3 : n ≠ 0 := by omega
  have n4 : ¬ (9223372036854775807 < (n : Int)) := by omega
  have n5 : ¬ (281474976710656 < Builtin.nextslicecap n 0 * i.bytes) := by rw [nextslicecap_zero h0]; omega
  refine ⟨grownCap w n 0 u, w.drew.alloc (.cells (Builtin.zeroCells z.zero.cells n ++ Builtin.zeroCells z.zero.cells (grownCap w n 0 u - n)) u), ?_, grownCap_ge w n 0 u, ?_, ?_⟩
  · simp [Builtin.append_, run_underlying ht, run_underlying hv, sizeOf, typeInfo, zeroValue, hi, hzz, hw, n1, n2, n3, n4, n5, Question.forced, run_firstCells_none, newRow, grownCap, asInt, asIntOf, hsize]
  · have := grownCap_ge w n 0 u
    have hm := grownCap_le_maxLen w n 0 u hlen
    exact Mine.made w.drew _ u _ hB hm (by simp only [Array.size_append, size_zeroCells]; rw [← hsz, hsize]; omega)
  · exact (Below.refl B w).drew.alloc hB _

/-- Behind an append onto a row of one's own that is not below B, all below B is as it was. -/
theorem below_append {B : Nat} {a w w' : World} {p : Option Addr} {n c : Nat} (h : Below B a w) (hg : w.grownBy w' (Value.slice p n c).ownBlock) (hB : B ≤ w.heap.size) (hp : ∀ b o, p = some ⟨b, o, none⟩ → B ≤ b)
    (hs : ∀ x, p = some x → x.spot = none) : Below B a w' :=
  h.grown hg hB fun k hk => by
    cases p with
    | none => cases hk
    | some x =>
      obtain ⟨b, o, s⟩ := x
      have := hs _ rfl
      simp only at this
      subst this
      cases hk
      exact hp _ _ rfl

theorem Mine.spot {B : Nat} {t : TypeId} {w : World} {p : Option Addr} {n c : Nat} {vs : List Value} (h : Mine B t w p n c vs) : ∀ x, p = some x → x.spot = none := by
  intro x hx
  rcases h.2 with ⟨e, hn⟩ | ⟨g, cap, cur, e, _⟩
  · cases e; cases hx
  · cases e; cases hx; rfl

/-- Of a row of one's own, behind an append onto another one. -/
theorem At.grown {w w' : World} {p q : Option Addr} {vs : List Value} {n c : Nat} (h : At w p vs) (hg : w.grownBy w' (Value.slice q n c).ownBlock) (hne : ∀ b o b' o', p = some ⟨b, o, none⟩ → q = some ⟨b', o', none⟩ → b ≠ b')
    (hs : ∀ x, q = some x → x.spot = none) : At w' p vs := by
  refine h.kept fun b o hp hlt => hg.block b hlt fun e => ?_
  cases q with
  | none => cases e
  | some x =>
    obtain ⟨b', o', s⟩ := x
    have := hs _ rfl
    simp only at this
    subst this
    simp [Value.ownBlock] at e
    exact hne b o b' o' hp rfl e

/-! ### Freezing -/
theorem cell_freeze (w : World) (a : Addr) (n : Nat) (b : Addr) : (w.freeze a n).cell? b = w.cell? b := by
  unfold World.freeze
  split
  · rfl
  · simp only [World.cell?, Array.getElem?_modify]
    by_cases h : a.block = b.block
    · rw [if_pos h]
      cases w.heap[b.block]? with
      | none => rfl
      | some o => cases o <;> rfl
    · rw [if_neg h]

theorem size_freeze (w : World) (a : Addr) (n : Nat) : (w.freeze a n).heap.size = w.heap.size := by
  unfold World.freeze; split <;> simp

theorem below_freeze {B : Nat} {a w : World} {p : Addr} {n : Nat} (h : Below B a w) (hp : B ≤ p.block) : Below B a (w.freeze p n) := by
  refine h.trans ⟨?_, ?_, ?_, by rw [size_freeze]; exact Nat.le_refl _, fun k hk => ?_⟩
  · unfold World.freeze; split <;> rfl
  · unfold World.freeze; split <;> rfl
  · unfold World.freeze; split <;> rfl
  · unfold World.freeze
    split
    · rfl
    · simp only [Array.getElem?_modify]
      rw [if_neg (by omega)]

theorem At.freeze {w : World} {p : Option Addr} {vs : List Value} (h : At w p vs) (a : Addr) (n : Nat) : At (w.freeze a n) p vs := by
  rcases h with rfl | ⟨b, o, rfl, hc⟩
  · exact .inl rfl
  · exact .inr ⟨b, o, rfl, fun i v hv => by rw [cell_freeze]; exact hc i v hv⟩

/-! ### Arguments -/
theorem wf_u8 {n : Int} (h : (Lit.int .u8 n).wf = true) : 0 ≤ n ∧ n ≤ 255 := by
  simp only [Lit.wf, Bool.and_eq_true, decide_eq_true_eq] at h
  exact h
theorem wf_i64 {n : Int} (h : (Lit.int .i64 n).wf = true) : -9223372036854775808 ≤ n ∧ n ≤ 9223372036854775807 := by
  simp only [Lit.wf, Bool.and_eq_true, decide_eq_true_eq] at h
  exact h
theorem wf_u64 {n : Int} (h : (Lit.int .u64 n).wf = true) : 0 ≤ n ∧ n ≤ 18446744073709551615 := by
  simp only [Lit.wf, Bool.and_eq_true, decide_eq_true_eq] at h
  exact h

theorem ints_bytes : ∀ {zs : List Int}, (∀ n ∈ zs, (Lit.int .u8 n).wf = true) → ∃ l : List UInt8, vI .u8 zs = vB l ∧ l.length = zs.length
  | [], _ => ⟨[], rfl, rfl⟩
  | z :: zs, h => by
    obtain ⟨l, hl, hlen⟩ := ints_bytes (zs := zs) fun n hn => h n (List.mem_cons_of_mem _ hn)
    obtain ⟨h0, h1⟩ := wf_u8 (h z (by simp))
    refine ⟨UInt8.ofNat z.toNat :: l, ?_, by simp [hlen]⟩
    have : (((UInt8.ofNat z.toNat).toNat : Nat) : Int) = z := by simp; omega
    simp only [vI, vB, List.map_cons, this] at hl ⊢
    rw [hl]

/-- A slice of integers that came in. -/
theorem row_at {k : IntKind} {w : World} {a : Option Addr} {len cap : Nat} {zs : List Int}
    (h : (a = none ∧ len = 0 ∧ cap = 0 ∧ zs = []) ∨ ∃ x, a = some x ∧ len ≤ cap ∧ cap ≤ maxLen ∧ zs.length = cap ∧ (∀ i, i < zs.length → w.cell? (x.add i) = some (.int k (zs.getD i 0))) ∧ ∀ n ∈ zs, (Lit.int k n).wf = true) :
    At w a (vI k zs) ∧ zs.length = cap ∧ len ≤ cap ∧ cap ≤ maxLen ∧ (a = none → len = 0 ∧ cap = 0) ∧ ∀ n ∈ zs, (Lit.int k n).wf = true := by
  rcases h with ⟨rfl, rfl, rfl, rfl⟩ | ⟨x, rfl, h1, h2, h3, h4, h5⟩
  · exact ⟨.inl rfl, rfl, Nat.le_refl _, Nat.zero_le _, fun _ => ⟨rfl, rfl⟩, fun n hn => by cases hn⟩
  · refine ⟨?_, h3, h1, h2, fun e => (by cases e), h5⟩
    cases zs with
    | nil => exact .inl rfl
    | cons z zs =>
      have h0 := h4 0 (by simp)
      obtain ⟨b, o, s⟩ := x
      have hs : s = none := by
        cases s with
        | none => rfl
        | some y =>
          simp only [Addr.add, if_true, World.cell?] at h0
          split at h0 <;> simp at h0
      subst hs
      refine .inr ⟨b, o, rfl, fun i v hv => ?_⟩
      simp only [vI, List.getElem?_map] at hv
      cases hz : (z :: zs)[i]? with
      | none => rw [hz] at hv; cases hv
      | some y =>
        rw [hz] at hv
        cases hv
        have hi := (List.getElem?_eq_some_iff.1 hz).1
        have := h4 i hi
        rw [Addr.add_lit] at this
        rw [this, List.getD_eq_getElem?_getD, hz]
        rfl

theorem row_bytes {w : World} {a : Option Addr} {len cap : Nat} {zs : List Int}
    (h : (a = none ∧ len = 0 ∧ cap = 0 ∧ zs = []) ∨ ∃ x, a = some x ∧ len ≤ cap ∧ cap ≤ maxLen ∧ zs.length = cap ∧ (∀ i, i < zs.length → w.cell? (x.add i) = some (.int .u8 (zs.getD i 0))) ∧ ∀ n ∈ zs, (Lit.int .u8 n).wf = true) :
    ∃ l : List UInt8, At w a (vB l) ∧ l.length = cap ∧ len ≤ cap ∧ cap ≤ maxLen ∧ (a = none → len = 0 ∧ cap = 0) := by
  obtain ⟨h1, h2, h3, h4, h5, h6⟩ := row_at h
  obtain ⟨l, hl, hlen⟩ := ints_bytes h6
  exact ⟨l, hl ▸ h1, by omega, h3, h4, h5⟩

end Go.Vc
