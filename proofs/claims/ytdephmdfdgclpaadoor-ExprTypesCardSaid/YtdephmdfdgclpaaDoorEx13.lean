/- The contracts of the laws' own helpers: nodes that are built. -/
import Derived.Test.YtdephmdfdgclpaaDoorEx12
import Derived.Test.YtdephmdfdgclpaaDoorXL
namespace Go.Proofs.YtdephmdfdgclpaaDoor
open Go Go.Vc Go.RowKit

/-- Six cells are written into a variable and read out of it. -/
theorem Hold.ret6 {w0 W : World} {fs : List (Nat × Obj)} {ms : List Row} {b : Nat} {t : TypeId} {x0 x1 x2 x3 x4 x5 : Value} {X : Int → ByteArray → Int → Int → ByteArray → Option Addr → Nat → Nat → World → Prop} (H : Hold w0 W fs ms) (i : Nat) (hi : fs[i]? = some (b, .cells #[x0, x1, x2, x3, x4, x5] t (0, 0)))
    (k0 : Int) (k1 : ByteArray) (k2 k3 : Int) (k4 : ByteArray) (p : Option Addr) (n c : Nat)
    (hX : ∀ W', Ext w0 W' → (∀ b', b' ≠ b → b' < W.heap.size → W'.heap[b']? = W.heap[b']?) → X k0 k1 k2 k3 k4 p n c W') : (∃ u, W.cell? ⟨b, 0, none⟩ = some u) ∧ W.frozen? ⟨b, 0, none⟩ = false ∧ (∃ u, W.cell? ⟨b, 1, none⟩ = some u) ∧ W.frozen? ⟨b, 1, none⟩ = false ∧ (∃ u, W.cell? ⟨b, 2, none⟩ = some u) ∧ W.frozen? ⟨b, 2, none⟩ = false ∧
    (∃ u, W.cell? ⟨b, 3, none⟩ = some u) ∧ W.frozen? ⟨b, 3, none⟩ = false ∧ (∃ u, W.cell? ⟨b, 4, none⟩ = some u) ∧ W.frozen? ⟨b, 4, none⟩ = false ∧ (∃ u, W.cell? ⟨b, 5, none⟩ = some u) ∧ W.frozen? ⟨b, 5, none⟩ = false ∧
    ∀ W' : World, Put W b 0 [.int .i64 k0, .string k1, .int .i64 k2, .int .i64 k3, .string k4, .slice p n c] W' → ∃ y0 : Int, W'.cell? ⟨b, 0, none⟩ = some (.int .i64 y0) ∧ ∃ y1 : ByteArray, W'.cell? ⟨b, 1, none⟩ = some (.string y1) ∧ ∃ y2 : Int, W'.cell? ⟨b, 2, none⟩ = some (.int .i64 y2) ∧
      ∃ y3 : Int, W'.cell? ⟨b, 3, none⟩ = some (.int .i64 y3) ∧ ∃ y4 : ByteArray, W'.cell? ⟨b, 4, none⟩ = some (.string y4) ∧ ∃ (q : Option Addr) (m d : Nat), W'.cell? ⟨b, 5, none⟩ = some (.slice q m d) ∧ X y0 y1 y2 y3 y4 q m d W' := by
  have B := H.blk i hi
  refine B.w6 fun W' h => ?_
  have H' := H.put i hi h
  have B' : Blk W' b t #[.int .i64 k0, .string k1, .int .i64 k2, .int .i64 k3, .string k4, .slice p n c] := B.put h
  obtain ⟨a0, a1, a2, a3, a4, a5⟩ := B'.c6
  exact ⟨_, a0, _, a1, _, a2, _, a3, _, a4, _, _, _, a5, hX W' H'.ext fun b' hb hlt => h.but.block b' hlt hb⟩

def numE (n : Int) : Ex := .mk 2 ⟨#[]⟩ (numV n) []
def oneE (op : Int) (a : Ex) : Ex := .mk op ⟨#[]⟩ nullV [a]
def twoE (op : Int) (a b : Ex) : Ex := .mk op ⟨#[]⟩ nullV [a, b]
theorem ExAt.len {w : World} {x : Ex} {cs : List Value} (h : ExAt w x cs) : cs.length = 6 := by obtain ⟨p, n, c, rfl, _⟩ := h.six; rfl
theorem lnum_ok (n : Int) (w : World) : Calls Tryd.prog 25 #[.int .i64 n] w fun e w' => ∃ cs, e = .returned (.agg cs.toArray) ∧ ExAt w' (numE n) cs ∧ Ext w w' := by
  apply lnum_vc
  unfold lnum_T
  intro b1 w2 h1
  have H := (Hold.start (Ext.rfl (w := w))).new h1
  refine Hold.ret6 H 0 rfl _ _ _ _ _ _ _ _ fun W' hx _ => ⟨[.int .i64 2, .string ⟨#[]⟩, .int .i64 1, .int .i64 n, .string ⟨#[]⟩, .slice none 0 0], rfl, ?_, hx⟩
  unfold numE ExAt
  exact ⟨none, 0, 0, [], rfl, ⟨Nat.le_refl _, Nat.zero_le _⟩, fun _ => ⟨rfl, rfl⟩, rfl, by simp, .inl rfl, by unfold ExsAt; trivial⟩
theorem ltwo_ok (op : Int) {a b : Ex} {w : World} {ca cb : List Value} (ha : ExAt w a ca) (hb : ExAt w b cb) : Calls Tryd.prog 24 #[.int .i64 op, .agg ca.toArray, .agg cb.toArray] w fun e w' => ∃ cs, e = .returned (.agg cs.toArray) ∧ ExAt w' (twoE op a b) cs ∧ Ext w w' := by
  obtain ⟨pa, na, cca, rfl, _⟩ := ha.six
  obtain ⟨pb, nb, ccb, rfl, _⟩ := hb.six
  apply ltwo_vc
  unfold ltwo_T
  intro b1 w2 h1 b4 w5 h4 b7 w8 h7
  have H8 := (((Hold.start (Ext.rfl (w := w))).new h1).new h4).new h7
  have Ba : Blk w8 b1 29 #[.int .i64 a.op, .string a.name, .int .i64 a.v.k, .int .i64 a.v.n, .string a.v.s, .slice pa na cca] := H8.blk 2 rfl
  have Bb : Blk w8 b4 29 #[.int .i64 b.op, .string b.name, .int .i64 b.v.k, .int .i64 b.v.n, .string b.v.s, .slice pb nb ccb] := H8.blk 1 rfl
  obtain ⟨a0, a1, a2, a3, a4, a5⟩ := Ba.c6
  obtain ⟨b0, b1', b2, b3, b4', b5⟩ := Bb.c6
  refine ⟨_, a0, _, a1, _, a2, _, a3, _, a4, _, _, _, a5, _, b0, _, b1', _, b2, _, b3, _, b4', _, _, _, b5, fun b26 w27 h26 => ?_⟩
  have H27 := H8.new h26
  refine Hold.ret6 H27 1 rfl _ _ _ _ _ _ _ _ fun W' hx hk => ⟨[.int .i64 op, .string ⟨#[]⟩, .int .i64 0, .int .i64 0, .string ⟨#[]⟩, .slice (some ⟨b26, 0, none⟩) 2 2], rfl, ?_, hx⟩
  have hne : b26 ≠ b7 := H27.keys 0 1 _ _ rfl rfl (by decide)
  have hB : Blk W' b26 29 _ := (hk b26 hne (H27.lt 0 rfl)).trans (H27.blk 0 rfl)
  unfold twoE ExAt
  refine ⟨some ⟨b26, 0, none⟩, 2, 2, [[.int .i64 a.op, .string a.name, .int .i64 a.v.k, .int .i64 a.v.n, .string a.v.s, .slice pa na cca], [.int .i64 b.op, .string b.name, .int .i64 b.v.k, .int .i64 b.v.n, .string b.v.s, .slice pb nb ccb]], rfl, ⟨Nat.le_refl _, by decide⟩, fun h => (by cases h), rfl, ?_, hB.at, ?_⟩
  · intro x hx
    simp only [List.mem_cons, List.not_mem_nil, or_false] at hx
    rcases hx with rfl | rfl <;> rfl
  · unfold ExsAt
    refine ⟨ha.ext hx, ?_⟩
    unfold ExsAt
    exact ⟨hb.ext hx, by unfold ExsAt; trivial⟩
theorem lone_ok (op : Int) {a : Ex} {w : World} {ca : List Value} (ha : ExAt w a ca) : Calls Tryd.prog 23 #[.int .i64 op, .agg ca.toArray] w fun e w' => ∃ cs, e = .returned (.agg cs.toArray) ∧ ExAt w' (oneE op a) cs ∧ Ext w w' := by
  obtain ⟨pa, na, cca, rfl, _⟩ := ha.six
  apply lone_vc
  unfold lone_T
  intro b1 w2 h1 b7 w8 h7
  have H8 := ((Hold.start (Ext.rfl (w := w))).new h1).new h7
  have Ba : Blk w8 b1 29 #[.int .i64 a.op, .string a.name, .int .i64 a.v.k, .int .i64 a.v.n, .string a.v.s, .slice pa na cca] := H8.blk 1 rfl
  obtain ⟨a0, a1, a2, a3, a4, a5⟩ := Ba.c6
  refine ⟨_, a0, _, a1, _, a2, _, a3, _, a4, _, _, _, a5, fun b26 w27 h26 => ?_⟩
  have H27 := H8.new h26
  refine Hold.ret6 H27 1 rfl _ _ _ _ _ _ _ _ fun W' hx hk => ⟨[.int .i64 op, .string ⟨#[]⟩, .int .i64 0, .int .i64 0, .string ⟨#[]⟩, .slice (some ⟨b26, 0, none⟩) 1 1], rfl, ?_, hx⟩
  have hne : b26 ≠ b7 := H27.keys 0 1 _ _ rfl rfl (by decide)
  have hB : Blk W' b26 29 _ := (hk b26 hne (H27.lt 0 rfl)).trans (H27.blk 0 rfl)
  unfold oneE ExAt
  refine ⟨some ⟨b26, 0, none⟩, 1, 1, [[.int .i64 a.op, .string a.name, .int .i64 a.v.k, .int .i64 a.v.n, .string a.v.s, .slice pa na cca]], rfl, ⟨Nat.le_refl _, by decide⟩, fun h => (by cases h), rfl, ?_, hB.at, ?_⟩
  · intro x hx
    simp only [List.mem_cons, List.not_mem_nil, or_false] at hx
    subst hx; rfl
  · unfold ExsAt
    exact ⟨ha.ext hx, by unfold ExsAt; trivial⟩
end Go.Proofs.YtdephmdfdgclpaaDoor
