/- The contracts of package expr: which expressions are well formed. -/
import Derived.Test.YtdephmdfdgclpaaDoorEx1
namespace Go.Proofs.YtdephmdfdgclpaaDoor
open Go Go.Vc Go.RowKit

/-- The table of shapes lies in memory. -/
def Tab (w : World) : Prop := CellsAt w 0 0 shapesA
theorem Tab.ext {w w' : World} (h : Tab w) (e : Ext w w') : Tab w' := fun k v hk => cell_ext (h k v hk) e
theorem Tab.at {w : World} (h : Tab w) {op : Int} (h1 : 0 ≤ op) (h2 : op < 17) : w.cell? ⟨0, 0 + op.toNat * 3, none⟩ = some (.int .i64 (manyOf op)) ∧ w.cell? ⟨0, 0 + op.toNat * 3 + 1, none⟩ = some (.int .i64 (wantOf op)) ∧
    w.cell? ⟨0, 0 + op.toNat * 3 + 2, none⟩ = some (.int .i64 (kindOf op)) := by
  obtain ⟨i, rfl⟩ := Int.eq_ofNat_of_zero_le h1
  obtain ⟨a, b, c⟩ := shapes_at (i := i) (by omega)
  rw [Int.toNat_natCast]
  exact ⟨h _ _ a, by rw [Nat.add_assoc]; exact h _ _ b, by rw [Nat.add_assoc]; exact h _ _ c⟩

set_option maxHeartbeats 4000000 in
theorem xformed_ok {w : World} (hT : Tab w) (x : Ex) {cs : List Value} (hx : ExAt w x cs) : Calls Tryd.prog 27 #[.agg cs.toArray] w fun e w' => e = .returned (.bool (formedB x)) ∧ Ext w w' := by
  obtain ⟨p, n, c, rfl, hkl, hn, hkid⟩ := hx.six
  apply xformed_vc
  unfold xformed_T
  intro b1 w2 h1 b4 w5 h4 b7 w8 h7
  have H8 := (((Hold.start (Ext.rfl (w := w))).new h1).new h4).new h7
  refine ⟨⟨_, (H8.blk 0 rfl).one⟩, (H8.blk 0 rfl).frozen 0, fun w11 h11 => ?_⟩
  have H11 := H8.box 0 rfl h11
  have B1 : Blk w11 b1 29 #[.int .i64 x.op, .string x.name, .int .i64 x.v.k, .int .i64 x.v.n, .string x.v.s, .slice p n c] := H11.blk 2 rfl
  obtain ⟨a0, a1, a2, a3, a4, a5⟩ := B1.c6
  refine ⟨_, a0, _, a1, _, a2, _, a3, _, a4, _, _, _, a5, (nodes_ok x hx 1).mono ?_⟩
  rintro e w22 ⟨bx, bd, rfl, hH⟩
  have H22 := hH _ _ _ H11
  refine ⟨_, rfl, _, _, rfl, by kernel_rfl, fun r d l w29 hB hY => ?_⟩
  have HB := H22.began hB
  let fs : Nat → Int → List (Nat × Obj) := fun q m => [(l, .loop (r q)), (d, .deferred (some [])), (bd, .cells #[.int .i64 1] 3 (0, 0)), (bx, .cells #[.int .i64 x.op, .string x.name, .int .i64 x.v.k, .int .i64 x.v.n, .string x.v.s, .slice p n c] 29 (0, 0)),
    (b7, .cells #[.int .i64 m] 3 (0, 0)), (b4, .cells #[.bool false] 4 (0, 0)), (b1, .cells #[.int .i64 x.op, .string x.name, .int .i64 x.v.k, .int .i64 x.v.n, .string x.v.s, .slice p n c] 29 (0, 0))]
  have HB : Hold w w29 (fs 0 0 ++ []) [] := HB
  have fsM : ∀ q m, ∀ y ∈ fs q m, y.1 < w29.heap.size := by
    intro q m y hy
    have : ∀ y ∈ fs 0 0, y.1 < w29.heap.size := fun y hy => HB.ltM (List.mem_append_left _ hy)
    simp only [fs, List.mem_cons, List.not_mem_nil, or_false] at hy this
    rcases hy with rfl | rfl | rfl | rfl | rfl | rfl | rfl
    · exact this (l, .loop (r 0)) (.inl rfl)
    · exact this _ (.inr (.inl rfl))
    · exact this _ (.inr (.inr (.inl rfl)))
    · exact this _ (.inr (.inr (.inr (.inl rfl))))
    · exact this (b7, .cells #[.int .i64 0] 3 (0, 0)) (.inr (.inr (.inr (.inr (.inl rfl)))))
    · exact this _ (.inr (.inr (.inr (.inr (.inr (.inl rfl))))))
    · exact this _ (.inr (.inr (.inr (.inr (.inr (.inr rfl))))))
  refine (nodes1_ok (depthT x) x 1 l bd bx w _ (fun k f => f = fs 0 (k : Int) ∧ k ≤ 400 ∧ goW ((walkT x 1).drop k) k = formedB x) (fun f => (∃ m, f = fs 3 m) ∧ formedB x = false) [] (fs 0 0) w29 w29.heap.size (Nat.le_refl _) (by omega) hx ?_ ?_ (Nat.le_refl _) ?_ ⟨rfl, by omega, goW_formed x⟩ HB).mono ?_
  · rintro k f ⟨rfl, _, _⟩
    exact ⟨fsM _ _, by simp [fs], by simp [fs]⟩
  · rintro f ⟨⟨m, rfl⟩, _⟩ y hy
    exact fsM _ _ y hy
  · rintro k pn ncs gs f W R hL hE ⟨rfl, hk, hg⟩ H yes no
    obtain ⟨np, nn, ncap, rfl, hkn, _⟩ := hE.six
    have hgd : goW ((walkT x 1).drop k) k = if 40 < pn.1 ∨ 400 < k + 1 ∨ ¬ NodeOk pn.2 then false else goW ((walkT x 1).drop (k + 1)) (k + 1) := by
      obtain ⟨hk', rfl⟩ := List.getElem?_eq_some_iff.1 hL
      rw [List.drop_eq_getElem_cons hk']; rfl
    refine hY _ _ _ _ _ _ _ _ _ W R (H.loop 0 rfl) fun b43 w44 h43 => ?_
    have H44 := H.new h43
    refine (H44.blk 0 rfl).w6 fun w52 h52 => ?_
    have H52 := H44.put 0 rfl h52
    refine ⟨H52.loop 1 rfl, ?_⟩
    rintro Wb rfl
    have H54 := H52.turn 1 1 rfl
    refine ⟨_, (H54.blk 5 rfl).one, ⟨_, (H54.blk 5 rfl).one⟩, (H54.blk 5 rfl).frozen 0, fun w58 h58 w60 h60 => ?_⟩
    have H60 := (H54.box 5 rfl h58).step h60.ext
    rw [i64_next (by omega)] at H60
    let nb : Nat × Obj := (b43, .cells #[.int .i64 pn.2.op, .string pn.2.name, .int .i64 pn.2.v.k, .int .i64 pn.2.v.n, .string pn.2.v.s, .slice np nn ncap] 29 (0, 0))
    have H60 : Hold w w60 (nb :: (fs 1 ((k + 1 : Nat) : Int) ++ gs)) [] := H60
    -- the walk is left
    have stop : ∀ W', Ext w60 W' → formedB x = false → (∃ u, W'.cell? ⟨b4, 0, none⟩ = some u) ∧ W'.frozen? ⟨b4, 0, none⟩ = false ∧ ∀ w64 : World, Put W' b4 0 [.bool false] w64 → Rec r l 1 w64 ∧ R false (turn r l 3 w64) := by
      intro W' e hf
      have HW := H60.step e
      refine ⟨⟨_, (HW.blk 6 rfl).one⟩, (HW.blk 6 rfl).frozen 0, fun w64 h64 => ?_⟩
      have H64 := HW.box 6 rfl h64
      exact ⟨H64.loop 1 rfl, no _ _ ⟨⟨_, rfl⟩, hf⟩ (H64.turn 1 3 rfl).tail⟩
    have go : ∀ W', Ext w60 W' → pn.1 ≤ 40 → k + 1 ≤ 400 → NodeOk pn.2 → Rec r l 1 W' ∧ R true (turn r l 0 W') := by
      intro W' e h1 h2 h3
      have HW := H60.step e
      refine ⟨HW.loop 1 rfl, yes _ _ ⟨rfl, h2, ?_⟩ (HW.turn 1 0 rfl).tail⟩
      rw [← hg, hgd, if_neg]
      rintro (h | h | h)
      · omega
      · omega
      · exact h h3
    have hf : (40 < pn.1 ∨ 400 < k + 1 ∨ ¬ NodeOk pn.2) → formedB x = false := fun h => by rw [← hg, hgd, if_pos h]
    have bad : ¬ NodeOk pn.2 → formedB x = false := fun h => hf (.inr (.inr h))
    have B : Blk w60 b43 29 #[.int .i64 pn.2.op, .string pn.2.name, .int .i64 pn.2.v.k, .int .i64 pn.2.v.n, .string pn.2.v.s, .slice np nn ncap] := H60.blk 0 rfl
    obtain ⟨a0, a1, a2, a3, a4, a5⟩ := B.c6
    have hT60 := hT.ext H60.ext
    refine ⟨fun hd => stop w60 .rfl (hf (.inl (by omega))), fun hd => ⟨_, (H60.blk 5 rfl).one, fun hm => stop w60 .rfl (hf (.inr (.inl (by omega)))), fun hm => ⟨_, a0, fun ho => stop w60 .rfl (bad ?_), fun ho => ⟨_, a0, fun ho' => stop w60 .rfl (bad ?_), fun ho' => ?_⟩⟩⟩⟩
    · rintro ⟨h, _⟩
      have := many_range (op := pn.2.op) (by omega)
      omega
    · rintro ⟨h, _⟩
      have := many_range (op := pn.2.op) (by omega)
      omega
    · obtain ⟨t0, _, _⟩ := hT60.at (op := pn.2.op) (by omega) ho'
      refine ⟨_, _, _, a5, _, a0, by omega, ho', _, t0, fun hne => stop w60 .rfl (bad ?_), fun he => ?_⟩
      · rintro ⟨h, _⟩; omega
      have vcall : ∀ (hnm : pn.2.op = 1 ∨ pn.2.name = ⟨#[]⟩) (hvv : pn.2.op = 2 ∨ pn.2.v = nullV), Calls Tryd.prog 43 #[.agg #[.int .i64 pn.2.v.k, .int .i64 pn.2.v.n, .string pn.2.v.s]] w60 fun (e : Ending) (w' : World) => ∃ b : Bool, e = .returned (.bool b) ∧
          (b = false → (∃ u, w'.cell? ⟨b4, 0, none⟩ = some u) ∧ w'.frozen? ⟨b4, 0, none⟩ = false ∧ ∀ w64 : World, Put w' b4 0 [.bool false] w64 → Rec r l 1 w64 ∧ R false (turn r l 3 w64)) ∧ (b = true → Rec r l 1 w' ∧ R true (turn r l 0 w')) := by
        intro hnm hvv
        refine (vright_ok pn.2.v w60).mono ?_
        rintro e w' ⟨rfl, e'⟩
        refine ⟨_, rfl, fun hb => stop w' e' (bad ?_), fun hb => go w' e' (by omega) (by omega) ⟨by omega, hnm, hvv, of_decide_eq_true hb⟩⟩
        rintro ⟨_, _, _, h⟩
        exact absurd h (of_decide_eq_false hb)
      have nullI : pn.2.v = nullV ↔ pn.2.v.k = 0 ∧ pn.2.v.n = 0 ∧ pn.2.v.s = ⟨#[]⟩ := Val.ext'
      refine ⟨_, a0, fun h1 => ⟨_, a1, fun hnm => stop w60 .rfl (bad ?_), fun hnm => ⟨_, a0, fun h2 => ⟨_, a2, _, a3, _, a4, fun hv => stop w60 .rfl (bad ?_), fun hv => ⟨_, a2, _, a3, _, a4, vcall (.inr hnm) (.inr (nullI.2 hv))⟩⟩, fun h2 => ⟨_, a2, _, a3, _, a4, vcall (.inr hnm) (.inl h2)⟩⟩⟩,
        fun h1 => ⟨_, a0, fun h2 => ⟨_, a2, _, a3, _, a4, fun hv => stop w60 .rfl (bad ?_), fun hv => ⟨_, a2, _, a3, _, a4, vcall (.inl h1) (.inr (nullI.2 hv))⟩⟩, fun h2 => ⟨_, a2, _, a3, _, a4, vcall (.inl h1) (.inl h2)⟩⟩⟩
      · rintro ⟨_, h, _⟩
        rcases h with h | h
        · exact h1 h
        · exact hnm h
      · rintro ⟨_, _, h, _⟩
        rcases h with h | h
        · exact h2 h
        · have := nullI.1 h
          rcases hv with hv | hv | hv
          · exact hv this.1
          · exact hv this.2.1
          · exact hv this.2.2
      · rintro ⟨_, _, h, _⟩
        rcases h with h | h
        · exact h2 h
        · have := nullI.1 h
          rcases hv with hv | hv | hv
          · exact hv this.1
          · exact hv this.2.1
          · exact hv this.2.2
  · rintro e W ⟨rfl, hI | hS⟩
    · obtain ⟨_, ⟨rfl, hk, hg⟩, H⟩ := hI
      refine ⟨⟨_, rfl⟩, .inl ⟨H.loop 0 rfl, ?_⟩⟩
      have H2 := H.turn 0 2 rfl
      refine ⟨⟨_, (H2.blk 5 rfl).one⟩, (H2.blk 5 rfl).frozen 0, fun w82 h82 => ?_⟩
      have H82 := H2.box 5 rfl h82
      have H83 := H82.shut 1 rfl
      refine ⟨H82.dfr 1 rfl, _, (H83.blk 5 rfl).one, ?_, H83.ext⟩
      rw [List.drop_length] at hg
      rw [← hg]; rfl
    · obtain ⟨_, ⟨⟨m, rfl⟩, hf⟩, H⟩ := hS
      refine ⟨⟨_, rfl⟩, .inr (.inl ⟨H.loop 0 rfl, ?_⟩)⟩
      have H2 := H.turn 0 4 rfl
      have H83 := H2.shut 1 rfl
      refine ⟨H2.dfr 1 rfl, _, (H83.blk 5 rfl).one, ?_, H83.ext⟩
      rw [hf]
end Go.Proofs.YtdephmdfdgclpaaDoor
