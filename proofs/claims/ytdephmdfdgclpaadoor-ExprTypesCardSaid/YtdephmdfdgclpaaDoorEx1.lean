/- The contracts of package expr: the walk over an expression's nodes. -/
import Derived.Test.YtdephmdfdgclpaaDoorXP
import Derived.Test.YtdephmdfdgclpaaDoorEx0
import Derived.Test.YtdephmdfdgclpaaDoorFr2
import Derived.Test.YtdephmdfdgclpaaDoorVm
namespace Go.Proofs.YtdephmdfdgclpaaDoor
open Go Go.Vc Go.RowKit

/-- What a caller of the walk promises: each node may be handed to it, whatever else is held. -/
def Rounds (L : List (Nat × Ex)) (l0 : Nat) (wc : World) (Q : Nat → List (Nat × Obj) → Prop) (S : List (Nat × Obj) → Prop) : Prop :=
  ∀ (k : Nat) (p : Nat × Ex) (ncs : List Value) (gs fs : List (Nat × Obj)) (W : World) (R : Bool → World → Prop), L[k]? = some p → ExAt wc p.2 ncs → Q k fs → Hold wc W (fs ++ gs) [] →
    (∀ fs' W', Q (k + 1) fs' → Hold wc W' (fs' ++ gs) [] → R true W') → (∀ fs' W', S fs' → Hold wc W' (fs' ++ gs) [] → R false W') → Yield Tryd.prog l0 #[.int .i64 (p.1 : Int), .agg ncs.toArray] W R

theorem nodes_ok (x : Ex) {cs : List Value} {w w0 : World} (h : ExAt w0 x cs) (d : Int) : Calls Tryd.prog 31 #[.agg cs.toArray, .int .i64 d] w fun e w' => ∃ b1 b4, e = .returned (.func (.func 47) #[] #[.pointer (some ⟨b4, 0, none⟩), .pointer (some ⟨b1, 0, none⟩)]) ∧
    ∀ fs ms w0, Hold w0 w fs ms → Hold w0 w' ((b4, .cells #[.int .i64 d] 3) :: (b1, .cells cs.toArray 29) :: fs) ms := by
  obtain ⟨p, n, c, rfl, _⟩ := h.six
  apply nodes_vc
  unfold nodes_T
  intro b1 w2 h1 b4 w5 h4
  exact ⟨b1, b4, rfl, fun fs ms w0 h => (h.new h1).new h4⟩

theorem perm3 {α : Type} (a b c : List α) : (a ++ (b ++ c)).Perm (b ++ (a ++ c)) := by
  rw [← List.append_assoc, ← List.append_assoc]
  exact List.perm_append_comm.append_right c
set_option maxHeartbeats 4000000 in
theorem nodes1_ok : ∀ (N : Nat) (x : Ex) (d l0 fv0 fv1 : Nat) (wc : World) (cs : List Value) (Q : Nat → List (Nat × Obj) → Prop) (S : List (Nat × Obj) → Prop) (gs fs : List (Nat × Obj)) (w : World) (M : Nat), depthT x ≤ N → d ≤ 41 → ExAt wc x cs →
    (∀ k fs, Q k fs → (∀ y ∈ fs, y.1 < M) ∧ (fv0, .cells #[.int .i64 (d : Int)] 3 (0, 0)) ∈ fs ∧ (fv1, .cells cs.toArray 29 (0, 0)) ∈ fs) → (∀ fs, S fs → ∀ y ∈ fs, y.1 < M) → M ≤ w.heap.size →
    Rounds (walkT x d) l0 wc Q S → Q 0 fs → Hold wc w (fs ++ gs) [] →
    Calls Tryd.prog 47 #[.func (.yield l0) #[] #[], .pointer (some ⟨fv0, 0, none⟩), .pointer (some ⟨fv1, 0, none⟩)] w fun e W' => e = .returned (.tuple #[]) ∧ ((∃ fs', Q (walkT x d).length fs' ∧ Hold wc W' (fs' ++ gs) []) ∨ ∃ fs', S fs' ∧ Hold wc W' (fs' ++ gs) []) := by
  intro N
  induction N with
  | zero => intro x d l0 fv0 fv1 wc cs Q S gs fs w M hd; cases x; unfold depthT at hd; omega
  | succ N ih =>
  intro x d l0 fv0 fv1 wc cs Q S gs fs w M hdep hd hx hQ hS hM hR q0 hH
  obtain ⟨p, n, c, rfl, hkl, hn, hkid⟩ := hx.six
  apply nodes1_vc
  unfold nodes1_T
  intro b1 w2 h1
  have hb1 : b1 = w.heap.size := h1.1
  have H2 := hH.new h1
  have gsM : ∀ y ∈ gs, y.1 < w.heap.size := fun y hy => hH.ltM (List.mem_append_right _ hy)
  obtain ⟨_, m0, m1⟩ := hQ 0 fs q0
  have B0 := H2.blkM (List.mem_cons_of_mem _ (List.mem_append_left gs m0))
  have B1 := H2.blkM (List.mem_cons_of_mem _ (List.mem_append_left gs m1))
  obtain ⟨c0, c1, c2, c3, c4, c5⟩ := B1.c6
  have hhead : (walkT x d)[0]? = some (d, x) := by cases x; rfl
  refine ⟨_, (H2.blk 0 rfl).one, _, B0.one, _, c0, _, c1, _, c2, _, c3, _, c4, _, _, _, c5, l0, rfl, ?_⟩
  refine hR 0 (d, x) _ ((b1, .cells #[.func (.yield l0) #[] #[]] 68 (0, 0)) :: gs) fs w2 _ hhead hx q0 (Hold.swap (a := [_]) H2) (fun fs' W' q H => ⟨fun h => (by cases h), fun _ => ?_⟩)
    (fun fs' W' s H => ⟨fun _ => ⟨rfl, .inr ⟨fs', s, H.sub ((List.Sublist.refl fs').append (List.sublist_cons_self _ _))⟩⟩, fun h => (by cases h)⟩)
  obtain ⟨_, m0, m1⟩ := hQ 1 fs' q
  have B0 := H.blkM (List.mem_append_left _ m0)
  have B1 := H.blkM (List.mem_append_left _ m1)
  obtain ⟨_, _, _, _, _, c5⟩ := B1.c6
  refine ⟨_, B0.one, fun hgt => ⟨rfl, .inl ⟨fs', ?_, H.sub ((List.Sublist.refl fs').append (List.sublist_cons_self _ _))⟩⟩, fun hle => ?_⟩
  · have : (walkT x d).length = 1 := by cases x; unfold walkT; rw [if_pos (by omega)]; rfl
    rw [this]; exact q
  have hL : walkT x d = (d, x) :: walkTs x.kids (d + 1) := by cases x; unfold walkT; rw [if_neg (by omega)]; rfl
  let Y : Nat × Obj := (b1, .cells #[.func (.yield l0) #[] #[]] 68 (0, 0))
  let off : Nat → Nat := fun j => 1 + (walkTs (x.kids.take j) (d + 1)).length
  have H' : Hold wc W' (Y :: (fs' ++ gs)) [] := H.perm List.perm_middle
  refine ⟨_, _, _, c5, fun i W => ∃ (j : Nat) (fs : List (Nat × Obj)), i = (j : Int) ∧ j ≤ n ∧ Q (off j) fs ∧ Hold wc W (Y :: (fs ++ gs)) [], fun i _ => n - i.toNat, w.heap.size, ⟨0, fs', rfl, Nat.zero_le _, by simpa [off, walkTs] using q, H'⟩, ⟨by simp, by simp⟩, ?_⟩
  clear H' H B0 B1 c5 q m0 m1 c0 c1 c2 c3 c4 hhead
  rintro i W ⟨j, fs, rfl, hj, q, H⟩ ds ho
  have hwc : wc.heap.size ≤ w.heap.size := hH.size
  have low : ∀ k fs, Q k fs → ∀ y ∈ fs ++ gs, y.1 < w.heap.size := fun k fs q y hy => by
    rcases List.mem_append.1 hy with hy | hy
    · have := (hQ k fs q).1 y hy; omega
    · exact gsM y hy
  have lowS : ∀ fs, S fs → ∀ y ∈ fs ++ gs, y.1 < w.heap.size := fun fs s y hy => by
    rcases List.mem_append.1 hy with hy | hy
    · have := hS fs s y hy; omega
    · exact gsM y hy
  refine ⟨fun hlt => ?_, fun hge => ?_⟩
  · have g : x.kids[j]? = some (x.kids[j]'(by omega)) := List.getElem?_eq_getElem _
    generalize x.kids[j]'(by omega) = k at g
    obtain ⟨kc, b, o, hk, hp, hc⟩ := hkid H.ext g
    obtain ⟨kp, kn, kcap, hkc, _⟩ := hk.six
    simp only [Int.toNat_natCast]
    have e0 := hc 0 _ (by rw [hkc]; rfl)
    have e1 := hc 1 _ (by rw [hkc]; rfl)
    have e2 := hc 2 _ (by rw [hkc]; rfl)
    have e3 := hc 3 _ (by rw [hkc]; rfl)
    have e4 := hc 4 _ (by rw [hkc]; rfl)
    have e5 := hc 5 _ (by rw [hkc]; rfl)
    have Ho : Hold wc W (dfs ds ++ (Y :: (fs ++ gs))) [] := H.addOpen ho hwc fun y hy => by
      rcases List.mem_cons.1 hy with rfl | hy
      · exact .inr (by simp [Y])
      · exact .inl (low _ _ q y hy)
    have Ho : Hold wc W (Y :: (fs ++ (dfs ds ++ gs))) [] := by
      refine Ho.perm ?_
      refine List.perm_middle.trans (List.Perm.cons _ ?_)
      rw [← List.append_assoc, ← List.append_assoc]
      exact List.perm_append_comm.append_right gs
    refine ⟨b, o, hp, by omega, by omega, _, e0, _, e1, _, e2, _, e3, _, e4, _, _, _, e5, fun b43 w44 h43 => ?_⟩
    have H44 := Ho.new h43
    refine (H44.blk 0 rfl).w6 fun w52 h52 => ?_
    have H52 := H44.put 0 rfl h52
    have Bk : Blk w52 b43 29 #[.int .i64 k.op, .string k.name, .int .i64 k.v.k, .int .i64 k.v.n, .string k.v.s, .slice kp kn kcap] := H52.blk 0 rfl
    obtain ⟨a0, a1, a2, a3, a4, a5⟩ := Bk.c6
    obtain ⟨_, m0, m1⟩ := hQ _ fs q
    have Bd := H52.blkM (List.mem_cons_of_mem _ (List.mem_cons_of_mem _ (List.mem_append_left (dfs ds ++ gs) m0)))
    refine ⟨_, a0, _, a1, _, a2, _, a3, _, a4, _, _, _, a5, _, Bd.one, ?_⟩
    rw [i64_next (by omega)]
    subst hkc
    refine (nodes_ok k hk ((d + 1 : Nat) : Int)).mono ?_
    rintro e w64 ⟨bx, bd, rfl, hH64⟩
    have H64 := hH64 _ _ _ H52
    refine ⟨_, rfl, _, _, rfl, by kernel_rfl, fun r d70 l71 w171 hB hY => ?_⟩
    have HB := H64.began hB
    have hd70 : w.heap.size ≤ d70 := by
      have h3 : b1 < w64.heap.size := H64.lt 3 rfl
      have := hB.sizes.1
      omega
    let own : Nat → List (Nat × Obj) := fun q => [(l71, .loop (r q)), (d70, .deferred (some [])), (bd, .cells #[.int .i64 ((d + 1 : Nat) : Int)] 3 (0, 0)),
      (bx, .cells #[.int .i64 k.op, .string k.name, .int .i64 k.v.k, .int .i64 k.v.n, .string k.v.s, .slice kp kn kcap] 29 (0, 0)),
      (b43, .cells #[.int .i64 k.op, .string k.name, .int .i64 k.v.k, .int .i64 k.v.n, .string k.v.s, .slice kp kn kcap] 29 (0, 0)), Y]
    have HB : Hold wc w171 ((own 0 ++ fs) ++ (dfs ds ++ gs)) [] := HB
    have ownM : ∀ q, ∀ y ∈ own q, y.1 < w171.heap.size := by
      intro q y hy
      have : ∀ y ∈ own 0, y.1 < w171.heap.size := fun y hy => HB.ltM (List.mem_append_left _ (List.mem_append_left _ hy))
      simp only [own, List.mem_cons, List.not_mem_nil, or_false] at hy this
      rcases hy with rfl | hy
      · exact this (l71, .loop (r 0)) (.inl rfl)
      · exact this y (.inr hy)
    have hMw : M ≤ w171.heap.size := by
      have := HB.ltM (x := Y) (by simp [own])
      have : b1 < w171.heap.size := this
      omega
    refine (ih k (d + 1) l71 bd bx wc _ (fun k' fs2 => ∃ fs, Q (off j + k') fs ∧ fs2 = own 0 ++ fs) (fun fs2 => ∃ fs, S fs ∧ fs2 = own 3 ++ fs) (dfs ds ++ gs) _ w171 w171.heap.size ?_ (by omega) hk ?_ ?_ (Nat.le_refl _) ?_ ⟨fs, q, rfl⟩ HB).mono ?_
    · have := depthTs_get g
      cases x
      unfold depthT at hdep
      simp only [Ex.kids] at this
      omega
    · rintro k' fs2 ⟨fs3, q3, rfl⟩
      refine ⟨fun y hy => ?_, by simp [own], by simp [own]⟩
      rcases List.mem_append.1 hy with hy | hy
      · exact ownM 0 y hy
      · have := (hQ _ _ q3).1 y hy; omega
    · rintro fs2 ⟨fs3, s3, rfl⟩ y hy
      rcases List.mem_append.1 hy with hy | hy
      · exact ownM 3 y hy
      · have := hS _ s3 y hy; omega
    · rintro k' pn ncs gs2 fs2 W2 R2 hLk hE ⟨fs3, q3, rfl⟩ H2 yes no
      obtain ⟨np, nn, ncap, rfl, _⟩ := hE.six
      refine hY _ _ _ _ _ _ _ _ _ W2 R2 (H2.loop 0 rfl) fun b85 w86 h86 => ?_
      have H86 := H2.new h86
      refine (H86.blk 0 rfl).w6 fun w94 h94 => ?_
      have H94 := H86.put 0 rfl h94
      refine ⟨H94.loop 1 rfl, ?_⟩
      rintro Wb rfl
      have H96 := H94.turn 1 1 rfl
      let nb : Nat × Obj := (b85, .cells #[.int .i64 pn.2.op, .string pn.2.name, .int .i64 pn.2.v.k, .int .i64 pn.2.v.n, .string pn.2.v.s, .slice np nn ncap] 29 (0, 0))
      have H96 : Hold wc (turn r l71 1 w94) (([nb] ++ own 1 ++ fs3) ++ gs2) [] := H96
      have Bn : Blk (turn r l71 1 w94) b85 29 #[.int .i64 pn.2.op, .string pn.2.name, .int .i64 pn.2.v.k, .int .i64 pn.2.v.n, .string pn.2.v.s, .slice np nn ncap] := H96.blk 0 rfl
      obtain ⟨a0, a1, a2, a3, a4, a5⟩ := Bn.c6
      refine ⟨_, (H96.blk 6 rfl).one, _, a0, _, a1, _, a2, _, a3, _, a4, _, _, _, a5, l0, rfl, ?_⟩
      have hLk' : (walkT x d)[off j + k']? = some pn := by
        rw [hL, show off j + k' = ((walkTs (x.kids.take j) (d + 1)).length + k') + 1 by simp only [off]; omega, List.getElem?_cons_succ]
        exact walkTs_at g hLk
      refine hR (off j + k') pn _ (([nb] ++ own 1) ++ gs2) fs3 _ _ hLk' hE q3 H96.swap (fun fs' W' q' H' => ⟨fun h => (by cases h), fun _ => ?_⟩) (fun fs' W' s' H' => ⟨fun _ => ?_, fun h => (by cases h)⟩)
      · have H' : Hold wc W' (([nb] ++ own 1) ++ (fs' ++ gs2)) [] := by
          rw [← List.append_assoc] at H'
          exact H'.swap
        refine ⟨H'.loop 1 rfl, yes _ _ ⟨fs', q', rfl⟩ ?_⟩
        exact (H'.turn 1 0 rfl).tail
      · have H' : Hold wc W' (([nb] ++ own 1) ++ (fs' ++ gs2)) [] := by
          rw [← List.append_assoc] at H'
          exact H'.swap
        refine ⟨H'.loop 1 rfl, no _ _ ⟨fs', s', rfl⟩ ?_⟩
        exact (H'.turn 1 3 rfl).tail
    · rintro e W3 ⟨rfl, hI | hS3⟩
      · obtain ⟨_, ⟨fs3, q3, rfl⟩, H3⟩ := hI
        refine ⟨⟨_, rfl⟩, .inl ⟨H3.loop 0 rfl, ?_⟩⟩
        have H4 := H3.turn 0 2 rfl
        have H4 : Hold wc (turn r l71 2 W3) ((own 2 ++ fs3) ++ (dfs ds ++ gs)) [] := H4
        have hop : Vc.Open w.heap.size (d70 :: ds) (turn r l71 2 W3) := by
          refine Hold.opened (w0 := wc) (fs := ((l71, Obj.loop (r 2)) :: ((own 2).drop 2 ++ fs3)) ++ gs) ?_ fun y hy => ?_
          · exact H4.perm ((List.Perm.swap _ _ _).trans (List.Perm.cons _ (perm3 ((l71, Obj.loop (r 2)) :: ((own 2).drop 2 ++ fs3)) (dfs ds) gs)))
          · rcases List.mem_cons.1 hy with rfl | hy
            · exact hd70
            · exact (ho.2 y hy).1
        refine ⟨hop, ⟨j + 1, fs3, by rw [i64_next (by omega)], by omega, ?_, ?_⟩, ?_⟩
        · have : off (j + 1) = off j + (walkT k (d + 1)).length := by
            simp only [off]; rw [walkTs_take _ g, List.length_append]; omega
          rw [this]; exact q3
        · exact H4.tail.tail.tail.tail.tail.sub (((List.Sublist.refl fs3).append (List.sublist_append_right _ _)).cons₂ Y)
        · rw [i64_next (by omega)]; simp only [Int.toNat_natCast]; omega
      · obtain ⟨_, ⟨fs3, s3, rfl⟩, H3⟩ := hS3
        refine ⟨⟨_, rfl⟩, .inr (.inl ⟨H3.loop 0 rfl, ?_⟩)⟩
        have H4 := H3.turn 0 4 rfl
        have H5 := H4.shut 1 rfl
        have H5 : Hold wc _ (((l71, .loop (r 4)) :: (d70, .deferred none) :: ((own 3).drop 2 ++ fs3)) ++ (dfs ds ++ gs)) [] := H5
        refine ⟨H4.dfr 1 rfl, unD_hold (w0 := wc) (fs := fs3 ++ gs) hwc (lowS _ s3) (fun W' H' => ⟨by trivial, .inr ⟨fs3, s3, H'⟩⟩) ds _ (Hold.opened (w0 := wc) (H5.perm (perm3 _ _ _)) fun y hy => (ho.2 y hy).1) ?_⟩
        exact H5.tail.tail.tail.tail.tail.tail.sub ((List.Sublist.refl fs3).append (List.sublist_append_right _ _))
  · have hjn : j = n := by omega
    refine unD_hold (w0 := wc) (fs := fs ++ gs) hwc (low _ _ q) (fun W' H' => ⟨rfl, .inl ⟨fs, ?_, H'⟩⟩) ds W ho H.tail
    have : (walkT x d).length = off j := by
      rw [hL, hjn, ← hkl]; simp [off]; omega
    rw [this]; exact q
end Go.Proofs.YtdephmdfdgclpaaDoor
