/- Soundness of the generator, part F: codes and functions. -/
import Derived.Test.YtdclhgcgpcddlaaVcE
namespace Go.Vc
open Go

section
variable {P : Program} {rd : Option Nat} {Q : Exit → Act → World → Prop}

/-! ### Tables of the environment -/
def inK : List (Nat × Option SV) → Nat → Bool
  | [], _ => false
  | p :: r, i => match Nat.beq p.1 i with | true => true | false => inK r i

theorem lkE_append (a b : List (Nat × Option SV)) (i : Nat) : lkE (a ++ b) i = if inK a i then lkE a i else lkE b i := by
  induction a with
  | nil => simp [inK]
  | cons p r ih =>
    obtain ⟨j, x⟩ := p
    cases hb : Nat.beq j i <;> simp [lkE, inK, hb, ih]

theorem inK_blank (ws : List (Nat × TypeId)) (i : Nat) : inK (blank ws) i = inW ws i := by
  induction ws with
  | nil => rfl
  | cons p r ih => simp only [blank, inK, inW]; split <;> simp_all

theorem lkE_blank (ws : List (Nat × TypeId)) (i : Nat) : lkE (blank ws) i = none := by
  induction ws with
  | nil => rfl
  | cons p r ih => simp only [blank, lkE]; split <;> simp_all

theorem cellsAs_ofCells {agg : Bool} {x : Value} {cs : List Value} (h : cellsAs agg x = some cs) : ∃ y, ofCells agg cs = some y ∧ y.den = x := by
  unfold cellsAs at h
  split at h
  · cases h; exact ⟨_, rfl, by simp [SV.den]⟩
  · cases h
  · cases h
  · cases h
    rename_i hne
    cases x <;> first | exact ⟨_, rfl, rfl⟩ | exact (hne _ rfl).elim

theorem setSlots_spec {N : Nat} {st' : St} {a : Act} (h : Agree N st' a) : ∀ {slots : List (Nat × Ty)} {vs : List Value}, slotVals st' slots = some vs →
    ∃ es, setSlots slots vs = some es ∧ (∀ i x, lkE es i = some x → a.tmps.getD i undef = x.den) ∧ (∀ i, inK es i = true → inS slots i = true) ∧ vs.length = (lsOf slots).length := by
  intro slots
  induction slots with
  | nil => intro vs hv; simp only [slotVals, Option.some.injEq] at hv; subst hv; exact ⟨[], rfl, fun i x hx => by simp [lkE] at hx, fun i hi => by simp [inK] at hi, rfl⟩
  | cons p r ih =>
    intro vs hv
    unfold slotVals at hv
    split at hv
    · rename_i x vs' hx hvs'
      split at hv
      · rename_i cs hcs
        split at hv
        · rename_i hlen
          cases hv
          have hl := nbeq.1 hlen
          obtain ⟨es, hes, he1, he2, he3⟩ := ih hvs'
          obtain ⟨y, hy, hyd⟩ := cellsAs_ofCells hcs
          have e1 : (cs ++ vs').take p.2.ls.length = cs := by rw [← hl]; simp
          have e2 : (cs ++ vs').drop p.2.ls.length = vs' := by rw [← hl]; simp
          refine ⟨(p.1, some y) :: es, by simp only [setSlots, e1, e2, hy, hes], ?_, ?_, by simp [lsOf, hl, he3]⟩
          · intro i z hz
            simp only [lkE] at hz
            split at hz
            · rename_i hb
              cases hz
              rw [hyd, ← nbeq.1 hb]
              exact h.e _ _ hx
            · exact he1 i z hz
          · intro i hi
            simp only [inK, inS] at hi ⊢
            split at hi
            · rename_i hb; rw [hb]
            · rename_i hb; rw [hb]; exact he2 i hi
        · cases hv
      · cases hv
    · cases hv

theorem carry_in {st : St} : ∀ {ws : List (Nat × TypeId)} {slots : List (Nat × Ty)}, carry P st ws = some slots → ∀ i, inS slots i = true → inW ws i = true := by
  intro ws
  induction ws with
  | nil => intro slots h i hi; simp only [carry, Option.some.injEq] at h; subst h; simp [inS] at hi
  | cons p r ih =>
    intro slots h i hi
    have up : ∀ acc, carry P st r = some acc → inS acc i = true → inW (p :: r) i = true := fun acc ha hs => by
      unfold inW; split
      · rfl
      · exact ih ha i hs
    unfold carry at h
    split at h
    · cases h
    · rename_i acc hacc
      split at h
      · cases h; exact up _ hacc hi
      · cases h; exact up _ hacc hi
      · split at h
        · cases h
          simp only [inS] at hi
          split at hi
          · rename_i hb; simp only [inW, hb]
          · exact up _ hacc hi
        · cases h

theorem named_in {nm : List Bool} : ∀ {ws : List (Nat × TypeId)} {slots : List (Nat × Ty)}, named P nm ws = some slots → ∀ i, inS slots i = true → inW ws i = true := by
  intro ws
  induction ws with
  | nil => intro slots h i hi; simp only [named, Option.some.injEq] at h; subst h; simp [inS] at hi
  | cons p r ih =>
    intro slots h i hi
    have up : ∀ acc, named P nm r = some acc → inS acc i = true → inW (p :: r) i = true := fun acc ha hs => by
      unfold inW; split
      · rfl
      · exact ih ha i hs
    unfold named at h
    split at h
    · cases h
    · rename_i acc hacc
      split at h
      · split at h
        · cases h
          simp only [inS] at hi
          split at hi
          · rename_i hb; simp only [inW, hb]
          · exact up _ hacc hi
        · cases h
      · cases h; exact up _ hacc hi

/-- The environment at a loop's head, or behind a cut. -/
theorem head_of_vals {N : Nat} {st st' : St} {a : Act} {ws : List (Nat × TypeId)} {slots : List (Nat × Ty)} {vs : List Value} (hin : ∀ i, inS slots i = true → inW ws i = true)
    (hf : Fr ws st st') (h : Agree N st' a) (hv : slotVals st' slots = some vs) :
    ∃ st1, headSt st ws slots vs = some st1 ∧ Agree N st1 a ∧ st1.ge = [] ∧ Fr ws st st1 := by
  obtain ⟨es, hes, he1, he2, _⟩ := setSlots_spec h hv
  refine ⟨{ e := es ++ (blank ws ++ st.e), ge := [], ds := st.ds }, by simp only [headSt, hes], ⟨h.size, by rw [h.defers, hf.1], ?_, fun i d hd => by simp [lkG] at hd, fun i d hd => by simp [lkG] at hd⟩, rfl, rfl, ?_⟩
  · intro i x hx
    simp only [lkE_append, inK_blank] at hx
    split at hx
    · exact he1 i x hx
    · split at hx
      · rw [lkE_blank] at hx; cases hx
      · rename_i hb
        have hi : inW ws i = false := by simpa using hb
        exact h.e i x ((hf.2 i hi).trans hx)
  · intro i hi
    simp only [lkE_append, inK_blank, hi]
    have : inK es i = false := by
      cases hk : inK es i with
      | false => rfl
      | true => rw [hin i (he2 i hk)] at hi; cases hi
    simp [this]

theorem AllL_app {R : Type} : ∀ {ls : List Leaf} {F : List Value → Prop} {f : Tel R ls} {vs : List Value} {p : R}, AllL ls F → app ls f vs = some p → F vs := by
  intro ls
  induction ls with
  | nil =>
    intro F f vs p h ha
    cases vs with
    | nil => exact h
    | cons v r => simp [app] at ha
  | cons l r ih =>
    intro F f vs p h ha
    cases vs with
    | nil => cases l <;> simp [app] at ha
    | cons v vs =>
      cases l with
      | int k =>
        cases v <;> simp only [app, reduceCtorEq] at ha
        split at ha
        · rename_i hk; have := kid_inj hk; subst this; exact ih (F := fun vs => F (_ :: vs)) (h _) ha
        · cases ha
      | bool => cases v <;> simp only [app, reduceCtorEq] at ha; exact ih (F := fun vs => F (_ :: vs)) (h _) ha
      | str => cases v <;> simp only [app, reduceCtorEq] at ha; exact ih (F := fun vs => F (_ :: vs)) (h _) ha
      | slc => cases v <;> simp only [app, reduceCtorEq] at ha; exact ih (F := fun vs => F (_ :: vs)) (h _ _ _) ha
      | ptr => cases v <;> simp only [app, reduceCtorEq] at ha; exact ih (F := fun vs => F (_ :: vs)) (h _) ha
      | map => cases v <;> simp only [app, reduceCtorEq] at ha; exact ih (F := fun vs => F (_ :: vs)) (h _) ha
      | any => exact ih (F := fun vs => F (_ :: vs)) (h v) (by simpa only [app] using ha)

theorem AllL_at {ls : List Leaf} {F : List Value → Prop} {I : Tel (World → Prop) ls} {vs : List Value} {w : World} (h : AllL ls F) (hi : atI I vs w) : F vs := by
  unfold atI at hi
  split at hi
  · rename_i p hp; exact AllL_app h hp
  · exact hi.elim

/-! ### The laws of control that the kit lacks in this form -/
theorem exists_least (p : Nat → Prop) (h : ∃ n, p n) : ∃ n, p n ∧ ∀ m, p m → n ≤ m := by
  obtain ⟨n, hn⟩ := h
  induction n using Nat.strongRecOn with
  | _ n ih =>
    by_cases hm : ∃ m, m < n ∧ p m
    · obtain ⟨m, hlt, hp⟩ := hm; exact ih m hlt hp
    · exact ⟨n, hn, fun m hp => Nat.le_of_not_lt fun hlt => hm ⟨m, hlt, hp⟩⟩

open Classical in
theorem wpIn_loop_ghost {F : Fence} {n0 : Nat} {c : Code} (G : Nat → Act → World → Prop)
    (step : ∀ n a w, G n a w → c.wpIn F n0 P (Exit.then (fun a' w' => ∃ n', n' < n ∧ G n' a' w') Q) a w) {n : Nat} {a : Act} {w : World} (h : G n a w) : (Code.loop c).wpIn F n0 P Q a w := by
  refine wpIn_loop (fun a w => ∃ n, G n a w) (fun a w => if h : ∃ n, G n a w then (exists_least _ h).choose else 0) ⟨n, h⟩ ?_
  intro a w hI
  have hs := (exists_least _ hI).choose_spec
  refine wpIn_mono (step _ a w hs.1) fun e a' w' hq => ?_
  cases e with
  | normal =>
    obtain ⟨n', hlt, hg⟩ := hq
    have hI' : ∃ n, G n a' w' := ⟨n', hg⟩
    refine ⟨hI', ?_⟩
    rw [dif_pos hI', dif_pos hI]
    have := (exists_least _ hI').choose_spec.2 n' hg
    omega
  | _ => exact hq

theorem stepR_scope {b : Frame} {a : Act} {k : List Item} {cs : List Frame} {w : World} {c : Code} :
    step P (lone (b.atR a (.code (.scope c) :: k)) cs w) = .next (lone (b.atR a (.code c :: .inScope c :: k)) cs w) :=
  step_lone_go (by simp [stepG, stepG.exec, Frame.atR])

theorem stepR_inScope {b : Frame} {a : Act} {k : List Item} {cs : List Frame} {w : World} {c : Code} :
    step P (lone (b.atR a (.inScope c :: k)) cs w) = .next (lone (b.atR a k) cs w) :=
  step_lone_go (by simp [stepG, stepG.exec, Frame.atR])

theorem wpIn_scope {F : Fence} {n : Nat} {c : Code} {a : Act} {w : World} (h : c.wpIn F n P (fun e a w => match e with | .goto _ => False | e => Q e a w) a w) : (Code.scope c).wpIn F n P Q a w := by
  intro b k cs hro hb hr
  have h0 : (lone (b.atR a (.code (.scope c) :: k)) cs w).fenced P F := fenced_calm hb hr rfl
  obtain ⟨e, a₁, w₁, hq, harr⟩ := h b (.inScope c :: k) cs hro hb hr
  cases e with
  | normal => exact ⟨.normal, a₁, w₁, hq, .head h0 stepR_scope (StepsIn.trans harr (.one (fenced_calm hb hr rfl) stepR_inScope))⟩
  | exit id =>
    have hx : exitTo id (.inScope c :: k) = exitTo id k := by simp [exitTo]
    exact ⟨.exit id, a₁, w₁, hq, fun k' hk => .head h0 stepR_scope (harr.1 k' (by rw [hx]; exact hk)),
      fun hr' hk => let ⟨k₁, h1, h2⟩ := harr.2 hr' (by rw [hx]; exact hk); ⟨k₁, h1, .head h0 stepR_scope h2⟩⟩
  | goto l => exact hq.elim
  | ret => exact ⟨_, a₁, w₁, hq, .of_steps (.one h0 stepR_scope) harr⟩
  | panic ch => exact ⟨_, a₁, w₁, hq, .of_steps (.one h0 stepR_scope) harr⟩
  | outgrown => exact ⟨_, a₁, w₁, hq, .of_steps (b := b) (k := k) (cs := cs) (e := .outgrown) (.one h0 stepR_scope) harr⟩

/-! ### Codes -/
/-- What stays of the environment, by the way in which a code is left. -/
def FrX (c : Code) (ex : Exit) (st st' : St) : Prop :=
  match ex with
  | .normal => ∃ ws, wr none c = some ws ∧ Fr ws st st'
  | .exit id => ∃ ws, wr (some id) c = some ws ∧ Fr ws st st'
  | _ => True

theorem oBeq_refl (t : Option Nat) : oBeq t t = true := by cases t <;> simp [oBeq, nbeq.2]
theorem oBeq_some {a b : Nat} : oBeq (some a) (some b) = Nat.beq a b := rfl

theorem joinW_left {x : List (Nat × TypeId)} (y : Option (List (Nat × TypeId))) : ∃ z, joinW (some x) y = some z ∧ ∀ i, inW z i = false → inW x i = false := by
  cases y with
  | none => exact ⟨x, rfl, fun _ h => h⟩
  | some y => exact ⟨x ++ y, rfl, fun i h => by rw [inW_append] at h; simp at h; exact h.1⟩

theorem joinW_right (x : Option (List (Nat × TypeId))) {y : List (Nat × TypeId)} : ∃ z, joinW x (some y) = some z ∧ ∀ i, inW z i = false → inW y i = false := by
  cases x with
  | none => exact ⟨y, rfl, fun _ h => h⟩
  | some x => exact ⟨x ++ y, rfl, fun i h => by rw [inW_append] at h; simp at h; exact h.2⟩

theorem app_left {x y : List (Nat × TypeId)} (i : Nat) (h : inW (x ++ y) i = false) : inW x i = false := by rw [inW_append] at h; simp at h; exact h.1
theorem app_right {x y : List (Nat × TypeId)} (i : Nat) (h : inW (x ++ y) i = false) : inW y i = false := by rw [inW_append] at h; simp at h; exact h.2

/-- The first of two is left by a jump. -/
theorem frX_seq_left {a b : Code} {id : Nat} {st st' : St} (h : FrX a (.exit id) st st') : FrX (.seq a b) (.exit id) st st' := by
  obtain ⟨ws, hw, hf⟩ := h
  unfold FrX
  simp only [wr, isN, hw]
  cases wr none a with
  | none => exact ⟨ws, rfl, hf⟩
  | some x =>
    obtain ⟨z, hz, hm⟩ := joinW_right (match wr (some id) b with | some y => some (x ++ y) | none => none) (y := ws)
    exact ⟨z, hz, hf.mono hm⟩

/-- The first of two goes off its end. -/
theorem frX_seq_right {a b : Code} {ex : Exit} {st st1 st' : St} {x : List (Nat × TypeId)} (hx : wr none a = some x) (h1 : Fr x st st1) (h : FrX b ex st1 st') : FrX (.seq a b) ex st st' := by
  unfold FrX at *
  cases ex with
  | normal =>
    obtain ⟨ws, hw, hf⟩ := h
    refine ⟨x ++ ws, by simp only [wr, hx, isN, hw], (h1.mono fun i hi => app_left i hi).trans (hf.mono fun i hi => app_right i hi)⟩
  | exit id =>
    obtain ⟨ws, hw, hf⟩ := h
    simp only [wr, hx, isN, hw]
    obtain ⟨z, hz, hm⟩ := joinW_left (x := x ++ ws) (wr (some id) a)
    exact ⟨z, hz, (h1.mono fun i hi => app_left i (hm i hi)).trans (hf.mono fun i hi => app_right i (hm i hi))⟩
  | _ => trivial

/-- What a code achieves. -/
def Post (N : Nat) (c : Code) (Q : Exit → St → World → Prop) (st : St) : Exit → Act → World → Prop :=
  fun ex a' w' => ∃ st', st'.ge = [] ∧ Agree N st' a' ∧ FrX c ex st st' ∧ Q ex st' w'

theorem vc_sound (hm : P.follows .mixedOrders = true) : ∀ (c : Code) (C : Cfg) (Q : Exit → St → World → Prop) (st : St) (a : Act) (w : World), st.ge = [] → Agree C.N st a → vc P C c Q st w →
    c.wpIn (FW C.rd) 0 P (Post C.N c Q st) a w := by
  intro c
  induction c with
  | skip => intro C Q st a w hge h hv; exact wpIn_skip ⟨st, hge, h, ⟨[], rfl, .refl _ _⟩, hv⟩
  | label l => intro C Q st a w hge h hv; exact wpIn_label ⟨st, hge, h, ⟨[], rfl, .refl _ _⟩, hv⟩
  | exit id => intro C Q st a w hge h hv; exact wpIn_exit ⟨st, hge, h, ⟨[], by simp [wr, oBeq_refl], .refl _ _⟩, hv⟩
  | goto l => intro C Q st a w hge h hv; exact hv.elim
  | ret => intro C Q st a w hge h hv; exact wpIn_ret ⟨st, hge, h, trivial, hv⟩
  | refuse s => intro C Q st a w hge h hv; exact hv.elim
  | rangeFunc f ps as b iha ihb => intro C Q st a w hge h hv; exact hv.elim
  | region id ops draw =>
    intro C Q st a w hge h hv
    have := vcRegion_sound (rd := C.rd) (id := id) (ops := ops.toList) (draw := draw) (Q := Post C.N (.region id ops draw) Q st) (ws := wrOps ops.toList) hm (fun _ hi => hi) hge
      (K := fun st' w' => Q .normal st' w' ∧ st'.ge = []) (st := st) (a := a) (w := w)
      (fun st' a' w' ha hf hk => ⟨st', hk.2, ha, ⟨wrOps ops.toList, rfl, hf⟩, hk.1⟩) h
    simp only [Array.toArray_toList] at this
    refine this ?_
    -- behind a region nothing hangs on a guard
    have key : ∀ (l : List Oper) (st1 : St) (w1 : World), vcOps P C.N ops.toList l (fun st' w' => Q .normal st' w') st1 w1 → vcOps P C.N ops.toList l (fun st' w' => Q .normal st' w' ∧ st'.ge = []) st1 w1 := by
      have heq : ∀ (l : List Oper) (st1 : St) (w1 : World), vcOps P C.N ops.toList l (fun st' w' => Q .normal st' w') st1 w1 = vcOps P C.N ops.toList l (fun st' w' => Q .normal st' w' ∧ st'.ge = []) st1 w1 := by
        intro l
        induction l with
        | nil => intro st1 w1; simp [vcOps]
        | cons o r ih =>
          have ih' : vcOps P C.N ops.toList r (fun st' w' => Q .normal st' w') = vcOps P C.N ops.toList r (fun st' w' => Q .normal st' w' ∧ st'.ge = []) := by funext st1 w1; exact ih st1 w1
          intro st1 w1
          simp only [vcOps, ih']
      intro l st1 w1 hh
      rw [← heq]; exact hh
    dsimp only [vc] at hv
    unfold vcRegion at hv ⊢
    split at hv
    · exact key _ _ _ hv
    · rename_i hdr
      split at hv
      · rename_i hok; exact key _ _ _ hv
      · exact hv.elim
  | cond o x y ihx ihy =>
    intro C Q st a w hge h hv
    have px : ∀ st', ∀ ex a' w', Post C.N x Q st' ex a' w' → Post C.N (.cond o x y) Q st' ex a' w' := by
      rintro st' ex a' w' ⟨s, h1, h2, h3, h4⟩
      refine ⟨s, h1, h2, ?_, h4⟩
      unfold FrX at *
      cases ex with
      | normal => obtain ⟨ws, hw, hf⟩ := h3; obtain ⟨z, hz, hmz⟩ := joinW_left (x := ws) (wr none y); exact ⟨z, by simp only [wr, hw, hz], hf.mono hmz⟩
      | exit id => obtain ⟨ws, hw, hf⟩ := h3; obtain ⟨z, hz, hmz⟩ := joinW_left (x := ws) (wr (some id) y); exact ⟨z, by simp only [wr, hw, hz], hf.mono hmz⟩
      | _ => trivial
    have py : ∀ st', ∀ ex a' w', Post C.N y Q st' ex a' w' → Post C.N (.cond o x y) Q st' ex a' w' := by
      rintro st' ex a' w' ⟨s, h1, h2, h3, h4⟩
      refine ⟨s, h1, h2, ?_, h4⟩
      unfold FrX at *
      cases ex with
      | normal => obtain ⟨ws, hw, hf⟩ := h3; obtain ⟨z, hz, hmz⟩ := joinW_right (wr none x) (y := ws); exact ⟨z, by simp only [wr, hw, hz], hf.mono hmz⟩
      | exit id => obtain ⟨ws, hw, hf⟩ := h3; obtain ⟨z, hz, hmz⟩ := joinW_right (wr (some id) x) (y := ws); exact ⟨z, by simp only [wr, hw, hz], hf.mono hmz⟩
      | _ => trivial
    unfold vc at hv
    split at hv
    · rename_i ho; exact wpIn_cond_true (ev_sound h (.nil a) ho) (wpIn_mono (ihx C Q st a w hge h hv) (px st))
    · rename_i ho; exact wpIn_cond_false (ev_sound h (.nil a) ho) (wpIn_mono (ihy C Q st a w hge h hv) (py st))
    · rename_i g ho
      refine wpIn_cond_split (t := g) (ev_sound h (.nil a) ho) (fun hg => ?_) (fun hg => ?_)
      · exact wpIn_mono (ihx C Q st a w hge h (hv.1 hg)) (px st)
      · exact wpIn_mono (ihy C Q st a w hge h (hv.2 hg)) (py st)
    · exact hv.elim
  | block id b ih =>
    intro C Q st a w hge h hv
    unfold vc at hv
    refine wpIn_block (wpIn_mono (ih C _ st a w hge h hv) ?_)
    rintro ex a' w' ⟨s, h1, h2, h3, h4⟩
    cases ex with
    | normal =>
      refine ⟨s, h1, h2, ?_, h4⟩
      obtain ⟨ws, hw, hf⟩ := h3
      obtain ⟨z, hz, hmz⟩ := joinW_left (x := ws) (wr (some id) b)
      exact ⟨z, by simp only [wr, isN, hw, hz], hf.mono hmz⟩
    | exit j =>
      simp only at h4
      by_cases hj : j = id
      · subst hj
        rw [nbeq.2 rfl] at h4
        simp only [Exit.inBlock, if_true]
        refine ⟨s, h1, h2, ?_, h4⟩
        obtain ⟨ws, hw, hf⟩ := h3
        obtain ⟨z, hz, hmz⟩ := joinW_right (wr none b) (y := ws)
        exact ⟨z, by simp only [wr, isN, hw, hz], hf.mono hmz⟩
      · rw [nbeq_no.2 hj] at h4
        simp only [Exit.inBlock, hj, if_false]
        refine ⟨s, h1, h2, ?_, h4⟩
        obtain ⟨ws, hw, hf⟩ := h3
        exact ⟨ws, by simp only [wr, isN, oBeq, nbeq_no.2 hj, hw], hf⟩
    | goto l => exact ⟨s, h1, h2, trivial, h4⟩
    | ret => exact ⟨s, h1, h2, trivial, h4⟩
    | panic ch => exact ⟨s, h1, h2, trivial, h4⟩
    | outgrown => exact ⟨s, h1, h2, trivial, h4⟩
  | scope b ih =>
    intro C Q st a w hge h hv
    unfold vc at hv
    refine wpIn_scope (wpIn_mono (ih C _ st a w hge h hv) ?_)
    rintro ex a' w' ⟨s, h1, h2, h3, h4⟩
    cases ex with
    | normal => exact ⟨s, h1, h2, h3, h4⟩
    | exit j => exact ⟨s, h1, h2, h3, h4⟩
    | goto l => exact h4.elim
    | ret => exact ⟨s, h1, h2, trivial, h4⟩
    | panic ch => exact ⟨s, h1, h2, trivial, h4⟩
    | outgrown => exact ⟨s, h1, h2, trivial, h4⟩
  | seq x y ihx ihy =>
    intro C Q st a w hge h hv
    unfold vc at hv
    split at hv
    · refine wpIn_seq (wpIn_mono (ihx C _ st a w hge h hv) ?_)
      rintro ex a' w' ⟨s, h1, h2, h3, h4⟩
      cases ex with
      | normal =>
        obtain ⟨ws, hw, hf⟩ := h3
        refine wpIn_mono (ihy C Q s a' w' h1 h2 h4) ?_
        rintro ex2 a2 w2 ⟨s2, k1, k2, k3, k4⟩
        exact ⟨s2, k1, k2, frX_seq_right hw hf k3, k4⟩
      | exit j => exact ⟨s, h1, h2, frX_seq_left h3, h4⟩
      | goto l => exact ⟨s, h1, h2, trivial, h4⟩
      | ret => exact ⟨s, h1, h2, trivial, h4⟩
      | panic ch => exact ⟨s, h1, h2, trivial, h4⟩
      | outgrown => exact ⟨s, h1, h2, trivial, h4⟩
    · split at hv
      · refine wpIn_seq (wpIn_mono (ihx C _ st a w hge h hv) ?_)
        rintro ex a' w' ⟨s, h1, h2, h3, h4⟩
        cases ex with
        | normal => exact h4.elim
        | exit j => exact ⟨s, h1, h2, frX_seq_left h3, h4⟩
        | goto l => exact ⟨s, h1, h2, trivial, h4⟩
        | ret => exact ⟨s, h1, h2, trivial, h4⟩
        | panic ch => exact ⟨s, h1, h2, trivial, h4⟩
        | outgrown => exact ⟨s, h1, h2, trivial, h4⟩
      · rename_i ws hws
        split at hv
        · exact hv.elim
        · rename_i slots hslots
          obtain ⟨J, hv1, hv2⟩ := hv
          refine wpIn_seq (wpIn_mono (ihx C _ st a w hge h hv1) ?_)
          rintro ex a' w' ⟨s, h1, h2, h3, h4⟩
          cases ex with
          | normal =>
            obtain ⟨ws', hw, hf⟩ := h3
            have : ws' = ws := by rw [hws] at hw; cases hw; rfl
            subst this
            simp only at h4
            split at h4
            · rename_i vs hvs
              obtain ⟨st1, hst1, hag, hge1, hf1⟩ := head_of_vals (named_in hslots) hf h2 hvs
              have hb := AllL_at hv2 h4 w' h4
              rw [hst1] at hb
              refine wpIn_mono (ihy C Q st1 a' w' hge1 hag hb) ?_
              rintro ex2 a2 w2 ⟨s2, k1, k2, k3, k4⟩
              exact ⟨s2, k1, k2, frX_seq_right hw hf1 k3, k4⟩
            · exact h4.elim
          | exit j => exact ⟨s, h1, h2, frX_seq_left h3, h4⟩
          | goto l => exact ⟨s, h1, h2, trivial, h4⟩
          | ret => exact ⟨s, h1, h2, trivial, h4⟩
          | panic ch => exact ⟨s, h1, h2, trivial, h4⟩
          | outgrown => exact ⟨s, h1, h2, trivial, h4⟩
  | loop b ih =>
    intro C Q st a w hge h hv
    unfold vc at hv
    have out : ∀ (ex : Exit) (s1 s : St) (zs : List (Nat × TypeId)), (∀ zs', wr none b = some zs' → zs' = zs) → Fr zs st s1 → (wr none b = none → s1 = st) → FrX b ex s1 s → ex ≠ .normal → FrX (.loop b) ex st s := by
      intro ex s1 s zs hzs hf1 hnone hx hne
      unfold FrX at *
      cases ex with
      | normal => exact absurd rfl hne
      | exit id =>
        obtain ⟨ws, hw, hf⟩ := hx
        simp only [wr, isN, hw]
        cases hb : wr none b with
        | none => rw [hnone hb] at hf; exact ⟨ws, rfl, hf⟩
        | some zs' =>
          have := hzs zs' hb
          subst this
          exact ⟨zs' ++ ws, rfl, (hf1.mono fun i hi => app_left i hi).trans (hf.mono fun i hi => app_right i hi)⟩
      | _ => trivial
    split at hv
    · rename_i hb
      refine wpIn_loop_ghost (fun _ a' w' => a' = a ∧ w' = w) (n := 0) ?_ ⟨rfl, rfl⟩
      rintro n a' w' ⟨rfl, rfl⟩
      refine wpIn_mono (ih C _ st a' w' hge h hv) ?_
      rintro ex a2 w2 ⟨s, h1, h2, h3, h4⟩
      cases ex with
      | normal => exact h4.elim
      | exit j => exact ⟨s, h1, h2, out _ st s [] (fun zs' hz => by rw [hb] at hz; cases hz) (.refl _ _) (fun _ => rfl) h3 (by simp), h4⟩
      | goto l => exact ⟨s, h1, h2, trivial, h4⟩
      | ret => exact ⟨s, h1, h2, trivial, h4⟩
      | panic ch => exact ⟨s, h1, h2, trivial, h4⟩
      | outgrown => exact ⟨s, h1, h2, trivial, h4⟩
    · rename_i ws hws
      split at hv
      · exact hv.elim
      · rename_i slots hslots
        split at hv
        · exact hv.elim
        · rename_i vs0 hvs0
          obtain ⟨I, M, hI0, hall⟩ := hv
          obtain ⟨st0, hst0, hag0, hge0, hf0⟩ := head_of_vals (carry_in hslots) (.refl ws st) h hvs0
          refine wpIn_loop_ghost (fun n a' w' => ∃ vs st1, headSt st ws slots vs = some st1 ∧ Agree C.N st1 a' ∧ st1.ge = [] ∧ Fr ws st st1 ∧ atI I vs w' ∧ atN M vs w' = n) (n := atN M vs0 w) ?_
            ⟨vs0, st0, hst0, hag0, hge0, hf0, hI0, rfl⟩
          rintro n a' w' ⟨vs, st1, hst1, hag, hge1, hf1, hI, rfl⟩
          have hb := AllL_at hall hI w' hI
          rw [hst1] at hb
          refine wpIn_mono (ih C _ st1 a' w' hge1 hag hb) ?_
          rintro ex a2 w2 ⟨s, h1, h2, h3, h4⟩
          have hx : ex ≠ .normal → FrX (.loop b) ex st s := fun hne =>
            out ex st1 s ws (fun zs' hz => by rw [hws] at hz; cases hz; rfl) hf1 (fun hn => by rw [hws] at hn; cases hn) h3 hne
          cases ex with
          | normal =>
            obtain ⟨ws', hw, hf⟩ := h3
            have : ws' = ws := by rw [hws] at hw; cases hw; rfl
            subst this
            simp only at h4
            split at h4
            · rename_i vs' hvs'
              obtain ⟨st2, hst2, hag2, hge2, hf2⟩ := head_of_vals (carry_in hslots) (hf1.trans hf) h2 hvs'
              exact ⟨_, h4.2, vs', st2, hst2, hag2, hge2, hf2, h4.1, rfl⟩
            · exact h4.elim
          | exit j => exact ⟨s, h1, h2, hx (by simp), h4⟩
          | goto l => exact ⟨s, h1, h2, hx (by simp), h4⟩
          | ret => exact ⟨s, h1, h2, hx (by simp), h4⟩
          | panic ch => exact ⟨s, h1, h2, hx (by simp), h4⟩
          | outgrown => exact ⟨s, h1, h2, hx (by simp), h4⟩

/-! ### Functions -/
theorem resVC_run {N : Nat} {st : St} {a : Act} {w : World} (h : Agree N st a) : ∀ {rs : List ResultVar} {F : List SV → Prop}, resVC P st w rs F →
    ∃ xs, F xs ∧ ∀ g : ResultVar → Sem Value, (∀ t, g (.tmp t) = pure (a.tmps.getD t undef)) → (∀ d t, g (.cell d t) = do loadVar t (← asAddr (a.tmps.getD d undef))) → (rs.mapM g).run P w = .ok (dens xs) w := by
  intro rs
  induction rs with
  | nil => intro F hF; exact ⟨[], hF, fun g _ _ => by simp [dens]⟩
  | cons r rs ih =>
    intro F hF
    cases r with
    | tmp t =>
      dsimp only [resVC] at hF
      split at hF
      · rename_i x hx
        obtain ⟨xs, hF, hxs⟩ := ih hF
        refine ⟨x :: xs, hF, fun g g1 g2 => ?_⟩
        simp only [List.mapM_cons, Sem.run_bind, g1, Sem.run_pure, Result.andThen_ok, hxs g g1 g2, h.e _ _ hx, dens]
      · exact hF.elim
    | cell d t =>
      dsimp only [resVC] at hF
      split at hF
      · rename_i x ty hx hty
        obtain ⟨b, o, hp, hF⟩ := asPtr_out hF
        obtain ⟨vs, hl, hc, hF⟩ := loadL_out hF
        split at hF
        · rename_i y hy
          obtain ⟨xs, hF, hxs⟩ := ih hF
          refine ⟨y :: xs, hF, fun g g1 g2 => ?_⟩
          have hd := h.e _ _ hx
          rw [hp] at hd
          simp only [List.mapM_cons, Sem.run_bind, g2, Sem.run_pure, Result.andThen_ok, hd, asAddr, run_loadVar hty hl w hc hy, hxs g g1 g2, dens]
        · exact hF.elim
      · exact hF.elim

theorem ofResults_den (xs : List SV) : (ofResults xs).den = (if h : (dens xs).toArray.size = 1 then (dens xs).toArray[0] else .tuple (dens xs).toArray) := by
  have hd : ∀ l : List SV, dens l = l.map SV.den := by intro l; induction l <;> simp_all [dens]
  cases xs with
  | nil => simp [ofResults, dens, SV.den]
  | cons x r =>
    cases r with
    | nil => simp [ofResults, dens]
    | cons y r => simp [ofResults, dens, SV.den, hd]

theorem initE_get : ∀ (args : List Value) (k i : Nat) (x : SV), lkE (initE args k) i = some x → k ≤ i ∧ ∃ v, args[i - k]? = some v ∧ x.den = v := by
  intro args
  induction args with
  | nil => intro k i x h; simp [initE, lkE] at h
  | cons v r ih =>
    intro k i x h
    simp only [initE, lkE] at h
    split at h
    · rename_i hb
      cases h
      have := nbeq.1 hb
      subst this
      refine ⟨Nat.le_refl _, v, by simp, ?_⟩
      cases v <;> rfl
    · obtain ⟨h1, u, h2, h3⟩ := ih (k + 1) i x h
      refine ⟨by omega, u, ?_, h3⟩
      rw [show i - k = (i - (k + 1)) + 1 by omega]
      simpa using h2

theorem leaves_unD {fn : Func} {tmps : Array Value} {R : Ending → World → Prop} {F : World → Prop} {n : Nat} {Fe : Fence} :
    ∀ (ds : List Nat) (w : World), unD ds w F → (∀ w', F w' → ∃ v, (results fn tmps).run P w' = .ok v w' ∧ R (.returned v) w') →
      LeavesInM Fe n P fn tmps R (ds.map fun r => { target := .collected r, args := #[] }) .returning w := by
  intro ds
  induction ds with
  | nil => intro w hu hF; exact hF w hu
  | cons d r ih =>
    intro w hu hF
    refine ⟨by simp, .inl ⟨d, _, rfl, run_takeDeferred hu.1, ih _ hu.2 hF⟩⟩

theorem retQ_post {fn : Func} {R : Ending → World → Prop} {N : Nat} {c : Code} {st0 : St} {Fe : Fence} {n : Nat} : ∀ ex a w, Post N c (retQ P fn R) st0 ex a w → bodyPostM Fe n P fn R ex a w := by
  have main : ∀ st a w, Agree N st a → (unD st.ds w fun w' => resVC P st w' fn.results.toList fun xs => R (.returned (ofResults xs).den) w') →
      LeavesInM Fe n P fn a.tmps R a.defers .returning w := by
    intro st a w hag hq
    rw [hag.defers]
    refine leaves_unD st.ds w hq fun w' hr => ?_
    obtain ⟨xs, hR, hrun⟩ := resVC_run hag hr
    refine ⟨_, ?_, hR⟩
    unfold results
    rw [Sem.run_bind, Array.mapM_eq_mapM_toList]
    simp only [Sem.run_map]
    rw [hrun _ (fun t => rfl) (fun d t => rfl)]
    simp only [Result.andThen_ok, Sem.run_pure, ofResults_den]
  rintro ex a w ⟨st, _, hag, _, hq⟩
  cases ex with
  | normal => exact main st a w hag hq
  | ret => exact main st a w hag hq
  | _ => exact hq.elim

/-- **A FUNCTION's CONTRACT OUT OF ITS VERIFICATION CONDITION.** -/
theorem calls_of_vc {f : FuncId} {fn : Func} {args : List Value} {w : World} {R : Ending → World → Prop} (cuts : List Nat) (hm : P.follows .mixedOrders = true)
    (hf : P.funcs[f]? = some fn) (hv : vcFn P cuts fn args w R) : Calls P f args.toArray w R := by
  unfold vcFn at hv
  split at hv
  · exact hv.elim
  · rename_i c hb
    split at hv
    · rename_i hle
      have hle := Nat.le_of_ble_eq_true hle
      have hag : Agree (cfgOf cuts fn).N { e := initE args 0, ge := [], ds := [] } { tmps := args.toArray ++ Array.replicate (fn.ntmps - args.toArray.size) undef, defers := [] } := by
        refine ⟨by simp [cfgOf]; omega, rfl, ?_, fun i d hd => by simp [lkG] at hd, fun i d hd => by simp [lkG] at hd⟩
        intro i x hx
        obtain ⟨_, v, hv1, hv2⟩ := initE_get args 0 i x hx
        rw [hv2]
        simp only [Nat.sub_zero] at hv1
        have hi : i < args.length := (List.getElem?_eq_some_iff.1 hv1).1
        simp [Array.getD_eq_getD_getElem?, Array.getElem?_append, hi]
        exact (List.getElem?_eq_some_iff.1 hv1).2
      have := vc_sound hm c (cfgOf cuts fn) (retQ P fn R) _ _ w rfl hag hv
      exact (callsIn_wide (n := 0)).1 (callsIn_of_wp_marks (F := Fence.wide) hf hb trivial (wpIn_mono this retQ_post))
    · exact hv.elim
end

end Go.Vc
