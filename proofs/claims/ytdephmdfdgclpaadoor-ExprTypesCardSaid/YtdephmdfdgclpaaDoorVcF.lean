/- Soundness of the generator, part F: codes and functions. -/
import Derived.Test.YtdephmdfdgclpaaDoorVcE
namespace Go.Vc
open Go

section
variable {P : Program} {rd : Option Nat} {Q : Exit → Act → World → Prop}

/-! ### Tables of the environment -/
def inK : List (Nat × Option SV) → Nat → Bool
  | [], _ => false
  | p :: r, i => match Nat.beq p.1 i with | true => true | false => inK r i

theorem lkE_append (a b : List (Nat × Option SV)) (i : Nat) : lkE (a ++ b) i = if inK a i then lkE a i else lkE b i := by
  induction a with
  | nil => simp [inK]
  | cons p r ih =>
    obtain ⟨j, x⟩ := p
    cases hb : Nat.beq j i <;> simp [lkE, inK, hb, ih]

theorem inK_blank (ws : List (Nat × TypeId)) (i : Nat) : inK (blank ws) i = inW ws i := by
  induction ws with
  | nil => rfl
  | cons p r ih => simp only [blank, inK, inW]; split <;> simp_all

theorem lkE_blank (ws : List (Nat × TypeId)) (i : Nat) : lkE (blank ws) i = none := by
  induction ws with
  | nil => rfl
  | cons p r ih => simp only [blank, lkE]; split <;> simp_all

theorem cellsAs_ofCells {agg : Bool} {x : Value} {cs : List Value} (h : cellsAs agg x = some cs) : ∃ y, ofCells agg cs = some y ∧ y.den = x := by
  unfold cellsAs at h
  split at h
  · cases h; exact ⟨_, rfl, by simp [SV.den]⟩
  · cases h
  · cases h; exact ⟨_, rfl, rfl⟩

theorem setSlots_spec {N : Nat} {st' : St} {a : Act} (h : Agree N st' a) : ∀ {slots : List (Nat × Ty)} {vs : List Value}, slotVals st' slots = some vs →
    ∃ es, setSlots slots vs = some es ∧ (∀ i x, lkE es i = some x → a.tmps.getD i undef = x.den) ∧ (∀ i, inK es i = true → inS slots i = true) ∧ vs.length = (lsOf slots).length := by
  intro slots
  induction slots with
  | nil => intro vs hv; simp only [slotVals, Option.some.injEq] at hv; subst hv; exact ⟨[], rfl, fun i x hx => by simp [lkE] at hx, fun i hi => by simp [inK] at hi, rfl⟩
  | cons p r ih =>
    intro vs hv
    unfold slotVals at hv
    split at hv
    · rename_i x vs' hx hvs'
      split at hv
      · rename_i cs hcs
        split at hv
        · rename_i hlen
          cases hv
          have hl := nbeq.1 hlen
          obtain ⟨es, hes, he1, he2, he3⟩ := ih hvs'
          obtain ⟨y, hy, hyd⟩ := cellsAs_ofCells hcs
          have e1 : (cs ++ vs').take p.2.ls.length = cs := by rw [← hl]; simp
          have e2 : (cs ++ vs').drop p.2.ls.length = vs' := by rw [← hl]; simp
          refine ⟨(p.1, some y) :: es, by simp only [setSlots, e1, e2, hy, hes], ?_, ?_, by simp [lsOf, hl, he3]⟩
          · intro i z hz
            simp only [lkE] at hz
            split at hz
            · rename_i hb
              cases hz
              rw [hyd, ← nbeq.1 hb]
              exact h.e _ _ hx
            · exact he1 i z hz
          · intro i hi
            simp only [inK, inS] at hi ⊢
            split at hi
            · rename_i hb; rw [hb]
            · rename_i hb; rw [hb]; exact he2 i hi
        · cases hv
      · cases hv
    · cases hv

theorem carry_in {st : St} : ∀ {ws : List (Nat × TypeId)} {slots : List (Nat × Ty)}, carry P st ws = some slots → ∀ i, inS slots i = true → inW ws i = true := by
  intro ws
  induction ws with
  | nil => intro slots h i hi; simp only [carry, Option.some.injEq] at h; subst h; simp [inS] at hi
  | cons p r ih =>
    intro slots h i hi
    have up : ∀ acc, carry P st r = some acc → inS acc i = true → inW (p :: r) i = true := fun acc ha hs => by
      unfold inW; split
      · rfl
      · exact ih ha i hs
    unfold carry at h
    split at h
    · cases h
    · rename_i acc hacc
      split at h
      · cases h; exact up _ hacc hi
      · cases h; exact up _ hacc hi
      · split at h
        · cases h
          simp only [inS] at hi
          split at hi
          · rename_i hb; simp only [inW, hb]
          · exact up _ hacc hi
        · cases h

theorem named_in {nm : List Bool} : ∀ {ws : List (Nat × TypeId)} {slots : List (Nat × Ty)}, named P nm ws = some slots → ∀ i, inS slots i = true → inW ws i = true := by
  intro ws
  induction ws with
  | nil => intro slots h i hi; simp only [named, Option.some.injEq] at h; subst h; simp [inS] at hi
  | cons p r ih =>
    intro slots h i hi
    have up : ∀ acc, named P nm r = some acc → inS acc i = true → inW (p :: r) i = true := fun acc ha hs => by
      unfold inW; split
      · rfl
      · exact ih ha i hs
    unfold named at h
    split at h
    · cases h
    · rename_i acc hacc
      split at h
      · split at h
        · cases h
          simp only [inS] at hi
          split at hi
          · rename_i hb; simp only [inW, hb]
          · exact up _ hacc hi
        · cases h
      · cases h; exact up _ hacc hi

/-- What stays of the environment (but for the blocks for deferred calls). -/
def FrE (ws : List (Nat × TypeId)) (st st' : St) : Prop := ∀ i, inW ws i = false → lkE st'.e i = lkE st.e i

theorem FrE.refl (ws : List (Nat × TypeId)) (st : St) : FrE ws st st := fun _ _ => rfl
theorem FrE.trans {ws : List (Nat × TypeId)} {x y z : St} (h : FrE ws x y) (k : FrE ws y z) : FrE ws x z := fun i hi => (k i hi).trans (h i hi)
theorem FrE.mono {ws ws' : List (Nat × TypeId)} {x y : St} (h : FrE ws x y) (hs : ∀ i, inW ws' i = false → inW ws i = false) : FrE ws' x y := fun i hi => h i (hs i hi)

/-- The environment at a loop's head, or behind a cut. -/
theorem head_of_vals {N : Nat} {st st' : St} {a : Act} {ws : List (Nat × TypeId)} {slots : List (Nat × Ty)} {vs : List Value} (hin : ∀ i, inS slots i = true → inW ws i = true)
    (hf : FrE ws st st') (h : Agree N st' a) (hv : slotVals st' slots = some vs) :
    ∃ st1, headSt st ws slots vs = some st1 ∧ Agree N { st1 with ds := st'.ds } a ∧ st1.ge = [] ∧ FrE ws st st1 ∧ st1.ds = st.ds := by
  obtain ⟨es, hes, he1, he2, _⟩ := setSlots_spec h hv
  refine ⟨{ e := es ++ (blank ws ++ st.e), ge := [], ds := st.ds }, by simp only [headSt, hes], ⟨h.size, h.defers, ?_, fun i d hd => by simp [lkG] at hd, fun i d hd => by simp [lkG] at hd⟩, rfl, ?_, rfl⟩
  · intro i x hx
    simp only [lkE_append, inK_blank] at hx
    split at hx
    · exact he1 i x hx
    · split at hx
      · rw [lkE_blank] at hx; cases hx
      · rename_i hb
        have hi : inW ws i = false := by simpa using hb
        exact h.e i x ((hf i hi).trans hx)
  · intro i hi
    simp only [lkE_append, inK_blank, hi]
    have : inK es i = false := by
      cases hk : inK es i with
      | false => rfl
      | true => rw [hin i (he2 i hk)] at hi; cases hi
    simp [this]

theorem AllL_app {R : Type} : ∀ {ls : List Leaf} {F : List Value → Prop} {f : Tel R ls} {vs : List Value} {p : R}, AllL ls F → app ls f vs = some p → F vs := by
  intro ls
  induction ls with
  | nil =>
    intro F f vs p h ha
    cases vs with
    | nil => exact h
    | cons v r => simp [app] at ha
  | cons l r ih =>
    intro F f vs p h ha
    cases vs with
    | nil => cases l <;> simp [app] at ha
    | cons v vs =>
      cases l with
      | int k =>
        cases v <;> simp only [app, reduceCtorEq] at ha
        split at ha
        · rename_i hk; have := kid_inj hk; subst this; exact ih (F := fun vs => F (_ :: vs)) (h _) ha
        · cases ha
      | bool => cases v <;> simp only [app, reduceCtorEq] at ha; exact ih (F := fun vs => F (_ :: vs)) (h _) ha
      | str => cases v <;> simp only [app, reduceCtorEq] at ha; exact ih (F := fun vs => F (_ :: vs)) (h _) ha
      | slc => cases v <;> simp only [app, reduceCtorEq] at ha; exact ih (F := fun vs => F (_ :: vs)) (h _ _ _) ha
      | ptr => cases v <;> simp only [app, reduceCtorEq] at ha; exact ih (F := fun vs => F (_ :: vs)) (h _) ha
      | map => cases v <;> simp only [app, reduceCtorEq] at ha; exact ih (F := fun vs => F (_ :: vs)) (h _) ha
      | any => exact ih (F := fun vs => F (_ :: vs)) (h v) (by simpa only [app] using ha)

theorem AllL_intro : ∀ {ls : List Leaf} {F : List Value → Prop}, (∀ vs, F vs) → AllL ls F := by
  intro ls
  induction ls with
  | nil => intro F h; exact h []
  | cons l r ih =>
    intro F h
    cases l with
    | int k => intro n; exact ih (F := fun vs => F (_ :: vs)) fun vs => h _
    | bool => intro n; exact ih (F := fun vs => F (_ :: vs)) fun vs => h _
    | str => intro n; exact ih (F := fun vs => F (_ :: vs)) fun vs => h _
    | slc => intro p n c; exact ih (F := fun vs => F (_ :: vs)) fun vs => h _
    | ptr => intro n; exact ih (F := fun vs => F (_ :: vs)) fun vs => h _
    | map => intro n; exact ih (F := fun vs => F (_ :: vs)) fun vs => h _
    | any => intro n; exact ih (F := fun vs => F (_ :: vs)) fun vs => h _

theorem AllL_at {ls : List Leaf} {F : List Value → Prop} {I : Tel (World → Prop) ls} {vs : List Value} {w : World} (h : AllL ls F) (hi : atI I vs w) : F vs := by
  unfold atI at hi
  split at hi
  · rename_i p hp; exact AllL_app h hp
  · exact hi.elim

/-! ### The laws of control that the kit lacks in this form -/
theorem exists_least (p : Nat → Prop) (h : ∃ n, p n) : ∃ n, p n ∧ ∀ m, p m → n ≤ m := by
  obtain ⟨n, hn⟩ := h
  induction n using Nat.strongRecOn with
  | _ n ih =>
    by_cases hm : ∃ m, m < n ∧ p m
    · obtain ⟨m, hlt, hp⟩ := hm; exact ih m hlt hp
    · exact ⟨n, hn, fun m hp => Nat.le_of_not_lt fun hlt => hm ⟨m, hlt, hp⟩⟩

open Classical in
theorem wpIn_loop_ghost {F : Fence} {n0 : Nat} {c : Code} (G : Nat → Act → World → Prop)
    (step : ∀ n a w, G n a w → c.wpIn F n0 P (Exit.then (fun a' w' => ∃ n', n' < n ∧ G n' a' w') Q) a w) {n : Nat} {a : Act} {w : World} (h : G n a w) : (Code.loop c).wpIn F n0 P Q a w := by
  refine wpIn_loop (fun a w => ∃ n, G n a w) (fun a w => if h : ∃ n, G n a w then (exists_least _ h).choose else 0) ⟨n, h⟩ ?_
  intro a w hI
  have hs := (exists_least _ hI).choose_spec
  refine wpIn_mono (step _ a w hs.1) fun e a' w' hq => ?_
  cases e with
  | normal =>
    obtain ⟨n', hlt, hg⟩ := hq
    have hI' : ∃ n, G n a' w' := ⟨n', hg⟩
    refine ⟨hI', ?_⟩
    rw [dif_pos hI', dif_pos hI]
    have := (exists_least _ hI').choose_spec.2 n' hg
    omega
  | _ => exact hq

theorem stepR_scope {b : Frame} {a : Act} {k : List Item} {cs : List Frame} {w : World} {c : Code} :
    step P (lone (b.atR a (.code (.scope c) :: k)) cs w) = .next (lone (b.atR a (.code c :: .inScope c :: k)) cs w) :=
  step_lone_go (by simp [stepG, stepG.exec, Frame.atR])

theorem stepR_inScope {b : Frame} {a : Act} {k : List Item} {cs : List Frame} {w : World} {c : Code} :
    step P (lone (b.atR a (.inScope c :: k)) cs w) = .next (lone (b.atR a k) cs w) :=
  step_lone_go (by simp [stepG, stepG.exec, Frame.atR])

theorem wpIn_scope {F : Fence} {n : Nat} {c : Code} {a : Act} {w : World} (h : c.wpIn F n P (fun e a w => match e with | .goto _ => False | e => Q e a w) a w) : (Code.scope c).wpIn F n P Q a w := by
  intro b k cs hro hb hr
  have h0 : (lone (b.atR a (.code (.scope c) :: k)) cs w).fenced P F := fenced_calm hb hr rfl
  obtain ⟨e, a₁, w₁, hq, harr⟩ := h b (.inScope c :: k) cs hro hb hr
  cases e with
  | normal => exact ⟨.normal, a₁, w₁, hq, .head h0 stepR_scope (StepsIn.trans harr (.one (fenced_calm hb hr rfl) stepR_inScope))⟩
  | exit id =>
    have hx : exitTo id (.inScope c :: k) = exitTo id k := by simp [exitTo]
    exact ⟨.exit id, a₁, w₁, hq, fun k' hk => .head h0 stepR_scope (harr.1 k' (by rw [hx]; exact hk)),
      fun hr' hk => let ⟨k₁, h1, h2⟩ := harr.2 hr' (by rw [hx]; exact hk); ⟨k₁, h1, .head h0 stepR_scope h2⟩⟩
  | goto l => exact hq.elim
  | ret => exact ⟨_, a₁, w₁, hq, .of_steps (.one h0 stepR_scope) harr⟩
  | panic ch => exact ⟨_, a₁, w₁, hq, .of_steps (.one h0 stepR_scope) harr⟩
  | outgrown => exact ⟨_, a₁, w₁, hq, .of_steps (b := b) (k := k) (cs := cs) (e := .outgrown) (.one h0 stepR_scope) harr⟩

/-! ### Codes -/
/-- What stays of the environment, by the way in which a code is left. -/
def FrW (c : Code) (ex : Exit) (st st' : St) : Prop :=
  match ex with
  | .normal => ∃ ws, wr none c = some ws ∧ FrE ws st st'
  | .exit id => ∃ ws, wr (some id) c = some ws ∧ FrE ws st st'
  | _ => True

structure FrX (C : Cfg) (c : Code) (ex : Exit) (st st' : St) : Prop where
  e : FrW c ex st st'
  ds : pushes C (hasRg c) = false → st'.ds = st.ds

theorem oBeq_refl (t : Option Nat) : oBeq t t = true := by cases t <;> simp [oBeq, nbeq.2]
theorem oBeq_some {a b : Nat} : oBeq (some a) (some b) = Nat.beq a b := rfl

theorem joinW_left {x : List (Nat × TypeId)} (y : Option (List (Nat × TypeId))) : ∃ z, joinW (some x) y = some z ∧ ∀ i, inW z i = false → inW x i = false := by
  cases y with
  | none => exact ⟨x, rfl, fun _ h => h⟩
  | some y => exact ⟨x ++ y, rfl, fun i h => by rw [inW_append] at h; simp at h; exact h.1⟩

theorem joinW_right (x : Option (List (Nat × TypeId))) {y : List (Nat × TypeId)} : ∃ z, joinW x (some y) = some z ∧ ∀ i, inW z i = false → inW y i = false := by
  cases x with
  | none => exact ⟨y, rfl, fun _ h => h⟩
  | some x => exact ⟨x ++ y, rfl, fun i h => by rw [inW_append] at h; simp at h; exact h.2⟩

theorem app_left {x y : List (Nat × TypeId)} (i : Nat) (h : inW (x ++ y) i = false) : inW x i = false := by rw [inW_append] at h; simp at h; exact h.1
theorem app_right {x y : List (Nat × TypeId)} (i : Nat) (h : inW (x ++ y) i = false) : inW y i = false := by rw [inW_append] at h; simp at h; exact h.2

theorem pushes_or {C : Cfg} {x y : Bool} (h : pushes C (orB x y) = false) : pushes C x = false ∧ pushes C y = false := by
  unfold pushes at *
  cases hr : C.rd with
  | none => rw [hr] at h; cases x <;> cases y <;> simp_all [orB]
  | some l => exact ⟨rfl, rfl⟩

/-- The first of two is left by a jump. -/
theorem frW_seq_left {a b : Code} {id : Nat} {st st' : St} (h : FrW a (.exit id) st st') : FrW (.seq a b) (.exit id) st st' := by
  obtain ⟨ws, hw, hf⟩ := h
  unfold FrW
  simp only [wr, isN, hw]
  cases wr none a with
  | none => exact ⟨ws, rfl, hf⟩
  | some x =>
    obtain ⟨z, hz, hm⟩ := joinW_right (match wr (some id) b with | some y => some (x ++ y) | none => none) (y := ws)
    exact ⟨z, hz, hf.mono hm⟩

/-- The first of two goes off its end. -/
theorem frW_seq_right {a b : Code} {ex : Exit} {st st1 st' : St} {x : List (Nat × TypeId)} (hx : wr none a = some x) (h1 : FrE x st st1) (h : FrW b ex st1 st') : FrW (.seq a b) ex st st' := by
  unfold FrW at *
  cases ex with
  | normal =>
    obtain ⟨ws, hw, hf⟩ := h
    refine ⟨x ++ ws, by simp only [wr, hx, isN, hw], (h1.mono fun i hi => app_left i hi).trans (hf.mono fun i hi => app_right i hi)⟩
  | exit id =>
    obtain ⟨ws, hw, hf⟩ := h
    simp only [wr, hx, isN, hw]
    obtain ⟨z, hz, hm⟩ := joinW_left (x := x ++ ws) (wr (some id) a)
    exact ⟨z, hz, (h1.mono fun i hi => app_left i (hm i hi)).trans (hf.mono fun i hi => app_right i (hm i hi))⟩
  | _ => trivial

/-- What a code achieves. -/
def Post (C : Cfg) (c : Code) (Q : Exit → St → World → Prop) (st : St) : Exit → Act → World → Prop :=
  fun ex a' w' => ∃ st', st'.ge = [] ∧ Agree C.N st' a' ∧ FrX C c ex st st' ∧ Q ex st' w'

theorem withB_out {C : Cfg} {b : Bool} {K : Nat → Prop} (h : withB C b K) : ∃ B, K B := by
  unfold withB at h
  split at h
  · exact h
  · exact ⟨_, h⟩

theorem opens_iff {C : Cfg} {b : Bool} {B : Nat} {ds : List Nat} {w : World} {X : Prop} : opens C b B ds w X ↔ ((pushes C b = true → Open B ds w) ∧ X) := by
  unfold opens
  cases pushes C b <;> simp

theorem allDs_at {C : Cfg} {b : Bool} {B : Nat} {ds ds' : List Nat} {w : World} {K : List Nat → Prop} (h : allDs C b B ds w K) (ho : pushes C b = true → Open B ds' w) (he : pushes C b = false → ds' = ds) : K ds' := by
  unfold allDs at h
  cases hp : pushes C b with
  | true => rw [hp] at h; exact h ds' (ho hp)
  | false => rw [hp] at h; rw [he hp]; exact h

theorem frE_ds {ws : List (Nat × TypeId)} {st st' : St} {ds : List Nat} (h : FrE ws st st') : FrE ws st { st' with ds := ds } := h

/-! ### A range over a function -/
def stOf : Nat → LoopState
  | 0 => .ready
  | 1 => .busy
  | 2 => .exhausted
  | k + 3 => if k % 2 = 0 then .done else .exhausted
def pendOf : Nat → Option Code
  | 0 => none
  | 1 => none
  | 2 => none
  | 3 => some .ret
  | 4 => some .ret
  | k + 5 => some (.exit (k / 2))

theorem parTys_spec {as : List Oper} : ∀ {ps : List Nat} {ts : List (Nat × Ty)}, parTys P as ps = some ts → keysOf ts = ps := by
  intro ps
  induction ps with
  | nil => intro ts h; simp only [parTys, Option.some.injEq] at h; subst h; rfl
  | cons t r ih =>
    intro ts h
    unfold parTys at h
    split at h
    · rename_i ty ts' _ hts
      split at h
      · cases h; simp [keysOf, ih hts]
      · cases h
    · rename_i ts' _ hts
      cases h; simp [keysOf, ih hts]
    · cases h

theorem packL_length : ∀ {ts : List (Nat × Ty)} {vs : List Value} {xs : List SV}, packL ts vs = some xs → xs.length = ts.length := by
  intro ts
  induction ts with
  | nil => intro vs xs h; simp only [packL, Option.some.injEq] at h; subst h; rfl
  | cons p r ih =>
    intro vs xs h
    unfold packL at h
    split at h
    · rename_i x xs' _ hxs; cases h; simp [ih hxs]
    · cases h

theorem dens_length (xs : List SV) : (dens xs).length = xs.length := by induction xs <;> simp_all [dens]

theorem zipE_spec : ∀ {ts : List (Nat × Ty)} {xs : List SV} {tmps : Array Value} (i : Nat) (x : SV), noDup (keysOf ts) = true → (∀ k ∈ keysOf ts, k < tmps.size) → xs.length = ts.length →
    (lkE (zipE ts xs) i = some x → (((keysOf ts).zip (dens xs)).foldl (fun (tmps : Array Value) (t, a) => tmps.setIfInBounds t a) tmps).getD i undef = x.den) ∧
    (inK (zipE ts xs) i = false → (((keysOf ts).zip (dens xs)).foldl (fun (tmps : Array Value) (t, a) => tmps.setIfInBounds t a) tmps).getD i undef = tmps.getD i undef) ∧
    (((keysOf ts).zip (dens xs)).foldl (fun (tmps : Array Value) (t, a) => tmps.setIfInBounds t a) tmps).size = tmps.size := by
  intro ts
  induction ts with
  | nil => intro xs tmps i x _ _ hl; cases xs <;> simp [zipE, lkE, keysOf]
  | cons p r ih =>
    intro xs tmps i x hd hk hl
    cases xs with
    | nil => simp at hl
    | cons y ys =>
      have hd' : noDup (keysOf r) = true ∧ p.1 ∉ keysOf r := by
        simp only [keysOf] at hd
        unfold noDup at hd
        split at hd
        · cases hd
        · rename_i hm
          refine ⟨hd, fun hc => ?_⟩
          rw [memN_iff.2 hc] at hm; cases hm
      have hp : p.1 < tmps.size := hk p.1 (by simp [keysOf])
      have hks : ∀ k ∈ keysOf r, k < (tmps.setIfInBounds p.1 y.den).size := fun k hk' => by simpa using hk k (by simp [keysOf, hk'])
      obtain ⟨i1, i2, i3⟩ := ih (xs := ys) (tmps := tmps.setIfInBounds p.1 y.den) i x hd'.1 hks (by simpa using hl)
      simp only [keysOf, dens, List.zip_cons_cons, List.foldl_cons, zipE, lkE, inK]
      refine ⟨fun h => ?_, fun h => ?_, by rw [i3]; simp⟩
      · split at h
        · rename_i hb
          cases h
          have hb := nbeq.1 hb
          have hno : inK (zipE r ys) i = false := by
            have : ∀ (r : List (Nat × Ty)) (ys : List SV), i ∉ keysOf r → inK (zipE r ys) i = false := by
              intro r
              induction r with
              | nil => intro ys _; cases ys <;> rfl
              | cons q r ihr =>
                intro ys hi
                cases ys with
                | nil => rfl
                | cons z zs =>
                  simp only [keysOf, List.mem_cons, not_or] at hi
                  simp only [zipE, inK, nbeq_no.2 (Ne.symm hi.1), ihr zs hi.2]
            exact this r ys (by rw [← hb]; exact hd'.2)
          rw [i2 hno, getD_set hp, if_pos hb]
        · exact i1 h
      · split at h
        · cases h
        · rename_i hb
          rw [i2 h, getD_set hp, if_neg (nbeq_no.1 hb)]

theorem round_agree {N : Nat} {st : St} {a : Act} {ps : Array Tmp} {ts : List (Nat × Ty)} {xs : List SV} (h : Agree N st a) (hk : keysOf ts = ps.toList) (hok : parsOk N (keysOf ts) = true) (hl : xs.length = ts.length) :
    Agree N { e := zipE ts xs ++ st.e, ge := [], ds := [] } { tmps := (ps.zip (dens xs).toArray).foldl (fun tmps (t, a) => tmps.setIfInBounds t a) a.tmps, defers := [] } := by
  have hok' : noDup (keysOf ts) = true ∧ ∀ k ∈ keysOf ts, k < a.tmps.size := by
    unfold parsOk at hok
    split at hok
    · rename_i h1
      refine ⟨h1, fun k hk => ?_⟩
      rw [h.size]
      exact Nat.lt_of_succ_le (Nat.le_of_ble_eq_true (allB_iff.1 hok k hk))
    · cases hok
  have hfold : (ps.zip (dens xs).toArray).foldl (fun (tmps : Array Value) (t, a) => tmps.setIfInBounds t a) a.tmps = ((keysOf ts).zip (dens xs)).foldl (fun (tmps : Array Value) (t, a) => tmps.setIfInBounds t a) a.tmps := by
    rw [hk, ← Array.foldl_toList, Array.toList_zip]
  refine ⟨?_, rfl, ?_, fun i d hd => by simp [lkG] at hd, fun i d hd => by simp [lkG] at hd⟩
  · show Array.size _ = N
    rw [hfold, (zipE_spec (ts := ts) (xs := xs) (tmps := a.tmps) 0 (.b true) hok'.1 hok'.2 hl).2.2, h.size]
  · intro i x hx
    show Array.getD _ i undef = _
    rw [hfold]
    obtain ⟨i1, i2, _⟩ := zipE_spec (ts := ts) (xs := xs) (tmps := a.tmps) i x hok'.1 hok'.2 hl
    simp only [lkE_append] at hx
    split at hx
    · exact i1 hx
    · rename_i hno
      rw [i2 (by simpa using hno)]
      exact h.e i x hx

theorem OrIds_out {F : Nat → Prop} : ∀ {l : List Nat}, OrIds F False l → ∃ id, F id := by
  intro l
  induction l with
  | nil => intro h; exact h.elim
  | cons i r ih => 
    intro h
    rcases h with h | h
    · exact ⟨i, h⟩
    · exact ih h

theorem ranged_out {r : Nat → Loop} {l : Nat} {ret : Bool} {exs : List Nat} {Q : Exit → St → World → Prop} {st' : St} {W : World} (h : ranged r l ret exs Q st' W) :
    (Rec r l 0 W ∧ Q .normal st' (turn r l 2 W)) ∨ (Rec r l 3 W ∧ Q .ret st' (turn r l 4 W)) ∨ ∃ id, Rec r l (5 + 2 * id) W ∧ Q (.exit id) st' (turn r l (6 + 2 * id) W) := by
  unfold ranged at h
  rcases h with h | h
  · exact .inl h
  · split at h
    · rcases h with h | h
      · exact .inr (.inl h)
      · exact .inr (.inr (OrIds_out h))
    · exact .inr (.inr (OrIds_out h))

/-- One round. -/
theorem round_sound {asg body : Code} {C : Cfg} {st : St} {a : Act} {l : Nat} {ps : Array Tmp} {ts : List (Nat × Ty)} {r : Nat → Loop} {fn df : Nat}
    (hr : r = fun k => { state := stOf k, pending := pendOf k, fn := fn, tmps := a.tmps, params := ps, assign := asg, body := body, defers := df })
    (iha : ∀ (C : Cfg) (Q : Exit → St → World → Prop) (st : St) (a : Act) (w : World), st.ge = [] → Agree C.N st a → vc P C asg Q st w → asg.wpIn (FW C.rd) 0 P (Post C asg Q st) a w)
    (ihb : ∀ (C : Cfg) (Q : Exit → St → World → Prop) (st : St) (a : Act) (w : World), st.ge = [] → Agree C.N st a → vc P C body Q st w → body.wpIn (FW C.rd) 0 P (Post C body Q st) a w)
    (h : Agree C.N st a) (hk : keysOf ts = ps.toList) (hok : parsOk C.N (keysOf ts) = true) {xs : List SV} (hl : xs.length = ts.length) {W : World} {R : Bool → World → Prop} (h0 : Rec r l 0 W)
    (hv : vc P { C with rd := some l } asg (fun ex st2 Wa => match ex with
        | .normal => Rec r l 0 Wa ∧ ∀ Wb : World, Wb = turn r l 1 Wa → vc P { C with rd := some l } body (fun ex _ W3 => Rec r l 1 W3 ∧ (match ex with
          | .normal => R true (turn r l 0 W3)
          | .ret => R false (turn r l 3 W3)
          | .exit id => R false (turn r l (5 + 2 * id) W3)
          | _ => False)) st2 Wb
        | _ => False) { e := zipE ts xs ++ st.e, ge := [], ds := [] } W) :
    Yield P l (dens xs).toArray W R := by
  intro rd'
  have hsz : (dens xs).toArray.size = (r 0).params.size := by
    rw [hr]
    simp only [List.size_toArray, dens_length, hl]
    have := congrArg List.length hk
    have hkl : ∀ ts : List (Nat × Ty), (keysOf ts).length = ts.length := by intro ts; induction ts <;> simp_all [keysOf]
    rw [hkl] at this
    simpa using this
  have hy := run_yield (P := P) (args := (dens xs).toArray) h0 hsz
  rw [hr] at hy
  refine ⟨_, _, _, _, hy, roundIn_of_wpIn trivial ?_⟩
  have hwp := iha { C with rd := some l } _ _ _ W rfl (round_agree h hk hok hl) hv
  refine wpIn_mono hwp ?_
  rintro ex a1 Wa ⟨s, g1, g2, g3, g4⟩
  cases ex with
  | normal =>
    obtain ⟨hrec, hvb⟩ := g4
    refine ⟨turn r l 1 Wa, ?_, ?_⟩
    · have := run_beginRound (P := P) hrec (by rw [hr]; rfl)
      rw [this]
      unfold turn
      rw [hr]
      rfl
    · refine wpIn_mono (ihb { C with rd := some l } _ s a1 _ g1 g2 (hvb _ rfl)) ?_
      rintro ex a3 W3 ⟨s3, k1, k2, k3, k4⟩
      obtain ⟨hb, hR⟩ := k4
      cases ex with
      | normal => exact ⟨_, _, run_endRound (P := P) none hb, true, rfl, by rw [hr] at hR ⊢; exact hR⟩
      | ret => exact ⟨_, _, run_endRound (P := P) (some .ret) hb, false, rfl, by rw [hr] at hR ⊢; exact hR⟩
      | exit id =>
        refine ⟨_, _, run_endRound (P := P) (some (.exit id)) hb, false, rfl, ?_⟩
        have e1 : stOf (5 + 2 * id) = .done := by
          rw [show 5 + 2 * id = (2 + 2 * id) + 3 by omega]; simp only [stOf]; rw [if_pos (by omega)]
        have e2 : pendOf (5 + 2 * id) = some (.exit id) := by
          rw [show 5 + 2 * id = (2 * id) + 5 by omega]; simp only [pendOf]; rw [show 2 * id / 2 = id by omega]
        unfold turn at hR
        rw [hr] at hR ⊢
        simp only [e1, e2] at hR
        exact hR
      | _ => exact hR.elim
  | _ => exact g4.elim

/-- Behind the iterator. -/
theorem behind {asg body : Code} {l : Nat} {ps : Array Tmp} {r : Nat → Loop} {fn df : Nat} {tmps : Array Value}
    (hr : r = fun k => { state := stOf k, pending := pendOf k, fn := fn, tmps := tmps, params := ps, assign := asg, body := body, defers := df })
    {C : Cfg} {f : Operand} {Q : Exit → St → World → Prop} {st st' : St} {a' : Act} {ret : Bool} {exs : List Nat} {W : World} (hge : st'.ge = []) (hag : Agree C.N st' a') (he : st'.e = st.e) (hds : C.rd.isSome = true → st'.ds = st.ds)
    (hR : ranged r l ret exs Q st' W) (v : Value) : rangePost (FW C.rd) 0 P l (Post C (.rangeFunc f ps asg body) Q st) a' (.returned v) W := by
  have frx : ∀ ex, FrX C (.rangeFunc f ps asg body) ex st st' := fun ex => by
    refine ⟨?_, fun hp => ?_⟩
    · unfold FrW
      cases ex <;> first | trivial | exact ⟨[], by simp [wr], fun i _ => by rw [he]⟩
    · cases hrd : C.rd with
      | none => simp [pushes, hrd, hasRg] at hp
      | some l => exact hds (by rw [hrd]; rfl)
  rcases ranged_out hR with ⟨h0, hQ⟩ | ⟨h0, hQ⟩ | ⟨id, h0, hQ⟩
  · have := run_endLoop (P := P) h0 (by rw [hr]; simp [stOf])
    refine ⟨_, _, this, ?_⟩
    unfold turn at hQ
    rw [hr] at hQ ⊢
    exact ⟨st', hge, hag, frx _, hQ⟩
  · have := run_endLoop (P := P) h0 (by rw [hr]; simp [stOf])
    refine ⟨_, _, this, ?_⟩
    unfold turn at hQ
    rw [hr] at hQ ⊢
    exact wpIn_ret ⟨st', hge, hag, frx _, hQ⟩
  · have e1 : stOf (5 + 2 * id) = .done := by
      rw [show 5 + 2 * id = (2 + 2 * id) + 3 by omega]; simp only [stOf]; rw [if_pos (by omega)]
    have e2 : pendOf (5 + 2 * id) = some (.exit id) := by
      rw [show 5 + 2 * id = (2 * id) + 5 by omega]; simp only [pendOf]; rw [show 2 * id / 2 = id by omega]
    have e3 : stOf (6 + 2 * id) = .exhausted := by
      rw [show 6 + 2 * id = (3 + 2 * id) + 3 by omega]; simp only [stOf]; rw [if_neg (by omega)]
    have e4 : pendOf (6 + 2 * id) = some (.exit id) := by
      rw [show 6 + 2 * id = (1 + 2 * id) + 5 by omega]; simp only [pendOf]; rw [show (1 + 2 * id) / 2 = id by omega]
    have := run_endLoop (P := P) h0 (by rw [hr]; simp [e1])
    refine ⟨_, _, this, ?_⟩
    unfold turn at hQ
    rw [hr] at hQ ⊢
    simp only [e2, e3, e4] at hQ ⊢
    exact wpIn_exit ⟨st', hge, hag, frx _, hQ⟩

theorem range_sound {f : Operand} {ps : Array Tmp} {asg body : Code}
    (iha : ∀ (C : Cfg) (Q : Exit → St → World → Prop) (st : St) (a : Act) (w : World), st.ge = [] → Agree C.N st a → vc P C asg Q st w → asg.wpIn (FW C.rd) 0 P (Post C asg Q st) a w)
    (ihb : ∀ (C : Cfg) (Q : Exit → St → World → Prop) (st : St) (a : Act) (w : World), st.ge = [] → Agree C.N st a → vc P C body Q st w → body.wpIn (FW C.rd) 0 P (Post C body Q st) a w)
    {C : Cfg} {Q : Exit → St → World → Prop} {st : St} {a : Act} {w : World} (hge : st.ge = []) (h : Agree C.N st a) (hv : vc P C (.rangeFunc f ps asg body) Q st w) :
    (Code.rangeFunc f ps asg body).wpIn (FW C.rd) 0 P (Post C (.rangeFunc f ps asg body) Q st) a w := by
  unfold vc at hv
  split at hv
  · rename_i fv ts hf hts
    have hk := parTys_spec hts
    split at hv
    · rename_i hok
      obtain ⟨g, lb, rfl, hen, hv⟩ := hv
      have hg : a.eval f = .func (.func g) #[] lb := by rw [ev_sound h (.nil a) hf, den_v]
      have eargs : ∀ l : Nat, (#[.func (.yield l) #[] #[]] ++ lb : Array Value) = (.func (.yield l) #[] #[] :: lb.toList).toArray := fun l => by apply Array.ext'; simp
      split at hv
      · rename_i hrd
        rw [hrd]
        refine wpIn_rangeFunc fun fn _ => ?_
        obtain ⟨r, hr⟩ : ∃ r : Nat → Loop, r = fun k => { state := stOf k, pending := pendOf k, fn := fn, tmps := a.tmps, params := ps, assign := asg, body := body, defers := w.heap.size } := ⟨_, rfl⟩
        have hcall := hv r w.heap.size (w.heap.size + 1) _ ⟨rfl, rfl, rfl⟩ ?_
        · refine ⟨w.heap.size + 1, [{ target := .collected w.heap.size, args := #[] }], (w.alloc (.deferred (some []))).alloc (.loop (r 0)), { target := .fn (.func g) lb, args := #[.func (.yield (w.heap.size + 1)) #[] #[]] },
            (w.alloc (.deferred (some []))).alloc (.loop (r 0)), g, #[.func (.yield (w.heap.size + 1)) #[] #[]] ++ lb, (w.alloc (.deferred (some []))).alloc (.loop (r 0)), ?_, ?_, ?_, ?_, fun h => by simp [FW] at h, ?_⟩
          · rw [hr]; exact run_enterLoop_outer _ _ _ _ _
          · simp only [resolve, hg]
            simp [go_sem]
          · intro f' _; trivial
          · simp [invoke, go_sem, run_enter hen]
          · rw [eargs]
            refine callsIn_FW (hcall.mono ?_)
            rintro e W ⟨⟨v, rfl⟩, hR⟩
            have := behind (P := P) (C := C) (f := f) (st := st) (st' := { st with ds := w.heap.size :: st.ds }) (a' := { a with defers := [{ target := .collected w.heap.size, args := #[] }] ++ a.defers }) hr hge
              ⟨h.size, by simp [h.defers], h.e, h.g, h.u⟩ rfl (fun hs => by rw [hrd] at hs; cases hs) hR v
            rw [hrd] at this
            exact this
        · -- the rounds
          refine AllL_intro fun vs => ?_
          split
          · trivial
          · rename_i xs hxs
            intro W R h0 hvr
            exact round_sound (fn := fn) (df := w.heap.size) hr iha ihb h hk hok (packL_length hxs) h0 hvr
      · rename_i l0 hrd
        obtain ⟨⟨q, hq⟩, hv⟩ := hv
        rw [hrd]
        refine wpIn_rangeFunc fun fn _ => ?_
        obtain ⟨r, hr⟩ : ∃ r : Nat → Loop, r = fun k => { state := stOf k, pending := pendOf k, fn := fn, tmps := a.tmps, params := ps, assign := asg, body := body, defers := q.defers } := ⟨_, rfl⟩
        have hcall := hv r w.heap.size _ ⟨rfl, rfl⟩ ?_
        · refine ⟨w.heap.size, [], w.alloc (.loop (r 0)), { target := .fn (.func g) lb, args := #[.func (.yield w.heap.size) #[] #[]] },
            w.alloc (.loop (r 0)), g, #[.func (.yield w.heap.size) #[] #[]] ++ lb, w.alloc (.loop (r 0)), ?_, ?_, ?_, ?_, fun h => by simp [FW] at h, ?_⟩
          · rw [hr]; exact run_enterLoop_inner hq _ _ _ _ _
          · simp only [resolve, hg]
            simp [go_sem]
          · intro f' _; trivial
          · simp [invoke, go_sem, run_enter hen]
          · rw [eargs]
            refine callsIn_FW (hcall.mono ?_)
            rintro e W ⟨⟨v, rfl⟩, hR⟩
            have := behind (P := P) (C := C) (f := f) (st := st) (st' := st) (a' := { a with defers := [] ++ a.defers }) hr hge
              ⟨h.size, by simp [h.defers], h.e, h.g, h.u⟩ rfl (fun _ => rfl) hR v
            rw [hrd] at this
            exact this
        · -- the rounds
          refine AllL_intro fun vs => ?_
          split
          · trivial
          · rename_i xs hxs
            intro W R h0 hvr
            exact round_sound (fn := fn) (df := q.defers) hr iha ihb h hk hok (packL_length hxs) h0 hvr
    · exact hv.elim
  · exact hv.elim

theorem vc_sound (hm : P.follows .mixedOrders = true) : ∀ (c : Code) (C : Cfg) (Q : Exit → St → World → Prop) (st : St) (a : Act) (w : World), st.ge = [] → Agree C.N st a → vc P C c Q st w →
    c.wpIn (FW C.rd) 0 P (Post C c Q st) a w := by
  intro c
  induction c with
  | skip => intro C Q st a w hge h hv; exact wpIn_skip ⟨st, hge, h, ⟨⟨[], rfl, .refl _ _⟩, fun _ => rfl⟩, hv⟩
  | label l => intro C Q st a w hge h hv; exact wpIn_label ⟨st, hge, h, ⟨⟨[], rfl, .refl _ _⟩, fun _ => rfl⟩, hv⟩
  | exit id => intro C Q st a w hge h hv; exact wpIn_exit ⟨st, hge, h, ⟨⟨[], by simp [wr, oBeq_refl], .refl _ _⟩, fun _ => rfl⟩, hv⟩
  | goto l => intro C Q st a w hge h hv; exact hv.elim
  | ret => intro C Q st a w hge h hv; exact wpIn_ret ⟨st, hge, h, ⟨trivial, fun _ => rfl⟩, hv⟩
  | refuse s => intro C Q st a w hge h hv; exact hv.elim
  | rangeFunc f ps as b iha ihb => intro C Q st a w hge h hv; exact range_sound iha ihb hge h hv
  | region id ops draw =>
    intro C Q st a w hge h hv
    have := vcRegion_sound (rd := C.rd) (id := id) (od := lkO C.ords id) (ops := ops.toList) (draw := draw) (Q := Post C (.region id ops draw) Q st) (ws := wrOps ops.toList) hm (fun _ hi => hi) hge
      (K := fun st' w' => Q .normal st' w' ∧ st'.ge = []) (st := st) (a := a) (w := w)
      (fun st' a' w' ha hf hk => ⟨st', hk.2, ha, ⟨⟨wrOps ops.toList, rfl, hf.2⟩, fun _ => hf.1⟩, hk.1⟩) h
    simp only [Array.toArray_toList] at this
    refine this ?_
    -- behind a region nothing hangs on a guard
    have heq : ∀ (l : List Oper), vcOps P C.N ops.toList l (fun st' w' => Q .normal st' w') = vcOps P C.N ops.toList l (fun st' w' => Q .normal st' w' ∧ st'.ge = []) := by
      intro l
      induction l with
      | nil => funext st1 w1; simp [vcOps]
      | cons o r ih => funext st1 w1; simp only [vcOps, ih]
    have heq2 : ∀ (l : OT), vcOrd P C.N ops.toList l (fun st' w' => Q .normal st' w') = vcOrd P C.N ops.toList l (fun st' w' => Q .normal st' w' ∧ st'.ge = []) := by
      intro l
      induction l with
      | nil => funext st1 w1; simp [vcOrd]
      | one o r ih => funext st1 w1; simp only [vcOrd, ih]
      | alt s t ihs iht => funext st1 w1; simp only [vcOrd, ihs, iht]
    dsimp only [vc] at hv
    unfold vcRegion at hv ⊢
    split at hv
    · rw [← heq]; exact hv
    · split at hv
      · intro w' hw'; rw [← heq2]; exact hv w' hw'
      · exact hv.elim
  | cond o x y ihx ihy =>
    intro C Q st a w hge h hv
    have px : ∀ st', ∀ ex a' w', Post C x Q st' ex a' w' → Post C (.cond o x y) Q st' ex a' w' := by
      rintro st' ex a' w' ⟨s, h1, h2, ⟨h3, h3d⟩, h4⟩
      refine ⟨s, h1, h2, ⟨?_, fun hp => h3d (pushes_or hp).1⟩, h4⟩
      unfold FrW at *
      cases ex with
      | normal => obtain ⟨ws, hw, hf⟩ := h3; obtain ⟨z, hz, hmz⟩ := joinW_left (x := ws) (wr none y); exact ⟨z, by simp only [wr, hw, hz], hf.mono hmz⟩
      | exit id => obtain ⟨ws, hw, hf⟩ := h3; obtain ⟨z, hz, hmz⟩ := joinW_left (x := ws) (wr (some id) y); exact ⟨z, by simp only [wr, hw, hz], hf.mono hmz⟩
      | _ => trivial
    have py : ∀ st', ∀ ex a' w', Post C y Q st' ex a' w' → Post C (.cond o x y) Q st' ex a' w' := by
      rintro st' ex a' w' ⟨s, h1, h2, ⟨h3, h3d⟩, h4⟩
      refine ⟨s, h1, h2, ⟨?_, fun hp => h3d (pushes_or hp).2⟩, h4⟩
      unfold FrW at *
      cases ex with
      | normal => obtain ⟨ws, hw, hf⟩ := h3; obtain ⟨z, hz, hmz⟩ := joinW_right (wr none x) (y := ws); exact ⟨z, by simp only [wr, hw, hz], hf.mono hmz⟩
      | exit id => obtain ⟨ws, hw, hf⟩ := h3; obtain ⟨z, hz, hmz⟩ := joinW_right (wr (some id) x) (y := ws); exact ⟨z, by simp only [wr, hw, hz], hf.mono hmz⟩
      | _ => trivial
    unfold vc at hv
    split at hv
    · rename_i ho; exact wpIn_cond_true (ev_sound h (.nil a) ho) (wpIn_mono (ihx C Q st a w hge h hv) (px st))
    · rename_i ho; exact wpIn_cond_false (ev_sound h (.nil a) ho) (wpIn_mono (ihy C Q st a w hge h hv) (py st))
    · rename_i v _ _ ho
      split at hv
      · rename_i g hg0
        refine wpIn_cond_split (t := g.val) (by rw [ev_sound h (.nil a) ho, cndOf_den hg0]) (fun hg => ?_) (fun hg => ?_)
        · exact wpIn_mono (ihx C Q st a w hge h (hv.1 (Cnd.is_of hg))) (px st)
        · exact wpIn_mono (ihy C Q st a w hge h (hv.2 (Cnd.is_of hg))) (py st)
      · exact hv.elim
    · exact hv.elim
  | block id b ih =>
    intro C Q st a w hge h hv
    unfold vc at hv
    refine wpIn_block (wpIn_mono (ih C _ st a w hge h hv) ?_)
    rintro ex a' w' ⟨s, h1, h2, ⟨h3, h3d⟩, h4⟩
    cases ex with
    | normal =>
      refine ⟨s, h1, h2, ⟨?_, h3d⟩, h4⟩
      obtain ⟨ws, hw, hf⟩ := h3
      obtain ⟨z, hz, hmz⟩ := joinW_left (x := ws) (wr (some id) b)
      exact ⟨z, by simp only [wr, isN, hw, hz], hf.mono hmz⟩
    | exit j =>
      simp only at h4
      by_cases hj : j = id
      · subst hj
        rw [nbeq.2 rfl] at h4
        simp only [Exit.inBlock, if_true]
        refine ⟨s, h1, h2, ⟨?_, h3d⟩, h4⟩
        obtain ⟨ws, hw, hf⟩ := h3
        obtain ⟨z, hz, hmz⟩ := joinW_right (wr none b) (y := ws)
        exact ⟨z, by simp only [wr, isN, hw, hz], hf.mono hmz⟩
      · rw [nbeq_no.2 hj] at h4
        simp only [Exit.inBlock, hj, if_false]
        refine ⟨s, h1, h2, ⟨?_, h3d⟩, h4⟩
        obtain ⟨ws, hw, hf⟩ := h3
        exact ⟨ws, by simp only [wr, isN, oBeq, nbeq_no.2 hj, hw], hf⟩
    | goto l => exact ⟨s, h1, h2, ⟨trivial, h3d⟩, h4⟩
    | ret => exact ⟨s, h1, h2, ⟨trivial, h3d⟩, h4⟩
    | panic ch => exact ⟨s, h1, h2, ⟨trivial, h3d⟩, h4⟩
    | outgrown => exact ⟨s, h1, h2, ⟨trivial, h3d⟩, h4⟩
  | scope b ih =>
    intro C Q st a w hge h hv
    unfold vc at hv
    refine wpIn_scope (wpIn_mono (ih C _ st a w hge h hv) ?_)
    rintro ex a' w' ⟨s, h1, h2, ⟨h3, h3d⟩, h4⟩
    cases ex with
    | normal => exact ⟨s, h1, h2, ⟨h3, h3d⟩, h4⟩
    | exit j => exact ⟨s, h1, h2, ⟨h3, h3d⟩, h4⟩
    | goto l => exact h4.elim
    | ret => exact ⟨s, h1, h2, ⟨trivial, h3d⟩, h4⟩
    | panic ch => exact ⟨s, h1, h2, ⟨trivial, h3d⟩, h4⟩
    | outgrown => exact ⟨s, h1, h2, ⟨trivial, h3d⟩, h4⟩
  | seq x y ihx ihy =>
    intro C Q st a w hge h hv
    unfold vc at hv
    have jump : ∀ ex a' w' s, ex ≠ .normal → s.ge = [] → Agree C.N s a' → FrX C x ex st s → Q ex s w' → Post C (.seq x y) Q st ex a' w' := by
      intro ex a' w' s hne h1 h2 h3 h4
      refine ⟨s, h1, h2, ⟨?_, fun hp => h3.ds (pushes_or hp).1⟩, h4⟩
      cases ex with
      | normal => exact absurd rfl hne
      | exit id => exact frW_seq_left h3.e
      | _ => trivial
    split at hv
    · refine wpIn_seq (wpIn_mono (ihx C _ st a w hge h hv) ?_)
      rintro ex a' w' ⟨s, h1, h2, h3, h4⟩
      cases ex with
      | normal =>
        obtain ⟨ws, hw, hf⟩ := h3.e
        refine wpIn_mono (ihy C Q s a' w' h1 h2 h4) ?_
        rintro ex2 a2 w2 ⟨s2, k1, k2, k3, k4⟩
        exact ⟨s2, k1, k2, ⟨frW_seq_right hw hf k3.e, fun hp => (k3.ds (pushes_or hp).2).trans (h3.ds (pushes_or hp).1)⟩, k4⟩
      | exit j => exact jump _ _ _ s (by simp) h1 h2 h3 h4
      | goto l => exact jump _ _ _ s (by simp) h1 h2 h3 h4
      | ret => exact jump _ _ _ s (by simp) h1 h2 h3 h4
      | panic ch => exact jump _ _ _ s (by simp) h1 h2 h3 h4
      | outgrown => exact jump _ _ _ s (by simp) h1 h2 h3 h4
    · split at hv
      · refine wpIn_seq (wpIn_mono (ihx C _ st a w hge h hv) ?_)
        rintro ex a' w' ⟨s, h1, h2, h3, h4⟩
        cases ex with
        | normal => exact h4.elim
        | exit j => exact jump _ _ _ s (by simp) h1 h2 h3 h4
        | goto l => exact jump _ _ _ s (by simp) h1 h2 h3 h4
        | ret => exact jump _ _ _ s (by simp) h1 h2 h3 h4
        | panic ch => exact jump _ _ _ s (by simp) h1 h2 h3 h4
        | outgrown => exact jump _ _ _ s (by simp) h1 h2 h3 h4
      · rename_i ws hws
        split at hv
        · exact hv.elim
        · rename_i slots hslots
          obtain ⟨J, hv⟩ := hv
          obtain ⟨B, hv1, hv2⟩ := withB_out hv
          refine wpIn_seq (wpIn_mono (ihx C _ st a w hge h hv1) ?_)
          rintro ex a' w' ⟨s, h1, h2, h3, h4⟩
          cases ex with
          | normal =>
            obtain ⟨ws', hw, hf⟩ := h3.e
            have : ws' = ws := by rw [hws] at hw; cases hw; rfl
            subst this
            rw [opens_iff] at h4
            obtain ⟨hop, h4⟩ := h4
            split at h4
            · rename_i vs hvs
              obtain ⟨st1, hst1, hag, hge1, hf1, hds1⟩ := head_of_vals (named_in hslots) hf h2 hvs
              have hb := AllL_at hv2 h4 w' h4
              rw [hst1] at hb
              have hb' := allDs_at hb hop h3.ds
              refine wpIn_mono (ihy C Q { st1 with ds := s.ds } a' w' hge1 hag hb') ?_
              rintro ex2 a2 w2 ⟨s2, k1, k2, k3, k4⟩
              exact ⟨s2, k1, k2, ⟨frW_seq_right hw (frE_ds hf1) k3.e, fun hp => (k3.ds (pushes_or hp).2).trans (h3.ds (pushes_or hp).1)⟩, k4⟩
            · exact h4.elim
          | exit j => exact jump _ _ _ s (by simp) h1 h2 h3 h4
          | goto l => exact jump _ _ _ s (by simp) h1 h2 h3 h4
          | ret => exact jump _ _ _ s (by simp) h1 h2 h3 h4
          | panic ch => exact jump _ _ _ s (by simp) h1 h2 h3 h4
          | outgrown => exact jump _ _ _ s (by simp) h1 h2 h3 h4
  | loop b ih =>
    intro C Q st a w hge h hv
    unfold vc at hv
    have out : ∀ (ex : Exit) (s1 s : St) (zs : List (Nat × TypeId)), (∀ zs', wr none b = some zs' → zs' = zs) → FrE zs st s1 → (wr none b = none → s1 = st) → FrW b ex s1 s → ex ≠ .normal → FrW (.loop b) ex st s := by
      intro ex s1 s zs hzs hf1 hnone hx hne
      unfold FrW at *
      cases ex with
      | normal => exact absurd rfl hne
      | exit id =>
        obtain ⟨ws, hw, hf⟩ := hx
        simp only [wr, isN, hw]
        cases hb : wr none b with
        | none => rw [hnone hb] at hf; exact ⟨ws, rfl, hf⟩
        | some zs' =>
          have := hzs zs' hb
          subst this
          exact ⟨zs' ++ ws, rfl, (hf1.mono fun i hi => app_left i hi).trans (hf.mono fun i hi => app_right i hi)⟩
      | _ => trivial
    split at hv
    · rename_i hb
      refine wpIn_loop_ghost (fun _ a' w' => a' = a ∧ w' = w) (n := 0) ?_ ⟨rfl, rfl⟩
      rintro n a' w' ⟨rfl, rfl⟩
      refine wpIn_mono (ih C _ st a' w' hge h hv) ?_
      rintro ex a2 w2 ⟨s, h1, h2, h3, h4⟩
      have lv : ex ≠ .normal → FrX C (.loop b) ex st s := fun hne => ⟨out _ st s [] (fun zs' hz => by rw [hb] at hz; cases hz) (.refl _ _) (fun _ => rfl) h3.e hne, h3.ds⟩
      cases ex with
      | normal => exact h4.elim
      | exit j => exact ⟨s, h1, h2, lv (by simp), h4⟩
      | goto l => exact ⟨s, h1, h2, lv (by simp), h4⟩
      | ret => exact ⟨s, h1, h2, lv (by simp), h4⟩
      | panic ch => exact ⟨s, h1, h2, lv (by simp), h4⟩
      | outgrown => exact ⟨s, h1, h2, lv (by simp), h4⟩
    · rename_i ws hws
      split at hv
      · exact hv.elim
      · rename_i slots hslots
        split at hv
        · exact hv.elim
        · rename_i vs0 hvs0
          obtain ⟨I, M, hv⟩ := hv
          obtain ⟨B, hI0, hall⟩ := withB_out hv
          rw [opens_iff] at hall
          obtain ⟨hop0, hall⟩ := hall
          obtain ⟨st0, hst0, hag0, hge0, hf0, hds0⟩ := head_of_vals (carry_in hslots) (.refl ws st) h hvs0
          refine wpIn_loop_ghost (fun n a' w' => ∃ vs st1 ds, headSt st ws slots vs = some st1 ∧ Agree C.N { st1 with ds := ds } a' ∧ st1.ge = [] ∧ FrE ws st st1 ∧ atI I vs w' ∧ atN M vs w' = n ∧ (pushes C (hasRg b) = true → Open B ds w') ∧ (pushes C (hasRg b) = false → ds = st.ds) ∧ st1.ds = st.ds) (n := atN M vs0 w) ?_
            ⟨vs0, st0, st.ds, hst0, hag0, hge0, hf0, hI0, rfl, hop0, fun _ => rfl, hds0⟩
          rintro n a' w' ⟨vs, st1, ds, hst1, hag, hge1, hf1, hI, rfl, hop, hdse, hds1⟩
          have hb := AllL_at hall hI w' hI
          rw [hst1] at hb
          have hb' := allDs_at hb hop (ds' := ds) (fun hp => hdse hp)
          refine wpIn_mono (ih C _ { st1 with ds := ds } a' w' hge1 hag hb') ?_
          rintro ex a2 w2 ⟨s, h1, h2, h3, h4⟩
          have hx : ex ≠ .normal → FrX C (.loop b) ex st s := fun hne =>
            ⟨out ex { st1 with ds := ds } s ws (fun zs' hz => by rw [hws] at hz; cases hz; rfl) (frE_ds hf1) (fun hn => by rw [hws] at hn; cases hn) h3.e hne, fun hp => (h3.ds hp).trans (hdse hp)⟩
          cases ex with
          | normal =>
            obtain ⟨ws', hw, hf⟩ := h3.e
            have : ws' = ws := by rw [hws] at hw; cases hw; rfl
            subst this
            rw [opens_iff] at h4
            obtain ⟨hop4, h4⟩ := h4
            split at h4
            · rename_i vs' hvs'
              obtain ⟨st2, hst2, hag2, hge2, hf2, hds2⟩ := head_of_vals (carry_in hslots) ((frE_ds hf1).trans hf) h2 hvs'
              exact ⟨_, h4.2, vs', st2, s.ds, hst2, hag2, hge2, hf2, h4.1, rfl, hop4, fun hp => (h3.ds hp).trans (hdse hp), hds2⟩
            · exact h4.elim
          | exit j => exact ⟨s, h1, h2, hx (by simp), h4⟩
          | goto l => exact ⟨s, h1, h2, hx (by simp), h4⟩
          | ret => exact ⟨s, h1, h2, hx (by simp), h4⟩
          | panic ch => exact ⟨s, h1, h2, hx (by simp), h4⟩
          | outgrown => exact ⟨s, h1, h2, hx (by simp), h4⟩

/-! ### Functions -/
theorem resVC_run {N : Nat} {st : St} {a : Act} {w : World} (h : Agree N st a) : ∀ {rs : List ResultVar} {F : List SV → Prop}, resVC P st w rs F →
    ∃ xs, F xs ∧ ∀ g : ResultVar → Sem Value, (∀ t, g (.tmp t) = pure (a.tmps.getD t undef)) → (∀ d t, g (.cell d t) = do loadVar t (← asAddr (a.tmps.getD d undef))) → (rs.mapM g).run P w = .ok (dens xs) w := by
  intro rs
  induction rs with
  | nil => intro F hF; exact ⟨[], hF, fun g _ _ => by simp [dens]⟩
  | cons r rs ih =>
    intro F hF
    cases r with
    | tmp t =>
      dsimp only [resVC] at hF
      split at hF
      · rename_i x hx
        obtain ⟨xs, hF, hxs⟩ := ih hF
        refine ⟨x :: xs, hF, fun g g1 g2 => ?_⟩
        simp only [List.mapM_cons, Sem.run_bind, g1, Sem.run_pure, Result.andThen_ok, hxs g g1 g2, h.e _ _ hx, dens]
      · exact hF.elim
    | cell d t =>
      dsimp only [resVC] at hF
      split at hF
      · rename_i x ty hx hty
        obtain ⟨b, o, hp, hF⟩ := asPtr_out hF
        obtain ⟨y, hF, hy⟩ := loadT_out hty hF
        obtain ⟨xs, hF, hxs⟩ := ih hF
        refine ⟨y :: xs, hF, fun g g1 g2 => ?_⟩
        have hd := h.e _ _ hx
        rw [hp] at hd
        simp only [List.mapM_cons, Sem.run_bind, g2, Sem.run_pure, Result.andThen_ok, hd, asAddr, hy w (Same.refl w), hxs g g1 g2, dens]
      · exact hF.elim

theorem ofResults_den (xs : List SV) : (ofResults xs).den = (if h : (dens xs).toArray.size = 1 then (dens xs).toArray[0] else .tuple (dens xs).toArray) := by
  have hd : ∀ l : List SV, dens l = l.map SV.den := by intro l; induction l <;> simp_all [dens]
  cases xs with
  | nil => simp [ofResults, dens, SV.den]
  | cons x r =>
    cases r with
    | nil => simp [ofResults, dens]
    | cons y r => simp [ofResults, dens, SV.den, hd]

theorem initE_get : ∀ (args : List Value) (k i : Nat) (x : SV), lkE (initE args k) i = some x → k ≤ i ∧ ∃ v, args[i - k]? = some v ∧ x.den = v := by
  intro args
  induction args with
  | nil => intro k i x h; simp [initE, lkE] at h
  | cons v r ih =>
    intro k i x h
    simp only [initE, lkE] at h
    split at h
    · rename_i hb
      cases h
      have := nbeq.1 hb
      subst this
      exact ⟨Nat.le_refl _, v, by simp, rfl⟩
    · obtain ⟨h1, u, h2, h3⟩ := ih (k + 1) i x h
      refine ⟨by omega, u, ?_, h3⟩
      rw [show i - k = (i - (k + 1)) + 1 by omega]
      simpa using h2

theorem leaves_unD {fn : Func} {tmps : Array Value} {R : Ending → World → Prop} {F : World → Prop} {n : Nat} {Fe : Fence} :
    ∀ (ds : List Nat) (w : World), unD ds w F → (∀ w', F w' → ∃ v, (results fn tmps).run P w' = .ok v w' ∧ R (.returned v) w') →
      LeavesInM Fe n P fn tmps R (ds.map fun r => { target := .collected r, args := #[] }) .returning w := by
  intro ds
  induction ds with
  | nil => intro w hu hF; exact hF w hu
  | cons d r ih =>
    intro w hu hF
    refine ⟨by simp, .inl ⟨d, _, rfl, run_takeDeferred hu.1, ih _ hu.2 hF⟩⟩

theorem retQ_post {fn : Func} {R : Ending → World → Prop} {C : Cfg} {c : Code} {st0 : St} {Fe : Fence} {n : Nat} : ∀ ex a w, Post C c (retQ P fn R) st0 ex a w → bodyPostM Fe n P fn R ex a w := by
  have main : ∀ st a w, Agree C.N st a → (unD st.ds w fun w' => resVC P st w' fn.results.toList fun xs => R (.returned (ofResults xs).den) w') →
      LeavesInM Fe n P fn a.tmps R a.defers .returning w := by
    intro st a w hag hq
    rw [hag.defers]
    refine leaves_unD st.ds w hq fun w' hr => ?_
    obtain ⟨xs, hR, hrun⟩ := resVC_run hag hr
    refine ⟨_, ?_, hR⟩
    unfold results
    rw [Sem.run_bind, Array.mapM_eq_mapM_toList]
    simp only [Sem.run_map]
    rw [hrun _ (fun t => rfl) (fun d t => rfl)]
    simp only [Result.andThen_ok, Sem.run_pure, ofResults_den]
  rintro ex a w ⟨st, _, hag, _, hq⟩
  cases ex with
  | normal => exact main st a w hag hq
  | ret => exact main st a w hag hq
  | _ => exact hq.elim

/-- **A FUNCTION's CONTRACT OUT OF ITS VERIFICATION CONDITION.** -/
theorem calls_of_vc {f : FuncId} {fn : Func} {args : List Value} {w : World} {R : Ending → World → Prop} (cuts : List Nat) (ords : List (Nat × List Nat)) (hm : P.follows .mixedOrders = true)
    (hf : P.funcs[f]? = some fn) (hv : vcFn P cuts ords fn args w R) : Calls P f args.toArray w R := by
  unfold vcFn at hv
  split at hv
  · exact hv.elim
  · rename_i c hb
    split at hv
    · rename_i hle
      have hle := Nat.le_of_ble_eq_true hle
      have hag : Agree (cfgOf cuts ords fn).N { e := initE args 0, ge := [], ds := [] } { tmps := args.toArray ++ Array.replicate (fn.ntmps - args.toArray.size) undef, defers := [] } := by
        refine ⟨by simp [cfgOf]; omega, rfl, ?_, fun i d hd => by simp [lkG] at hd, fun i d hd => by simp [lkG] at hd⟩
        intro i x hx
        obtain ⟨_, v, hv1, hv2⟩ := initE_get args 0 i x hx
        rw [hv2]
        simp only [Nat.sub_zero] at hv1
        have hi : i < args.length := (List.getElem?_eq_some_iff.1 hv1).1
        simp [Array.getD_eq_getD_getElem?, Array.getElem?_append, hi]
        exact (List.getElem?_eq_some_iff.1 hv1).2
      have := vc_sound hm c (cfgOf cuts ords fn) (retQ P fn R) _ _ w rfl hag hv
      exact (callsIn_wide (n := 0)).1 (callsIn_of_wp_marks (F := Fence.wide) hf hb trivial (wpIn_mono this retQ_post))
    · exact hv.elim
end

end Go.Vc
