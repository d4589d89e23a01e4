/- Texts of the proof, one behind the other. -/
import Derived.Test.YtdephmdfdgclpaaDoorMa
import Derived.Test.YtdephmdfdgclpaaDoorProg
set_option linter.unusedVariables false
set_option linter.unusedSimpArgs false
/- Soundness of the generator, part F: codes and functions. -/
namespace Go.Vc
open Go

section
variable {P : Program} {rd : Option Nat} {Q : Exit → Act → World → Prop}

/-! ### Tables of the environment -/
def inK : List (Nat × Option SV) → Nat → Bool
  | [], _ => false
  | p :: r, i => match Nat.beq p.1 i with | true => true | false => inK r i

theorem lkE_append (a b : List (Nat × Option SV)) (i : Nat) : lkE (a ++ b) i = if inK a i then lkE a i else lkE b i := by
  induction a with
  | nil => simp [inK]
  | cons p r ih =>
    obtain ⟨j, x⟩ := p
    cases hb : Nat.beq j i <;> simp [lkE, inK, hb, ih]

theorem inK_blank (ws : List (Nat × TypeId)) (i : Nat) : inK (blank ws) i = inW ws i := by
  induction ws with
  | nil => rfl
  | cons p r ih => simp only [blank, inK, inW]; split <;> simp_all

theorem lkE_blank (ws : List (Nat × TypeId)) (i : Nat) : lkE (blank ws) i = none := by
  induction ws with
  | nil => rfl
  | cons p r ih => simp only [blank, lkE]; split <;> simp_all

theorem cellsAs_ofCells {agg : Bool} {x : Value} {cs : List Value} (h : cellsAs agg x = some cs) : ∃ y, ofCells agg cs = some y ∧ y.den = x := by
  unfold cellsAs at h
  split at h
  · cases h; exact ⟨_, rfl, by simp [SV.den]⟩
  · cases h
  · cases h; exact ⟨_, rfl, rfl⟩

theorem setSlots_spec {N : Nat} {st' : St} {a : Act} (h : Agree N st' a) : ∀ {slots : List (Nat × Ty)} {vs : List Value}, slotVals st' slots = some vs →
    ∃ es, setSlots slots vs = some es ∧ (∀ i x, lkE es i = some x → a.tmps.getD i undef = x.den) ∧ (∀ i, inK es i = true → inS slots i = true) ∧ vs.length = (lsOf slots).length := by
  intro slots
  induction slots with
  | nil => intro vs hv; simp only [slotVals, Option.some.injEq] at hv; subst hv; exact ⟨[], rfl, fun i x hx => by simp [lkE] at hx, fun i hi => by simp [inK] at hi, rfl⟩
  | cons p r ih =>
    intro vs hv
    unfold slotVals at hv
    split at hv
    · rename_i x vs' hx hvs'
      split at hv
      · rename_i cs hcs
        split at hv
        · rename_i hlen
          cases hv
          have hl := nbeq.1 hlen
          obtain ⟨es, hes, he1, he2, he3⟩ := ih hvs'
          obtain ⟨y, hy, hyd⟩ := cellsAs_ofCells hcs
          have e1 : (cs ++ vs').take p.2.ls.length = cs := by rw [← hl]; simp
          have e2 : (cs ++ vs').drop p.2.ls.length = vs' := by rw [← hl]; simp
          refine ⟨(p.1, some y) :: es, by simp only [setSlots, e1, e2, hy, hes], ?_, ?_, by simp [lsOf, hl, he3]⟩
          · intro i z hz
            simp only [lkE] at hz
            split at hz
            · rename_i hb
              cases hz
              rw [hyd, ← nbeq.1 hb]
              exact h.e _ _ hx
            · exact he1 i z hz
          · intro i hi
            simp only [inK, inS] at hi ⊢
            split at hi
            · rename_i hb; rw [hb]
            · rename_i hb; rw [hb]; exact he2 i hi
        · cases hv
      · cases hv
    · cases hv

theorem carry_in {st : St} : ∀ {ws : List (Nat × TypeId)} {slots : List (Nat × Ty)}, carry P st ws = some slots → ∀ i, inS slots i = true → inW ws i = true := by
  intro ws
  induction ws with
  | nil => intro slots h i hi; simp only [carry, Option.some.injEq] at h; subst h; simp [inS] at hi
  | cons p r ih =>
    intro slots h i hi
    have up : ∀ acc, carry P st r = some acc → inS acc i = true → inW (p :: r) i = true := fun acc ha hs => by
      unfold inW; split
      · rfl
      · exact ih ha i hs
    unfold carry at h
    split at h
    · cases h
    · rename_i acc hacc
      split at h
      · cases h; exact up _ hacc hi
      · cases h; exact up _ hacc hi
      · split at h
        · cases h
          simp only [inS] at hi
          split at hi
          · rename_i hb; simp only [inW, hb]
          · exact up _ hacc hi
        · cases h

theorem named_in {nm : List Bool} : ∀ {ws : List (Nat × TypeId)} {slots : List (Nat × Ty)}, named P nm ws = some slots → ∀ i, inS slots i = true → inW ws i = true := by
  intro ws
  induction ws with
  | nil => intro slots h i hi; simp only [named, Option.some.injEq] at h; subst h; simp [inS] at hi
  | cons p r ih =>
    intro slots h i hi
    have up : ∀ acc, named P nm r = some acc → inS acc i = true → inW (p :: r) i = true := fun acc ha hs => by
      unfold inW; split
      · rfl
      · exact ih ha i hs
    unfold named at h
    split at h
    · cases h
    · rename_i acc hacc
      split at h
      · split at h
        · cases h
          simp only [inS] at hi
          split at hi
          · rename_i hb; simp only [inW, hb]
          · exact up _ hacc hi
        · cases h
      · cases h; exact up _ hacc hi

/-- What stays of the environment (but for the blocks for deferred calls). -/
def FrE (ws : List (Nat × TypeId)) (st st' : St) : Prop := ∀ i, inW ws i = false → lkE st'.e i = lkE st.e i

theorem FrE.refl (ws : List (Nat × TypeId)) (st : St) : FrE ws st st := fun _ _ => rfl
theorem FrE.trans {ws : List (Nat × TypeId)} {x y z : St} (h : FrE ws x y) (k : FrE ws y z) : FrE ws x z := fun i hi => (k i hi).trans (h i hi)
theorem FrE.mono {ws ws' : List (Nat × TypeId)} {x y : St} (h : FrE ws x y) (hs : ∀ i, inW ws' i = false → inW ws i = false) : FrE ws' x y := fun i hi => h i (hs i hi)

/-- The environment at a loop's head, or behind a cut. -/
theorem head_of_vals {N : Nat} {st st' : St} {a : Act} {ws : List (Nat × TypeId)} {slots : List (Nat × Ty)} {vs : List Value} (hin : ∀ i, inS slots i = true → inW ws i = true)
    (hf : FrE ws st st') (h : Agree N st' a) (hv : slotVals st' slots = some vs) :
    ∃ st1, headSt st ws slots vs = some st1 ∧ Agree N { st1 with ds := st'.ds } a ∧ st1.ge = [] ∧ FrE ws st st1 ∧ st1.ds = st.ds := by
  obtain ⟨es, hes, he1, he2, _⟩ := setSlots_spec h hv
  refine ⟨{ e := es ++ (blank ws ++ st.e), ge := [], ds := st.ds }, by simp only [headSt, hes], ⟨h.size, h.defers, ?_, fun i d hd => by simp [lkG] at hd, fun i d hd => by simp [lkG] at hd⟩, rfl, ?_, rfl⟩
  · intro i x hx
    simp only [lkE_append, inK_blank] at hx
    split at hx
    · exact he1 i x hx
    · split at hx
      · rw [lkE_blank] at hx; cases hx
      · rename_i hb
        have hi : inW ws i = false := by simpa using hb
        exact h.e i x ((hf i hi).trans hx)
  · intro i hi
    simp only [lkE_append, inK_blank, hi]
    have : inK es i = false := by
      cases hk : inK es i with
      | false => rfl
      | true => rw [hin i (he2 i hk)] at hi; cases hi
    simp [this]

theorem AllL_app {R : Type} : ∀ {ls : List Leaf} {F : List Value → Prop} {f : Tel R ls} {vs : List Value} {p : R}, AllL ls F → app ls f vs = some p → F vs := by
  intro ls
  induction ls with
  | nil =>
    intro F f vs p h ha
    cases vs with
    | nil => exact h
    | cons v r => simp [app] at ha
  | cons l r ih =>
    intro F f vs p h ha
    cases vs with
    | nil => cases l <;> simp [app] at ha
    | cons v vs =>
      cases l with
      | int k =>
        cases v <;> simp only [app, reduceCtorEq] at ha
        split at ha
        · rename_i hk; have := kid_inj hk; subst this; exact ih (F := fun vs => F (_ :: vs)) (h _) ha
        · cases ha
      | bool => cases v <;> simp only [app, reduceCtorEq] at ha; exact ih (F := fun vs => F (_ :: vs)) (h _) ha
      | str => cases v <;> simp only [app, reduceCtorEq] at ha; exact ih (F := fun vs => F (_ :: vs)) (h _) ha
      | slc => cases v <;> simp only [app, reduceCtorEq] at ha; exact ih (F := fun vs => F (_ :: vs)) (h _ _ _) ha
      | ptr => cases v <;> simp only [app, reduceCtorEq] at ha; exact ih (F := fun vs => F (_ :: vs)) (h _) ha
      | map => cases v <;> simp only [app, reduceCtorEq] at ha; exact ih (F := fun vs => F (_ :: vs)) (h _) ha
      | any => exact ih (F := fun vs => F (_ :: vs)) (h v) (by simpa only [app] using ha)

theorem AllL_intro : ∀ {ls : List Leaf} {F : List Value → Prop}, (∀ vs, F vs) → AllL ls F := by
  intro ls
  induction ls with
  | nil => intro F h; exact h []
  | cons l r ih =>
    intro F h
    cases l with
    | int k => intro n; exact ih (F := fun vs => F (_ :: vs)) fun vs => h _
    | bool => intro n; exact ih (F := fun vs => F (_ :: vs)) fun vs => h _
    | str => intro n; exact ih (F := fun vs => F (_ :: vs)) fun vs => h _
    | slc => intro p n c; exact ih (F := fun vs => F (_ :: vs)) fun vs => h _
    | ptr => intro n; exact ih (F := fun vs => F (_ :: vs)) fun vs => h _
    | map => intro n; exact ih (F := fun vs => F (_ :: vs)) fun vs => h _
    | any => intro n; exact ih (F := fun vs => F (_ :: vs)) fun vs => h _

theorem AllL_at {ls : List Leaf} {F : List Value → Prop} {I : Tel (World → Prop) ls} {vs : List Value} {w : World} (h : AllL ls F) (hi : atI I vs w) : F vs := by
  unfold atI at hi
  split at hi
  · rename_i p hp; exact AllL_app h hp
  · exact hi.elim

/-! ### The laws of control that the kit lacks in this form -/
theorem exists_least (p : Nat → Prop) (h : ∃ n, p n) : ∃ n, p n ∧ ∀ m, p m → n ≤ m := by
  obtain ⟨n, hn⟩ := h
  induction n using Nat.strongRecOn with
  | _ n ih =>
    by_cases hm : ∃ m, m < n ∧ p m
    · obtain ⟨m, hlt, hp⟩ := hm; exact ih m hlt hp
    · exact ⟨n, hn, fun m hp => Nat.le_of_not_lt fun hlt => hm ⟨m, hlt, hp⟩⟩

open Classical in
theorem wpIn_loop_ghost {F : Fence} {n0 : Nat} {c : Code} (G : Nat → Act → World → Prop)
    (step : ∀ n a w, G n a w → c.wpIn F n0 P (Exit.then (fun a' w' => ∃ n', n' < n ∧ G n' a' w') Q) a w) {n : Nat} {a : Act} {w : World} (h : G n a w) : (Code.loop c).wpIn F n0 P Q a w := by
  refine wpIn_loop (fun a w => ∃ n, G n a w) (fun a w => if h : ∃ n, G n a w then (exists_least _ h).choose else 0) ⟨n, h⟩ ?_
  intro a w hI
  have hs := (exists_least _ hI).choose_spec
  refine wpIn_mono (step _ a w hs.1) fun e a' w' hq => ?_
  cases e with
  | normal =>
    obtain ⟨n', hlt, hg⟩ := hq
    have hI' : ∃ n, G n a' w' := ⟨n', hg⟩
    refine ⟨hI', ?_⟩
    rw [dif_pos hI', dif_pos hI]
    have := (exists_least _ hI').choose_spec.2 n' hg
    omega
  | _ => exact hq

theorem stepR_scope {b : Frame} {a : Act} {k : List Item} {cs : List Frame} {w : World} {c : Code} :
    step P (lone (b.atR a (.code (.scope c) :: k)) cs w) = .next (lone (b.atR a (.code c :: .inScope c :: k)) cs w) :=
  step_lone_go (by simp [stepG, stepG.exec, Frame.atR])

theorem stepR_inScope {b : Frame} {a : Act} {k : List Item} {cs : List Frame} {w : World} {c : Code} :
    step P (lone (b.atR a (.inScope c :: k)) cs w) = .next (lone (b.atR a k) cs w) :=
  step_lone_go (by simp [stepG, stepG.exec, Frame.atR])

theorem wpIn_scope {F : Fence} {n : Nat} {c : Code} {a : Act} {w : World} (h : c.wpIn F n P (fun e a w => match e with | .goto _ => False | e => Q e a w) a w) : (Code.scope c).wpIn F n P Q a w := by
  intro b k cs hro hb hr
  have h0 : (lone (b.atR a (.code (.scope c) :: k)) cs w).fenced P F := fenced_calm hb hr rfl
  obtain ⟨e, a₁, w₁, hq, harr⟩ := h b (.inScope c :: k) cs hro hb hr
  cases e with
  | normal => exact ⟨.normal, a₁, w₁, hq, .head h0 stepR_scope (StepsIn.trans harr (.one (fenced_calm hb hr rfl) stepR_inScope))⟩
  | exit id =>
    have hx : exitTo id (.inScope c :: k) = exitTo id k := by simp [exitTo]
    exact ⟨.exit id, a₁, w₁, hq, fun k' hk => .head h0 stepR_scope (harr.1 k' (by rw [hx]; exact hk)),
      fun hr' hk => let ⟨k₁, h1, h2⟩ := harr.2 hr' (by rw [hx]; exact hk); ⟨k₁, h1, .head h0 stepR_scope h2⟩⟩
  | goto l => exact hq.elim
  | ret => exact ⟨_, a₁, w₁, hq, .of_steps (.one h0 stepR_scope) harr⟩
  | panic ch => exact ⟨_, a₁, w₁, hq, .of_steps (.one h0 stepR_scope) harr⟩
  | outgrown => exact ⟨_, a₁, w₁, hq, .of_steps (b := b) (k := k) (cs := cs) (e := .outgrown) (.one h0 stepR_scope) harr⟩

/-! ### Codes -/
/-- What stays of the environment, by the way in which a code is left. -/
def FrW (c : Code) (ex : Exit) (st st' : St) : Prop :=
  match ex with
  | .normal => ∃ ws, wr none c = some ws ∧ FrE ws st st'
  | .exit id => ∃ ws, wr (some id) c = some ws ∧ FrE ws st st'
  | _ => True

structure FrX (C : Cfg) (c : Code) (ex : Exit) (st st' : St) : Prop where
  e : FrW c ex st st'
  ds : pushes C (hasRg c) = false → st'.ds = st.ds

theorem oBeq_refl (t : Option Nat) : oBeq t t = true := by cases t <;> simp [oBeq, nbeq.2]
theorem oBeq_some {a b : Nat} : oBeq (some a) (some b) = Nat.beq a b := rfl

theorem joinW_left {x : List (Nat × TypeId)} (y : Option (List (Nat × TypeId))) : ∃ z, joinW (some x) y = some z ∧ ∀ i, inW z i = false → inW x i = false := by
  cases y with
  | none => exact ⟨x, rfl, fun _ h => h⟩
  | some y => exact ⟨x ++ y, rfl, fun i h => by rw [inW_append] at h; simp at h; exact h.1⟩

theorem joinW_right (x : Option (List (Nat × TypeId))) {y : List (Nat × TypeId)} : ∃ z, joinW x (some y) = some z ∧ ∀ i, inW z i = false → inW y i = false := by
  cases x with
  | none => exact ⟨y, rfl, fun _ h => h⟩
  | some x => exact ⟨x ++ y, rfl, fun i h => by rw [inW_append] at h; simp at h; exact h.2⟩

theorem app_left {x y : List (Nat × TypeId)} (i : Nat) (h : inW (x ++ y) i = false) : inW x i = false := by rw [inW_append] at h; simp at h; exact h.1
theorem app_right {x y : List (Nat × TypeId)} (i : Nat) (h : inW (x ++ y) i = false) : inW y i = false := by rw [inW_append] at h; simp at h; exact h.2

theorem pushes_or {C : Cfg} {x y : Bool} (h : pushes C (orB x y) = false) : pushes C x = false ∧ pushes C y = false := by
  unfold pushes at *
  cases hr : C.rd with
  | none => rw [hr] at h; cases x <;> cases y <;> simp_all [orB]
  | some l => exact ⟨rfl, rfl⟩

/-- The first of two is left by a jump. -/
theorem frW_seq_left {a b : Code} {id : Nat} {st st' : St} (h : FrW a (.exit id) st st') : FrW (.seq a b) (.exit id) st st' := by
  obtain ⟨ws, hw, hf⟩ := h
  unfold FrW
  simp only [wr, isN, hw]
  cases wr none a with
  | none => exact ⟨ws, rfl, hf⟩
  | some x =>
    obtain ⟨z, hz, hm⟩ := joinW_right (match wr (some id) b with | some y => some (x ++ y) | none => none) (y := ws)
    exact ⟨z, hz, hf.mono hm⟩

/-- The first of two goes off its end. -/
theorem frW_seq_right {a b : Code} {ex : Exit} {st st1 st' : St} {x : List (Nat × TypeId)} (hx : wr none a = some x) (h1 : FrE x st st1) (h : FrW b ex st1 st') : FrW (.seq a b) ex st st' := by
  unfold FrW at *
  cases ex with
  | normal =>
    obtain ⟨ws, hw, hf⟩ := h
    refine ⟨x ++ ws, by simp only [wr, hx, isN, hw], (h1.mono fun i hi => app_left i hi).trans (hf.mono fun i hi => app_right i hi)⟩
  | exit id =>
    obtain ⟨ws, hw, hf⟩ := h
    simp only [wr, hx, isN, hw]
    obtain ⟨z, hz, hm⟩ := joinW_left (x := x ++ ws) (wr (some id) a)
    exact ⟨z, hz, (h1.mono fun i hi => app_left i (hm i hi)).trans (hf.mono fun i hi => app_right i (hm i hi))⟩
  | _ => trivial

/-- What a code achieves. -/
def Post (C : Cfg) (c : Code) (Q : Exit → St → World → Prop) (st : St) : Exit → Act → World → Prop :=
  fun ex a' w' => ∃ st', st'.ge = [] ∧ Agree C.N st' a' ∧ FrX C c ex st st' ∧ Q ex st' w'

theorem withB_out {C : Cfg} {b : Bool} {K : Nat → Prop} (h : withB C b K) : ∃ B, K B := by
  unfold withB at h
  split at h
  · exact h
  · exact ⟨_, h⟩

theorem opens_iff {C : Cfg} {b : Bool} {B : Nat} {ds : List Nat} {w : World} {X : Prop} : opens C b B ds w X ↔ ((pushes C b = true → Open B ds w) ∧ X) := by
  unfold opens
  cases pushes C b <;> simp

theorem allDs_at {C : Cfg} {b : Bool} {B : Nat} {ds ds' : List Nat} {w : World} {K : List Nat → Prop} (h : allDs C b B ds w K) (ho : pushes C b = true → Open B ds' w) (he : pushes C b = false → ds' = ds) : K ds' := by
  unfold allDs at h
  cases hp : pushes C b with
  | true => rw [hp] at h; exact h ds' (ho hp)
  | false => rw [hp] at h; rw [he hp]; exact h

theorem frE_ds {ws : List (Nat × TypeId)} {st st' : St} {ds : List Nat} (h : FrE ws st st') : FrE ws st { st' with ds := ds } := h

/-! ### A range over a function -/
def stOf : Nat → LoopState
  | 0 => .ready
  | 1 => .busy
  | 2 => .exhausted
  | k + 3 => if k % 2 = 0 then .done else .exhausted
def pendOf : Nat → Option Code
  | 0 => none
  | 1 => none
  | 2 => none
  | 3 => some .ret
  | 4 => some .ret
  | k + 5 => some (.exit (k / 2))

theorem parTys_spec {ag : List Oper} : ∀ {ps : List Nat} {ts : List (Nat × Ty)}, parTys P ag ps = some ts → keysOf ts = ps := by
  intro ps
  induction ps with
  | nil => intro ts h; simp only [parTys, Option.some.injEq] at h; subst h; rfl
  | cons t r ih =>
    intro ts h
    unfold parTys at h
    split at h
    · rename_i ty ts' _ hts
      split at h
      · cases h; simp [keysOf, ih hts]
      · cases h
    · rename_i ts' _ hts
      cases h; simp [keysOf, ih hts]
    · cases h

theorem packL_length : ∀ {ts : List (Nat × Ty)} {vs : List Value} {xs : List SV}, packL ts vs = some xs → xs.length = ts.length := by
  intro ts
  induction ts with
  | nil => intro vs xs h; simp only [packL, Option.some.injEq] at h; subst h; rfl
  | cons p r ih =>
    intro vs xs h
    unfold packL at h
    split at h
    · rename_i x xs' _ hxs; cases h; simp [ih hxs]
    · cases h

theorem dens_length (xs : List SV) : (dens xs).length = xs.length := by induction xs <;> simp_all [dens]

theorem zipE_spec : ∀ {ts : List (Nat × Ty)} {xs : List SV} {tmps : Array Value} (i : Nat) (x : SV), noDup (keysOf ts) = true → (∀ k ∈ keysOf ts, k < tmps.size) → xs.length = ts.length →
    (lkE (zipE ts xs) i = some x → (((keysOf ts).zip (dens xs)).foldl (fun (tmps : Array Value) (t, a) => tmps.setIfInBounds t a) tmps).getD i undef = x.den) ∧
    (inK (zipE ts xs) i = false → (((keysOf ts).zip (dens xs)).foldl (fun (tmps : Array Value) (t, a) => tmps.setIfInBounds t a) tmps).getD i undef = tmps.getD i undef) ∧
    (((keysOf ts).zip (dens xs)).foldl (fun (tmps : Array Value) (t, a) => tmps.setIfInBounds t a) tmps).size = tmps.size := by
  intro ts
  induction ts with
  | nil => intro xs tmps i x _ _ hl; cases xs <;> simp [zipE, lkE, keysOf]
  | cons p r ih =>
    intro xs tmps i x hd hk hl
    cases xs with
    | nil => simp at hl
    | cons y ys =>
      have hd' : noDup (keysOf r) = true ∧ p.1 ∉ keysOf r := by
        simp only [keysOf] at hd
        unfold noDup at hd
        split at hd
        · cases hd
        · rename_i hm
          refine ⟨hd, fun hc => ?_⟩
          rw [memN_iff.2 hc] at hm; cases hm
      have hp : p.1 < tmps.size := hk p.1 (by simp [keysOf])
      have hks : ∀ k ∈ keysOf r, k < (tmps.setIfInBounds p.1 y.den).size := fun k hk' => by simpa using hk k (by simp [keysOf, hk'])
      obtain ⟨i1, i2, i3⟩ := ih (xs := ys) (tmps := tmps.setIfInBounds p.1 y.den) i x hd'.1 hks (by simpa using hl)
      simp only [keysOf, dens, List.zip_cons_cons, List.foldl_cons, zipE, lkE, inK]
      refine ⟨fun h => ?_, fun h => ?_, by rw [i3]; simp⟩
      · split at h
        · rename_i hb
          cases h
          have hb := nbeq.1 hb
          have hno : inK (zipE r ys) i = false := by
            have : ∀ (r : List (Nat × Ty)) (ys : List SV), i ∉ keysOf r → inK (zipE r ys) i = false := by
              intro r
              induction r with
              | nil => intro ys _; cases ys <;> rfl
              | cons q r ihr =>
                intro ys hi
                cases ys with
                | nil => rfl
                | cons z zs =>
                  simp only [keysOf, List.mem_cons, not_or] at hi
                  simp only [zipE, inK, nbeq_no.2 (Ne.symm hi.1), ihr zs hi.2]
            exact this r ys (by rw [← hb]; exact hd'.2)
          rw [i2 hno, getD_set hp, if_pos hb]
        · exact i1 h
      · split at h
        · cases h
        · rename_i hb
          rw [i2 h, getD_set hp, if_neg (nbeq_no.1 hb)]

theorem round_agree {N : Nat} {st : St} {a : Act} {ps : Array Tmp} {ts : List (Nat × Ty)} {xs : List SV} (h : Agree N st a) (hk : keysOf ts = ps.toList) (hok : parsOk N (keysOf ts) = true) (hl : xs.length = ts.length) :
    Agree N { e := zipE ts xs ++ st.e, ge := [], ds := [] } { tmps := (ps.zip (dens xs).toArray).foldl (fun tmps (t, a) => tmps.setIfInBounds t a) a.tmps, defers := [] } := by
  have hok' : noDup (keysOf ts) = true ∧ ∀ k ∈ keysOf ts, k < a.tmps.size := by
    unfold parsOk at hok
    split at hok
    · rename_i h1
      refine ⟨h1, fun k hk => ?_⟩
      rw [h.size]
      exact Nat.lt_of_succ_le (Nat.le_of_ble_eq_true (allB_iff.1 hok k hk))
    · cases hok
  have hfold : (ps.zip (dens xs).toArray).foldl (fun (tmps : Array Value) (t, a) => tmps.setIfInBounds t a) a.tmps = ((keysOf ts).zip (dens xs)).foldl (fun (tmps : Array Value) (t, a) => tmps.setIfInBounds t a) a.tmps := by
    rw [hk, ← Array.foldl_toList, Array.toList_zip]
  refine ⟨?_, rfl, ?_, fun i d hd => by simp [lkG] at hd, fun i d hd => by simp [lkG] at hd⟩
  · show Array.size _ = N
    rw [hfold, (zipE_spec (ts := ts) (xs := xs) (tmps := a.tmps) 0 (.b true) hok'.1 hok'.2 hl).2.2, h.size]
  · intro i x hx
    show Array.getD _ i undef = _
    rw [hfold]
    obtain ⟨i1, i2, _⟩ := zipE_spec (ts := ts) (xs := xs) (tmps := a.tmps) i x hok'.1 hok'.2 hl
    simp only [lkE_append] at hx
    split at hx
    · exact i1 hx
    · rename_i hno
      rw [i2 (by simpa using hno)]
      exact h.e i x hx

theorem OrIds_out {F : Nat → Prop} : ∀ {l : List Nat}, OrIds F False l → ∃ id, F id := by
  intro l
  induction l with
  | nil => intro h; exact h.elim
  | cons i r ih => 
    intro h
    rcases h with h | h
    · exact ⟨i, h⟩
    · exact ih h

theorem ranged_out {r : Nat → Loop} {l : Nat} {ret : Bool} {exs : List Nat} {Q : Exit → St → World → Prop} {st' : St} {W : World} (h : ranged r l ret exs Q st' W) :
    (Rec r l 0 W ∧ Q .normal st' (turn r l 2 W)) ∨ (Rec r l 3 W ∧ Q .ret st' (turn r l 4 W)) ∨ ∃ id, Rec r l (5 + 2 * id) W ∧ Q (.exit id) st' (turn r l (6 + 2 * id) W) := by
  unfold ranged at h
  rcases h with h | h
  · exact .inl h
  · split at h
    · rcases h with h | h
      · exact .inr (.inl h)
      · exact .inr (.inr (OrIds_out h))
    · exact .inr (.inr (OrIds_out h))

/-- One round. -/
theorem round_sound {asg body : Code} {C : Cfg} {st : St} {a : Act} {l : Nat} {ps : Array Tmp} {ts : List (Nat × Ty)} {r : Nat → Loop} {fn df : Nat}
    (hr : r = fun k => { state := stOf k, pending := pendOf k, fn := fn, tmps := a.tmps, params := ps, assign := asg, body := body, defers := df })
    (iha : ∀ (C : Cfg) (Q : Exit → St → World → Prop) (st : St) (a : Act) (w : World), st.ge = [] → Agree C.N st a → vc P C asg Q st w → asg.wpIn (FW C.rd) 0 P (Post C asg Q st) a w)
    (ihb : ∀ (C : Cfg) (Q : Exit → St → World → Prop) (st : St) (a : Act) (w : World), st.ge = [] → Agree C.N st a → vc P C body Q st w → body.wpIn (FW C.rd) 0 P (Post C body Q st) a w)
    (h : Agree C.N st a) (hk : keysOf ts = ps.toList) (hok : parsOk C.N (keysOf ts) = true) {xs : List SV} (hl : xs.length = ts.length) {W : World} {R : Bool → World → Prop} (h0 : Rec r l 0 W)
    (hv : vc P { C with rd := some l } asg (fun ex st2 Wa => match ex with
        | .normal => Rec r l 0 Wa ∧ ∀ Wb : World, Wb = turn r l 1 Wa → vc P { C with rd := some l } body (fun ex _ W3 => Rec r l 1 W3 ∧ (match ex with
          | .normal => R true (turn r l 0 W3)
          | .ret => R false (turn r l 3 W3)
          | .exit id => R false (turn r l (5 + 2 * id) W3)
          | _ => False)) st2 Wb
        | _ => False) { e := zipE ts xs ++ st.e, ge := [], ds := [] } W) :
    Yield P l (dens xs).toArray W R := by
  intro rd'
  have hsz : (dens xs).toArray.size = (r 0).params.size := by
    rw [hr]
    simp only [List.size_toArray, dens_length, hl]
    have := congrArg List.length hk
    have hkl : ∀ ts : List (Nat × Ty), (keysOf ts).length = ts.length := by intro ts; induction ts <;> simp_all [keysOf]
    rw [hkl] at this
    simpa using this
  have hy := run_yield (P := P) (args := (dens xs).toArray) h0 hsz
  rw [hr] at hy
  refine ⟨_, _, _, _, hy, roundIn_of_wpIn trivial ?_⟩
  have hwp := iha { C with rd := some l } _ _ _ W rfl (round_agree h hk hok hl) hv
  refine wpIn_mono hwp ?_
  rintro ex a1 Wa ⟨s, g1, g2, g3, g4⟩
  cases ex with
  | normal =>
    obtain ⟨hrec, hvb⟩ := g4
    refine ⟨turn r l 1 Wa, ?_, ?_⟩
    · have := run_beginRound (P := P) hrec (by rw [hr]; rfl)
      rw [this]
      unfold turn
      rw [hr]
      rfl
    · refine wpIn_mono (ihb { C with rd := some l } _ s a1 _ g1 g2 (hvb _ rfl)) ?_
      rintro ex a3 W3 ⟨s3, k1, k2, k3, k4⟩
      obtain ⟨hb, hR⟩ := k4
      cases ex with
      | normal => exact ⟨_, _, run_endRound (P := P) none hb, true, rfl, by rw [hr] at hR ⊢; exact hR⟩
      | ret => exact ⟨_, _, run_endRound (P := P) (some .ret) hb, false, rfl, by rw [hr] at hR ⊢; exact hR⟩
      | exit id =>
        refine ⟨_, _, run_endRound (P := P) (some (.exit id)) hb, false, rfl, ?_⟩
        have e1 : stOf (5 + 2 * id) = .done := by
          rw [show 5 + 2 * id = (2 + 2 * id) + 3 by omega]; simp only [stOf]; rw [if_pos (by omega)]
        have e2 : pendOf (5 + 2 * id) = some (.exit id) := by
          rw [show 5 + 2 * id = (2 * id) + 5 by omega]; simp only [pendOf]; rw [show 2 * id / 2 = id by omega]
        unfold turn at hR
        rw [hr] at hR ⊢
        simp only [e1, e2] at hR
        exact hR
      | _ => exact hR.elim
  | _ => exact g4.elim

/-- Behind the iterator. -/
theorem behind {asg body : Code} {l : Nat} {ps : Array Tmp} {r : Nat → Loop} {fn df : Nat} {tmps : Array Value}
    (hr : r = fun k => { state := stOf k, pending := pendOf k, fn := fn, tmps := tmps, params := ps, assign := asg, body := body, defers := df })
    {C : Cfg} {f : Operand} {Q : Exit → St → World → Prop} {st st' : St} {a' : Act} {ret : Bool} {exs : List Nat} {W : World} (hge : st'.ge = []) (hag : Agree C.N st' a') (he : st'.e = st.e) (hds : C.rd.isSome = true → st'.ds = st.ds)
    (hR : ranged r l ret exs Q st' W) (v : Value) : rangePost (FW C.rd) 0 P l (Post C (.rangeFunc f ps asg body) Q st) a' (.returned v) W := by
  have frx : ∀ ex, FrX C (.rangeFunc f ps asg body) ex st st' := fun ex => by
    refine ⟨?_, fun hp => ?_⟩
    · unfold FrW
      cases ex <;> first | trivial | exact ⟨[], by simp [wr], fun i _ => by rw [he]⟩
    · cases hrd : C.rd with
      | none => simp [pushes, hrd, hasRg] at hp
      | some l => exact hds (by rw [hrd]; rfl)
  rcases ranged_out hR with ⟨h0, hQ⟩ | ⟨h0, hQ⟩ | ⟨id, h0, hQ⟩
  · have := run_endLoop (P := P) h0 (by rw [hr]; simp [stOf])
    refine ⟨_, _, this, ?_⟩
    unfold turn at hQ
    rw [hr] at hQ ⊢
    exact ⟨st', hge, hag, frx _, hQ⟩
  · have := run_endLoop (P := P) h0 (by rw [hr]; simp [stOf])
    refine ⟨_, _, this, ?_⟩
    unfold turn at hQ
    rw [hr] at hQ ⊢
    exact wpIn_ret ⟨st', hge, hag, frx _, hQ⟩
  · have e1 : stOf (5 + 2 * id) = .done := by
      rw [show 5 + 2 * id = (2 + 2 * id) + 3 by omega]; simp only [stOf]; rw [if_pos (by omega)]
    have e2 : pendOf (5 + 2 * id) = some (.exit id) := by
      rw [show 5 + 2 * id = (2 * id) + 5 by omega]; simp only [pendOf]; rw [show 2 * id / 2 = id by omega]
    have e3 : stOf (6 + 2 * id) = .exhausted := by
      rw [show 6 + 2 * id = (3 + 2 * id) + 3 by omega]; simp only [stOf]; rw [if_neg (by omega)]
    have e4 : pendOf (6 + 2 * id) = some (.exit id) := by
      rw [show 6 + 2 * id = (1 + 2 * id) + 5 by omega]; simp only [pendOf]; rw [show (1 + 2 * id) / 2 = id by omega]
    have := run_endLoop (P := P) h0 (by rw [hr]; simp [e1])
    refine ⟨_, _, this, ?_⟩
    unfold turn at hQ
    rw [hr] at hQ ⊢
    simp only [e2, e3, e4] at hQ ⊢
    exact wpIn_exit ⟨st', hge, hag, frx _, hQ⟩

theorem range_sound {f : Operand} {ps : Array Tmp} {asg body : Code}
    (iha : ∀ (C : Cfg) (Q : Exit → St → World → Prop) (st : St) (a : Act) (w : World), st.ge = [] → Agree C.N st a → vc P C asg Q st w → asg.wpIn (FW C.rd) 0 P (Post C asg Q st) a w)
    (ihb : ∀ (C : Cfg) (Q : Exit → St → World → Prop) (st : St) (a : Act) (w : World), st.ge = [] → Agree C.N st a → vc P C body Q st w → body.wpIn (FW C.rd) 0 P (Post C body Q st) a w)
    {C : Cfg} {Q : Exit → St → World → Prop} {st : St} {a : Act} {w : World} (hge : st.ge = []) (h : Agree C.N st a) (hv : vc P C (.rangeFunc f ps asg body) Q st w) :
    (Code.rangeFunc f ps asg body).wpIn (FW C.rd) 0 P (Post C (.rangeFunc f ps asg body) Q st) a w := by
  unfold vc at hv
  split at hv
  · rename_i fv ts hf hts
    have hk := parTys_spec hts
    split at hv
    · rename_i hok
      obtain ⟨g, lb, rfl, hen, hv⟩ := hv
      have hg : a.eval f = .func (.func g) #[] lb := by rw [ev_sound h (.nil a) hf, den_v]
      have eargs : ∀ l : Nat, (#[.func (.yield l) #[] #[]] ++ lb : Array Value) = (.func (.yield l) #[] #[] :: lb.toList).toArray := fun l => by apply Array.ext'; simp
      split at hv
      · rename_i hrd
        rw [hrd]
        refine wpIn_rangeFunc fun fn _ => ?_
        obtain ⟨r, hr⟩ : ∃ r : Nat → Loop, r = fun k => { state := stOf k, pending := pendOf k, fn := fn, tmps := a.tmps, params := ps, assign := asg, body := body, defers := w.heap.size } := ⟨_, rfl⟩
        have hcall := hv r w.heap.size (w.heap.size + 1) _ ⟨rfl, rfl, rfl⟩ ?_
        · refine ⟨w.heap.size + 1, [{ target := .collected w.heap.size, args := #[] }], (w.alloc (.deferred (some []))).alloc (.loop (r 0)), { target := .fn (.func g) lb, args := #[.func (.yield (w.heap.size + 1)) #[] #[]] },
            (w.alloc (.deferred (some []))).alloc (.loop (r 0)), g, #[.func (.yield (w.heap.size + 1)) #[] #[]] ++ lb, (w.alloc (.deferred (some []))).alloc (.loop (r 0)), ?_, ?_, ?_, ?_, fun h => by simp [FW] at h, ?_⟩
          · rw [hr]; exact run_enterLoop_outer _ _ _ _ _
          · simp only [resolve, hg]
            simp [go_sem]
          · intro f' _; trivial
          · simp [invoke, go_sem, run_enter hen]
          · rw [eargs]
            refine callsIn_FW (hcall.mono ?_)
            rintro e W ⟨⟨v, rfl⟩, hR⟩
            have := behind (P := P) (C := C) (f := f) (st := st) (st' := { st with ds := w.heap.size :: st.ds }) (a' := { a with defers := [{ target := .collected w.heap.size, args := #[] }] ++ a.defers }) hr hge
              ⟨h.size, by simp [h.defers], h.e, h.g, h.u⟩ rfl (fun hs => by rw [hrd] at hs; cases hs) hR v
            rw [hrd] at this
            exact this
        · -- the rounds
          refine AllL_intro fun vs => ?_
          split
          · trivial
          · rename_i xs hxs
            intro W R h0 hvr
            exact round_sound (fn := fn) (df := w.heap.size) hr iha ihb h hk hok (packL_length hxs) h0 hvr
      · rename_i l0 hrd
        obtain ⟨⟨q, hq⟩, hv⟩ := hv
        rw [hrd]
        refine wpIn_rangeFunc fun fn _ => ?_
        obtain ⟨r, hr⟩ : ∃ r : Nat → Loop, r = fun k => { state := stOf k, pending := pendOf k, fn := fn, tmps := a.tmps, params := ps, assign := asg, body := body, defers := q.defers } := ⟨_, rfl⟩
        have hcall := hv r w.heap.size _ ⟨rfl, rfl⟩ ?_
        · refine ⟨w.heap.size, [], w.alloc (.loop (r 0)), { target := .fn (.func g) lb, args := #[.func (.yield w.heap.size) #[] #[]] },
            w.alloc (.loop (r 0)), g, #[.func (.yield w.heap.size) #[] #[]] ++ lb, w.alloc (.loop (r 0)), ?_, ?_, ?_, ?_, fun h => by simp [FW] at h, ?_⟩
          · rw [hr]; exact run_enterLoop_inner hq _ _ _ _ _
          · simp only [resolve, hg]
            simp [go_sem]
          · intro f' _; trivial
          · simp [invoke, go_sem, run_enter hen]
          · rw [eargs]
            refine callsIn_FW (hcall.mono ?_)
            rintro e W ⟨⟨v, rfl⟩, hR⟩
            have := behind (P := P) (C := C) (f := f) (st := st) (st' := st) (a' := { a with defers := [] ++ a.defers }) hr hge
              ⟨h.size, by simp [h.defers], h.e, h.g, h.u⟩ rfl (fun _ => rfl) hR v
            rw [hrd] at this
            exact this
        · -- the rounds
          refine AllL_intro fun vs => ?_
          split
          · trivial
          · rename_i xs hxs
            intro W R h0 hvr
            exact round_sound (fn := fn) (df := q.defers) hr iha ihb h hk hok (packL_length hxs) h0 hvr
    · exact hv.elim
  · exact hv.elim

theorem vc_sound (hm : P.follows .mixedOrders = true) : ∀ (c : Code) (C : Cfg) (Q : Exit → St → World → Prop) (st : St) (a : Act) (w : World), st.ge = [] → Agree C.N st a → vc P C c Q st w →
    c.wpIn (FW C.rd) 0 P (Post C c Q st) a w := by
  intro c
  induction c with
  | skip => intro C Q st a w hge h hv; exact wpIn_skip ⟨st, hge, h, ⟨⟨[], rfl, .refl _ _⟩, fun _ => rfl⟩, hv⟩
  | label l => intro C Q st a w hge h hv; exact wpIn_label ⟨st, hge, h, ⟨⟨[], rfl, .refl _ _⟩, fun _ => rfl⟩, hv⟩
  | exit id => intro C Q st a w hge h hv; exact wpIn_exit ⟨st, hge, h, ⟨⟨[], by simp [wr, oBeq_refl], .refl _ _⟩, fun _ => rfl⟩, hv⟩
  | goto l => intro C Q st a w hge h hv; exact hv.elim
  | ret => intro C Q st a w hge h hv; exact wpIn_ret ⟨st, hge, h, ⟨trivial, fun _ => rfl⟩, hv⟩
  | refuse s => intro C Q st a w hge h hv; exact hv.elim
  | rangeFunc f ps ag b iha ihb => intro C Q st a w hge h hv; exact range_sound iha ihb hge h hv
  | region id ops draw =>
    intro C Q st a w hge h hv
    have := vcRegion_sound (rd := C.rd) (id := id) (od := lkO C.ords id) (ops := ops.toList) (draw := draw) (Q := Post C (.region id ops draw) Q st) (ws := wrOps ops.toList) hm (fun _ hi => hi) hge
      (K := fun st' w' => Q .normal st' w' ∧ st'.ge = []) (st := st) (a := a) (w := w)
      (fun st' a' w' ha hf hk => ⟨st', hk.2, ha, ⟨⟨wrOps ops.toList, rfl, hf.2⟩, fun _ => hf.1⟩, hk.1⟩) h
    simp only [Array.toArray_toList] at this
    refine this ?_
    -- behind a region nothing hangs on a guard
    have heq : ∀ (l : List Oper), vcOps P C.N ops.toList l (fun st' w' => Q .normal st' w') = vcOps P C.N ops.toList l (fun st' w' => Q .normal st' w' ∧ st'.ge = []) := by
      intro l
      induction l with
      | nil => funext st1 w1; simp [vcOps]
      | cons o r ih => funext st1 w1; simp only [vcOps, ih]
    have heq2 : ∀ (l : OT), vcOrd P C.N ops.toList l (fun st' w' => Q .normal st' w') = vcOrd P C.N ops.toList l (fun st' w' => Q .normal st' w' ∧ st'.ge = []) := by
      intro l
      induction l with
      | nil => funext st1 w1; simp [vcOrd]
      | one o r ih => funext st1 w1; simp only [vcOrd, ih]
      | alt s t ihs iht => funext st1 w1; simp only [vcOrd, ihs, iht]
    dsimp only [vc] at hv
    unfold vcRegion at hv ⊢
    split at hv
    · rw [← heq]; exact hv
    · split at hv
      · intro w' hw'; rw [← heq2]; exact hv w' hw'
      · exact hv.elim
  | cond o x y ihx ihy =>
    intro C Q st a w hge h hv
    have px : ∀ st', ∀ ex a' w', Post C x Q st' ex a' w' → Post C (.cond o x y) Q st' ex a' w' := by
      rintro st' ex a' w' ⟨s, h1, h2, ⟨h3, h3d⟩, h4⟩
      refine ⟨s, h1, h2, ⟨?_, fun hp => h3d (pushes_or hp).1⟩, h4⟩
      unfold FrW at *
      cases ex with
      | normal => obtain ⟨ws, hw, hf⟩ := h3; obtain ⟨z, hz, hmz⟩ := joinW_left (x := ws) (wr none y); exact ⟨z, by simp only [wr, hw, hz], hf.mono hmz⟩
      | exit id => obtain ⟨ws, hw, hf⟩ := h3; obtain ⟨z, hz, hmz⟩ := joinW_left (x := ws) (wr (some id) y); exact ⟨z, by simp only [wr, hw, hz], hf.mono hmz⟩
      | _ => trivial
    have py : ∀ st', ∀ ex a' w', Post C y Q st' ex a' w' → Post C (.cond o x y) Q st' ex a' w' := by
      rintro st' ex a' w' ⟨s, h1, h2, ⟨h3, h3d⟩, h4⟩
      refine ⟨s, h1, h2, ⟨?_, fun hp => h3d (pushes_or hp).2⟩, h4⟩
      unfold FrW at *
      cases ex with
      | normal => obtain ⟨ws, hw, hf⟩ := h3; obtain ⟨z, hz, hmz⟩ := joinW_right (wr none x) (y := ws); exact ⟨z, by simp only [wr, hw, hz], hf.mono hmz⟩
      | exit id => obtain ⟨ws, hw, hf⟩ := h3; obtain ⟨z, hz, hmz⟩ := joinW_right (wr (some id) x) (y := ws); exact ⟨z, by simp only [wr, hw, hz], hf.mono hmz⟩
      | _ => trivial
    unfold vc at hv
    split at hv
    · rename_i ho; exact wpIn_cond_true (ev_sound h (.nil a) ho) (wpIn_mono (ihx C Q st a w hge h hv) (px st))
    · rename_i ho; exact wpIn_cond_false (ev_sound h (.nil a) ho) (wpIn_mono (ihy C Q st a w hge h hv) (py st))
    · rename_i v _ _ ho
      split at hv
      · rename_i g hg0
        refine wpIn_cond_split (t := g.val) (by rw [ev_sound h (.nil a) ho, cndOf_den hg0]) (fun hg => ?_) (fun hg => ?_)
        · exact wpIn_mono (ihx C Q st a w hge h (hv.1 (Cnd.is_of hg))) (px st)
        · exact wpIn_mono (ihy C Q st a w hge h (hv.2 (Cnd.is_of hg))) (py st)
      · exact hv.elim
    · exact hv.elim
  | block id b ih =>
    intro C Q st a w hge h hv
    unfold vc at hv
    refine wpIn_block (wpIn_mono (ih C _ st a w hge h hv) ?_)
    rintro ex a' w' ⟨s, h1, h2, ⟨h3, h3d⟩, h4⟩
    cases ex with
    | normal =>
      refine ⟨s, h1, h2, ⟨?_, h3d⟩, h4⟩
      obtain ⟨ws, hw, hf⟩ := h3
      obtain ⟨z, hz, hmz⟩ := joinW_left (x := ws) (wr (some id) b)
      exact ⟨z, by simp only [wr, isN, hw, hz], hf.mono hmz⟩
    | exit j =>
      simp only at h4
      by_cases hj : j = id
      · subst hj
        rw [nbeq.2 rfl] at h4
        simp only [Exit.inBlock, if_true]
        refine ⟨s, h1, h2, ⟨?_, h3d⟩, h4⟩
        obtain ⟨ws, hw, hf⟩ := h3
        obtain ⟨z, hz, hmz⟩ := joinW_right (wr none b) (y := ws)
        exact ⟨z, by simp only [wr, isN, hw, hz], hf.mono hmz⟩
      · rw [nbeq_no.2 hj] at h4
        simp only [Exit.inBlock, hj, if_false]
        refine ⟨s, h1, h2, ⟨?_, h3d⟩, h4⟩
        obtain ⟨ws, hw, hf⟩ := h3
        exact ⟨ws, by simp only [wr, isN, oBeq, nbeq_no.2 hj, hw], hf⟩
    | goto l => exact ⟨s, h1, h2, ⟨trivial, h3d⟩, h4⟩
    | ret => exact ⟨s, h1, h2, ⟨trivial, h3d⟩, h4⟩
    | panic ch => exact ⟨s, h1, h2, ⟨trivial, h3d⟩, h4⟩
    | outgrown => exact ⟨s, h1, h2, ⟨trivial, h3d⟩, h4⟩
  | scope b ih =>
    intro C Q st a w hge h hv
    unfold vc at hv
    refine wpIn_scope (wpIn_mono (ih C _ st a w hge h hv) ?_)
    rintro ex a' w' ⟨s, h1, h2, ⟨h3, h3d⟩, h4⟩
    cases ex with
    | normal => exact ⟨s, h1, h2, ⟨h3, h3d⟩, h4⟩
    | exit j => exact ⟨s, h1, h2, ⟨h3, h3d⟩, h4⟩
    | goto l => exact h4.elim
    | ret => exact ⟨s, h1, h2, ⟨trivial, h3d⟩, h4⟩
    | panic ch => exact ⟨s, h1, h2, ⟨trivial, h3d⟩, h4⟩
    | outgrown => exact ⟨s, h1, h2, ⟨trivial, h3d⟩, h4⟩
  | seq x y ihx ihy =>
    intro C Q st a w hge h hv
    unfold vc at hv
    have jump : ∀ ex a' w' s, ex ≠ .normal → s.ge = [] → Agree C.N s a' → FrX C x ex st s → Q ex s w' → Post C (.seq x y) Q st ex a' w' := by
      intro ex a' w' s hne h1 h2 h3 h4
      refine ⟨s, h1, h2, ⟨?_, fun hp => h3.ds (pushes_or hp).1⟩, h4⟩
      cases ex with
      | normal => exact absurd rfl hne
      | exit id => exact frW_seq_left h3.e
      | _ => trivial
    split at hv
    · refine wpIn_seq (wpIn_mono (ihx C _ st a w hge h hv) ?_)
      rintro ex a' w' ⟨s, h1, h2, h3, h4⟩
      cases ex with
      | normal =>
        obtain ⟨ws, hw, hf⟩ := h3.e
        refine wpIn_mono (ihy C Q s a' w' h1 h2 h4) ?_
        rintro ex2 a2 w2 ⟨s2, k1, k2, k3, k4⟩
        exact ⟨s2, k1, k2, ⟨frW_seq_right hw hf k3.e, fun hp => (k3.ds (pushes_or hp).2).trans (h3.ds (pushes_or hp).1)⟩, k4⟩
      | exit j => exact jump _ _ _ s (by simp) h1 h2 h3 h4
      | goto l => exact jump _ _ _ s (by simp) h1 h2 h3 h4
      | ret => exact jump _ _ _ s (by simp) h1 h2 h3 h4
      | panic ch => exact jump _ _ _ s (by simp) h1 h2 h3 h4
      | outgrown => exact jump _ _ _ s (by simp) h1 h2 h3 h4
    · split at hv
      · refine wpIn_seq (wpIn_mono (ihx C _ st a w hge h hv) ?_)
        rintro ex a' w' ⟨s, h1, h2, h3, h4⟩
        cases ex with
        | normal => exact h4.elim
        | exit j => exact jump _ _ _ s (by simp) h1 h2 h3 h4
        | goto l => exact jump _ _ _ s (by simp) h1 h2 h3 h4
        | ret => exact jump _ _ _ s (by simp) h1 h2 h3 h4
        | panic ch => exact jump _ _ _ s (by simp) h1 h2 h3 h4
        | outgrown => exact jump _ _ _ s (by simp) h1 h2 h3 h4
      · rename_i ws hws
        split at hv
        · exact hv.elim
        · rename_i slots hslots
          obtain ⟨J, hv⟩ := hv
          obtain ⟨B, hv1, hv2⟩ := withB_out hv
          refine wpIn_seq (wpIn_mono (ihx C _ st a w hge h hv1) ?_)
          rintro ex a' w' ⟨s, h1, h2, h3, h4⟩
          cases ex with
          | normal =>
            obtain ⟨ws', hw, hf⟩ := h3.e
            have : ws' = ws := by rw [hws] at hw; cases hw; rfl
            subst this
            rw [opens_iff] at h4
            obtain ⟨hop, h4⟩ := h4
            split at h4
            · rename_i vs hvs
              obtain ⟨st1, hst1, hag, hge1, hf1, hds1⟩ := head_of_vals (named_in hslots) hf h2 hvs
              have hb := AllL_at hv2 h4 w' h4
              rw [hst1] at hb
              have hb' := allDs_at hb hop h3.ds
              refine wpIn_mono (ihy C Q { st1 with ds := s.ds } a' w' hge1 hag hb') ?_
              rintro ex2 a2 w2 ⟨s2, k1, k2, k3, k4⟩
              exact ⟨s2, k1, k2, ⟨frW_seq_right hw (frE_ds hf1) k3.e, fun hp => (k3.ds (pushes_or hp).2).trans (h3.ds (pushes_or hp).1)⟩, k4⟩
            · exact h4.elim
          | exit j => exact jump _ _ _ s (by simp) h1 h2 h3 h4
          | goto l => exact jump _ _ _ s (by simp) h1 h2 h3 h4
          | ret => exact jump _ _ _ s (by simp) h1 h2 h3 h4
          | panic ch => exact jump _ _ _ s (by simp) h1 h2 h3 h4
          | outgrown => exact jump _ _ _ s (by simp) h1 h2 h3 h4
  | loop b ih =>
    intro C Q st a w hge h hv
    unfold vc at hv
    have out : ∀ (ex : Exit) (s1 s : St) (zs : List (Nat × TypeId)), (∀ zs', wr none b = some zs' → zs' = zs) → FrE zs st s1 → (wr none b = none → s1 = st) → FrW b ex s1 s → ex ≠ .normal → FrW (.loop b) ex st s := by
      intro ex s1 s zs hzs hf1 hnone hx hne
      unfold FrW at *
      cases ex with
      | normal => exact absurd rfl hne
      | exit id =>
        obtain ⟨ws, hw, hf⟩ := hx
        simp only [wr, isN, hw]
        cases hb : wr none b with
        | none => rw [hnone hb] at hf; exact ⟨ws, rfl, hf⟩
        | some zs' =>
          have := hzs zs' hb
          subst this
          exact ⟨zs' ++ ws, rfl, (hf1.mono fun i hi => app_left i hi).trans (hf.mono fun i hi => app_right i hi)⟩
      | _ => trivial
    split at hv
    · rename_i hb
      refine wpIn_loop_ghost (fun _ a' w' => a' = a ∧ w' = w) (n := 0) ?_ ⟨rfl, rfl⟩
      rintro n a' w' ⟨rfl, rfl⟩
      refine wpIn_mono (ih C _ st a' w' hge h hv) ?_
      rintro ex a2 w2 ⟨s, h1, h2, h3, h4⟩
      have lv : ex ≠ .normal → FrX C (.loop b) ex st s := fun hne => ⟨out _ st s [] (fun zs' hz => by rw [hb] at hz; cases hz) (.refl _ _) (fun _ => rfl) h3.e hne, h3.ds⟩
      cases ex with
      | normal => exact h4.elim
      | exit j => exact ⟨s, h1, h2, lv (by simp), h4⟩
      | goto l => exact ⟨s, h1, h2, lv (by simp), h4⟩
      | ret => exact ⟨s, h1, h2, lv (by simp), h4⟩
      | panic ch => exact ⟨s, h1, h2, lv (by simp), h4⟩
      | outgrown => exact ⟨s, h1, h2, lv (by simp), h4⟩
    · rename_i ws hws
      split at hv
      · exact hv.elim
      · rename_i slots hslots
        split at hv
        · exact hv.elim
        · rename_i vs0 hvs0
          obtain ⟨I, M, hv⟩ := hv
          obtain ⟨B, hI0, hall⟩ := withB_out hv
          rw [opens_iff] at hall
          obtain ⟨hop0, hall⟩ := hall
          obtain ⟨st0, hst0, hag0, hge0, hf0, hds0⟩ := head_of_vals (carry_in hslots) (.refl ws st) h hvs0
          refine wpIn_loop_ghost (fun n a' w' => ∃ vs st1 ds, headSt st ws slots vs = some st1 ∧ Agree C.N { st1 with ds := ds } a' ∧ st1.ge = [] ∧ FrE ws st st1 ∧ atI I vs w' ∧ atN M vs w' = n ∧ (pushes C (hasRg b) = true → Open B ds w') ∧ (pushes C (hasRg b) = false → ds = st.ds) ∧ st1.ds = st.ds) (n := atN M vs0 w) ?_
            ⟨vs0, st0, st.ds, hst0, hag0, hge0, hf0, hI0, rfl, hop0, fun _ => rfl, hds0⟩
          rintro n a' w' ⟨vs, st1, ds, hst1, hag, hge1, hf1, hI, rfl, hop, hdse, hds1⟩
          have hb := AllL_at hall hI w' hI
          rw [hst1] at hb
          have hb' := allDs_at hb hop (ds' := ds) (fun hp => hdse hp)
          refine wpIn_mono (ih C _ { st1 with ds := ds } a' w' hge1 hag hb') ?_
          rintro ex a2 w2 ⟨s, h1, h2, h3, h4⟩
          have hx : ex ≠ .normal → FrX C (.loop b) ex st s := fun hne =>
            ⟨out ex { st1 with ds := ds } s ws (fun zs' hz => by rw [hws] at hz; cases hz; rfl) (frE_ds hf1) (fun hn => by rw [hws] at hn; cases hn) h3.e hne, fun hp => (h3.ds hp).trans (hdse hp)⟩
          cases ex with
          | normal =>
            obtain ⟨ws', hw, hf⟩ := h3.e
            have : ws' = ws := by rw [hws] at hw; cases hw; rfl
            subst this
            rw [opens_iff] at h4
            obtain ⟨hop4, h4⟩ := h4
            split at h4
            · rename_i vs' hvs'
              obtain ⟨st2, hst2, hag2, hge2, hf2, hds2⟩ := head_of_vals (carry_in hslots) ((frE_ds hf1).trans hf) h2 hvs'
              exact ⟨_, h4.2, vs', st2, s.ds, hst2, hag2, hge2, hf2, h4.1, rfl, hop4, fun hp => (h3.ds hp).trans (hdse hp), hds2⟩
            · exact h4.elim
          | exit j => exact ⟨s, h1, h2, hx (by simp), h4⟩
          | goto l => exact ⟨s, h1, h2, hx (by simp), h4⟩
          | ret => exact ⟨s, h1, h2, hx (by simp), h4⟩
          | panic ch => exact ⟨s, h1, h2, hx (by simp), h4⟩
          | outgrown => exact ⟨s, h1, h2, hx (by simp), h4⟩

/-! ### Functions -/
theorem resVC_run {N : Nat} {st : St} {a : Act} {w : World} (h : Agree N st a) : ∀ {rs : List ResultVar} {F : List SV → Prop}, resVC P st w rs F →
    ∃ xs, F xs ∧ ∀ g : ResultVar → Sem Value, (∀ t, g (.tmp t) = pure (a.tmps.getD t undef)) → (∀ d t, g (.cell d t) = do loadVar t (← asAddr (a.tmps.getD d undef))) → (rs.mapM g).run P w = .ok (dens xs) w := by
  intro rs
  induction rs with
  | nil => intro F hF; exact ⟨[], hF, fun g _ _ => by simp [dens]⟩
  | cons r rs ih =>
    intro F hF
    cases r with
    | tmp t =>
      dsimp only [resVC] at hF
      split at hF
      · rename_i x hx
        obtain ⟨xs, hF, hxs⟩ := ih hF
        refine ⟨x :: xs, hF, fun g g1 g2 => ?_⟩
        simp only [List.mapM_cons, Sem.run_bind, g1, Sem.run_pure, Result.andThen_ok, hxs g g1 g2, h.e _ _ hx, dens]
      · exact hF.elim
    | cell d t =>
      dsimp only [resVC] at hF
      split at hF
      · rename_i x ty hx hty
        obtain ⟨b, o, hp, hF⟩ := asPtr_out hF
        obtain ⟨y, hF, hy⟩ := loadT_out hty hF
        obtain ⟨xs, hF, hxs⟩ := ih hF
        refine ⟨y :: xs, hF, fun g g1 g2 => ?_⟩
        have hd := h.e _ _ hx
        rw [hp] at hd
        simp only [List.mapM_cons, Sem.run_bind, g2, Sem.run_pure, Result.andThen_ok, hd, asAddr, hy w (Same.refl w), hxs g g1 g2, dens]
      · exact hF.elim

theorem ofResults_den (xs : List SV) : (ofResults xs).den = (if h : (dens xs).toArray.size = 1 then (dens xs).toArray[0] else .tuple (dens xs).toArray) := by
  have hd : ∀ l : List SV, dens l = l.map SV.den := by intro l; induction l <;> simp_all [dens]
  cases xs with
  | nil => simp [ofResults, dens, SV.den]
  | cons x r =>
    cases r with
    | nil => simp [ofResults, dens]
    | cons y r => simp [ofResults, dens, SV.den, hd]

theorem initE_get : ∀ (args : List Value) (k i : Nat) (x : SV), lkE (initE args k) i = some x → k ≤ i ∧ ∃ v, args[i - k]? = some v ∧ x.den = v := by
  intro args
  induction args with
  | nil => intro k i x h; simp [initE, lkE] at h
  | cons v r ih =>
    intro k i x h
    simp only [initE, lkE] at h
    split at h
    · rename_i hb
      cases h
      have := nbeq.1 hb
      subst this
      exact ⟨Nat.le_refl _, v, by simp, rfl⟩
    · obtain ⟨h1, u, h2, h3⟩ := ih (k + 1) i x h
      refine ⟨by omega, u, ?_, h3⟩
      rw [show i - k = (i - (k + 1)) + 1 by omega]
      simpa using h2

theorem leaves_unD {fn : Func} {tmps : Array Value} {R : Ending → World → Prop} {F : World → Prop} {n : Nat} {Fe : Fence} :
    ∀ (ds : List Nat) (w : World), unD ds w F → (∀ w', F w' → ∃ v, (results fn tmps).run P w' = .ok v w' ∧ R (.returned v) w') →
      LeavesInM Fe n P fn tmps R (ds.map fun r => { target := .collected r, args := #[] }) .returning w := by
  intro ds
  induction ds with
  | nil => intro w hu hF; exact hF w hu
  | cons d r ih =>
    intro w hu hF
    refine ⟨by simp, .inl ⟨d, _, rfl, run_takeDeferred hu.1, ih _ hu.2 hF⟩⟩

theorem retQ_post {fn : Func} {R : Ending → World → Prop} {C : Cfg} {c : Code} {st0 : St} {Fe : Fence} {n : Nat} : ∀ ex a w, Post C c (retQ P fn R) st0 ex a w → bodyPostM Fe n P fn R ex a w := by
  have main : ∀ st a w, Agree C.N st a → (unD st.ds w fun w' => resVC P st w' fn.results.toList fun xs => R (.returned (ofResults xs).den) w') →
      LeavesInM Fe n P fn a.tmps R a.defers .returning w := by
    intro st a w hag hq
    rw [hag.defers]
    refine leaves_unD st.ds w hq fun w' hr => ?_
    obtain ⟨xs, hR, hrun⟩ := resVC_run hag hr
    refine ⟨_, ?_, hR⟩
    unfold results
    rw [Sem.run_bind, Array.mapM_eq_mapM_toList]
    simp only [Sem.run_map]
    rw [hrun _ (fun t => rfl) (fun d t => rfl)]
    simp only [Result.andThen_ok, Sem.run_pure, ofResults_den]
  rintro ex a w ⟨st, _, hag, _, hq⟩
  cases ex with
  | normal => exact main st a w hag hq
  | ret => exact main st a w hag hq
  | _ => exact hq.elim

/-- **A FUNCTION's CONTRACT OUT OF ITS VERIFICATION CONDITION.** -/
theorem calls_of_vc {f : FuncId} {fn : Func} {args : List Value} {w : World} {R : Ending → World → Prop} (cuts : List Nat) (ords : List (Nat × List Nat)) (hm : P.follows .mixedOrders = true)
    (hf : P.funcs[f]? = some fn) (hv : vcFn P cuts ords fn args w R) : Calls P f args.toArray w R := by
  unfold vcFn at hv
  split at hv
  · exact hv.elim
  · rename_i c hb
    split at hv
    · rename_i hle
      have hle := Nat.le_of_ble_eq_true hle
      have hag : Agree (cfgOf cuts ords fn).N { e := initE args 0, ge := [], ds := [] } { tmps := args.toArray ++ Array.replicate (fn.ntmps - args.toArray.size) undef, defers := [] } := by
        refine ⟨by simp [cfgOf]; omega, rfl, ?_, fun i d hd => by simp [lkG] at hd, fun i d hd => by simp [lkG] at hd⟩
        intro i x hx
        obtain ⟨_, v, hv1, hv2⟩ := initE_get args 0 i x hx
        rw [hv2]
        simp only [Nat.sub_zero] at hv1
        have hi : i < args.length := (List.getElem?_eq_some_iff.1 hv1).1
        simp [Array.getD_eq_getD_getElem?, Array.getElem?_append, hi]
        exact (List.getElem?_eq_some_iff.1 hv1).2
      have := vc_sound hm c (cfgOf cuts ords fn) (retQ P fn R) _ _ w rfl hag hv
      exact (callsIn_wide (n := 0)).1 (callsIn_of_wp_marks (F := Fence.wide) hf hb trivial (wpIn_mono this retQ_post))
    · exact hv.elim
end

end Go.Vc

/- The seat's program by its name, and the one fact that the generator asks of it. -/
namespace Go.Proofs.YtdephmdfdgclpaaDoor
open Go Go.Vc
theorem Tryd.mixed : Tryd.prog.follows .mixedOrders = true := by kernel_rfl
end Go.Proofs.YtdephmdfdgclpaaDoor

/- The verification conditions of the functions, evaluated: printed by program. -/
namespace Go.Proofs.YtdephmdfdgclpaaDoor
open Go Go.Vc

set_option maxRecDepth 100000 in
def many_T (op : Int) (w : World) (R : Ending → World → Prop) : Prop :=
  (op = 1 →
 (op = 1 → R (Ending.returned (Value.int IntKind.i64 0)) w) ∧
 (op ≠ 1 →
 (op = 8 →
 (op = 8 → R (Ending.returned (Value.int IntKind.i64 1)) w) ∧
 (op ≠ 8 →
 (op = 3 → (op = 3 → R (Ending.returned (Value.int IntKind.i64 2)) w) ∧ (op ≠ 3 → R (Ending.returned (Value.int IntKind.i64 (-1))) w)) ∧
 (op ≠ 3 →
 (op = 4 → (op = 4 → R (Ending.returned (Value.int IntKind.i64 2)) w) ∧ (op ≠ 4 → R (Ending.returned (Value.int IntKind.i64 (-1))) w)) ∧
 (op ≠ 4 →
 (op = 5 → (op = 5 → R (Ending.returned (Value.int IntKind.i64 2)) w) ∧ (op ≠ 5 → R (Ending.returned (Value.int IntKind.i64 (-1))) w)) ∧
 (op ≠ 5 →
 (op = 6 → (op = 6 → R (Ending.returned (Value.int IntKind.i64 2)) w) ∧ (op ≠ 6 → R (Ending.returned (Value.int IntKind.i64 (-1))) w)) ∧
 (op ≠ 6 →
 (op = 7 → (op = 7 → R (Ending.returned (Value.int IntKind.i64 2)) w) ∧ (op ≠ 7 → R (Ending.returned (Value.int IntKind.i64 (-1))) w)) ∧
 (op ≠ 7 →
 (op = 9 → (op = 9 → R (Ending.returned (Value.int IntKind.i64 2)) w) ∧ (op ≠ 9 → R (Ending.returned (Value.int IntKind.i64 (-1))) w)) ∧
 (op ≠ 9 →
 (op = 10 → (op = 10 → R (Ending.returned (Value.int IntKind.i64 2)) w) ∧ (op ≠ 10 → R (Ending.returned (Value.int IntKind.i64 (-1))) w)) ∧
 (op ≠ 10 →
 (op = 11 → (op = 11 → R (Ending.returned (Value.int IntKind.i64 2)) w) ∧ (op ≠ 11 → R (Ending.returned (Value.int IntKind.i64 (-1))) w)) ∧
 (op ≠ 11 →
 (op = 12 → (op = 12 → R (Ending.returned (Value.int IntKind.i64 2)) w) ∧ (op ≠ 12 → R (Ending.returned (Value.int IntKind.i64 (-1))) w)) ∧
 (op ≠ 12 → (op = 13 → R (Ending.returned (Value.int IntKind.i64 2)) w) ∧ (op ≠ 13 → R (Ending.returned (Value.int IntKind.i64 (-1))) w)))))))))))) ∧
 (op ≠ 8 →
 (op = 14 →
 (op = 14 → R (Ending.returned (Value.int IntKind.i64 1)) w) ∧
 (op ≠ 14 →
 (op = 3 → (op = 3 → R (Ending.returned (Value.int IntKind.i64 2)) w) ∧ (op ≠ 3 → R (Ending.returned (Value.int IntKind.i64 (-1))) w)) ∧
 (op ≠ 3 →
 (op = 4 → (op = 4 → R (Ending.returned (Value.int IntKind.i64 2)) w) ∧ (op ≠ 4 → R (Ending.returned (Value.int IntKind.i64 (-1))) w)) ∧
 (op ≠ 4 →
 (op = 5 → (op = 5 → R (Ending.returned (Value.int IntKind.i64 2)) w) ∧ (op ≠ 5 → R (Ending.returned (Value.int IntKind.i64 (-1))) w)) ∧
 (op ≠ 5 →
 (op = 6 → (op = 6 → R (Ending.returned (Value.int IntKind.i64 2)) w) ∧ (op ≠ 6 → R (Ending.returned (Value.int IntKind.i64 (-1))) w)) ∧
 (op ≠ 6 →
 (op = 7 → (op = 7 → R (Ending.returned (Value.int IntKind.i64 2)) w) ∧ (op ≠ 7 → R (Ending.returned (Value.int IntKind.i64 (-1))) w)) ∧
 (op ≠ 7 →
 (op = 9 → (op = 9 → R (Ending.returned (Value.int IntKind.i64 2)) w) ∧ (op ≠ 9 → R (Ending.returned (Value.int IntKind.i64 (-1))) w)) ∧
 (op ≠ 9 →
 (op = 10 → (op = 10 → R (Ending.returned (Value.int IntKind.i64 2)) w) ∧ (op ≠ 10 → R (Ending.returned (Value.int IntKind.i64 (-1))) w)) ∧
 (op ≠ 10 →
 (op = 11 → (op = 11 → R (Ending.returned (Value.int IntKind.i64 2)) w) ∧ (op ≠ 11 → R (Ending.returned (Value.int IntKind.i64 (-1))) w)) ∧
 (op ≠ 11 →
 (op = 12 → (op = 12 → R (Ending.returned (Value.int IntKind.i64 2)) w) ∧ (op ≠ 12 → R (Ending.returned (Value.int IntKind.i64 (-1))) w)) ∧
 (op ≠ 12 → (op = 13 → R (Ending.returned (Value.int IntKind.i64 2)) w) ∧ (op ≠ 13 → R (Ending.returned (Value.int IntKind.i64 (-1))) w)))))))))))) ∧
 (op ≠ 14 →
 (op = 15 →
 (op = 15 → R (Ending.returned (Value.int IntKind.i64 1)) w) ∧
 (op ≠ 15 →
 (op = 3 → (op = 3 → R (Ending.returned (Value.int IntKind.i64 2)) w) ∧ (op ≠ 3 → R (Ending.returned (Value.int IntKind.i64 (-1))) w)) ∧
 (op ≠ 3 →
 (op = 4 → (op = 4 → R (Ending.returned (Value.int IntKind.i64 2)) w) ∧ (op ≠ 4 → R (Ending.returned (Value.int IntKind.i64 (-1))) w)) ∧
 (op ≠ 4 →
 (op = 5 → (op = 5 → R (Ending.returned (Value.int IntKind.i64 2)) w) ∧ (op ≠ 5 → R (Ending.returned (Value.int IntKind.i64 (-1))) w)) ∧
 (op ≠ 5 →
 (op = 6 → (op = 6 → R (Ending.returned (Value.int IntKind.i64 2)) w) ∧ (op ≠ 6 → R (Ending.returned (Value.int IntKind.i64 (-1))) w)) ∧
 (op ≠ 6 →
 (op = 7 → (op = 7 → R (Ending.returned (Value.int IntKind.i64 2)) w) ∧ (op ≠ 7 → R (Ending.returned (Value.int IntKind.i64 (-1))) w)) ∧
 (op ≠ 7 →
 (op = 9 → (op = 9 → R (Ending.returned (Value.int IntKind.i64 2)) w) ∧ (op ≠ 9 → R (Ending.returned (Value.int IntKind.i64 (-1))) w)) ∧
 (op ≠ 9 →
 (op = 10 → (op = 10 → R (Ending.returned (Value.int IntKind.i64 2)) w) ∧ (op ≠ 10 → R (Ending.returned (Value.int IntKind.i64 (-1))) w)) ∧
 (op ≠ 10 →
 (op = 11 → (op = 11 → R (Ending.returned (Value.int IntKind.i64 2)) w) ∧ (op ≠ 11 → R (Ending.returned (Value.int IntKind.i64 (-1))) w)) ∧
 (op ≠ 11 →
 (op = 12 → (op = 12 → R (Ending.returned (Value.int IntKind.i64 2)) w) ∧ (op ≠ 12 → R (Ending.returned (Value.int IntKind.i64 (-1))) w)) ∧
 (op ≠ 12 → (op = 13 → R (Ending.returned (Value.int IntKind.i64 2)) w) ∧ (op ≠ 13 → R (Ending.returned (Value.int IntKind.i64 (-1))) w)))))))))))) ∧
 (op ≠ 15 →
 (op = 16 → R (Ending.returned (Value.int IntKind.i64 1)) w) ∧
 (op ≠ 16 →
 (op = 3 → (op = 3 → R (Ending.returned (Value.int IntKind.i64 2)) w) ∧ (op ≠ 3 → R (Ending.returned (Value.int IntKind.i64 (-1))) w)) ∧
 (op ≠ 3 →
 (op = 4 → (op = 4 → R (Ending.returned (Value.int IntKind.i64 2)) w) ∧ (op ≠ 4 → R (Ending.returned (Value.int IntKind.i64 (-1))) w)) ∧
 (op ≠ 4 →
 (op = 5 → (op = 5 → R (Ending.returned (Value.int IntKind.i64 2)) w) ∧ (op ≠ 5 → R (Ending.returned (Value.int IntKind.i64 (-1))) w)) ∧
 (op ≠ 5 →
 (op = 6 → (op = 6 → R (Ending.returned (Value.int IntKind.i64 2)) w) ∧ (op ≠ 6 → R (Ending.returned (Value.int IntKind.i64 (-1))) w)) ∧
 (op ≠ 6 →
 (op = 7 → (op = 7 → R (Ending.returned (Value.int IntKind.i64 2)) w) ∧ (op ≠ 7 → R (Ending.returned (Value.int IntKind.i64 (-1))) w)) ∧
 (op ≠ 7 →
 (op = 9 → (op = 9 → R (Ending.returned (Value.int IntKind.i64 2)) w) ∧ (op ≠ 9 → R (Ending.returned (Value.int IntKind.i64 (-1))) w)) ∧
 (op ≠ 9 →
 (op = 10 → (op = 10 → R (Ending.returned (Value.int IntKind.i64 2)) w) ∧ (op ≠ 10 → R (Ending.returned (Value.int IntKind.i64 (-1))) w)) ∧
 (op ≠ 10 →
 (op = 11 → (op = 11 → R (Ending.returned (Value.int IntKind.i64 2)) w) ∧ (op ≠ 11 → R (Ending.returned (Value.int IntKind.i64 (-1))) w)) ∧
 (op ≠ 11 →
 (op = 12 → (op = 12 → R (Ending.returned (Value.int IntKind.i64 2)) w) ∧ (op ≠ 12 → R (Ending.returned (Value.int IntKind.i64 (-1))) w)) ∧
 (op ≠ 12 → (op = 13 → R (Ending.returned (Value.int IntKind.i64 2)) w) ∧ (op ≠ 13 → R (Ending.returned (Value.int IntKind.i64 (-1))) w)))))))))))))))) ∧
 (op ≠ 1 →
 (op = 2 → R (Ending.returned (Value.int IntKind.i64 0)) w) ∧
 (op ≠ 2 →
 (op = 8 →
 (op = 8 → R (Ending.returned (Value.int IntKind.i64 1)) w) ∧
 (op ≠ 8 →
 (op = 3 → (op = 3 → R (Ending.returned (Value.int IntKind.i64 2)) w) ∧ (op ≠ 3 → R (Ending.returned (Value.int IntKind.i64 (-1))) w)) ∧
 (op ≠ 3 →
 (op = 4 → (op = 4 → R (Ending.returned (Value.int IntKind.i64 2)) w) ∧ (op ≠ 4 → R (Ending.returned (Value.int IntKind.i64 (-1))) w)) ∧
 (op ≠ 4 →
 (op = 5 → (op = 5 → R (Ending.returned (Value.int IntKind.i64 2)) w) ∧ (op ≠ 5 → R (Ending.returned (Value.int IntKind.i64 (-1))) w)) ∧
 (op ≠ 5 →
 (op = 6 → (op = 6 → R (Ending.returned (Value.int IntKind.i64 2)) w) ∧ (op ≠ 6 → R (Ending.returned (Value.int IntKind.i64 (-1))) w)) ∧
 (op ≠ 6 →
 (op = 7 → (op = 7 → R (Ending.returned (Value.int IntKind.i64 2)) w) ∧ (op ≠ 7 → R (Ending.returned (Value.int IntKind.i64 (-1))) w)) ∧
 (op ≠ 7 →
 (op = 9 → (op = 9 → R (Ending.returned (Value.int IntKind.i64 2)) w) ∧ (op ≠ 9 → R (Ending.returned (Value.int IntKind.i64 (-1))) w)) ∧
 (op ≠ 9 →
 (op = 10 → (op = 10 → R (Ending.returned (Value.int IntKind.i64 2)) w) ∧ (op ≠ 10 → R (Ending.returned (Value.int IntKind.i64 (-1))) w)) ∧
 (op ≠ 10 →
 (op = 11 → (op = 11 → R (Ending.returned (Value.int IntKind.i64 2)) w) ∧ (op ≠ 11 → R (Ending.returned (Value.int IntKind.i64 (-1))) w)) ∧
 (op ≠ 11 →
 (op = 12 → (op = 12 → R (Ending.returned (Value.int IntKind.i64 2)) w) ∧ (op ≠ 12 → R (Ending.returned (Value.int IntKind.i64 (-1))) w)) ∧
 (op ≠ 12 → (op = 13 → R (Ending.returned (Value.int IntKind.i64 2)) w) ∧ (op ≠ 13 → R (Ending.returned (Value.int IntKind.i64 (-1))) w)))))))))))) ∧
 (op ≠ 8 →
 (op = 14 →
 (op = 14 → R (Ending.returned (Value.int IntKind.i64 1)) w) ∧
 (op ≠ 14 →
 (op = 3 → (op = 3 → R (Ending.returned (Value.int IntKind.i64 2)) w) ∧ (op ≠ 3 → R (Ending.returned (Value.int IntKind.i64 (-1))) w)) ∧
 (op ≠ 3 →
 (op = 4 → (op = 4 → R (Ending.returned (Value.int IntKind.i64 2)) w) ∧ (op ≠ 4 → R (Ending.returned (Value.int IntKind.i64 (-1))) w)) ∧
 (op ≠ 4 →
 (op = 5 → (op = 5 → R (Ending.returned (Value.int IntKind.i64 2)) w) ∧ (op ≠ 5 → R (Ending.returned (Value.int IntKind.i64 (-1))) w)) ∧
 (op ≠ 5 →
 (op = 6 → (op = 6 → R (Ending.returned (Value.int IntKind.i64 2)) w) ∧ (op ≠ 6 → R (Ending.returned (Value.int IntKind.i64 (-1))) w)) ∧
 (op ≠ 6 →
 (op = 7 → (op = 7 → R (Ending.returned (Value.int IntKind.i64 2)) w) ∧ (op ≠ 7 → R (Ending.returned (Value.int IntKind.i64 (-1))) w)) ∧
 (op ≠ 7 →
 (op = 9 → (op = 9 → R (Ending.returned (Value.int IntKind.i64 2)) w) ∧ (op ≠ 9 → R (Ending.returned (Value.int IntKind.i64 (-1))) w)) ∧
 (op ≠ 9 →
 (op = 10 → (op = 10 → R (Ending.returned (Value.int IntKind.i64 2)) w) ∧ (op ≠ 10 → R (Ending.returned (Value.int IntKind.i64 (-1))) w)) ∧
 (op ≠ 10 →
 (op = 11 → (op = 11 → R (Ending.returned (Value.int IntKind.i64 2)) w) ∧ (op ≠ 11 → R (Ending.returned (Value.int IntKind.i64 (-1))) w)) ∧
 (op ≠ 11 →
 (op = 12 → (op = 12 → R (Ending.returned (Value.int IntKind.i64 2)) w) ∧ (op ≠ 12 → R (Ending.returned (Value.int IntKind.i64 (-1))) w)) ∧
 (op ≠ 12 → (op = 13 → R (Ending.returned (Value.int IntKind.i64 2)) w) ∧ (op ≠ 13 → R (Ending.returned (Value.int IntKind.i64 (-1))) w)))))))))))) ∧
 (op ≠ 14 →
 (op = 15 →
 (op = 15 → R (Ending.returned (Value.int IntKind.i64 1)) w) ∧
 (op ≠ 15 →
 (op = 3 → (op = 3 → R (Ending.returned (Value.int IntKind.i64 2)) w) ∧ (op ≠ 3 → R (Ending.returned (Value.int IntKind.i64 (-1))) w)) ∧
 (op ≠ 3 →
 (op = 4 → (op = 4 → R (Ending.returned (Value.int IntKind.i64 2)) w) ∧ (op ≠ 4 → R (Ending.returned (Value.int IntKind.i64 (-1))) w)) ∧
 (op ≠ 4 →
 (op = 5 → (op = 5 → R (Ending.returned (Value.int IntKind.i64 2)) w) ∧ (op ≠ 5 → R (Ending.returned (Value.int IntKind.i64 (-1))) w)) ∧
 (op ≠ 5 →
 (op = 6 → (op = 6 → R (Ending.returned (Value.int IntKind.i64 2)) w) ∧ (op ≠ 6 → R (Ending.returned (Value.int IntKind.i64 (-1))) w)) ∧
 (op ≠ 6 →
 (op = 7 → (op = 7 → R (Ending.returned (Value.int IntKind.i64 2)) w) ∧ (op ≠ 7 → R (Ending.returned (Value.int IntKind.i64 (-1))) w)) ∧
 (op ≠ 7 →
 (op = 9 → (op = 9 → R (Ending.returned (Value.int IntKind.i64 2)) w) ∧ (op ≠ 9 → R (Ending.returned (Value.int IntKind.i64 (-1))) w)) ∧
 (op ≠ 9 →
 (op = 10 → (op = 10 → R (Ending.returned (Value.int IntKind.i64 2)) w) ∧ (op ≠ 10 → R (Ending.returned (Value.int IntKind.i64 (-1))) w)) ∧
 (op ≠ 10 →
 (op = 11 → (op = 11 → R (Ending.returned (Value.int IntKind.i64 2)) w) ∧ (op ≠ 11 → R (Ending.returned (Value.int IntKind.i64 (-1))) w)) ∧
 (op ≠ 11 →
 (op = 12 → (op = 12 → R (Ending.returned (Value.int IntKind.i64 2)) w) ∧ (op ≠ 12 → R (Ending.returned (Value.int IntKind.i64 (-1))) w)) ∧
 (op ≠ 12 → (op = 13 → R (Ending.returned (Value.int IntKind.i64 2)) w) ∧ (op ≠ 13 → R (Ending.returned (Value.int IntKind.i64 (-1))) w)))))))))))) ∧
 (op ≠ 15 →
 (op = 16 → R (Ending.returned (Value.int IntKind.i64 1)) w) ∧
 (op ≠ 16 →
 (op = 3 → (op = 3 → R (Ending.returned (Value.int IntKind.i64 2)) w) ∧ (op ≠ 3 → R (Ending.returned (Value.int IntKind.i64 (-1))) w)) ∧
 (op ≠ 3 →
 (op = 4 → (op = 4 → R (Ending.returned (Value.int IntKind.i64 2)) w) ∧ (op ≠ 4 → R (Ending.returned (Value.int IntKind.i64 (-1))) w)) ∧
 (op ≠ 4 →
 (op = 5 → (op = 5 → R (Ending.returned (Value.int IntKind.i64 2)) w) ∧ (op ≠ 5 → R (Ending.returned (Value.int IntKind.i64 (-1))) w)) ∧
 (op ≠ 5 →
 (op = 6 → (op = 6 → R (Ending.returned (Value.int IntKind.i64 2)) w) ∧ (op ≠ 6 → R (Ending.returned (Value.int IntKind.i64 (-1))) w)) ∧
 (op ≠ 6 →
 (op = 7 → (op = 7 → R (Ending.returned (Value.int IntKind.i64 2)) w) ∧ (op ≠ 7 → R (Ending.returned (Value.int IntKind.i64 (-1))) w)) ∧
 (op ≠ 7 →
 (op = 9 → (op = 9 → R (Ending.returned (Value.int IntKind.i64 2)) w) ∧ (op ≠ 9 → R (Ending.returned (Value.int IntKind.i64 (-1))) w)) ∧
 (op ≠ 9 →
 (op = 10 → (op = 10 → R (Ending.returned (Value.int IntKind.i64 2)) w) ∧ (op ≠ 10 → R (Ending.returned (Value.int IntKind.i64 (-1))) w)) ∧
 (op ≠ 10 →
 (op = 11 → (op = 11 → R (Ending.returned (Value.int IntKind.i64 2)) w) ∧ (op ≠ 11 → R (Ending.returned (Value.int IntKind.i64 (-1))) w)) ∧
 (op ≠ 11 →
 (op = 12 → (op = 12 → R (Ending.returned (Value.int IntKind.i64 2)) w) ∧ (op ≠ 12 → R (Ending.returned (Value.int IntKind.i64 (-1))) w)) ∧
 (op ≠ 12 → (op = 13 → R (Ending.returned (Value.int IntKind.i64 2)) w) ∧ (op ≠ 13 → R (Ending.returned (Value.int IntKind.i64 (-1))) w))))))))))))))))

set_option maxRecDepth 100000 in
theorem many_eq (op : Int) (w : World) (R : Ending → World → Prop) : many_T op w R = vcFn Tryd.prog [] [] Tryd.f81 [Value.int IntKind.i64 op] w R := by kernel_rfl

set_option maxRecDepth 100000 in
theorem many_vc (op : Int) (w : World) (R : Ending → World → Prop) (h : many_T op w R) : Calls Tryd.prog 81 #[Value.int IntKind.i64 op] w R :=
  calls_of_vc (args := [Value.int IntKind.i64 op]) [] [] Tryd.mixed Tryd.func81 (cast (many_eq _ w R) h)

set_option maxRecDepth 100000 in
def rformed_T (x0 : Int) (x1 : ByteArray) (x2 : Int) (x3 : Int) (x4 : ByteArray) (x5_p : Option Addr) (x5_n : Nat) (x5_c : Nat) (depth : Int) (left : Int) (w : World) (R : Ending → World → Prop) : Prop :=
  ∀ (b1 : Nat) (w'2 : World),
 New w (Obj.cells #[Value.int IntKind.i64 x0, Value.string x1, Value.int IntKind.i64 x2, Value.int IntKind.i64 x3, Value.string x4, Value.slice x5_p x5_n x5_c] 29) b1
 w'2 →
 ∃ (n4 : Int),
 w'2.cell? (Addr.mk b1 2 none) = some (Value.int IntKind.i64 n4) ∧
 ∃ (n5 : Int),
 w'2.cell? (Addr.mk b1 3 none) = some (Value.int IntKind.i64 n5) ∧
 ∃ (s6 : ByteArray),
 w'2.cell? (Addr.mk b1 4 none) = some (Value.string s6) ∧
 Calls Tryd.prog 30 #[Value.agg #[Value.int IntKind.i64 n4, Value.int IntKind.i64 n5, Value.string s6]] w'2 fun (e7 : Ending) (w8 : World) ↦
 ∃ (b9 : Bool),
 e7 = Ending.returned (Value.bool b9) ∧
 ∀ (w'10 : World),
 Drew w8 w'10 →
 (depth < 1 ∨ left < 1 → Same w'10 w'10 ∧ R (Ending.returned (Value.int IntKind.i64 (-1))) w'10) ∧
 (1 ≤ depth ∧ 1 ≤ left →
 ∃ (p14 : Option Addr),
 ∃ (n15 : Nat),
 ∃ (c16 : Nat),
 w'10.cell? (Addr.mk b1 5 none) = some (Value.slice p14 n15 c16) ∧
 ∃ (n17 : Int),
 w'10.cell? (Addr.mk b1 0 none) = some (Value.int IntKind.i64 n17) ∧
 Calls Tryd.prog 81 #[Value.int IntKind.i64 n17] w'10 fun (e18 : Ending) (w19 : World) ↦
 ∃ (n20 : Int),
 e18 = Ending.returned (Value.int IntKind.i64 n20) ∧
 Same w'10 w19 ∧
 ((↑n15 : Int) ≠ n20 ∨ b9 = false → R (Ending.returned (Value.int IntKind.i64 (-1))) w19) ∧
 ((↑n15 : Int) = n20 ∧ b9 = true →
 ∃ (n23 : Int),
 w19.cell? (Addr.mk b1 0 none) = some (Value.int IntKind.i64 n23) ∧
 (n23 ≠ 1 →
 ∃ (s25 : ByteArray),
 w19.cell? (Addr.mk b1 1 none) = some (Value.string s25) ∧
 (s25 ≠ ByteArray.mk #[] → R (Ending.returned (Value.int IntKind.i64 (-1))) w19) ∧
 (s25 = ByteArray.mk #[] →
 ∃ (n28 : Int),
 w19.cell? (Addr.mk b1 0 none) = some (Value.int IntKind.i64 n28) ∧
 (n28 ≠ 2 →
 ∃ (n30 : Int),
 w19.cell? (Addr.mk b1 2 none) = some (Value.int IntKind.i64 n30) ∧
 ∃ (n31 : Int),
 w19.cell? (Addr.mk b1 3 none) = some (Value.int IntKind.i64 n31) ∧
 ∃ (s32 : ByteArray),
 w19.cell? (Addr.mk b1 4 none) = some (Value.string s32) ∧
 (n30 ≠ 0 ∨ n31 ≠ 0 ∨ s32 ≠ ByteArray.mk #[] → R (Ending.returned (Value.int IntKind.i64 (-1))) w19) ∧
 (n30 = 0 ∧ n31 = 0 ∧ s32 = ByteArray.mk #[] →
 ∃ (I35 : Int → Int → World → Prop),
 ∃ (M36 : Int → Int → World → Nat),
 I35 (IntKind.i64.wrap (left - 1)) 0 w19 ∧
 ∀ (n37 n38 : Int) (w'39 : World),
 I35 n37 n38 w'39 →
 ∃ (p41 : Option Addr),
 ∃ (n42 : Nat),
 ∃ (c43 : Nat),
 w'39.cell? (Addr.mk b1 5 none) = some (Value.slice p41 n42 c43) ∧
 (n38 < (↑n42 : Int) ∧ 0 ≤ n37 →
 ∃ (p45 : Option Addr),
 ∃ (n46 : Nat),
 ∃ (c47 : Nat),
 w'39.cell? (Addr.mk b1 5 none) = some (Value.slice p45 n46 c47) ∧
 ∃ (b48 : Nat),
 ∃ (o49 : Nat),
 p45 = some (Addr.mk b48 o49 none) ∧
 0 ≤ n38 ∧
 n38 < (↑n46 : Int) ∧
 ∃ (n50 : Int),
 w'39.cell? (Addr.mk b48 (o49 + n38.toNat * 6) none) = some (Value.int IntKind.i64 n50) ∧
 ∃ (s51 : ByteArray),
 w'39.cell? (Addr.mk b48 (o49 + n38.toNat * 6 + 1) none) = some (Value.string s51) ∧
 ∃ (n52 : Int),
 w'39.cell? (Addr.mk b48 (o49 + n38.toNat * 6 + 2) none) = some (Value.int IntKind.i64 n52) ∧
 ∃ (n53 : Int),
 w'39.cell? (Addr.mk b48 (o49 + n38.toNat * 6 + 3) none) = some (Value.int IntKind.i64 n53) ∧
 ∃ (s54 : ByteArray),
 w'39.cell? (Addr.mk b48 (o49 + n38.toNat * 6 + 4) none) = some (Value.string s54) ∧
 ∃ (p55 : Option Addr),
 ∃ (n56 : Nat),
 ∃ (c57 : Nat),
 w'39.cell? (Addr.mk b48 (o49 + n38.toNat * 6 + 5) none) = some (Value.slice p55 n56 c57) ∧
 Calls Tryd.prog 53
 #[Value.agg #[Value.int IntKind.i64 n50, Value.string s51, Value.int IntKind.i64 n52, Value.int IntKind.i64 n53, Value.string s54, Value.slice p55 n56 c57],
 Value.int IntKind.i64 (IntKind.i64.wrap (depth - 1)), Value.int IntKind.i64 n37]
 w'39 fun (e58 : Ending) (w59 : World) ↦
 ∃ (n60 : Int),
 e58 = Ending.returned (Value.int IntKind.i64 n60) ∧ I35 n60 (IntKind.i64.wrap (n38 + 1)) w59 ∧ M36 n60 (IntKind.i64.wrap (n38 + 1)) w59 < M36 n37 n38 w'39) ∧
 ((↑n42 : Int) ≤ n38 ∨ n37 < 0 → R (Ending.returned (Value.int IntKind.i64 n37)) w'39))) ∧
 (n28 = 2 →
 ∃ (I63 : Int → Int → World → Prop),
 ∃ (M64 : Int → Int → World → Nat),
 I63 (IntKind.i64.wrap (left - 1)) 0 w19 ∧
 ∀ (n65 n66 : Int) (w'67 : World),
 I63 n65 n66 w'67 →
 ∃ (p69 : Option Addr),
 ∃ (n70 : Nat),
 ∃ (c71 : Nat),
 w'67.cell? (Addr.mk b1 5 none) = some (Value.slice p69 n70 c71) ∧
 (n66 < (↑n70 : Int) ∧ 0 ≤ n65 →
 ∃ (p73 : Option Addr),
 ∃ (n74 : Nat),
 ∃ (c75 : Nat),
 w'67.cell? (Addr.mk b1 5 none) = some (Value.slice p73 n74 c75) ∧
 ∃ (b76 : Nat),
 ∃ (o77 : Nat),
 p73 = some (Addr.mk b76 o77 none) ∧
 0 ≤ n66 ∧
 n66 < (↑n74 : Int) ∧
 ∃ (n78 : Int),
 w'67.cell? (Addr.mk b76 (o77 + n66.toNat * 6) none) = some (Value.int IntKind.i64 n78) ∧
 ∃ (s79 : ByteArray),
 w'67.cell? (Addr.mk b76 (o77 + n66.toNat * 6 + 1) none) = some (Value.string s79) ∧
 ∃ (n80 : Int),
 w'67.cell? (Addr.mk b76 (o77 + n66.toNat * 6 + 2) none) = some (Value.int IntKind.i64 n80) ∧
 ∃ (n81 : Int),
 w'67.cell? (Addr.mk b76 (o77 + n66.toNat * 6 + 3) none) = some (Value.int IntKind.i64 n81) ∧
 ∃ (s82 : ByteArray),
 w'67.cell? (Addr.mk b76 (o77 + n66.toNat * 6 + 4) none) = some (Value.string s82) ∧
 ∃ (p83 : Option Addr),
 ∃ (n84 : Nat),
 ∃ (c85 : Nat),
 w'67.cell? (Addr.mk b76 (o77 + n66.toNat * 6 + 5) none) = some (Value.slice p83 n84 c85) ∧
 Calls Tryd.prog 53
 #[Value.agg #[Value.int IntKind.i64 n78, Value.string s79, Value.int IntKind.i64 n80, Value.int IntKind.i64 n81, Value.string s82, Value.slice p83 n84 c85],
 Value.int IntKind.i64 (IntKind.i64.wrap (depth - 1)), Value.int IntKind.i64 n65]
 w'67 fun (e86 : Ending) (w87 : World) ↦
 ∃ (n88 : Int),
 e86 = Ending.returned (Value.int IntKind.i64 n88) ∧ I63 n88 (IntKind.i64.wrap (n66 + 1)) w87 ∧ M64 n88 (IntKind.i64.wrap (n66 + 1)) w87 < M64 n65 n66 w'67) ∧
 ((↑n70 : Int) ≤ n66 ∨ n65 < 0 → R (Ending.returned (Value.int IntKind.i64 n65)) w'67)))) ∧
 (n23 = 1 →
 ∃ (n91 : Int),
 w19.cell? (Addr.mk b1 0 none) = some (Value.int IntKind.i64 n91) ∧
 (n91 ≠ 2 →
 ∃ (n93 : Int),
 w19.cell? (Addr.mk b1 2 none) = some (Value.int IntKind.i64 n93) ∧
 ∃ (n94 : Int),
 w19.cell? (Addr.mk b1 3 none) = some (Value.int IntKind.i64 n94) ∧
 ∃ (s95 : ByteArray),
 w19.cell? (Addr.mk b1 4 none) = some (Value.string s95) ∧
 (n93 ≠ 0 ∨ n94 ≠ 0 ∨ s95 ≠ ByteArray.mk #[] → R (Ending.returned (Value.int IntKind.i64 (-1))) w19) ∧
 (n93 = 0 ∧ n94 = 0 ∧ s95 = ByteArray.mk #[] →
 ∃ (I98 : Int → Int → World → Prop),
 ∃ (M99 : Int → Int → World → Nat),
 I98 (IntKind.i64.wrap (left - 1)) 0 w19 ∧
 ∀ (n100 n101 : Int) (w'102 : World),
 I98 n100 n101 w'102 →
 ∃ (p104 : Option Addr),
 ∃ (n105 : Nat),
 ∃ (c106 : Nat),
 w'102.cell? (Addr.mk b1 5 none) = some (Value.slice p104 n105 c106) ∧
 (n101 < (↑n105 : Int) ∧ 0 ≤ n100 →
 ∃ (p108 : Option Addr),
 ∃ (n109 : Nat),
 ∃ (c110 : Nat),
 w'102.cell? (Addr.mk b1 5 none) = some (Value.slice p108 n109 c110) ∧
 ∃ (b111 : Nat),
 ∃ (o112 : Nat),
 p108 = some (Addr.mk b111 o112 none) ∧
 0 ≤ n101 ∧
 n101 < (↑n109 : Int) ∧
 ∃ (n113 : Int),
 w'102.cell? (Addr.mk b111 (o112 + n101.toNat * 6) none) = some (Value.int IntKind.i64 n113) ∧
 ∃ (s114 : ByteArray),
 w'102.cell? (Addr.mk b111 (o112 + n101.toNat * 6 + 1) none) = some (Value.string s114) ∧
 ∃ (n115 : Int),
 w'102.cell? (Addr.mk b111 (o112 + n101.toNat * 6 + 2) none) = some (Value.int IntKind.i64 n115) ∧
 ∃ (n116 : Int),
 w'102.cell? (Addr.mk b111 (o112 + n101.toNat * 6 + 3) none) = some (Value.int IntKind.i64 n116) ∧
 ∃ (s117 : ByteArray),
 w'102.cell? (Addr.mk b111 (o112 + n101.toNat * 6 + 4) none) = some (Value.string s117) ∧
 ∃ (p118 : Option Addr),
 ∃ (n119 : Nat),
 ∃ (c120 : Nat),
 w'102.cell? (Addr.mk b111 (o112 + n101.toNat * 6 + 5) none) = some (Value.slice p118 n119 c120) ∧
 Calls Tryd.prog 53
 #[Value.agg #[Value.int IntKind.i64 n113, Value.string s114, Value.int IntKind.i64 n115, Value.int IntKind.i64 n116, Value.string s117, Value.slice p118 n119 c120],
 Value.int IntKind.i64 (IntKind.i64.wrap (depth - 1)), Value.int IntKind.i64 n100]
 w'102 fun (e121 : Ending) (w122 : World) ↦
 ∃ (n123 : Int),
 e121 = Ending.returned (Value.int IntKind.i64 n123) ∧ I98 n123 (IntKind.i64.wrap (n101 + 1)) w122 ∧ M99 n123 (IntKind.i64.wrap (n101 + 1)) w122 < M99 n100 n101 w'102) ∧
 ((↑n105 : Int) ≤ n101 ∨ n100 < 0 → R (Ending.returned (Value.int IntKind.i64 n100)) w'102))) ∧
 (n91 = 2 →
 ∃ (I126 : Int → Int → World → Prop),
 ∃ (M127 : Int → Int → World → Nat),
 I126 (IntKind.i64.wrap (left - 1)) 0 w19 ∧
 ∀ (n128 n129 : Int) (w'130 : World),
 I126 n128 n129 w'130 →
 ∃ (p132 : Option Addr),
 ∃ (n133 : Nat),
 ∃ (c134 : Nat),
 w'130.cell? (Addr.mk b1 5 none) = some (Value.slice p132 n133 c134) ∧
 (n129 < (↑n133 : Int) ∧ 0 ≤ n128 →
 ∃ (p136 : Option Addr),
 ∃ (n137 : Nat),
 ∃ (c138 : Nat),
 w'130.cell? (Addr.mk b1 5 none) = some (Value.slice p136 n137 c138) ∧
 ∃ (b139 : Nat),
 ∃ (o140 : Nat),
 p136 = some (Addr.mk b139 o140 none) ∧
 0 ≤ n129 ∧
 n129 < (↑n137 : Int) ∧
 ∃ (n141 : Int),
 w'130.cell? (Addr.mk b139 (o140 + n129.toNat * 6) none) = some (Value.int IntKind.i64 n141) ∧
 ∃ (s142 : ByteArray),
 w'130.cell? (Addr.mk b139 (o140 + n129.toNat * 6 + 1) none) = some (Value.string s142) ∧
 ∃ (n143 : Int),
 w'130.cell? (Addr.mk b139 (o140 + n129.toNat * 6 + 2) none) = some (Value.int IntKind.i64 n143) ∧
 ∃ (n144 : Int),
 w'130.cell? (Addr.mk b139 (o140 + n129.toNat * 6 + 3) none) = some (Value.int IntKind.i64 n144) ∧
 ∃ (s145 : ByteArray),
 w'130.cell? (Addr.mk b139 (o140 + n129.toNat * 6 + 4) none) = some (Value.string s145) ∧
 ∃ (p146 : Option Addr),
 ∃ (n147 : Nat),
 ∃ (c148 : Nat),
 w'130.cell? (Addr.mk b139 (o140 + n129.toNat * 6 + 5) none) = some (Value.slice p146 n147 c148) ∧
 Calls Tryd.prog 53
 #[Value.agg #[Value.int IntKind.i64 n141, Value.string s142, Value.int IntKind.i64 n143, Value.int IntKind.i64 n144, Value.string s145, Value.slice p146 n147 c148],
 Value.int IntKind.i64 (IntKind.i64.wrap (depth - 1)), Value.int IntKind.i64 n128]
 w'130 fun (e149 : Ending) (w150 : World) ↦
 ∃ (n151 : Int),
 e149 = Ending.returned (Value.int IntKind.i64 n151) ∧
 I126 n151 (IntKind.i64.wrap (n129 + 1)) w150 ∧ M127 n151 (IntKind.i64.wrap (n129 + 1)) w150 < M127 n128 n129 w'130) ∧
 ((↑n133 : Int) ≤ n129 ∨ n128 < 0 → R (Ending.returned (Value.int IntKind.i64 n128)) w'130)))))

set_option maxRecDepth 100000 in
theorem rformed_eq (x0 : Int) (x1 : ByteArray) (x2 : Int) (x3 : Int) (x4 : ByteArray) (x5_p : Option Addr) (x5_n : Nat) (x5_c : Nat) (depth : Int) (left : Int) (w : World) (R : Ending → World → Prop) : rformed_T x0 x1 x2 x3 x4 x5_p x5_n x5_c depth left w R = vcFn Tryd.prog [] [(2, [2, 4, 6, 8, 10, 12, 14, 16, 18, 20, 22, 24, 27, 28, 30, 32, 34, 36, 38, 40, 42, 44, 46, 48, 50, 52, 54, 56, 58, 60, 62, 64, 66, 68, 70, 72, 74, 76, 78, 80, 0])] Tryd.f53 [Value.agg
 #[Value.int IntKind.i64 x0, Value.string x1, Value.int IntKind.i64 x2, Value.int IntKind.i64 x3, Value.string x4,
 Value.slice x5_p x5_n x5_c], Value.int IntKind.i64 depth, Value.int IntKind.i64 left] w R := by kernel_rfl

set_option maxRecDepth 100000 in
theorem rformed_vc (x0 : Int) (x1 : ByteArray) (x2 : Int) (x3 : Int) (x4 : ByteArray) (x5_p : Option Addr) (x5_n : Nat) (x5_c : Nat) (depth : Int) (left : Int) (w : World) (R : Ending → World → Prop) (h : rformed_T x0 x1 x2 x3 x4 x5_p x5_n x5_c depth left w R) : Calls Tryd.prog 53 #[Value.agg
 #[Value.int IntKind.i64 x0, Value.string x1, Value.int IntKind.i64 x2, Value.int IntKind.i64 x3, Value.string x4,
 Value.slice x5_p x5_n x5_c], Value.int IntKind.i64 depth, Value.int IntKind.i64 left] w R :=
  calls_of_vc (args := [Value.agg
 #[Value.int IntKind.i64 x0, Value.string x1, Value.int IntKind.i64 x2, Value.int IntKind.i64 x3, Value.string x4,
 Value.slice x5_p x5_n x5_c], Value.int IntKind.i64 depth, Value.int IntKind.i64 left]) [] [(2, [2, 4, 6, 8, 10, 12, 14, 16, 18, 20, 22, 24, 27, 28, 30, 32, 34, 36, 38, 40, 42, 44, 46, 48, 50, 52, 54, 56, 58, 60, 62, 64, 66, 68, 70, 72, 74, 76, 78, 80, 0])] Tryd.mixed Tryd.func53 (cast (rformed_eq _ _ _ _ _ _ _ _ _ _ w R) h)

set_option maxRecDepth 100000 in
def rFormed_T (x0 : Int) (x1 : ByteArray) (x2 : Int) (x3 : Int) (x4 : ByteArray) (x5_p : Option Addr) (x5_n : Nat) (x5_c : Nat) (w : World) (R : Ending → World → Prop) : Prop :=
  ∀ (b1 : Nat) (w'2 : World),
 New w (Obj.cells #[Value.int IntKind.i64 x0, Value.string x1, Value.int IntKind.i64 x2, Value.int IntKind.i64 x3, Value.string x4, Value.slice x5_p x5_n x5_c] 29) b1
 w'2 →
 ∃ (n4 : Int),
 w'2.cell? (Addr.mk b1 0 none) = some (Value.int IntKind.i64 n4) ∧
 ∃ (s5 : ByteArray),
 w'2.cell? (Addr.mk b1 1 none) = some (Value.string s5) ∧
 ∃ (n6 : Int),
 w'2.cell? (Addr.mk b1 2 none) = some (Value.int IntKind.i64 n6) ∧
 ∃ (n7 : Int),
 w'2.cell? (Addr.mk b1 3 none) = some (Value.int IntKind.i64 n7) ∧
 ∃ (s8 : ByteArray),
 w'2.cell? (Addr.mk b1 4 none) = some (Value.string s8) ∧
 ∃ (p9 : Option Addr),
 ∃ (n10 : Nat),
 ∃ (c11 : Nat),
 w'2.cell? (Addr.mk b1 5 none) = some (Value.slice p9 n10 c11) ∧
 Calls Tryd.prog 53
 #[Value.agg #[Value.int IntKind.i64 n4, Value.string s5, Value.int IntKind.i64 n6, Value.int IntKind.i64 n7, Value.string s8, Value.slice p9 n10 c11],
 Value.int IntKind.i64 40, Value.int IntKind.i64 400]
 w'2 fun (e12 : Ending) (w13 : World) ↦ ∃ (n14 : Int), e12 = Ending.returned (Value.int IntKind.i64 n14) ∧ R (Ending.returned (Value.bool (decide (0 ≤ n14)))) w13

set_option maxRecDepth 100000 in
theorem rFormed_eq (x0 : Int) (x1 : ByteArray) (x2 : Int) (x3 : Int) (x4 : ByteArray) (x5_p : Option Addr) (x5_n : Nat) (x5_c : Nat) (w : World) (R : Ending → World → Prop) : rFormed_T x0 x1 x2 x3 x4 x5_p x5_n x5_c w R = vcFn Tryd.prog [] [] Tryd.f36 [Value.agg
 #[Value.int IntKind.i64 x0, Value.string x1, Value.int IntKind.i64 x2, Value.int IntKind.i64 x3, Value.string x4,
 Value.slice x5_p x5_n x5_c]] w R := by kernel_rfl

set_option maxRecDepth 100000 in
theorem rFormed_vc (x0 : Int) (x1 : ByteArray) (x2 : Int) (x3 : Int) (x4 : ByteArray) (x5_p : Option Addr) (x5_n : Nat) (x5_c : Nat) (w : World) (R : Ending → World → Prop) (h : rFormed_T x0 x1 x2 x3 x4 x5_p x5_n x5_c w R) : Calls Tryd.prog 36 #[Value.agg
 #[Value.int IntKind.i64 x0, Value.string x1, Value.int IntKind.i64 x2, Value.int IntKind.i64 x3, Value.string x4,
 Value.slice x5_p x5_n x5_c]] w R :=
  calls_of_vc (args := [Value.agg
 #[Value.int IntKind.i64 x0, Value.string x1, Value.int IntKind.i64 x2, Value.int IntKind.i64 x3, Value.string x4,
 Value.slice x5_p x5_n x5_c]]) [] [] Tryd.mixed Tryd.func36 (cast (rFormed_eq _ _ _ _ _ _ _ _ w R) h)

set_option maxRecDepth 100000 in
def wants_T (op : Int) (w : World) (R : Ending → World → Prop) : Prop :=
  (op = 12 →
 (op = 12 → R (Ending.returned (Value.int IntKind.i64 2)) w) ∧
 (op ≠ 12 →
 (op = 16 → R (Ending.returned (Value.int IntKind.i64 3)) w) ∧
 (op ≠ 16 →
 (op = 3 → (op = 3 → R (Ending.returned (Value.int IntKind.i64 1)) w) ∧ (op ≠ 3 → R (Ending.returned (Value.int IntKind.i64 0)) w)) ∧
 (op ≠ 3 →
 (op = 4 → (op = 4 → R (Ending.returned (Value.int IntKind.i64 1)) w) ∧ (op ≠ 4 → R (Ending.returned (Value.int IntKind.i64 0)) w)) ∧
 (op ≠ 4 →
 (op = 5 → (op = 5 → R (Ending.returned (Value.int IntKind.i64 1)) w) ∧ (op ≠ 5 → R (Ending.returned (Value.int IntKind.i64 0)) w)) ∧
 (op ≠ 5 →
 (op = 6 → (op = 6 → R (Ending.returned (Value.int IntKind.i64 1)) w) ∧ (op ≠ 6 → R (Ending.returned (Value.int IntKind.i64 0)) w)) ∧
 (op ≠ 6 →
 (op = 7 → (op = 7 → R (Ending.returned (Value.int IntKind.i64 1)) w) ∧ (op ≠ 7 → R (Ending.returned (Value.int IntKind.i64 0)) w)) ∧
 (op ≠ 7 → (op = 8 → R (Ending.returned (Value.int IntKind.i64 1)) w) ∧ (op ≠ 8 → R (Ending.returned (Value.int IntKind.i64 0)) w))))))))) ∧
 (op ≠ 12 →
 (op = 13 →
 (op = 13 → R (Ending.returned (Value.int IntKind.i64 2)) w) ∧
 (op ≠ 13 →
 (op = 16 → R (Ending.returned (Value.int IntKind.i64 3)) w) ∧
 (op ≠ 16 →
 (op = 3 → (op = 3 → R (Ending.returned (Value.int IntKind.i64 1)) w) ∧ (op ≠ 3 → R (Ending.returned (Value.int IntKind.i64 0)) w)) ∧
 (op ≠ 3 →
 (op = 4 → (op = 4 → R (Ending.returned (Value.int IntKind.i64 1)) w) ∧ (op ≠ 4 → R (Ending.returned (Value.int IntKind.i64 0)) w)) ∧
 (op ≠ 4 →
 (op = 5 → (op = 5 → R (Ending.returned (Value.int IntKind.i64 1)) w) ∧ (op ≠ 5 → R (Ending.returned (Value.int IntKind.i64 0)) w)) ∧
 (op ≠ 5 →
 (op = 6 → (op = 6 → R (Ending.returned (Value.int IntKind.i64 1)) w) ∧ (op ≠ 6 → R (Ending.returned (Value.int IntKind.i64 0)) w)) ∧
 (op ≠ 6 →
 (op = 7 → (op = 7 → R (Ending.returned (Value.int IntKind.i64 1)) w) ∧ (op ≠ 7 → R (Ending.returned (Value.int IntKind.i64 0)) w)) ∧
 (op ≠ 7 → (op = 8 → R (Ending.returned (Value.int IntKind.i64 1)) w) ∧ (op ≠ 8 → R (Ending.returned (Value.int IntKind.i64 0)) w))))))))) ∧
 (op ≠ 13 →
 (op = 14 → R (Ending.returned (Value.int IntKind.i64 2)) w) ∧
 (op ≠ 14 →
 (op = 16 → R (Ending.returned (Value.int IntKind.i64 3)) w) ∧
 (op ≠ 16 →
 (op = 3 → (op = 3 → R (Ending.returned (Value.int IntKind.i64 1)) w) ∧ (op ≠ 3 → R (Ending.returned (Value.int IntKind.i64 0)) w)) ∧
 (op ≠ 3 →
 (op = 4 → (op = 4 → R (Ending.returned (Value.int IntKind.i64 1)) w) ∧ (op ≠ 4 → R (Ending.returned (Value.int IntKind.i64 0)) w)) ∧
 (op ≠ 4 →
 (op = 5 → (op = 5 → R (Ending.returned (Value.int IntKind.i64 1)) w) ∧ (op ≠ 5 → R (Ending.returned (Value.int IntKind.i64 0)) w)) ∧
 (op ≠ 5 →
 (op = 6 → (op = 6 → R (Ending.returned (Value.int IntKind.i64 1)) w) ∧ (op ≠ 6 → R (Ending.returned (Value.int IntKind.i64 0)) w)) ∧
 (op ≠ 6 →
 (op = 7 → (op = 7 → R (Ending.returned (Value.int IntKind.i64 1)) w) ∧ (op ≠ 7 → R (Ending.returned (Value.int IntKind.i64 0)) w)) ∧
 (op ≠ 7 → (op = 8 → R (Ending.returned (Value.int IntKind.i64 1)) w) ∧ (op ≠ 8 → R (Ending.returned (Value.int IntKind.i64 0)) w))))))))))

set_option maxRecDepth 100000 in
theorem wants_eq (op : Int) (w : World) (R : Ending → World → Prop) : wants_T op w R = vcFn Tryd.prog [] [] Tryd.f55 [Value.int IntKind.i64 op] w R := by kernel_rfl

set_option maxRecDepth 100000 in
theorem wants_vc (op : Int) (w : World) (R : Ending → World → Prop) (h : wants_T op w R) : Calls Tryd.prog 55 #[Value.int IntKind.i64 op] w R :=
  calls_of_vc (args := [Value.int IntKind.i64 op]) [] [] Tryd.mixed Tryd.func55 (cast (wants_eq _ w R) h)

set_option maxRecDepth 100000 in
def rkind_T (cols_p : Option Addr) (cols_n : Nat) (cols_c : Nat) (x0 : Int) (x1 : ByteArray) (x2 : Int) (x3 : Int) (x4 : ByteArray) (x5_p : Option Addr) (x5_n : Nat) (x5_c : Nat) (w : World) (R : Ending → World → Prop) : Prop :=
  ∀ (b1 : Nat) (w'2 : World),
 New w (Obj.cells #[Value.int IntKind.i64 x0, Value.string x1, Value.int IntKind.i64 x2, Value.int IntKind.i64 x3, Value.string x4, Value.slice x5_p x5_n x5_c] 29) b1
 w'2 →
 ∃ (I4 : Option Addr → Nat → Nat → Int → World → Prop),
 ∃ (M5 : Option Addr → Nat → Nat → Int → World → Nat),
 I4 none 0 0 0 w'2 ∧
 ∀ (p6 : Option Addr) (n7 c8 : Nat) (n9 : Int) (w'10 : World),
 I4 p6 n7 c8 n9 w'10 →
 ∃ (p12 : Option Addr),
 ∃ (n13 : Nat),
 ∃ (c14 : Nat),
 w'10.cell? (Addr.mk b1 5 none) = some (Value.slice p12 n13 c14) ∧
 (n9 < (↑n13 : Int) →
 ∃ (p16 : Option Addr),
 ∃ (n17 : Nat),
 ∃ (c18 : Nat),
 w'10.cell? (Addr.mk b1 5 none) = some (Value.slice p16 n17 c18) ∧
 ∃ (b19 : Nat),
 ∃ (o20 : Nat),
 p16 = some (Addr.mk b19 o20 none) ∧
 0 ≤ n9 ∧
 n9 < (↑n17 : Int) ∧
 ∃ (n21 : Int),
 w'10.cell? (Addr.mk b19 (o20 + n9.toNat * 6) none) = some (Value.int IntKind.i64 n21) ∧
 ∃ (s22 : ByteArray),
 w'10.cell? (Addr.mk b19 (o20 + n9.toNat * 6 + 1) none) = some (Value.string s22) ∧
 ∃ (n23 : Int),
 w'10.cell? (Addr.mk b19 (o20 + n9.toNat * 6 + 2) none) = some (Value.int IntKind.i64 n23) ∧
 ∃ (n24 : Int),
 w'10.cell? (Addr.mk b19 (o20 + n9.toNat * 6 + 3) none) = some (Value.int IntKind.i64 n24) ∧
 ∃ (s25 : ByteArray),
 w'10.cell? (Addr.mk b19 (o20 + n9.toNat * 6 + 4) none) = some (Value.string s25) ∧
 ∃ (p26 : Option Addr),
 ∃ (n27 : Nat),
 ∃ (c28 : Nat),
 w'10.cell? (Addr.mk b19 (o20 + n9.toNat * 6 + 5) none) = some (Value.slice p26 n27 c28) ∧
 Calls Tryd.prog 40
 #[Value.slice cols_p cols_n cols_c,
 Value.agg #[Value.int IntKind.i64 n21, Value.string s22, Value.int IntKind.i64 n23, Value.int IntKind.i64 n24, Value.string s25, Value.slice p26 n27 c28]]
 w'10 fun (e29 : Ending) (w30 : World) ↦
 ∃ (n31 : Int),
 ∃ (n32 : Int),
 e29 = Ending.returned (Value.tuple #[Value.int IntKind.i64 n31, Value.int IntKind.i64 n32]) ∧
 (n32 ≠ 0 → R (Ending.returned (Value.tuple #[Value.int IntKind.i64 0, Value.int IntKind.i64 n32])) w30) ∧
 (n32 = 0 →
 ∀ (b35 : Nat) (w'36 : World),
 New w30 (Obj.cells #[Value.int IntKind.i64 n31] 3) b35 w'36 →
 ∃ (p38 : Option Addr),
 ∃ (n39 : Nat),
 ∃ (c40 : Nat),
 ∃ (w'41 : World),
 Sem.run Tryd.prog (Builtin.append_ #[48, 48] 48 #[Value.slice p6 n7 c8, Value.slice (some (Addr.mk b35 0 none)) 1 1]) w'36 = Result.ok (Value.slice p38 n39 c40) w'41 ∧
 I4 p38 n39 c40 (IntKind.i64.wrap (n9 + 1)) w'41 ∧ M5 p38 n39 c40 (IntKind.i64.wrap (n9 + 1)) w'41 < M5 p6 n7 c8 n9 w'10)) ∧
 ((↑n13 : Int) ≤ n9 →
 ∃ (n43 : Int),
 w'10.cell? (Addr.mk b1 0 none) = some (Value.int IntKind.i64 n43) ∧
 Calls Tryd.prog 55 #[Value.int IntKind.i64 n43] w'10 fun (e44 : Ending) (w45 : World) ↦
 ∃ (n46 : Int),
 e44 = Ending.returned (Value.int IntKind.i64 n46) ∧
 ∃ (I47 : Int → World → Prop),
 ∃ (M48 : Int → World → Nat),
 I47 0 w45 ∧
 ∀ (n49 : Int) (w'50 : World),
 I47 n49 w'50 →
 (n49 < (↑n7 : Int) →
 (n46 ≠ 0 →
 ∃ (b54 : Nat),
 ∃ (o55 : Nat),
 p6 = some (Addr.mk b54 o55 none) ∧
 0 ≤ n49 ∧
 n49 < (↑n7 : Int) ∧
 ∃ (n56 : Int),
 w'50.cell? (Addr.mk b54 (o55 + n49.toNat) none) = some (Value.int IntKind.i64 n56) ∧
 (n56 ≠ n46 →
 ∃ (b58 : Nat),
 ∃ (o59 : Nat),
 p6 = some (Addr.mk b58 o59 none) ∧
 0 ≤ n49 ∧
 n49 < (↑n7 : Int) ∧
 ∃ (n60 : Int),
 w'50.cell? (Addr.mk b58 (o59 + n49.toNat) none) = some (Value.int IntKind.i64 n60) ∧
 (n60 ≠ 0 → R (Ending.returned (Value.tuple #[Value.int IntKind.i64 0, Value.int IntKind.i64 121])) w'50) ∧
 (n60 = 0 → I47 (IntKind.i64.wrap (n49 + 1)) w'50 ∧ M48 (IntKind.i64.wrap (n49 + 1)) w'50 < M48 n49 w'50)) ∧
 (n56 = n46 → I47 (IntKind.i64.wrap (n49 + 1)) w'50 ∧ M48 (IntKind.i64.wrap (n49 + 1)) w'50 < M48 n49 w'50)) ∧
 (n46 = 0 → I47 (IntKind.i64.wrap (n49 + 1)) w'50 ∧ M48 (IntKind.i64.wrap (n49 + 1)) w'50 < M48 n49 w'50)) ∧
 ((↑n7 : Int) ≤ n49 →
 ∃ (n66 : Int),
 w'50.cell? (Addr.mk b1 0 none) = some (Value.int IntKind.i64 n66) ∧
 (n66 = 1 →
 ∃ (s68 : ByteArray),
 w'50.cell? (Addr.mk b1 1 none) = some (Value.string s68) ∧
 Calls Tryd.prog 15 #[Value.slice cols_p cols_n cols_c, Value.string s68] w'50 fun (e69 : Ending) (w70 : World) ↦
 ∃ (n71 : Int),
 e69 = Ending.returned (Value.int IntKind.i64 n71) ∧
 (n71 < 0 → R (Ending.returned (Value.tuple #[Value.int IntKind.i64 0, Value.int IntKind.i64 120])) w70) ∧
 (0 ≤ n71 →
 ∃ (b74 : Nat),
 ∃ (o75 : Nat),
 cols_p = some (Addr.mk b74 o75 none) ∧
 0 ≤ n71 ∧
 n71 < (↑cols_n : Int) ∧
 ∃ (n76 : Int),
 w70.cell? (Addr.mk b74 (o75 + n71.toNat * 3 + 1) none) = some (Value.int IntKind.i64 n76) ∧
 R (Ending.returned (Value.tuple #[Value.int IntKind.i64 n76, Value.int IntKind.i64 0])) w70)) ∧
 (n66 ≠ 1 →
 (n66 = 2 →
 ∃ (n79 : Int),
 w'50.cell? (Addr.mk b1 2 none) = some (Value.int IntKind.i64 n79) ∧ R (Ending.returned (Value.tuple #[Value.int IntKind.i64 n79, Value.int IntKind.i64 0])) w'50) ∧
 (n66 ≠ 2 →
 (n66 = 9 →
 (n66 = 9 →
 ∀ (w'83 : World),
 Drew w'50 w'83 →
 ∃ (b85 : Nat),
 ∃ (o86 : Nat),
 p6 = some (Addr.mk b85 o86 none) ∧
 (0 : Int) ≤ 0 ∧
 0 < (↑n7 : Int) ∧
 ∃ (n87 : Int),
 w'83.cell? (Addr.mk b85 (o86 + 0) none) = some (Value.int IntKind.i64 n87) ∧
 ∃ (b88 : Nat),
 ∃ (o89 : Nat),
 p6 = some (Addr.mk b88 o89 none) ∧
 (0 : Int) ≤ 1 ∧
 1 < (↑n7 : Int) ∧
 ∃ (n90 : Int),
 w'83.cell? (Addr.mk b88 (o89 + 1) none) = some (Value.int IntKind.i64 n90) ∧
 (n87 ≠ n90 →
 ∃ (b92 : Nat),
 ∃ (o93 : Nat),
 p6 = some (Addr.mk b92 o93 none) ∧
 (0 : Int) ≤ 0 ∧
 0 < (↑n7 : Int) ∧
 ∃ (n94 : Int),
 w'83.cell? (Addr.mk b92 (o93 + 0) none) = some (Value.int IntKind.i64 n94) ∧
 (n94 ≠ 0 →
 ∃ (b96 : Nat),
 ∃ (o97 : Nat),
 p6 = some (Addr.mk b96 o97 none) ∧
 (0 : Int) ≤ 1 ∧
 1 < (↑n7 : Int) ∧
 ∃ (n98 : Int),
 w'83.cell? (Addr.mk b96 (o97 + 1) none) = some (Value.int IntKind.i64 n98) ∧
 (n98 ≠ 0 → R (Ending.returned (Value.tuple #[Value.int IntKind.i64 0, Value.int IntKind.i64 121])) w'83) ∧
 (n98 = 0 → R (Ending.returned (Value.tuple #[Value.int IntKind.i64 2, Value.int IntKind.i64 0])) w'83)) ∧
 (n94 = 0 → R (Ending.returned (Value.tuple #[Value.int IntKind.i64 2, Value.int IntKind.i64 0])) w'83)) ∧
 (n87 = n90 → R (Ending.returned (Value.tuple #[Value.int IntKind.i64 2, Value.int IntKind.i64 0])) w'83)) ∧
 (n66 ≠ 9 →
 (n66 = 12 →
 (n66 = 12 → R (Ending.returned (Value.tuple #[Value.int IntKind.i64 2, Value.int IntKind.i64 0])) w'50) ∧
 (n66 ≠ 12 → R (Ending.returned (Value.tuple #[Value.int IntKind.i64 1, Value.int IntKind.i64 0])) w'50)) ∧
 (n66 ≠ 12 →
 (n66 = 13 →
 (n66 = 13 → R (Ending.returned (Value.tuple #[Value.int IntKind.i64 2, Value.int IntKind.i64 0])) w'50) ∧
 (n66 ≠ 13 → R (Ending.returned (Value.tuple #[Value.int IntKind.i64 1, Value.int IntKind.i64 0])) w'50)) ∧
 (n66 ≠ 13 →
 (n66 = 14 →
 (n66 = 14 → R (Ending.returned (Value.tuple #[Value.int IntKind.i64 2, Value.int IntKind.i64 0])) w'50) ∧
 (n66 ≠ 14 → R (Ending.returned (Value.tuple #[Value.int IntKind.i64 1, Value.int IntKind.i64 0])) w'50)) ∧
 (n66 ≠ 14 →
 (n66 = 15 → R (Ending.returned (Value.tuple #[Value.int IntKind.i64 2, Value.int IntKind.i64 0])) w'50) ∧
 (n66 ≠ 15 → R (Ending.returned (Value.tuple #[Value.int IntKind.i64 1, Value.int IntKind.i64 0])) w'50)))))) ∧
 (n66 ≠ 9 →
 (n66 = 10 →
 (n66 = 10 →
 ∀ (w'121 : World),
 Drew w'50 w'121 →
 ∃ (b123 : Nat),
 ∃ (o124 : Nat),
 p6 = some (Addr.mk b123 o124 none) ∧
 (0 : Int) ≤ 0 ∧
 0 < (↑n7 : Int) ∧
 ∃ (n125 : Int),
 w'121.cell? (Addr.mk b123 (o124 + 0) none) = some (Value.int IntKind.i64 n125) ∧
 ∃ (b126 : Nat),
 ∃ (o127 : Nat),
 p6 = some (Addr.mk b126 o127 none) ∧
 (0 : Int) ≤ 1 ∧
 1 < (↑n7 : Int) ∧
 ∃ (n128 : Int),
 w'121.cell? (Addr.mk b126 (o127 + 1) none) = some (Value.int IntKind.i64 n128) ∧
 (n125 ≠ n128 →
 ∃ (b130 : Nat),
 ∃ (o131 : Nat),
 p6 = some (Addr.mk b130 o131 none) ∧
 (0 : Int) ≤ 0 ∧
 0 < (↑n7 : Int) ∧
 ∃ (n132 : Int),
 w'121.cell? (Addr.mk b130 (o131 + 0) none) = some (Value.int IntKind.i64 n132) ∧
 (n132 ≠ 0 →
 ∃ (b134 : Nat),
 ∃ (o135 : Nat),
 p6 = some (Addr.mk b134 o135 none) ∧
 (0 : Int) ≤ 1 ∧
 1 < (↑n7 : Int) ∧
 ∃ (n136 : Int),
 w'121.cell? (Addr.mk b134 (o135 + 1) none) = some (Value.int IntKind.i64 n136) ∧
 (n136 ≠ 0 → R (Ending.returned (Value.tuple #[Value.int IntKind.i64 0, Value.int IntKind.i64 121])) w'121) ∧
 (n136 = 0 → R (Ending.returned (Value.tuple #[Value.int IntKind.i64 2, Value.int IntKind.i64 0])) w'121)) ∧
 (n132 = 0 → R (Ending.returned (Value.tuple #[Value.int IntKind.i64 2, Value.int IntKind.i64 0])) w'121)) ∧
 (n125 = n128 → R (Ending.returned (Value.tuple #[Value.int IntKind.i64 2, Value.int IntKind.i64 0])) w'121)) ∧
 (n66 ≠ 10 →
 (n66 = 12 →
 (n66 = 12 → R (Ending.returned (Value.tuple #[Value.int IntKind.i64 2, Value.int IntKind.i64 0])) w'50) ∧
 (n66 ≠ 12 → R (Ending.returned (Value.tuple #[Value.int IntKind.i64 1, Value.int IntKind.i64 0])) w'50)) ∧
 (n66 ≠ 12 →
 (n66 = 13 →
 (n66 = 13 → R (Ending.returned (Value.tuple #[Value.int IntKind.i64 2, Value.int IntKind.i64 0])) w'50) ∧
 (n66 ≠ 13 → R (Ending.returned (Value.tuple #[Value.int IntKind.i64 1, Value.int IntKind.i64 0])) w'50)) ∧
 (n66 ≠ 13 →
 (n66 = 14 →
 (n66 = 14 → R (Ending.returned (Value.tuple #[Value.int IntKind.i64 2, Value.int IntKind.i64 0])) w'50) ∧
 (n66 ≠ 14 → R (Ending.returned (Value.tuple #[Value.int IntKind.i64 1, Value.int IntKind.i64 0])) w'50)) ∧
 (n66 ≠ 14 →
 (n66 = 15 → R (Ending.returned (Value.tuple #[Value.int IntKind.i64 2, Value.int IntKind.i64 0])) w'50) ∧
 (n66 ≠ 15 → R (Ending.returned (Value.tuple #[Value.int IntKind.i64 1, Value.int IntKind.i64 0])) w'50)))))) ∧
 (n66 ≠ 10 →
 (n66 = 11 →
 ∀ (w'158 : World),
 Drew w'50 w'158 →
 ∃ (b160 : Nat),
 ∃ (o161 : Nat),
 p6 = some (Addr.mk b160 o161 none) ∧
 (0 : Int) ≤ 0 ∧
 0 < (↑n7 : Int) ∧
 ∃ (n162 : Int),
 w'158.cell? (Addr.mk b160 (o161 + 0) none) = some (Value.int IntKind.i64 n162) ∧
 ∃ (b163 : Nat),
 ∃ (o164 : Nat),
 p6 = some (Addr.mk b163 o164 none) ∧
 (0 : Int) ≤ 1 ∧
 1 < (↑n7 : Int) ∧
 ∃ (n165 : Int),
 w'158.cell? (Addr.mk b163 (o164 + 1) none) = some (Value.int IntKind.i64 n165) ∧
 (n162 ≠ n165 →
 ∃ (b167 : Nat),
 ∃ (o168 : Nat),
 p6 = some (Addr.mk b167 o168 none) ∧
 (0 : Int) ≤ 0 ∧
 0 < (↑n7 : Int) ∧
 ∃ (n169 : Int),
 w'158.cell? (Addr.mk b167 (o168 + 0) none) = some (Value.int IntKind.i64 n169) ∧
 (n169 ≠ 0 →
 ∃ (b171 : Nat),
 ∃ (o172 : Nat),
 p6 = some (Addr.mk b171 o172 none) ∧
 (0 : Int) ≤ 1 ∧
 1 < (↑n7 : Int) ∧
 ∃ (n173 : Int),
 w'158.cell? (Addr.mk b171 (o172 + 1) none) = some (Value.int IntKind.i64 n173) ∧
 (n173 ≠ 0 → R (Ending.returned (Value.tuple #[Value.int IntKind.i64 0, Value.int IntKind.i64 121])) w'158) ∧
 (n173 = 0 → R (Ending.returned (Value.tuple #[Value.int IntKind.i64 2, Value.int IntKind.i64 0])) w'158)) ∧
 (n169 = 0 → R (Ending.returned (Value.tuple #[Value.int IntKind.i64 2, Value.int IntKind.i64 0])) w'158)) ∧
 (n162 = n165 → R (Ending.returned (Value.tuple #[Value.int IntKind.i64 2, Value.int IntKind.i64 0])) w'158)) ∧
 (n66 ≠ 11 →
 (n66 = 12 →
 (n66 = 12 → R (Ending.returned (Value.tuple #[Value.int IntKind.i64 2, Value.int IntKind.i64 0])) w'50) ∧
 (n66 ≠ 12 → R (Ending.returned (Value.tuple #[Value.int IntKind.i64 1, Value.int IntKind.i64 0])) w'50)) ∧
 (n66 ≠ 12 →
 (n66 = 13 →
 (n66 = 13 → R (Ending.returned (Value.tuple #[Value.int IntKind.i64 2, Value.int IntKind.i64 0])) w'50) ∧
 (n66 ≠ 13 → R (Ending.returned (Value.tuple #[Value.int IntKind.i64 1, Value.int IntKind.i64 0])) w'50)) ∧
 (n66 ≠ 13 →
 (n66 = 14 →
 (n66 = 14 → R (Ending.returned (Value.tuple #[Value.int IntKind.i64 2, Value.int IntKind.i64 0])) w'50) ∧
 (n66 ≠ 14 → R (Ending.returned (Value.tuple #[Value.int IntKind.i64 1, Value.int IntKind.i64 0])) w'50)) ∧
 (n66 ≠ 14 →
 (n66 = 15 → R (Ending.returned (Value.tuple #[Value.int IntKind.i64 2, Value.int IntKind.i64 0])) w'50) ∧
 (n66 ≠ 15 → R (Ending.returned (Value.tuple #[Value.int IntKind.i64 1, Value.int IntKind.i64 0])) w'50)))))))))))

set_option maxRecDepth 100000 in
theorem rkind_eq (cols_p : Option Addr) (cols_n : Nat) (cols_c : Nat) (x0 : Int) (x1 : ByteArray) (x2 : Int) (x3 : Int) (x4 : ByteArray) (x5_p : Option Addr) (x5_n : Nat) (x5_c : Nat) (w : World) (R : Ending → World → Prop) : rkind_T cols_p cols_n cols_c x0 x1 x2 x3 x4 x5_p x5_n x5_c w R = vcFn Tryd.prog [] [(26, [2, 4, 6, 8, 10, 12, 14, 16, 18, 20, 22, 24, 26, 28, 30, 32, 34, 36, 38, 0])] Tryd.f40 [Value.slice cols_p cols_n cols_c, Value.agg
 #[Value.int IntKind.i64 x0, Value.string x1, Value.int IntKind.i64 x2, Value.int IntKind.i64 x3, Value.string x4,
 Value.slice x5_p x5_n x5_c]] w R := by kernel_rfl

set_option maxRecDepth 100000 in
theorem rkind_vc (cols_p : Option Addr) (cols_n : Nat) (cols_c : Nat) (x0 : Int) (x1 : ByteArray) (x2 : Int) (x3 : Int) (x4 : ByteArray) (x5_p : Option Addr) (x5_n : Nat) (x5_c : Nat) (w : World) (R : Ending → World → Prop) (h : rkind_T cols_p cols_n cols_c x0 x1 x2 x3 x4 x5_p x5_n x5_c w R) : Calls Tryd.prog 40 #[Value.slice cols_p cols_n cols_c, Value.agg
 #[Value.int IntKind.i64 x0, Value.string x1, Value.int IntKind.i64 x2, Value.int IntKind.i64 x3, Value.string x4,
 Value.slice x5_p x5_n x5_c]] w R :=
  calls_of_vc (args := [Value.slice cols_p cols_n cols_c, Value.agg
 #[Value.int IntKind.i64 x0, Value.string x1, Value.int IntKind.i64 x2, Value.int IntKind.i64 x3, Value.string x4,
 Value.slice x5_p x5_n x5_c]]) [] [(26, [2, 4, 6, 8, 10, 12, 14, 16, 18, 20, 22, 24, 26, 28, 30, 32, 34, 36, 38, 0])] Tryd.mixed Tryd.func40 (cast (rkind_eq _ _ _ _ _ _ _ _ _ _ _ w R) h)

set_option maxRecDepth 100000 in
def rtype_T (cols_p : Option Addr) (cols_n : Nat) (cols_c : Nat) (x0 : Int) (x1 : ByteArray) (x2 : Int) (x3 : Int) (x4 : ByteArray) (x5_p : Option Addr) (x5_n : Nat) (x5_c : Nat) (w : World) (R : Ending → World → Prop) : Prop :=
  ∀ (b1 : Nat) (w'2 : World),
 New w (Obj.cells #[Value.int IntKind.i64 x0, Value.string x1, Value.int IntKind.i64 x2, Value.int IntKind.i64 x3, Value.string x4, Value.slice x5_p x5_n x5_c] 29) b1
 w'2 →
 Calls Tryd.prog 29 #[Value.slice cols_p cols_n cols_c] w'2 fun (e4 : Ending) (w5 : World) ↦
 ∃ (b6 : Bool),
 e4 = Ending.returned (Value.bool b6) ∧
 (b6 = false → R (Ending.returned (Value.tuple #[Value.int IntKind.i64 0, Value.int IntKind.i64 50])) w5) ∧
 (b6 = true →
 ∃ (n9 : Int),
 w5.cell? (Addr.mk b1 0 none) = some (Value.int IntKind.i64 n9) ∧
 ∃ (s10 : ByteArray),
 w5.cell? (Addr.mk b1 1 none) = some (Value.string s10) ∧
 ∃ (n11 : Int),
 w5.cell? (Addr.mk b1 2 none) = some (Value.int IntKind.i64 n11) ∧
 ∃ (n12 : Int),
 w5.cell? (Addr.mk b1 3 none) = some (Value.int IntKind.i64 n12) ∧
 ∃ (s13 : ByteArray),
 w5.cell? (Addr.mk b1 4 none) = some (Value.string s13) ∧
 ∃ (p14 : Option Addr),
 ∃ (n15 : Nat),
 ∃ (c16 : Nat),
 w5.cell? (Addr.mk b1 5 none) = some (Value.slice p14 n15 c16) ∧
 Calls Tryd.prog 36
 #[Value.agg #[Value.int IntKind.i64 n9, Value.string s10, Value.int IntKind.i64 n11, Value.int IntKind.i64 n12, Value.string s13, Value.slice p14 n15 c16]] w5
 fun (e17 : Ending) (w18 : World) ↦
 ∃ (b19 : Bool),
 e17 = Ending.returned (Value.bool b19) ∧
 (b19 = false → R (Ending.returned (Value.tuple #[Value.int IntKind.i64 0, Value.int IntKind.i64 122])) w18) ∧
 (b19 = true →
 ∃ (n22 : Int),
 w18.cell? (Addr.mk b1 0 none) = some (Value.int IntKind.i64 n22) ∧
 ∃ (s23 : ByteArray),
 w18.cell? (Addr.mk b1 1 none) = some (Value.string s23) ∧
 ∃ (n24 : Int),
 w18.cell? (Addr.mk b1 2 none) = some (Value.int IntKind.i64 n24) ∧
 ∃ (n25 : Int),
 w18.cell? (Addr.mk b1 3 none) = some (Value.int IntKind.i64 n25) ∧
 ∃ (s26 : ByteArray),
 w18.cell? (Addr.mk b1 4 none) = some (Value.string s26) ∧
 ∃ (p27 : Option Addr),
 ∃ (n28 : Nat),
 ∃ (c29 : Nat),
 w18.cell? (Addr.mk b1 5 none) = some (Value.slice p27 n28 c29) ∧
 Calls Tryd.prog 40
 #[Value.slice cols_p cols_n cols_c,
 Value.agg #[Value.int IntKind.i64 n22, Value.string s23, Value.int IntKind.i64 n24, Value.int IntKind.i64 n25, Value.string s26, Value.slice p27 n28 c29]]
 w18 fun (e30 : Ending) (w31 : World) ↦
 ∃ (n32 : Int),
 ∃ (n33 : Int),
 e30 = Ending.returned (Value.tuple #[Value.int IntKind.i64 n32, Value.int IntKind.i64 n33]) ∧
 R (Ending.returned (Value.tuple #[Value.int IntKind.i64 n32, Value.int IntKind.i64 n33])) w31))

set_option maxRecDepth 100000 in
theorem rtype_eq (cols_p : Option Addr) (cols_n : Nat) (cols_c : Nat) (x0 : Int) (x1 : ByteArray) (x2 : Int) (x3 : Int) (x4 : ByteArray) (x5_p : Option Addr) (x5_n : Nat) (x5_c : Nat) (w : World) (R : Ending → World → Prop) : rtype_T cols_p cols_n cols_c x0 x1 x2 x3 x4 x5_p x5_n x5_c w R = vcFn Tryd.prog [] [] Tryd.f21 [Value.slice cols_p cols_n cols_c, Value.agg
 #[Value.int IntKind.i64 x0, Value.string x1, Value.int IntKind.i64 x2, Value.int IntKind.i64 x3, Value.string x4,
 Value.slice x5_p x5_n x5_c]] w R := by kernel_rfl

set_option maxRecDepth 100000 in
theorem rtype_vc (cols_p : Option Addr) (cols_n : Nat) (cols_c : Nat) (x0 : Int) (x1 : ByteArray) (x2 : Int) (x3 : Int) (x4 : ByteArray) (x5_p : Option Addr) (x5_n : Nat) (x5_c : Nat) (w : World) (R : Ending → World → Prop) (h : rtype_T cols_p cols_n cols_c x0 x1 x2 x3 x4 x5_p x5_n x5_c w R) : Calls Tryd.prog 21 #[Value.slice cols_p cols_n cols_c, Value.agg
 #[Value.int IntKind.i64 x0, Value.string x1, Value.int IntKind.i64 x2, Value.int IntKind.i64 x3, Value.string x4,
 Value.slice x5_p x5_n x5_c]] w R :=
  calls_of_vc (args := [Value.slice cols_p cols_n cols_c, Value.agg
 #[Value.int IntKind.i64 x0, Value.string x1, Value.int IntKind.i64 x2, Value.int IntKind.i64 x3, Value.string x4,
 Value.slice x5_p x5_n x5_c]]) [] [] Tryd.mixed Tryd.func21 (cast (rtype_eq _ _ _ _ _ _ _ _ _ _ _ w R) h)

set_option maxRecDepth 100000 in
def rtruth_T (b : Bool) (w : World) (R : Ending → World → Prop) : Prop :=
  ∀ (b1 : Nat) (w'2 : World),
 New w (Obj.cells #[Value.int IntKind.i64 0, Value.int IntKind.i64 0, Value.string (ByteArray.mk #[])] 26) b1 w'2 →
 ∀ (b4 : Nat) (w'5 : World),
 New w'2 (Obj.cells #[Value.int IntKind.i64 0, Value.int IntKind.i64 0, Value.string (ByteArray.mk #[])] 26) b4 w'5 →
 (∃ (u7 : Value), w'5.cell? (Addr.mk b4 0 none) = some u7) ∧
 w'5.frozen? (Addr.mk b4 0 none) = false ∧
 (∃ (u8 : Value), w'5.cell? (Addr.mk b4 1 none) = some u8) ∧
 w'5.frozen? (Addr.mk b4 1 none) = false ∧
 (∃ (u9 : Value), w'5.cell? (Addr.mk b4 2 none) = some u9) ∧
 w'5.frozen? (Addr.mk b4 2 none) = false ∧
 ∀ (w'10 : World),
 Put w'5 b4 0 [Value.int IntKind.i64 2, Value.int IntKind.i64 0, Value.string (ByteArray.mk #[])] w'10 →
 (b = true →
 (∃ (u13 : Value), w'10.cell? (Addr.mk b4 1 none) = some u13) ∧
 w'10.frozen? (Addr.mk b4 1 none) = false ∧
 ∀ (w'14 : World),
 Put w'10 b4 1 [Value.int IntKind.i64 1] w'14 →
 ∃ (n16 : Int),
 w'14.cell? (Addr.mk b4 0 none) = some (Value.int IntKind.i64 n16) ∧
 ∃ (n17 : Int),
 w'14.cell? (Addr.mk b4 1 none) = some (Value.int IntKind.i64 n17) ∧
 ∃ (s18 : ByteArray),
 w'14.cell? (Addr.mk b4 2 none) = some (Value.string s18) ∧
 (∃ (u19 : Value), w'14.cell? (Addr.mk b1 0 none) = some u19) ∧
 w'14.frozen? (Addr.mk b1 0 none) = false ∧
 (∃ (u20 : Value), w'14.cell? (Addr.mk b1 1 none) = some u20) ∧
 w'14.frozen? (Addr.mk b1 1 none) = false ∧
 (∃ (u21 : Value), w'14.cell? (Addr.mk b1 2 none) = some u21) ∧
 w'14.frozen? (Addr.mk b1 2 none) = false ∧
 ∀ (w'22 : World),
 Put w'14 b1 0 [Value.int IntKind.i64 n16, Value.int IntKind.i64 n17, Value.string s18] w'22 →
 ∃ (n24 : Int),
 w'22.cell? (Addr.mk b1 0 none) = some (Value.int IntKind.i64 n24) ∧
 ∃ (n25 : Int),
 w'22.cell? (Addr.mk b1 1 none) = some (Value.int IntKind.i64 n25) ∧
 ∃ (s26 : ByteArray),
 w'22.cell? (Addr.mk b1 2 none) = some (Value.string s26) ∧
 R (Ending.returned (Value.agg #[Value.int IntKind.i64 n24, Value.int IntKind.i64 n25, Value.string s26])) w'22) ∧
 (b = false →
 ∃ (n28 : Int),
 w'10.cell? (Addr.mk b4 0 none) = some (Value.int IntKind.i64 n28) ∧
 ∃ (n29 : Int),
 w'10.cell? (Addr.mk b4 1 none) = some (Value.int IntKind.i64 n29) ∧
 ∃ (s30 : ByteArray),
 w'10.cell? (Addr.mk b4 2 none) = some (Value.string s30) ∧
 (∃ (u31 : Value), w'10.cell? (Addr.mk b1 0 none) = some u31) ∧
 w'10.frozen? (Addr.mk b1 0 none) = false ∧
 (∃ (u32 : Value), w'10.cell? (Addr.mk b1 1 none) = some u32) ∧
 w'10.frozen? (Addr.mk b1 1 none) = false ∧
 (∃ (u33 : Value), w'10.cell? (Addr.mk b1 2 none) = some u33) ∧
 w'10.frozen? (Addr.mk b1 2 none) = false ∧
 ∀ (w'34 : World),
 Put w'10 b1 0 [Value.int IntKind.i64 n28, Value.int IntKind.i64 n29, Value.string s30] w'34 →
 ∃ (n36 : Int),
 w'34.cell? (Addr.mk b1 0 none) = some (Value.int IntKind.i64 n36) ∧
 ∃ (n37 : Int),
 w'34.cell? (Addr.mk b1 1 none) = some (Value.int IntKind.i64 n37) ∧
 ∃ (s38 : ByteArray),
 w'34.cell? (Addr.mk b1 2 none) = some (Value.string s38) ∧ R (Ending.returned (Value.agg #[Value.int IntKind.i64 n36, Value.int IntKind.i64 n37, Value.string s38])) w'34)

set_option maxRecDepth 100000 in
theorem rtruth_eq (b : Bool) (w : World) (R : Ending → World → Prop) : rtruth_T b w R = vcFn Tryd.prog [] [] Tryd.f57 [Value.bool b] w R := by kernel_rfl

set_option maxRecDepth 100000 in
theorem rtruth_vc (b : Bool) (w : World) (R : Ending → World → Prop) (h : rtruth_T b w R) : Calls Tryd.prog 57 #[Value.bool b] w R :=
  calls_of_vc (args := [Value.bool b]) [] [] Tryd.mixed Tryd.func57 (cast (rtruth_eq _ w R) h)

set_option maxRecDepth 100000 in
def rnumber_T (n : Int) (w : World) (R : Ending → World → Prop) : Prop :=
  ∀ (b1 : Nat) (w'2 : World),
 New w (Obj.cells #[Value.int IntKind.i64 0, Value.int IntKind.i64 0, Value.string (ByteArray.mk #[])] 26) b1 w'2 →
 (∃ (u4 : Value), w'2.cell? (Addr.mk b1 0 none) = some u4) ∧
 w'2.frozen? (Addr.mk b1 0 none) = false ∧
 (∃ (u5 : Value), w'2.cell? (Addr.mk b1 1 none) = some u5) ∧
 w'2.frozen? (Addr.mk b1 1 none) = false ∧
 (∃ (u6 : Value), w'2.cell? (Addr.mk b1 2 none) = some u6) ∧
 w'2.frozen? (Addr.mk b1 2 none) = false ∧
 ∀ (w'7 : World),
 Put w'2 b1 0 [Value.int IntKind.i64 1, Value.int IntKind.i64 n, Value.string (ByteArray.mk #[])] w'7 →
 ∃ (n9 : Int),
 w'7.cell? (Addr.mk b1 0 none) = some (Value.int IntKind.i64 n9) ∧
 ∃ (n10 : Int),
 w'7.cell? (Addr.mk b1 1 none) = some (Value.int IntKind.i64 n10) ∧
 ∃ (s11 : ByteArray),
 w'7.cell? (Addr.mk b1 2 none) = some (Value.string s11) ∧ R (Ending.returned (Value.agg #[Value.int IntKind.i64 n9, Value.int IntKind.i64 n10, Value.string s11])) w'7

set_option maxRecDepth 100000 in
theorem rnumber_eq (n : Int) (w : World) (R : Ending → World → Prop) : rnumber_T n w R = vcFn Tryd.prog [] [] Tryd.f58 [Value.int IntKind.i64 n] w R := by kernel_rfl

set_option maxRecDepth 100000 in
theorem rnumber_vc (n : Int) (w : World) (R : Ending → World → Prop) (h : rnumber_T n w R) : Calls Tryd.prog 58 #[Value.int IntKind.i64 n] w R :=
  calls_of_vc (args := [Value.int IntKind.i64 n]) [] [] Tryd.mixed Tryd.func58 (cast (rnumber_eq _ w R) h)

set_option maxRecDepth 100000 in
def rproduct_T (a : Int) (b : Int) (w : World) (R : Ending → World → Prop) : Prop :=
  (a = 0 ∨ b = 0 → R (Ending.returned (Value.tuple #[Value.int IntKind.i64 0, Value.bool true])) w) ∧
 (a ≠ 0 ∧ b ≠ 0 →
 (a = -1 ∧ b = -9223372036854775808 → R (Ending.returned (Value.tuple #[Value.int IntKind.i64 0, Value.bool false])) w) ∧
 (a ≠ -1 ∨ b ≠ -9223372036854775808 →
 (b = -1 ∧ a = -9223372036854775808 → R (Ending.returned (Value.tuple #[Value.int IntKind.i64 0, Value.bool false])) w) ∧
 (b ≠ -1 ∨ a ≠ -9223372036854775808 →
 ∀ (w'7 : World),
 Drew w w'7 →
 b ≠ 0 ∧
 R (Ending.returned (Value.tuple #[Value.int IntKind.i64 (IntKind.i64.wrap (a * b)), Value.bool (decide (quoI IntKind.i64 (IntKind.i64.wrap (a * b)) b = a))])) w'7)))

set_option maxRecDepth 100000 in
theorem rproduct_eq (a : Int) (b : Int) (w : World) (R : Ending → World → Prop) : rproduct_T a b w R = vcFn Tryd.prog [] [(6, [2, 4, 6, 8, 10, 12, 14, 16, 0])] Tryd.f84 [Value.int IntKind.i64 a, Value.int IntKind.i64 b] w R := by kernel_rfl

set_option maxRecDepth 100000 in
theorem rproduct_vc (a : Int) (b : Int) (w : World) (R : Ending → World → Prop) (h : rproduct_T a b w R) : Calls Tryd.prog 84 #[Value.int IntKind.i64 a, Value.int IntKind.i64 b] w R :=
  calls_of_vc (args := [Value.int IntKind.i64 a, Value.int IntKind.i64 b]) [] [(6, [2, 4, 6, 8, 10, 12, 14, 16, 0])] Tryd.mixed Tryd.func84 (cast (rproduct_eq _ _ w R) h)

set_option maxRecDepth 100000 in
def reckoned_T (op : Int) (a : Int) (b : Int) (w : World) (R : Ending → World → Prop) : Prop :=
  (op = 3 →
 (0 ≤ b ∧ a ≤ IntKind.i64.wrap (a + b) → R (Ending.returned (Value.tuple #[Value.int IntKind.i64 (IntKind.i64.wrap (a + b)), Value.int IntKind.i64 0])) w) ∧
 (b < 0 ∨ IntKind.i64.wrap (a + b) < a →
 (0 ≤ b ∨ a ≤ IntKind.i64.wrap (a + b) → R (Ending.returned (Value.tuple #[Value.int IntKind.i64 0, Value.int IntKind.i64 100])) w) ∧
 (b < 0 ∧ IntKind.i64.wrap (a + b) < a → R (Ending.returned (Value.tuple #[Value.int IntKind.i64 (IntKind.i64.wrap (a + b)), Value.int IntKind.i64 0])) w))) ∧
 (op ≠ 3 →
 (op = 4 →
 (0 ≤ b ∧ IntKind.i64.wrap (a - b) ≤ a → R (Ending.returned (Value.tuple #[Value.int IntKind.i64 (IntKind.i64.wrap (a - b)), Value.int IntKind.i64 0])) w) ∧
 (b < 0 ∨ a < IntKind.i64.wrap (a - b) →
 (0 ≤ b ∨ IntKind.i64.wrap (a - b) ≤ a → R (Ending.returned (Value.tuple #[Value.int IntKind.i64 0, Value.int IntKind.i64 100])) w) ∧
 (b < 0 ∧ a < IntKind.i64.wrap (a - b) → R (Ending.returned (Value.tuple #[Value.int IntKind.i64 (IntKind.i64.wrap (a - b)), Value.int IntKind.i64 0])) w))) ∧
 (op ≠ 4 →
 (op = 5 →
 Calls Tryd.prog 84 #[Value.int IntKind.i64 a, Value.int IntKind.i64 b] w fun (e14 : Ending) (w15 : World) ↦
 ∃ (n16 : Int),
 ∃ (b17 : Bool),
 e14 = Ending.returned (Value.tuple #[Value.int IntKind.i64 n16, Value.bool b17]) ∧
 (b17 = false → R (Ending.returned (Value.tuple #[Value.int IntKind.i64 0, Value.int IntKind.i64 100])) w15) ∧
 (b17 = true → R (Ending.returned (Value.tuple #[Value.int IntKind.i64 n16, Value.int IntKind.i64 0])) w15)) ∧
 (op ≠ 5 →
 (op = 6 →
 (b = 0 → R (Ending.returned (Value.tuple #[Value.int IntKind.i64 0, Value.int IntKind.i64 101])) w) ∧
 (b ≠ 0 →
 (b = -1 →
 (a = -9223372036854775808 → R (Ending.returned (Value.tuple #[Value.int IntKind.i64 0, Value.int IntKind.i64 100])) w) ∧
 (a ≠ -9223372036854775808 → R (Ending.returned (Value.tuple #[Value.int IntKind.i64 (IntKind.i64.wrap (0 - a)), Value.int IntKind.i64 0])) w)) ∧
 (b ≠ -1 → b ≠ 0 ∧ R (Ending.returned (Value.tuple #[Value.int IntKind.i64 (quoI IntKind.i64 a b), Value.int IntKind.i64 0])) w))) ∧
 (op ≠ 6 →
 (b = 0 → R (Ending.returned (Value.tuple #[Value.int IntKind.i64 0, Value.int IntKind.i64 101])) w) ∧
 (b ≠ 0 →
 (b ≠ -1 → b ≠ 0 ∧ R (Ending.returned (Value.tuple #[Value.int IntKind.i64 (remI a b), Value.int IntKind.i64 0])) w) ∧
 (b = -1 → R (Ending.returned (Value.tuple #[Value.int IntKind.i64 0, Value.int IntKind.i64 0])) w))))))

set_option maxRecDepth 100000 in
theorem reckoned_eq (op : Int) (a : Int) (b : Int) (w : World) (R : Ending → World → Prop) : reckoned_T op a b w R = vcFn Tryd.prog [] [] Tryd.f59 [Value.int IntKind.i64 op, Value.int IntKind.i64 a, Value.int IntKind.i64 b] w R := by kernel_rfl

set_option maxRecDepth 100000 in
theorem reckoned_vc (op : Int) (a : Int) (b : Int) (w : World) (R : Ending → World → Prop) (h : reckoned_T op a b w R) : Calls Tryd.prog 59 #[Value.int IntKind.i64 op, Value.int IntKind.i64 a, Value.int IntKind.i64 b] w R :=
  calls_of_vc (args := [Value.int IntKind.i64 op, Value.int IntKind.i64 a, Value.int IntKind.i64 b]) [] [] Tryd.mixed Tryd.func59 (cast (reckoned_eq _ _ _ w R) h)

set_option maxRecDepth 100000 in
def rboth_T (a0 : Int) (a1 : Int) (a2 : ByteArray) (b0 : Int) (b1 : Int) (b2 : ByteArray) (strong : Int) (w : World) (R : Ending → World → Prop) : Prop :=
  ∀ (b1_1 : Nat) (w'2 : World),
 New w (Obj.cells #[Value.int IntKind.i64 a0, Value.int IntKind.i64 a1, Value.string a2] 26) b1_1 w'2 →
 ∀ (b4 : Nat) (w'5 : World),
 New w'2 (Obj.cells #[Value.int IntKind.i64 b0, Value.int IntKind.i64 b1, Value.string b2] 26) b4 w'5 →
 ∀ (b7 : Nat) (w'8 : World),
 New w'5 (Obj.cells #[Value.int IntKind.i64 0, Value.int IntKind.i64 0, Value.string (ByteArray.mk #[])] 26) b7 w'8 →
 ∃ (n10 : Int),
 w'8.cell? (Addr.mk b1_1 0 none) = some (Value.int IntKind.i64 n10) ∧
 (n10 = 2 →
 ∃ (n12 : Int),
 w'8.cell? (Addr.mk b1_1 1 none) = some (Value.int IntKind.i64 n12) ∧
 (n12 = strong →
 Calls Tryd.prog 57 #[Value.bool (decide (strong = 1))] w'8 fun (e14 : Ending) (w15 : World) ↦
 ∃ (n16 : Int),
 ∃ (n17 : Int),
 ∃ (s18 : ByteArray),
 e14 = Ending.returned (Value.agg #[Value.int IntKind.i64 n16, Value.int IntKind.i64 n17, Value.string s18]) ∧
 (∃ (u19 : Value), w15.cell? (Addr.mk b7 0 none) = some u19) ∧
 w15.frozen? (Addr.mk b7 0 none) = false ∧
 (∃ (u20 : Value), w15.cell? (Addr.mk b7 1 none) = some u20) ∧
 w15.frozen? (Addr.mk b7 1 none) = false ∧
 (∃ (u21 : Value), w15.cell? (Addr.mk b7 2 none) = some u21) ∧
 w15.frozen? (Addr.mk b7 2 none) = false ∧
 ∀ (w'22 : World),
 Put w15 b7 0 [Value.int IntKind.i64 n16, Value.int IntKind.i64 n17, Value.string s18] w'22 →
 ∃ (n24 : Int),
 w'22.cell? (Addr.mk b7 0 none) = some (Value.int IntKind.i64 n24) ∧
 ∃ (n25 : Int),
 w'22.cell? (Addr.mk b7 1 none) = some (Value.int IntKind.i64 n25) ∧
 ∃ (s26 : ByteArray),
 w'22.cell? (Addr.mk b7 2 none) = some (Value.string s26) ∧
 R (Ending.returned (Value.agg #[Value.int IntKind.i64 n24, Value.int IntKind.i64 n25, Value.string s26])) w'22) ∧
 (n12 ≠ strong →
 ∃ (n28 : Int),
 w'8.cell? (Addr.mk b4 0 none) = some (Value.int IntKind.i64 n28) ∧
 (n28 = 2 →
 ∃ (n30 : Int),
 w'8.cell? (Addr.mk b4 1 none) = some (Value.int IntKind.i64 n30) ∧
 (n30 = strong →
 Calls Tryd.prog 57 #[Value.bool (decide (strong = 1))] w'8 fun (e32 : Ending) (w33 : World) ↦
 ∃ (n34 : Int),
 ∃ (n35 : Int),
 ∃ (s36 : ByteArray),
 e32 = Ending.returned (Value.agg #[Value.int IntKind.i64 n34, Value.int IntKind.i64 n35, Value.string s36]) ∧
 (∃ (u37 : Value), w33.cell? (Addr.mk b7 0 none) = some u37) ∧
 w33.frozen? (Addr.mk b7 0 none) = false ∧
 (∃ (u38 : Value), w33.cell? (Addr.mk b7 1 none) = some u38) ∧
 w33.frozen? (Addr.mk b7 1 none) = false ∧
 (∃ (u39 : Value), w33.cell? (Addr.mk b7 2 none) = some u39) ∧
 w33.frozen? (Addr.mk b7 2 none) = false ∧
 ∀ (w'40 : World),
 Put w33 b7 0 [Value.int IntKind.i64 n34, Value.int IntKind.i64 n35, Value.string s36] w'40 →
 ∃ (n42 : Int),
 w'40.cell? (Addr.mk b7 0 none) = some (Value.int IntKind.i64 n42) ∧
 ∃ (n43 : Int),
 w'40.cell? (Addr.mk b7 1 none) = some (Value.int IntKind.i64 n43) ∧
 ∃ (s44 : ByteArray),
 w'40.cell? (Addr.mk b7 2 none) = some (Value.string s44) ∧
 R (Ending.returned (Value.agg #[Value.int IntKind.i64 n42, Value.int IntKind.i64 n43, Value.string s44])) w'40) ∧
 (n30 ≠ strong →
 ∃ (n46 : Int),
 w'8.cell? (Addr.mk b1_1 0 none) = some (Value.int IntKind.i64 n46) ∧
 (n46 = 0 →
 (∃ (u48 : Value), w'8.cell? (Addr.mk b7 0 none) = some u48) ∧
 w'8.frozen? (Addr.mk b7 0 none) = false ∧
 (∃ (u49 : Value), w'8.cell? (Addr.mk b7 1 none) = some u49) ∧
 w'8.frozen? (Addr.mk b7 1 none) = false ∧
 (∃ (u50 : Value), w'8.cell? (Addr.mk b7 2 none) = some u50) ∧
 w'8.frozen? (Addr.mk b7 2 none) = false ∧
 ∀ (w'51 : World),
 Put w'8 b7 0 [Value.int IntKind.i64 0, Value.int IntKind.i64 0, Value.string (ByteArray.mk #[])] w'51 →
 ∃ (n53 : Int),
 w'51.cell? (Addr.mk b7 0 none) = some (Value.int IntKind.i64 n53) ∧
 ∃ (n54 : Int),
 w'51.cell? (Addr.mk b7 1 none) = some (Value.int IntKind.i64 n54) ∧
 ∃ (s55 : ByteArray),
 w'51.cell? (Addr.mk b7 2 none) = some (Value.string s55) ∧
 R (Ending.returned (Value.agg #[Value.int IntKind.i64 n53, Value.int IntKind.i64 n54, Value.string s55])) w'51) ∧
 (n46 ≠ 0 →
 ∃ (n57 : Int),
 w'8.cell? (Addr.mk b4 0 none) = some (Value.int IntKind.i64 n57) ∧
 (n57 = 0 →
 (∃ (u59 : Value), w'8.cell? (Addr.mk b7 0 none) = some u59) ∧
 w'8.frozen? (Addr.mk b7 0 none) = false ∧
 (∃ (u60 : Value), w'8.cell? (Addr.mk b7 1 none) = some u60) ∧
 w'8.frozen? (Addr.mk b7 1 none) = false ∧
 (∃ (u61 : Value), w'8.cell? (Addr.mk b7 2 none) = some u61) ∧
 w'8.frozen? (Addr.mk b7 2 none) = false ∧
 ∀ (w'62 : World),
 Put w'8 b7 0 [Value.int IntKind.i64 0, Value.int IntKind.i64 0, Value.string (ByteArray.mk #[])] w'62 →
 ∃ (n64 : Int),
 w'62.cell? (Addr.mk b7 0 none) = some (Value.int IntKind.i64 n64) ∧
 ∃ (n65 : Int),
 w'62.cell? (Addr.mk b7 1 none) = some (Value.int IntKind.i64 n65) ∧
 ∃ (s66 : ByteArray),
 w'62.cell? (Addr.mk b7 2 none) = some (Value.string s66) ∧
 R (Ending.returned (Value.agg #[Value.int IntKind.i64 n64, Value.int IntKind.i64 n65, Value.string s66])) w'62) ∧
 (n57 ≠ 0 →
 Calls Tryd.prog 57 #[Value.bool (decide (strong = 0))] w'8 fun (e68 : Ending) (w69 : World) ↦
 ∃ (n70 : Int),
 ∃ (n71 : Int),
 ∃ (s72 : ByteArray),
 e68 = Ending.returned (Value.agg #[Value.int IntKind.i64 n70, Value.int IntKind.i64 n71, Value.string s72]) ∧
 (∃ (u73 : Value), w69.cell? (Addr.mk b7 0 none) = some u73) ∧
 w69.frozen? (Addr.mk b7 0 none) = false ∧
 (∃ (u74 : Value), w69.cell? (Addr.mk b7 1 none) = some u74) ∧
 w69.frozen? (Addr.mk b7 1 none) = false ∧
 (∃ (u75 : Value), w69.cell? (Addr.mk b7 2 none) = some u75) ∧
 w69.frozen? (Addr.mk b7 2 none) = false ∧
 ∀ (w'76 : World),
 Put w69 b7 0 [Value.int IntKind.i64 n70, Value.int IntKind.i64 n71, Value.string s72] w'76 →
 ∃ (n78 : Int),
 w'76.cell? (Addr.mk b7 0 none) = some (Value.int IntKind.i64 n78) ∧
 ∃ (n79 : Int),
 w'76.cell? (Addr.mk b7 1 none) = some (Value.int IntKind.i64 n79) ∧
 ∃ (s80 : ByteArray),
 w'76.cell? (Addr.mk b7 2 none) = some (Value.string s80) ∧
 R (Ending.returned (Value.agg #[Value.int IntKind.i64 n78, Value.int IntKind.i64 n79, Value.string s80])) w'76)))) ∧
 (n28 ≠ 2 →
 ∃ (n82 : Int),
 w'8.cell? (Addr.mk b1_1 0 none) = some (Value.int IntKind.i64 n82) ∧
 (n82 = 0 →
 (∃ (u84 : Value), w'8.cell? (Addr.mk b7 0 none) = some u84) ∧
 w'8.frozen? (Addr.mk b7 0 none) = false ∧
 (∃ (u85 : Value), w'8.cell? (Addr.mk b7 1 none) = some u85) ∧
 w'8.frozen? (Addr.mk b7 1 none) = false ∧
 (∃ (u86 : Value), w'8.cell? (Addr.mk b7 2 none) = some u86) ∧
 w'8.frozen? (Addr.mk b7 2 none) = false ∧
 ∀ (w'87 : World),
 Put w'8 b7 0 [Value.int IntKind.i64 0, Value.int IntKind.i64 0, Value.string (ByteArray.mk #[])] w'87 →
 ∃ (n89 : Int),
 w'87.cell? (Addr.mk b7 0 none) = some (Value.int IntKind.i64 n89) ∧
 ∃ (n90 : Int),
 w'87.cell? (Addr.mk b7 1 none) = some (Value.int IntKind.i64 n90) ∧
 ∃ (s91 : ByteArray),
 w'87.cell? (Addr.mk b7 2 none) = some (Value.string s91) ∧
 R (Ending.returned (Value.agg #[Value.int IntKind.i64 n89, Value.int IntKind.i64 n90, Value.string s91])) w'87) ∧
 (n82 ≠ 0 →
 ∃ (n93 : Int),
 w'8.cell? (Addr.mk b4 0 none) = some (Value.int IntKind.i64 n93) ∧
 (n93 = 0 →
 (∃ (u95 : Value), w'8.cell? (Addr.mk b7 0 none) = some u95) ∧
 w'8.frozen? (Addr.mk b7 0 none) = false ∧
 (∃ (u96 : Value), w'8.cell? (Addr.mk b7 1 none) = some u96) ∧
 w'8.frozen? (Addr.mk b7 1 none) = false ∧
 (∃ (u97 : Value), w'8.cell? (Addr.mk b7 2 none) = some u97) ∧
 w'8.frozen? (Addr.mk b7 2 none) = false ∧
 ∀ (w'98 : World),
 Put w'8 b7 0 [Value.int IntKind.i64 0, Value.int IntKind.i64 0, Value.string (ByteArray.mk #[])] w'98 →
 ∃ (n100 : Int),
 w'98.cell? (Addr.mk b7 0 none) = some (Value.int IntKind.i64 n100) ∧
 ∃ (n101 : Int),
 w'98.cell? (Addr.mk b7 1 none) = some (Value.int IntKind.i64 n101) ∧
 ∃ (s102 : ByteArray),
 w'98.cell? (Addr.mk b7 2 none) = some (Value.string s102) ∧
 R (Ending.returned (Value.agg #[Value.int IntKind.i64 n100, Value.int IntKind.i64 n101, Value.string s102])) w'98) ∧
 (n93 ≠ 0 →
 Calls Tryd.prog 57 #[Value.bool (decide (strong = 0))] w'8 fun (e104 : Ending) (w105 : World) ↦
 ∃ (n106 : Int),
 ∃ (n107 : Int),
 ∃ (s108 : ByteArray),
 e104 = Ending.returned (Value.agg #[Value.int IntKind.i64 n106, Value.int IntKind.i64 n107, Value.string s108]) ∧
 (∃ (u109 : Value), w105.cell? (Addr.mk b7 0 none) = some u109) ∧
 w105.frozen? (Addr.mk b7 0 none) = false ∧
 (∃ (u110 : Value), w105.cell? (Addr.mk b7 1 none) = some u110) ∧
 w105.frozen? (Addr.mk b7 1 none) = false ∧
 (∃ (u111 : Value), w105.cell? (Addr.mk b7 2 none) = some u111) ∧
 w105.frozen? (Addr.mk b7 2 none) = false ∧
 ∀ (w'112 : World),
 Put w105 b7 0 [Value.int IntKind.i64 n106, Value.int IntKind.i64 n107, Value.string s108] w'112 →
 ∃ (n114 : Int),
 w'112.cell? (Addr.mk b7 0 none) = some (Value.int IntKind.i64 n114) ∧
 ∃ (n115 : Int),
 w'112.cell? (Addr.mk b7 1 none) = some (Value.int IntKind.i64 n115) ∧
 ∃ (s116 : ByteArray),
 w'112.cell? (Addr.mk b7 2 none) = some (Value.string s116) ∧
 R (Ending.returned (Value.agg #[Value.int IntKind.i64 n114, Value.int IntKind.i64 n115, Value.string s116])) w'112))))) ∧
 (n10 ≠ 2 →
 ∃ (n118 : Int),
 w'8.cell? (Addr.mk b4 0 none) = some (Value.int IntKind.i64 n118) ∧
 (n118 = 2 →
 ∃ (n120 : Int),
 w'8.cell? (Addr.mk b4 1 none) = some (Value.int IntKind.i64 n120) ∧
 (n120 = strong →
 Calls Tryd.prog 57 #[Value.bool (decide (strong = 1))] w'8 fun (e122 : Ending) (w123 : World) ↦
 ∃ (n124 : Int),
 ∃ (n125 : Int),
 ∃ (s126 : ByteArray),
 e122 = Ending.returned (Value.agg #[Value.int IntKind.i64 n124, Value.int IntKind.i64 n125, Value.string s126]) ∧
 (∃ (u127 : Value), w123.cell? (Addr.mk b7 0 none) = some u127) ∧
 w123.frozen? (Addr.mk b7 0 none) = false ∧
 (∃ (u128 : Value), w123.cell? (Addr.mk b7 1 none) = some u128) ∧
 w123.frozen? (Addr.mk b7 1 none) = false ∧
 (∃ (u129 : Value), w123.cell? (Addr.mk b7 2 none) = some u129) ∧
 w123.frozen? (Addr.mk b7 2 none) = false ∧
 ∀ (w'130 : World),
 Put w123 b7 0 [Value.int IntKind.i64 n124, Value.int IntKind.i64 n125, Value.string s126] w'130 →
 ∃ (n132 : Int),
 w'130.cell? (Addr.mk b7 0 none) = some (Value.int IntKind.i64 n132) ∧
 ∃ (n133 : Int),
 w'130.cell? (Addr.mk b7 1 none) = some (Value.int IntKind.i64 n133) ∧
 ∃ (s134 : ByteArray),
 w'130.cell? (Addr.mk b7 2 none) = some (Value.string s134) ∧
 R (Ending.returned (Value.agg #[Value.int IntKind.i64 n132, Value.int IntKind.i64 n133, Value.string s134])) w'130) ∧
 (n120 ≠ strong →
 ∃ (n136 : Int),
 w'8.cell? (Addr.mk b1_1 0 none) = some (Value.int IntKind.i64 n136) ∧
 (n136 = 0 →
 (∃ (u138 : Value), w'8.cell? (Addr.mk b7 0 none) = some u138) ∧
 w'8.frozen? (Addr.mk b7 0 none) = false ∧
 (∃ (u139 : Value), w'8.cell? (Addr.mk b7 1 none) = some u139) ∧
 w'8.frozen? (Addr.mk b7 1 none) = false ∧
 (∃ (u140 : Value), w'8.cell? (Addr.mk b7 2 none) = some u140) ∧
 w'8.frozen? (Addr.mk b7 2 none) = false ∧
 ∀ (w'141 : World),
 Put w'8 b7 0 [Value.int IntKind.i64 0, Value.int IntKind.i64 0, Value.string (ByteArray.mk #[])] w'141 →
 ∃ (n143 : Int),
 w'141.cell? (Addr.mk b7 0 none) = some (Value.int IntKind.i64 n143) ∧
 ∃ (n144 : Int),
 w'141.cell? (Addr.mk b7 1 none) = some (Value.int IntKind.i64 n144) ∧
 ∃ (s145 : ByteArray),
 w'141.cell? (Addr.mk b7 2 none) = some (Value.string s145) ∧
 R (Ending.returned (Value.agg #[Value.int IntKind.i64 n143, Value.int IntKind.i64 n144, Value.string s145])) w'141) ∧
 (n136 ≠ 0 →
 ∃ (n147 : Int),
 w'8.cell? (Addr.mk b4 0 none) = some (Value.int IntKind.i64 n147) ∧
 (n147 = 0 →
 (∃ (u149 : Value), w'8.cell? (Addr.mk b7 0 none) = some u149) ∧
 w'8.frozen? (Addr.mk b7 0 none) = false ∧
 (∃ (u150 : Value), w'8.cell? (Addr.mk b7 1 none) = some u150) ∧
 w'8.frozen? (Addr.mk b7 1 none) = false ∧
 (∃ (u151 : Value), w'8.cell? (Addr.mk b7 2 none) = some u151) ∧
 w'8.frozen? (Addr.mk b7 2 none) = false ∧
 ∀ (w'152 : World),
 Put w'8 b7 0 [Value.int IntKind.i64 0, Value.int IntKind.i64 0, Value.string (ByteArray.mk #[])] w'152 →
 ∃ (n154 : Int),
 w'152.cell? (Addr.mk b7 0 none) = some (Value.int IntKind.i64 n154) ∧
 ∃ (n155 : Int),
 w'152.cell? (Addr.mk b7 1 none) = some (Value.int IntKind.i64 n155) ∧
 ∃ (s156 : ByteArray),
 w'152.cell? (Addr.mk b7 2 none) = some (Value.string s156) ∧
 R (Ending.returned (Value.agg #[Value.int IntKind.i64 n154, Value.int IntKind.i64 n155, Value.string s156])) w'152) ∧
 (n147 ≠ 0 →
 Calls Tryd.prog 57 #[Value.bool (decide (strong = 0))] w'8 fun (e158 : Ending) (w159 : World) ↦
 ∃ (n160 : Int),
 ∃ (n161 : Int),
 ∃ (s162 : ByteArray),
 e158 = Ending.returned (Value.agg #[Value.int IntKind.i64 n160, Value.int IntKind.i64 n161, Value.string s162]) ∧
 (∃ (u163 : Value), w159.cell? (Addr.mk b7 0 none) = some u163) ∧
 w159.frozen? (Addr.mk b7 0 none) = false ∧
 (∃ (u164 : Value), w159.cell? (Addr.mk b7 1 none) = some u164) ∧
 w159.frozen? (Addr.mk b7 1 none) = false ∧
 (∃ (u165 : Value), w159.cell? (Addr.mk b7 2 none) = some u165) ∧
 w159.frozen? (Addr.mk b7 2 none) = false ∧
 ∀ (w'166 : World),
 Put w159 b7 0 [Value.int IntKind.i64 n160, Value.int IntKind.i64 n161, Value.string s162] w'166 →
 ∃ (n168 : Int),
 w'166.cell? (Addr.mk b7 0 none) = some (Value.int IntKind.i64 n168) ∧
 ∃ (n169 : Int),
 w'166.cell? (Addr.mk b7 1 none) = some (Value.int IntKind.i64 n169) ∧
 ∃ (s170 : ByteArray),
 w'166.cell? (Addr.mk b7 2 none) = some (Value.string s170) ∧
 R (Ending.returned (Value.agg #[Value.int IntKind.i64 n168, Value.int IntKind.i64 n169, Value.string s170])) w'166)))) ∧
 (n118 ≠ 2 →
 ∃ (n172 : Int),
 w'8.cell? (Addr.mk b1_1 0 none) = some (Value.int IntKind.i64 n172) ∧
 (n172 = 0 →
 (∃ (u174 : Value), w'8.cell? (Addr.mk b7 0 none) = some u174) ∧
 w'8.frozen? (Addr.mk b7 0 none) = false ∧
 (∃ (u175 : Value), w'8.cell? (Addr.mk b7 1 none) = some u175) ∧
 w'8.frozen? (Addr.mk b7 1 none) = false ∧
 (∃ (u176 : Value), w'8.cell? (Addr.mk b7 2 none) = some u176) ∧
 w'8.frozen? (Addr.mk b7 2 none) = false ∧
 ∀ (w'177 : World),
 Put w'8 b7 0 [Value.int IntKind.i64 0, Value.int IntKind.i64 0, Value.string (ByteArray.mk #[])] w'177 →
 ∃ (n179 : Int),
 w'177.cell? (Addr.mk b7 0 none) = some (Value.int IntKind.i64 n179) ∧
 ∃ (n180 : Int),
 w'177.cell? (Addr.mk b7 1 none) = some (Value.int IntKind.i64 n180) ∧
 ∃ (s181 : ByteArray),
 w'177.cell? (Addr.mk b7 2 none) = some (Value.string s181) ∧
 R (Ending.returned (Value.agg #[Value.int IntKind.i64 n179, Value.int IntKind.i64 n180, Value.string s181])) w'177) ∧
 (n172 ≠ 0 →
 ∃ (n183 : Int),
 w'8.cell? (Addr.mk b4 0 none) = some (Value.int IntKind.i64 n183) ∧
 (n183 = 0 →
 (∃ (u185 : Value), w'8.cell? (Addr.mk b7 0 none) = some u185) ∧
 w'8.frozen? (Addr.mk b7 0 none) = false ∧
 (∃ (u186 : Value), w'8.cell? (Addr.mk b7 1 none) = some u186) ∧
 w'8.frozen? (Addr.mk b7 1 none) = false ∧
 (∃ (u187 : Value), w'8.cell? (Addr.mk b7 2 none) = some u187) ∧
 w'8.frozen? (Addr.mk b7 2 none) = false ∧
 ∀ (w'188 : World),
 Put w'8 b7 0 [Value.int IntKind.i64 0, Value.int IntKind.i64 0, Value.string (ByteArray.mk #[])] w'188 →
 ∃ (n190 : Int),
 w'188.cell? (Addr.mk b7 0 none) = some (Value.int IntKind.i64 n190) ∧
 ∃ (n191 : Int),
 w'188.cell? (Addr.mk b7 1 none) = some (Value.int IntKind.i64 n191) ∧
 ∃ (s192 : ByteArray),
 w'188.cell? (Addr.mk b7 2 none) = some (Value.string s192) ∧
 R (Ending.returned (Value.agg #[Value.int IntKind.i64 n190, Value.int IntKind.i64 n191, Value.string s192])) w'188) ∧
 (n183 ≠ 0 →
 Calls Tryd.prog 57 #[Value.bool (decide (strong = 0))] w'8 fun (e194 : Ending) (w195 : World) ↦
 ∃ (n196 : Int),
 ∃ (n197 : Int),
 ∃ (s198 : ByteArray),
 e194 = Ending.returned (Value.agg #[Value.int IntKind.i64 n196, Value.int IntKind.i64 n197, Value.string s198]) ∧
 (∃ (u199 : Value), w195.cell? (Addr.mk b7 0 none) = some u199) ∧
 w195.frozen? (Addr.mk b7 0 none) = false ∧
 (∃ (u200 : Value), w195.cell? (Addr.mk b7 1 none) = some u200) ∧
 w195.frozen? (Addr.mk b7 1 none) = false ∧
 (∃ (u201 : Value), w195.cell? (Addr.mk b7 2 none) = some u201) ∧
 w195.frozen? (Addr.mk b7 2 none) = false ∧
 ∀ (w'202 : World),
 Put w195 b7 0 [Value.int IntKind.i64 n196, Value.int IntKind.i64 n197, Value.string s198] w'202 →
 ∃ (n204 : Int),
 w'202.cell? (Addr.mk b7 0 none) = some (Value.int IntKind.i64 n204) ∧
 ∃ (n205 : Int),
 w'202.cell? (Addr.mk b7 1 none) = some (Value.int IntKind.i64 n205) ∧
 ∃ (s206 : ByteArray),
 w'202.cell? (Addr.mk b7 2 none) = some (Value.string s206) ∧
 R (Ending.returned (Value.agg #[Value.int IntKind.i64 n204, Value.int IntKind.i64 n205, Value.string s206])) w'202))))

set_option maxRecDepth 100000 in
theorem rboth_eq (a0 : Int) (a1 : Int) (a2 : ByteArray) (b0 : Int) (b1 : Int) (b2 : ByteArray) (strong : Int) (w : World) (R : Ending → World → Prop) : rboth_T a0 a1 a2 b0 b1 b2 strong w R = vcFn Tryd.prog [] [] Tryd.f82 [Value.agg #[Value.int IntKind.i64 a0, Value.int IntKind.i64 a1, Value.string a2], Value.agg #[Value.int IntKind.i64 b0, Value.int IntKind.i64 b1, Value.string b2], Value.int IntKind.i64 strong] w R := by kernel_rfl

set_option maxRecDepth 100000 in
theorem rboth_vc (a0 : Int) (a1 : Int) (a2 : ByteArray) (b0 : Int) (b1 : Int) (b2 : ByteArray) (strong : Int) (w : World) (R : Ending → World → Prop) (h : rboth_T a0 a1 a2 b0 b1 b2 strong w R) : Calls Tryd.prog 82 #[Value.agg #[Value.int IntKind.i64 a0, Value.int IntKind.i64 a1, Value.string a2], Value.agg #[Value.int IntKind.i64 b0, Value.int IntKind.i64 b1, Value.string b2], Value.int IntKind.i64 strong] w R :=
  calls_of_vc (args := [Value.agg #[Value.int IntKind.i64 a0, Value.int IntKind.i64 a1, Value.string a2], Value.agg #[Value.int IntKind.i64 b0, Value.int IntKind.i64 b1, Value.string b2], Value.int IntKind.i64 strong]) [] [] Tryd.mixed Tryd.func82 (cast (rboth_eq _ _ _ _ _ _ _ w R) h)

set_option maxRecDepth 100000 in
def rtwo_T (op : Int) (a0 : Int) (a1 : Int) (a2 : ByteArray) (b0 : Int) (b1 : Int) (b2 : ByteArray) (w : World) (R : Ending → World → Prop) : Prop :=
  ∀ (b1_1 : Nat) (w'2 : World),
 New w (Obj.cells #[Value.int IntKind.i64 a0, Value.int IntKind.i64 a1, Value.string a2] 26) b1_1 w'2 →
 ∀ (b4 : Nat) (w'5 : World),
 New w'2 (Obj.cells #[Value.int IntKind.i64 b0, Value.int IntKind.i64 b1, Value.string b2] 26) b4 w'5 →
 ∀ (b7 : Nat) (w'8 : World),
 New w'5 (Obj.cells #[Value.int IntKind.i64 0, Value.int IntKind.i64 0, Value.string (ByteArray.mk #[])] 26) b7 w'8 →
 (op = 12 →
 ∃ (n11 : Int),
 w'8.cell? (Addr.mk b1_1 0 none) = some (Value.int IntKind.i64 n11) ∧
 ∃ (n12 : Int),
 w'8.cell? (Addr.mk b1_1 1 none) = some (Value.int IntKind.i64 n12) ∧
 ∃ (s13 : ByteArray),
 w'8.cell? (Addr.mk b1_1 2 none) = some (Value.string s13) ∧
 ∃ (n14 : Int),
 w'8.cell? (Addr.mk b4 0 none) = some (Value.int IntKind.i64 n14) ∧
 ∃ (n15 : Int),
 w'8.cell? (Addr.mk b4 1 none) = some (Value.int IntKind.i64 n15) ∧
 ∃ (s16 : ByteArray),
 w'8.cell? (Addr.mk b4 2 none) = some (Value.string s16) ∧
 Calls Tryd.prog 82
 #[Value.agg #[Value.int IntKind.i64 n11, Value.int IntKind.i64 n12, Value.string s13],
 Value.agg #[Value.int IntKind.i64 n14, Value.int IntKind.i64 n15, Value.string s16], Value.int IntKind.i64 0]
 w'8 fun (e17 : Ending) (w18 : World) ↦
 ∃ (n19 : Int),
 ∃ (n20 : Int),
 ∃ (s21 : ByteArray),
 e17 = Ending.returned (Value.agg #[Value.int IntKind.i64 n19, Value.int IntKind.i64 n20, Value.string s21]) ∧
 (∃ (u22 : Value), w18.cell? (Addr.mk b7 0 none) = some u22) ∧
 w18.frozen? (Addr.mk b7 0 none) = false ∧
 (∃ (u23 : Value), w18.cell? (Addr.mk b7 1 none) = some u23) ∧
 w18.frozen? (Addr.mk b7 1 none) = false ∧
 (∃ (u24 : Value), w18.cell? (Addr.mk b7 2 none) = some u24) ∧
 w18.frozen? (Addr.mk b7 2 none) = false ∧
 ∀ (w'25 : World),
 Put w18 b7 0 [Value.int IntKind.i64 n19, Value.int IntKind.i64 n20, Value.string s21] w'25 →
 ∃ (n27 : Int),
 w'25.cell? (Addr.mk b7 0 none) = some (Value.int IntKind.i64 n27) ∧
 ∃ (n28 : Int),
 w'25.cell? (Addr.mk b7 1 none) = some (Value.int IntKind.i64 n28) ∧
 ∃ (s29 : ByteArray),
 w'25.cell? (Addr.mk b7 2 none) = some (Value.string s29) ∧
 R (Ending.returned (Value.tuple #[Value.agg #[Value.int IntKind.i64 n27, Value.int IntKind.i64 n28, Value.string s29], Value.int IntKind.i64 0])) w'25) ∧
 (op ≠ 12 →
 (op = 13 →
 ∃ (n32 : Int),
 w'8.cell? (Addr.mk b1_1 0 none) = some (Value.int IntKind.i64 n32) ∧
 ∃ (n33 : Int),
 w'8.cell? (Addr.mk b1_1 1 none) = some (Value.int IntKind.i64 n33) ∧
 ∃ (s34 : ByteArray),
 w'8.cell? (Addr.mk b1_1 2 none) = some (Value.string s34) ∧
 ∃ (n35 : Int),
 w'8.cell? (Addr.mk b4 0 none) = some (Value.int IntKind.i64 n35) ∧
 ∃ (n36 : Int),
 w'8.cell? (Addr.mk b4 1 none) = some (Value.int IntKind.i64 n36) ∧
 ∃ (s37 : ByteArray),
 w'8.cell? (Addr.mk b4 2 none) = some (Value.string s37) ∧
 Calls Tryd.prog 82
 #[Value.agg #[Value.int IntKind.i64 n32, Value.int IntKind.i64 n33, Value.string s34],
 Value.agg #[Value.int IntKind.i64 n35, Value.int IntKind.i64 n36, Value.string s37], Value.int IntKind.i64 1]
 w'8 fun (e38 : Ending) (w39 : World) ↦
 ∃ (n40 : Int),
 ∃ (n41 : Int),
 ∃ (s42 : ByteArray),
 e38 = Ending.returned (Value.agg #[Value.int IntKind.i64 n40, Value.int IntKind.i64 n41, Value.string s42]) ∧
 (∃ (u43 : Value), w39.cell? (Addr.mk b7 0 none) = some u43) ∧
 w39.frozen? (Addr.mk b7 0 none) = false ∧
 (∃ (u44 : Value), w39.cell? (Addr.mk b7 1 none) = some u44) ∧
 w39.frozen? (Addr.mk b7 1 none) = false ∧
 (∃ (u45 : Value), w39.cell? (Addr.mk b7 2 none) = some u45) ∧
 w39.frozen? (Addr.mk b7 2 none) = false ∧
 ∀ (w'46 : World),
 Put w39 b7 0 [Value.int IntKind.i64 n40, Value.int IntKind.i64 n41, Value.string s42] w'46 →
 ∃ (n48 : Int),
 w'46.cell? (Addr.mk b7 0 none) = some (Value.int IntKind.i64 n48) ∧
 ∃ (n49 : Int),
 w'46.cell? (Addr.mk b7 1 none) = some (Value.int IntKind.i64 n49) ∧
 ∃ (s50 : ByteArray),
 w'46.cell? (Addr.mk b7 2 none) = some (Value.string s50) ∧
 R (Ending.returned (Value.tuple #[Value.agg #[Value.int IntKind.i64 n48, Value.int IntKind.i64 n49, Value.string s50], Value.int IntKind.i64 0])) w'46) ∧
 (op ≠ 13 →
 ∃ (n52 : Int),
 w'8.cell? (Addr.mk b1_1 0 none) = some (Value.int IntKind.i64 n52) ∧
 (n52 = 0 →
 (∃ (u54 : Value), w'8.cell? (Addr.mk b7 0 none) = some u54) ∧
 w'8.frozen? (Addr.mk b7 0 none) = false ∧
 (∃ (u55 : Value), w'8.cell? (Addr.mk b7 1 none) = some u55) ∧
 w'8.frozen? (Addr.mk b7 1 none) = false ∧
 (∃ (u56 : Value), w'8.cell? (Addr.mk b7 2 none) = some u56) ∧
 w'8.frozen? (Addr.mk b7 2 none) = false ∧
 ∀ (w'57 : World),
 Put w'8 b7 0 [Value.int IntKind.i64 0, Value.int IntKind.i64 0, Value.string (ByteArray.mk #[])] w'57 →
 ∃ (n59 : Int),
 w'57.cell? (Addr.mk b7 0 none) = some (Value.int IntKind.i64 n59) ∧
 ∃ (n60 : Int),
 w'57.cell? (Addr.mk b7 1 none) = some (Value.int IntKind.i64 n60) ∧
 ∃ (s61 : ByteArray),
 w'57.cell? (Addr.mk b7 2 none) = some (Value.string s61) ∧
 R (Ending.returned (Value.tuple #[Value.agg #[Value.int IntKind.i64 n59, Value.int IntKind.i64 n60, Value.string s61], Value.int IntKind.i64 0])) w'57) ∧
 (n52 ≠ 0 →
 ∃ (n63 : Int),
 w'8.cell? (Addr.mk b4 0 none) = some (Value.int IntKind.i64 n63) ∧
 (n63 = 0 →
 (∃ (u65 : Value), w'8.cell? (Addr.mk b7 0 none) = some u65) ∧
 w'8.frozen? (Addr.mk b7 0 none) = false ∧
 (∃ (u66 : Value), w'8.cell? (Addr.mk b7 1 none) = some u66) ∧
 w'8.frozen? (Addr.mk b7 1 none) = false ∧
 (∃ (u67 : Value), w'8.cell? (Addr.mk b7 2 none) = some u67) ∧
 w'8.frozen? (Addr.mk b7 2 none) = false ∧
 ∀ (w'68 : World),
 Put w'8 b7 0 [Value.int IntKind.i64 0, Value.int IntKind.i64 0, Value.string (ByteArray.mk #[])] w'68 →
 ∃ (n70 : Int),
 w'68.cell? (Addr.mk b7 0 none) = some (Value.int IntKind.i64 n70) ∧
 ∃ (n71 : Int),
 w'68.cell? (Addr.mk b7 1 none) = some (Value.int IntKind.i64 n71) ∧
 ∃ (s72 : ByteArray),
 w'68.cell? (Addr.mk b7 2 none) = some (Value.string s72) ∧
 R (Ending.returned (Value.tuple #[Value.agg #[Value.int IntKind.i64 n70, Value.int IntKind.i64 n71, Value.string s72], Value.int IntKind.i64 0])) w'68) ∧
 (n63 ≠ 0 →
 ∃ (n74 : Int),
 w'8.cell? (Addr.mk b1_1 0 none) = some (Value.int IntKind.i64 n74) ∧
 ∃ (n75 : Int),
 w'8.cell? (Addr.mk b1_1 1 none) = some (Value.int IntKind.i64 n75) ∧
 ∃ (s76 : ByteArray),
 w'8.cell? (Addr.mk b1_1 2 none) = some (Value.string s76) ∧
 ∃ (n77 : Int),
 w'8.cell? (Addr.mk b4 0 none) = some (Value.int IntKind.i64 n77) ∧
 ∃ (n78 : Int),
 w'8.cell? (Addr.mk b4 1 none) = some (Value.int IntKind.i64 n78) ∧
 ∃ (s79 : ByteArray),
 w'8.cell? (Addr.mk b4 2 none) = some (Value.string s79) ∧
 Calls Tryd.prog 83
 #[Value.agg #[Value.int IntKind.i64 n74, Value.int IntKind.i64 n75, Value.string s76],
 Value.agg #[Value.int IntKind.i64 n77, Value.int IntKind.i64 n78, Value.string s79]]
 w'8 fun (e80 : Ending) (w81 : World) ↦
 ∃ (n82 : Int),
 e80 = Ending.returned (Value.int IntKind.i64 n82) ∧
 (op = 9 →
 Calls Tryd.prog 57 #[Value.bool (decide (n82 = 0))] w81 fun (e84 : Ending) (w85 : World) ↦
 ∃ (n86 : Int),
 ∃ (n87 : Int),
 ∃ (s88 : ByteArray),
 e84 = Ending.returned (Value.agg #[Value.int IntKind.i64 n86, Value.int IntKind.i64 n87, Value.string s88]) ∧
 (∃ (u89 : Value), w85.cell? (Addr.mk b7 0 none) = some u89) ∧
 w85.frozen? (Addr.mk b7 0 none) = false ∧
 (∃ (u90 : Value), w85.cell? (Addr.mk b7 1 none) = some u90) ∧
 w85.frozen? (Addr.mk b7 1 none) = false ∧
 (∃ (u91 : Value), w85.cell? (Addr.mk b7 2 none) = some u91) ∧
 w85.frozen? (Addr.mk b7 2 none) = false ∧
 ∀ (w'92 : World),
 Put w85 b7 0 [Value.int IntKind.i64 n86, Value.int IntKind.i64 n87, Value.string s88] w'92 →
 ∃ (n94 : Int),
 w'92.cell? (Addr.mk b7 0 none) = some (Value.int IntKind.i64 n94) ∧
 ∃ (n95 : Int),
 w'92.cell? (Addr.mk b7 1 none) = some (Value.int IntKind.i64 n95) ∧
 ∃ (s96 : ByteArray),
 w'92.cell? (Addr.mk b7 2 none) = some (Value.string s96) ∧
 R (Ending.returned (Value.tuple #[Value.agg #[Value.int IntKind.i64 n94, Value.int IntKind.i64 n95, Value.string s96], Value.int IntKind.i64 0])) w'92) ∧
 (op ≠ 9 →
 (op = 10 →
 Calls Tryd.prog 57 #[Value.bool (decide (n82 < 0))] w81 fun (e99 : Ending) (w100 : World) ↦
 ∃ (n101 : Int),
 ∃ (n102 : Int),
 ∃ (s103 : ByteArray),
 e99 = Ending.returned (Value.agg #[Value.int IntKind.i64 n101, Value.int IntKind.i64 n102, Value.string s103]) ∧
 (∃ (u104 : Value), w100.cell? (Addr.mk b7 0 none) = some u104) ∧
 w100.frozen? (Addr.mk b7 0 none) = false ∧
 (∃ (u105 : Value), w100.cell? (Addr.mk b7 1 none) = some u105) ∧
 w100.frozen? (Addr.mk b7 1 none) = false ∧
 (∃ (u106 : Value), w100.cell? (Addr.mk b7 2 none) = some u106) ∧
 w100.frozen? (Addr.mk b7 2 none) = false ∧
 ∀ (w'107 : World),
 Put w100 b7 0 [Value.int IntKind.i64 n101, Value.int IntKind.i64 n102, Value.string s103] w'107 →
 ∃ (n109 : Int),
 w'107.cell? (Addr.mk b7 0 none) = some (Value.int IntKind.i64 n109) ∧
 ∃ (n110 : Int),
 w'107.cell? (Addr.mk b7 1 none) = some (Value.int IntKind.i64 n110) ∧
 ∃ (s111 : ByteArray),
 w'107.cell? (Addr.mk b7 2 none) = some (Value.string s111) ∧
 R (Ending.returned (Value.tuple #[Value.agg #[Value.int IntKind.i64 n109, Value.int IntKind.i64 n110, Value.string s111], Value.int IntKind.i64 0])) w'107) ∧
 (op ≠ 10 →
 (op = 11 →
 Calls Tryd.prog 57 #[Value.bool (decide (n82 ≤ 0))] w81 fun (e114 : Ending) (w115 : World) ↦
 ∃ (n116 : Int),
 ∃ (n117 : Int),
 ∃ (s118 : ByteArray),
 e114 = Ending.returned (Value.agg #[Value.int IntKind.i64 n116, Value.int IntKind.i64 n117, Value.string s118]) ∧
 (∃ (u119 : Value), w115.cell? (Addr.mk b7 0 none) = some u119) ∧
 w115.frozen? (Addr.mk b7 0 none) = false ∧
 (∃ (u120 : Value), w115.cell? (Addr.mk b7 1 none) = some u120) ∧
 w115.frozen? (Addr.mk b7 1 none) = false ∧
 (∃ (u121 : Value), w115.cell? (Addr.mk b7 2 none) = some u121) ∧
 w115.frozen? (Addr.mk b7 2 none) = false ∧
 ∀ (w'122 : World),
 Put w115 b7 0 [Value.int IntKind.i64 n116, Value.int IntKind.i64 n117, Value.string s118] w'122 →
 ∃ (n124 : Int),
 w'122.cell? (Addr.mk b7 0 none) = some (Value.int IntKind.i64 n124) ∧
 ∃ (n125 : Int),
 w'122.cell? (Addr.mk b7 1 none) = some (Value.int IntKind.i64 n125) ∧
 ∃ (s126 : ByteArray),
 w'122.cell? (Addr.mk b7 2 none) = some (Value.string s126) ∧
 R (Ending.returned (Value.tuple #[Value.agg #[Value.int IntKind.i64 n124, Value.int IntKind.i64 n125, Value.string s126], Value.int IntKind.i64 0])) w'122) ∧
 (op ≠ 11 →
 ∃ (n128 : Int),
 w81.cell? (Addr.mk b1_1 1 none) = some (Value.int IntKind.i64 n128) ∧
 ∃ (n129 : Int),
 w81.cell? (Addr.mk b4 1 none) = some (Value.int IntKind.i64 n129) ∧
 Calls Tryd.prog 59 #[Value.int IntKind.i64 op, Value.int IntKind.i64 n128, Value.int IntKind.i64 n129] w81 fun (e130 : Ending) (w131 : World) ↦
 ∃ (n132 : Int),
 ∃ (n133 : Int),
 e130 = Ending.returned (Value.tuple #[Value.int IntKind.i64 n132, Value.int IntKind.i64 n133]) ∧
 (n133 ≠ 0 →
 (∃ (u135 : Value), w131.cell? (Addr.mk b7 0 none) = some u135) ∧
 w131.frozen? (Addr.mk b7 0 none) = false ∧
 (∃ (u136 : Value), w131.cell? (Addr.mk b7 1 none) = some u136) ∧
 w131.frozen? (Addr.mk b7 1 none) = false ∧
 (∃ (u137 : Value), w131.cell? (Addr.mk b7 2 none) = some u137) ∧
 w131.frozen? (Addr.mk b7 2 none) = false ∧
 ∀ (w'138 : World),
 Put w131 b7 0 [Value.int IntKind.i64 0, Value.int IntKind.i64 0, Value.string (ByteArray.mk #[])] w'138 →
 ∃ (n140 : Int),
 w'138.cell? (Addr.mk b7 0 none) = some (Value.int IntKind.i64 n140) ∧
 ∃ (n141 : Int),
 w'138.cell? (Addr.mk b7 1 none) = some (Value.int IntKind.i64 n141) ∧
 ∃ (s142 : ByteArray),
 w'138.cell? (Addr.mk b7 2 none) = some (Value.string s142) ∧
 R (Ending.returned (Value.tuple #[Value.agg #[Value.int IntKind.i64 n140, Value.int IntKind.i64 n141, Value.string s142], Value.int IntKind.i64 n133])) w'138) ∧
 (n133 = 0 →
 Calls Tryd.prog 58 #[Value.int IntKind.i64 n132] w131 fun (e144 : Ending) (w145 : World) ↦
 ∃ (n146 : Int),
 ∃ (n147 : Int),
 ∃ (s148 : ByteArray),
 e144 = Ending.returned (Value.agg #[Value.int IntKind.i64 n146, Value.int IntKind.i64 n147, Value.string s148]) ∧
 (∃ (u149 : Value), w145.cell? (Addr.mk b7 0 none) = some u149) ∧
 w145.frozen? (Addr.mk b7 0 none) = false ∧
 (∃ (u150 : Value), w145.cell? (Addr.mk b7 1 none) = some u150) ∧
 w145.frozen? (Addr.mk b7 1 none) = false ∧
 (∃ (u151 : Value), w145.cell? (Addr.mk b7 2 none) = some u151) ∧
 w145.frozen? (Addr.mk b7 2 none) = false ∧
 ∀ (w'152 : World),
 Put w145 b7 0 [Value.int IntKind.i64 n146, Value.int IntKind.i64 n147, Value.string s148] w'152 →
 ∃ (n154 : Int),
 w'152.cell? (Addr.mk b7 0 none) = some (Value.int IntKind.i64 n154) ∧
 ∃ (n155 : Int),
 w'152.cell? (Addr.mk b7 1 none) = some (Value.int IntKind.i64 n155) ∧
 ∃ (s156 : ByteArray),
 w'152.cell? (Addr.mk b7 2 none) = some (Value.string s156) ∧
 R (Ending.returned (Value.tuple #[Value.agg #[Value.int IntKind.i64 n154, Value.int IntKind.i64 n155, Value.string s156], Value.int IntKind.i64 0])) w'152))))))))

set_option maxRecDepth 100000 in
theorem rtwo_eq (op : Int) (a0 : Int) (a1 : Int) (a2 : ByteArray) (b0 : Int) (b1 : Int) (b2 : ByteArray) (w : World) (R : Ending → World → Prop) : rtwo_T op a0 a1 a2 b0 b1 b2 w R = vcFn Tryd.prog [] [] Tryd.f56 [Value.int IntKind.i64 op, Value.agg #[Value.int IntKind.i64 a0, Value.int IntKind.i64 a1, Value.string a2], Value.agg #[Value.int IntKind.i64 b0, Value.int IntKind.i64 b1, Value.string b2]] w R := by kernel_rfl

set_option maxRecDepth 100000 in
theorem rtwo_vc (op : Int) (a0 : Int) (a1 : Int) (a2 : ByteArray) (b0 : Int) (b1 : Int) (b2 : ByteArray) (w : World) (R : Ending → World → Prop) (h : rtwo_T op a0 a1 a2 b0 b1 b2 w R) : Calls Tryd.prog 56 #[Value.int IntKind.i64 op, Value.agg #[Value.int IntKind.i64 a0, Value.int IntKind.i64 a1, Value.string a2], Value.agg #[Value.int IntKind.i64 b0, Value.int IntKind.i64 b1, Value.string b2]] w R :=
  calls_of_vc (args := [Value.int IntKind.i64 op, Value.agg #[Value.int IntKind.i64 a0, Value.int IntKind.i64 a1, Value.string a2], Value.agg #[Value.int IntKind.i64 b0, Value.int IntKind.i64 b1, Value.string b2]]) [] [] Tryd.mixed Tryd.func56 (cast (rtwo_eq _ _ _ _ _ _ _ w R) h)

set_option maxRecDepth 100000 in
def rvalue_T (cols_p : Option Addr) (cols_n : Nat) (cols_c : Nat) (row_p : Option Addr) (row_n : Nat) (row_c : Nat) (x0 : Int) (x1 : ByteArray) (x2 : Int) (x3 : Int) (x4 : ByteArray) (x5_p : Option Addr) (x5_n : Nat) (x5_c : Nat) (w : World) (R : Ending → World → Prop) : Prop :=
  ∀ (b1 : Nat) (w'2 : World),
 New w (Obj.cells #[Value.int IntKind.i64 x0, Value.string x1, Value.int IntKind.i64 x2, Value.int IntKind.i64 x3, Value.string x4, Value.slice x5_p x5_n x5_c] 29) b1
 w'2 →
 ∀ (b4 : Nat) (w'5 : World),
 New w'2 (Obj.cells #[Value.int IntKind.i64 0, Value.int IntKind.i64 0, Value.string (ByteArray.mk #[])] 26) b4 w'5 →
 ∃ (I7 : Option Addr → Nat → Nat → Int → World → Prop),
 ∃ (M8 : Option Addr → Nat → Nat → Int → World → Nat),
 I7 none 0 0 0 w'5 ∧
 ∀ (p9 : Option Addr) (n10 c11 : Nat) (n12 : Int) (w'13 : World),
 I7 p9 n10 c11 n12 w'13 →
 ∃ (p15 : Option Addr),
 ∃ (n16 : Nat),
 ∃ (c17 : Nat),
 w'13.cell? (Addr.mk b1 5 none) = some (Value.slice p15 n16 c17) ∧
 (n12 < (↑n16 : Int) →
 ∃ (p19 : Option Addr),
 ∃ (n20 : Nat),
 ∃ (c21 : Nat),
 w'13.cell? (Addr.mk b1 5 none) = some (Value.slice p19 n20 c21) ∧
 ∃ (b22 : Nat),
 ∃ (o23 : Nat),
 p19 = some (Addr.mk b22 o23 none) ∧
 0 ≤ n12 ∧
 n12 < (↑n20 : Int) ∧
 ∃ (n24 : Int),
 w'13.cell? (Addr.mk b22 (o23 + n12.toNat * 6) none) = some (Value.int IntKind.i64 n24) ∧
 ∃ (s25 : ByteArray),
 w'13.cell? (Addr.mk b22 (o23 + n12.toNat * 6 + 1) none) = some (Value.string s25) ∧
 ∃ (n26 : Int),
 w'13.cell? (Addr.mk b22 (o23 + n12.toNat * 6 + 2) none) = some (Value.int IntKind.i64 n26) ∧
 ∃ (n27 : Int),
 w'13.cell? (Addr.mk b22 (o23 + n12.toNat * 6 + 3) none) = some (Value.int IntKind.i64 n27) ∧
 ∃ (s28 : ByteArray),
 w'13.cell? (Addr.mk b22 (o23 + n12.toNat * 6 + 4) none) = some (Value.string s28) ∧
 ∃ (p29 : Option Addr),
 ∃ (n30 : Nat),
 ∃ (c31 : Nat),
 w'13.cell? (Addr.mk b22 (o23 + n12.toNat * 6 + 5) none) = some (Value.slice p29 n30 c31) ∧
 Calls Tryd.prog 41
 #[Value.slice cols_p cols_n cols_c, Value.slice row_p row_n row_c,
 Value.agg #[Value.int IntKind.i64 n24, Value.string s25, Value.int IntKind.i64 n26, Value.int IntKind.i64 n27, Value.string s28, Value.slice p29 n30 c31]]
 w'13 fun (e32 : Ending) (w33 : World) ↦
 ∃ (n34 : Int),
 ∃ (n35 : Int),
 ∃ (s36 : ByteArray),
 ∃ (n37 : Int),
 e32 = Ending.returned (Value.tuple #[Value.agg #[Value.int IntKind.i64 n34, Value.int IntKind.i64 n35, Value.string s36], Value.int IntKind.i64 n37]) ∧
 ∀ (b38 : Nat) (w'39 : World),
 New w33 (Obj.cells #[Value.int IntKind.i64 0, Value.int IntKind.i64 0, Value.string (ByteArray.mk #[])] 26) b38 w'39 →
 (∃ (u41 : Value), w'39.cell? (Addr.mk b38 0 none) = some u41) ∧
 w'39.frozen? (Addr.mk b38 0 none) = false ∧
 (∃ (u42 : Value), w'39.cell? (Addr.mk b38 1 none) = some u42) ∧
 w'39.frozen? (Addr.mk b38 1 none) = false ∧
 (∃ (u43 : Value), w'39.cell? (Addr.mk b38 2 none) = some u43) ∧
 w'39.frozen? (Addr.mk b38 2 none) = false ∧
 ∀ (w'44 : World),
 Put w'39 b38 0 [Value.int IntKind.i64 n34, Value.int IntKind.i64 n35, Value.string s36] w'44 →
 (n37 ≠ 0 →
 (∃ (u47 : Value), w'44.cell? (Addr.mk b4 0 none) = some u47) ∧
 w'44.frozen? (Addr.mk b4 0 none) = false ∧
 (∃ (u48 : Value), w'44.cell? (Addr.mk b4 1 none) = some u48) ∧
 w'44.frozen? (Addr.mk b4 1 none) = false ∧
 (∃ (u49 : Value), w'44.cell? (Addr.mk b4 2 none) = some u49) ∧
 w'44.frozen? (Addr.mk b4 2 none) = false ∧
 ∀ (w'50 : World),
 Put w'44 b4 0 [Value.int IntKind.i64 0, Value.int IntKind.i64 0, Value.string (ByteArray.mk #[])] w'50 →
 ∃ (n52 : Int),
 w'50.cell? (Addr.mk b4 0 none) = some (Value.int IntKind.i64 n52) ∧
 ∃ (n53 : Int),
 w'50.cell? (Addr.mk b4 1 none) = some (Value.int IntKind.i64 n53) ∧
 ∃ (s54 : ByteArray),
 w'50.cell? (Addr.mk b4 2 none) = some (Value.string s54) ∧
 R (Ending.returned (Value.tuple #[Value.agg #[Value.int IntKind.i64 n52, Value.int IntKind.i64 n53, Value.string s54], Value.int IntKind.i64 n37])) w'50) ∧
 (n37 = 0 →
 ∃ (n56 : Int),
 w'44.cell? (Addr.mk b38 0 none) = some (Value.int IntKind.i64 n56) ∧
 ∃ (n57 : Int),
 w'44.cell? (Addr.mk b38 1 none) = some (Value.int IntKind.i64 n57) ∧
 ∃ (s58 : ByteArray),
 w'44.cell? (Addr.mk b38 2 none) = some (Value.string s58) ∧
 ∀ (b59 : Nat) (w'60 : World),
 New w'44 (Obj.cells #[Value.int IntKind.i64 n56, Value.int IntKind.i64 n57, Value.string s58] 26) b59 w'60 →
 ∃ (p62 : Option Addr),
 ∃ (n63 : Nat),
 ∃ (c64 : Nat),
 ∃ (w'65 : World),
 Sem.run Tryd.prog (Builtin.append_ #[23, 23] 23 #[Value.slice p9 n10 c11, Value.slice (some (Addr.mk b59 0 none)) 1 1]) w'60 = Result.ok (Value.slice p62 n63 c64) w'65 ∧
 I7 p62 n63 c64 (IntKind.i64.wrap (n12 + 1)) w'65 ∧ M8 p62 n63 c64 (IntKind.i64.wrap (n12 + 1)) w'65 < M8 p9 n10 c11 n12 w'13)) ∧
 ((↑n16 : Int) ≤ n12 →
 ∃ (n67 : Int),
 w'13.cell? (Addr.mk b1 0 none) = some (Value.int IntKind.i64 n67) ∧
 (n67 = 1 →
 ∃ (s69 : ByteArray),
 w'13.cell? (Addr.mk b1 1 none) = some (Value.string s69) ∧
 Calls Tryd.prog 15 #[Value.slice cols_p cols_n cols_c, Value.string s69] w'13 fun (e70 : Ending) (w71 : World) ↦
 ∃ (n72 : Int),
 e70 = Ending.returned (Value.int IntKind.i64 n72) ∧
 ∃ (b73 : Nat),
 ∃ (o74 : Nat),
 row_p = some (Addr.mk b73 o74 none) ∧
 0 ≤ n72 ∧
 n72 < (↑row_n : Int) ∧
 ∃ (n75 : Int),
 w71.cell? (Addr.mk b73 (o74 + n72.toNat * 3) none) = some (Value.int IntKind.i64 n75) ∧
 ∃ (n76 : Int),
 w71.cell? (Addr.mk b73 (o74 + n72.toNat * 3 + 1) none) = some (Value.int IntKind.i64 n76) ∧
 ∃ (s77 : ByteArray),
 w71.cell? (Addr.mk b73 (o74 + n72.toNat * 3 + 2) none) = some (Value.string s77) ∧
 (∃ (u78 : Value), w71.cell? (Addr.mk b4 0 none) = some u78) ∧
 w71.frozen? (Addr.mk b4 0 none) = false ∧
 (∃ (u79 : Value), w71.cell? (Addr.mk b4 1 none) = some u79) ∧
 w71.frozen? (Addr.mk b4 1 none) = false ∧
 (∃ (u80 : Value), w71.cell? (Addr.mk b4 2 none) = some u80) ∧
 w71.frozen? (Addr.mk b4 2 none) = false ∧
 ∀ (w'81 : World),
 Put w71 b4 0 [Value.int IntKind.i64 n75, Value.int IntKind.i64 n76, Value.string s77] w'81 →
 ∃ (n83 : Int),
 w'81.cell? (Addr.mk b4 0 none) = some (Value.int IntKind.i64 n83) ∧
 ∃ (n84 : Int),
 w'81.cell? (Addr.mk b4 1 none) = some (Value.int IntKind.i64 n84) ∧
 ∃ (s85 : ByteArray),
 w'81.cell? (Addr.mk b4 2 none) = some (Value.string s85) ∧
 R (Ending.returned (Value.tuple #[Value.agg #[Value.int IntKind.i64 n83, Value.int IntKind.i64 n84, Value.string s85], Value.int IntKind.i64 0])) w'81) ∧
 (n67 ≠ 1 →
 ∃ (n87 : Int),
 w'13.cell? (Addr.mk b1 0 none) = some (Value.int IntKind.i64 n87) ∧
 (n87 = 2 →
 ∃ (n89 : Int),
 w'13.cell? (Addr.mk b1 2 none) = some (Value.int IntKind.i64 n89) ∧
 ∃ (n90 : Int),
 w'13.cell? (Addr.mk b1 3 none) = some (Value.int IntKind.i64 n90) ∧
 ∃ (s91 : ByteArray),
 w'13.cell? (Addr.mk b1 4 none) = some (Value.string s91) ∧
 (∃ (u92 : Value), w'13.cell? (Addr.mk b4 0 none) = some u92) ∧
 w'13.frozen? (Addr.mk b4 0 none) = false ∧
 (∃ (u93 : Value), w'13.cell? (Addr.mk b4 1 none) = some u93) ∧
 w'13.frozen? (Addr.mk b4 1 none) = false ∧
 (∃ (u94 : Value), w'13.cell? (Addr.mk b4 2 none) = some u94) ∧
 w'13.frozen? (Addr.mk b4 2 none) = false ∧
 ∀ (w'95 : World),
 Put w'13 b4 0 [Value.int IntKind.i64 n89, Value.int IntKind.i64 n90, Value.string s91] w'95 →
 ∃ (n97 : Int),
 w'95.cell? (Addr.mk b4 0 none) = some (Value.int IntKind.i64 n97) ∧
 ∃ (n98 : Int),
 w'95.cell? (Addr.mk b4 1 none) = some (Value.int IntKind.i64 n98) ∧
 ∃ (s99 : ByteArray),
 w'95.cell? (Addr.mk b4 2 none) = some (Value.string s99) ∧
 R (Ending.returned (Value.tuple #[Value.agg #[Value.int IntKind.i64 n97, Value.int IntKind.i64 n98, Value.string s99], Value.int IntKind.i64 0])) w'95) ∧
 (n87 ≠ 2 →
 ((↑n10 : Int) = 2 →
 ∀ (w'102 : World),
 Drew w'13 w'102 →
 ∃ (n104 : Int),
 w'102.cell? (Addr.mk b1 0 none) = some (Value.int IntKind.i64 n104) ∧
 ∃ (b105 : Nat),
 ∃ (o106 : Nat),
 p9 = some (Addr.mk b105 o106 none) ∧
 (0 : Int) ≤ 0 ∧
 0 < (↑n10 : Int) ∧
 ∃ (n107 : Int),
 w'102.cell? (Addr.mk b105 (o106 + 0) none) = some (Value.int IntKind.i64 n107) ∧
 ∃ (n108 : Int),
 w'102.cell? (Addr.mk b105 (o106 + 0 + 1) none) = some (Value.int IntKind.i64 n108) ∧
 ∃ (s109 : ByteArray),
 w'102.cell? (Addr.mk b105 (o106 + 0 + 2) none) = some (Value.string s109) ∧
 ∃ (b110 : Nat),
 ∃ (o111 : Nat),
 p9 = some (Addr.mk b110 o111 none) ∧
 (0 : Int) ≤ 1 ∧
 1 < (↑n10 : Int) ∧
 ∃ (n112 : Int),
 w'102.cell? (Addr.mk b110 (o111 + 3) none) = some (Value.int IntKind.i64 n112) ∧
 ∃ (n113 : Int),
 w'102.cell? (Addr.mk b110 (o111 + 3 + 1) none) = some (Value.int IntKind.i64 n113) ∧
 ∃ (s114 : ByteArray),
 w'102.cell? (Addr.mk b110 (o111 + 3 + 2) none) = some (Value.string s114) ∧
 Calls Tryd.prog 56
 #[Value.int IntKind.i64 n104, Value.agg #[Value.int IntKind.i64 n107, Value.int IntKind.i64 n108, Value.string s109],
 Value.agg #[Value.int IntKind.i64 n112, Value.int IntKind.i64 n113, Value.string s114]]
 w'102 fun (e115 : Ending) (w116 : World) ↦
 ∃ (n117 : Int),
 ∃ (n118 : Int),
 ∃ (s119 : ByteArray),
 ∃ (n120 : Int),
 e115 = Ending.returned (Value.tuple #[Value.agg #[Value.int IntKind.i64 n117, Value.int IntKind.i64 n118, Value.string s119], Value.int IntKind.i64 n120]) ∧
 (∃ (u121 : Value), w116.cell? (Addr.mk b4 0 none) = some u121) ∧
 w116.frozen? (Addr.mk b4 0 none) = false ∧
 (∃ (u122 : Value), w116.cell? (Addr.mk b4 1 none) = some u122) ∧
 w116.frozen? (Addr.mk b4 1 none) = false ∧
 (∃ (u123 : Value), w116.cell? (Addr.mk b4 2 none) = some u123) ∧
 w116.frozen? (Addr.mk b4 2 none) = false ∧
 ∀ (w'124 : World),
 Put w116 b4 0 [Value.int IntKind.i64 n117, Value.int IntKind.i64 n118, Value.string s119] w'124 →
 ∃ (n126 : Int),
 w'124.cell? (Addr.mk b4 0 none) = some (Value.int IntKind.i64 n126) ∧
 ∃ (n127 : Int),
 w'124.cell? (Addr.mk b4 1 none) = some (Value.int IntKind.i64 n127) ∧
 ∃ (s128 : ByteArray),
 w'124.cell? (Addr.mk b4 2 none) = some (Value.string s128) ∧
 R (Ending.returned (Value.tuple #[Value.agg #[Value.int IntKind.i64 n126, Value.int IntKind.i64 n127, Value.string s128], Value.int IntKind.i64 n120])) w'124) ∧
 ((↑n10 : Int) ≠ 2 →
 ∃ (n130 : Int),
 w'13.cell? (Addr.mk b1 0 none) = some (Value.int IntKind.i64 n130) ∧
 (n130 = 15 →
 ∃ (b132 : Nat),
 ∃ (o133 : Nat),
 p9 = some (Addr.mk b132 o133 none) ∧
 (0 : Int) ≤ 0 ∧
 0 < (↑n10 : Int) ∧
 ∃ (n134 : Int),
 w'13.cell? (Addr.mk b132 (o133 + 0) none) = some (Value.int IntKind.i64 n134) ∧
 Calls Tryd.prog 57 #[Value.bool (decide (n134 = 0))] w'13 fun (e135 : Ending) (w136 : World) ↦
 ∃ (n137 : Int),
 ∃ (n138 : Int),
 ∃ (s139 : ByteArray),
 e135 = Ending.returned (Value.agg #[Value.int IntKind.i64 n137, Value.int IntKind.i64 n138, Value.string s139]) ∧
 (∃ (u140 : Value), w136.cell? (Addr.mk b4 0 none) = some u140) ∧
 w136.frozen? (Addr.mk b4 0 none) = false ∧
 (∃ (u141 : Value), w136.cell? (Addr.mk b4 1 none) = some u141) ∧
 w136.frozen? (Addr.mk b4 1 none) = false ∧
 (∃ (u142 : Value), w136.cell? (Addr.mk b4 2 none) = some u142) ∧
 w136.frozen? (Addr.mk b4 2 none) = false ∧
 ∀ (w'143 : World),
 Put w136 b4 0 [Value.int IntKind.i64 n137, Value.int IntKind.i64 n138, Value.string s139] w'143 →
 ∃ (n145 : Int),
 w'143.cell? (Addr.mk b4 0 none) = some (Value.int IntKind.i64 n145) ∧
 ∃ (n146 : Int),
 w'143.cell? (Addr.mk b4 1 none) = some (Value.int IntKind.i64 n146) ∧
 ∃ (s147 : ByteArray),
 w'143.cell? (Addr.mk b4 2 none) = some (Value.string s147) ∧
 R (Ending.returned (Value.tuple #[Value.agg #[Value.int IntKind.i64 n145, Value.int IntKind.i64 n146, Value.string s147], Value.int IntKind.i64 0])) w'143) ∧
 (n130 ≠ 15 →
 ∃ (b149 : Nat),
 ∃ (o150 : Nat),
 p9 = some (Addr.mk b149 o150 none) ∧
 (0 : Int) ≤ 0 ∧
 0 < (↑n10 : Int) ∧
 ∃ (n151 : Int),
 w'13.cell? (Addr.mk b149 (o150 + 0) none) = some (Value.int IntKind.i64 n151) ∧
 (n151 = 0 →
 (∃ (u153 : Value), w'13.cell? (Addr.mk b4 0 none) = some u153) ∧
 w'13.frozen? (Addr.mk b4 0 none) = false ∧
 (∃ (u154 : Value), w'13.cell? (Addr.mk b4 1 none) = some u154) ∧
 w'13.frozen? (Addr.mk b4 1 none) = false ∧
 (∃ (u155 : Value), w'13.cell? (Addr.mk b4 2 none) = some u155) ∧
 w'13.frozen? (Addr.mk b4 2 none) = false ∧
 ∀ (w'156 : World),
 Put w'13 b4 0 [Value.int IntKind.i64 0, Value.int IntKind.i64 0, Value.string (ByteArray.mk #[])] w'156 →
 ∃ (n158 : Int),
 w'156.cell? (Addr.mk b4 0 none) = some (Value.int IntKind.i64 n158) ∧
 ∃ (n159 : Int),
 w'156.cell? (Addr.mk b4 1 none) = some (Value.int IntKind.i64 n159) ∧
 ∃ (s160 : ByteArray),
 w'156.cell? (Addr.mk b4 2 none) = some (Value.string s160) ∧
 R (Ending.returned (Value.tuple #[Value.agg #[Value.int IntKind.i64 n158, Value.int IntKind.i64 n159, Value.string s160], Value.int IntKind.i64 0])) w'156) ∧
 (n151 ≠ 0 →
 ∃ (n162 : Int),
 w'13.cell? (Addr.mk b1 0 none) = some (Value.int IntKind.i64 n162) ∧
 (n162 = 14 →
 ∃ (b164 : Nat),
 ∃ (o165 : Nat),
 p9 = some (Addr.mk b164 o165 none) ∧
 (0 : Int) ≤ 0 ∧
 0 < (↑n10 : Int) ∧
 ∃ (n166 : Int),
 w'13.cell? (Addr.mk b164 (o165 + 0 + 1) none) = some (Value.int IntKind.i64 n166) ∧
 Calls Tryd.prog 57 #[Value.bool (decide (n166 = 0))] w'13 fun (e167 : Ending) (w168 : World) ↦
 ∃ (n169 : Int),
 ∃ (n170 : Int),
 ∃ (s171 : ByteArray),
 e167 = Ending.returned (Value.agg #[Value.int IntKind.i64 n169, Value.int IntKind.i64 n170, Value.string s171]) ∧
 (∃ (u172 : Value), w168.cell? (Addr.mk b4 0 none) = some u172) ∧
 w168.frozen? (Addr.mk b4 0 none) = false ∧
 (∃ (u173 : Value), w168.cell? (Addr.mk b4 1 none) = some u173) ∧
 w168.frozen? (Addr.mk b4 1 none) = false ∧
 (∃ (u174 : Value), w168.cell? (Addr.mk b4 2 none) = some u174) ∧
 w168.frozen? (Addr.mk b4 2 none) = false ∧
 ∀ (w'175 : World),
 Put w168 b4 0 [Value.int IntKind.i64 n169, Value.int IntKind.i64 n170, Value.string s171] w'175 →
 ∃ (n177 : Int),
 w'175.cell? (Addr.mk b4 0 none) = some (Value.int IntKind.i64 n177) ∧
 ∃ (n178 : Int),
 w'175.cell? (Addr.mk b4 1 none) = some (Value.int IntKind.i64 n178) ∧
 ∃ (s179 : ByteArray),
 w'175.cell? (Addr.mk b4 2 none) = some (Value.string s179) ∧
 R (Ending.returned (Value.tuple #[Value.agg #[Value.int IntKind.i64 n177, Value.int IntKind.i64 n178, Value.string s179], Value.int IntKind.i64 0])) w'175) ∧
 (n162 ≠ 14 →
 ∃ (n181 : Int),
 w'13.cell? (Addr.mk b1 0 none) = some (Value.int IntKind.i64 n181) ∧
 (n181 = 16 →
 ∃ (b183 : Nat),
 ∃ (o184 : Nat),
 p9 = some (Addr.mk b183 o184 none) ∧
 (0 : Int) ≤ 0 ∧
 0 < (↑n10 : Int) ∧
 ∃ (s185 : ByteArray),
 w'13.cell? (Addr.mk b183 (o184 + 0 + 2) none) = some (Value.string s185) ∧
 Calls Tryd.prog 58 #[Value.int IntKind.i64 (↑s185.size : Int)] w'13 fun (e186 : Ending) (w187 : World) ↦
 ∃ (n188 : Int),
 ∃ (n189 : Int),
 ∃ (s190 : ByteArray),
 e186 = Ending.returned (Value.agg #[Value.int IntKind.i64 n188, Value.int IntKind.i64 n189, Value.string s190]) ∧
 (∃ (u191 : Value), w187.cell? (Addr.mk b4 0 none) = some u191) ∧
 w187.frozen? (Addr.mk b4 0 none) = false ∧
 (∃ (u192 : Value), w187.cell? (Addr.mk b4 1 none) = some u192) ∧
 w187.frozen? (Addr.mk b4 1 none) = false ∧
 (∃ (u193 : Value), w187.cell? (Addr.mk b4 2 none) = some u193) ∧
 w187.frozen? (Addr.mk b4 2 none) = false ∧
 ∀ (w'194 : World),
 Put w187 b4 0 [Value.int IntKind.i64 n188, Value.int IntKind.i64 n189, Value.string s190] w'194 →
 ∃ (n196 : Int),
 w'194.cell? (Addr.mk b4 0 none) = some (Value.int IntKind.i64 n196) ∧
 ∃ (n197 : Int),
 w'194.cell? (Addr.mk b4 1 none) = some (Value.int IntKind.i64 n197) ∧
 ∃ (s198 : ByteArray),
 w'194.cell? (Addr.mk b4 2 none) = some (Value.string s198) ∧
 R (Ending.returned (Value.tuple #[Value.agg #[Value.int IntKind.i64 n196, Value.int IntKind.i64 n197, Value.string s198], Value.int IntKind.i64 0])) w'194) ∧
 (n181 ≠ 16 →
 ∃ (b200 : Nat),
 ∃ (o201 : Nat),
 p9 = some (Addr.mk b200 o201 none) ∧
 (0 : Int) ≤ 0 ∧
 0 < (↑n10 : Int) ∧
 ∃ (n202 : Int),
 w'13.cell? (Addr.mk b200 (o201 + 0 + 1) none) = some (Value.int IntKind.i64 n202) ∧
 Calls Tryd.prog 59 #[Value.int IntKind.i64 4, Value.int IntKind.i64 0, Value.int IntKind.i64 n202] w'13 fun (e203 : Ending) (w204 : World) ↦
 ∃ (n205 : Int),
 ∃ (n206 : Int),
 e203 = Ending.returned (Value.tuple #[Value.int IntKind.i64 n205, Value.int IntKind.i64 n206]) ∧
 (n206 ≠ 0 →
 (∃ (u208 : Value), w204.cell? (Addr.mk b4 0 none) = some u208) ∧
 w204.frozen? (Addr.mk b4 0 none) = false ∧
 (∃ (u209 : Value), w204.cell? (Addr.mk b4 1 none) = some u209) ∧
 w204.frozen? (Addr.mk b4 1 none) = false ∧
 (∃ (u210 : Value), w204.cell? (Addr.mk b4 2 none) = some u210) ∧
 w204.frozen? (Addr.mk b4 2 none) = false ∧
 ∀ (w'211 : World),
 Put w204 b4 0 [Value.int IntKind.i64 0, Value.int IntKind.i64 0, Value.string (ByteArray.mk #[])] w'211 →
 ∃ (n213 : Int),
 w'211.cell? (Addr.mk b4 0 none) = some (Value.int IntKind.i64 n213) ∧
 ∃ (n214 : Int),
 w'211.cell? (Addr.mk b4 1 none) = some (Value.int IntKind.i64 n214) ∧
 ∃ (s215 : ByteArray),
 w'211.cell? (Addr.mk b4 2 none) = some (Value.string s215) ∧
 R (Ending.returned (Value.tuple #[Value.agg #[Value.int IntKind.i64 n213, Value.int IntKind.i64 n214, Value.string s215], Value.int IntKind.i64 n206])) w'211) ∧
 (n206 = 0 →
 Calls Tryd.prog 58 #[Value.int IntKind.i64 n205] w204 fun (e217 : Ending) (w218 : World) ↦
 ∃ (n219 : Int),
 ∃ (n220 : Int),
 ∃ (s221 : ByteArray),
 e217 = Ending.returned (Value.agg #[Value.int IntKind.i64 n219, Value.int IntKind.i64 n220, Value.string s221]) ∧
 (∃ (u222 : Value), w218.cell? (Addr.mk b4 0 none) = some u222) ∧
 w218.frozen? (Addr.mk b4 0 none) = false ∧
 (∃ (u223 : Value), w218.cell? (Addr.mk b4 1 none) = some u223) ∧
 w218.frozen? (Addr.mk b4 1 none) = false ∧
 (∃ (u224 : Value), w218.cell? (Addr.mk b4 2 none) = some u224) ∧
 w218.frozen? (Addr.mk b4 2 none) = false ∧
 ∀ (w'225 : World),
 Put w218 b4 0 [Value.int IntKind.i64 n219, Value.int IntKind.i64 n220, Value.string s221] w'225 →
 ∃ (n227 : Int),
 w'225.cell? (Addr.mk b4 0 none) = some (Value.int IntKind.i64 n227) ∧
 ∃ (n228 : Int),
 w'225.cell? (Addr.mk b4 1 none) = some (Value.int IntKind.i64 n228) ∧
 ∃ (s229 : ByteArray),
 w'225.cell? (Addr.mk b4 2 none) = some (Value.string s229) ∧
 R (Ending.returned (Value.tuple #[Value.agg #[Value.int IntKind.i64 n227, Value.int IntKind.i64 n228, Value.string s229], Value.int IntKind.i64 0])) w'225)))))))))

set_option maxRecDepth 100000 in
theorem rvalue_eq (cols_p : Option Addr) (cols_n : Nat) (cols_c : Nat) (row_p : Option Addr) (row_n : Nat) (row_c : Nat) (x0 : Int) (x1 : ByteArray) (x2 : Int) (x3 : Int) (x4 : ByteArray) (x5_p : Option Addr) (x5_n : Nat) (x5_c : Nat) (w : World) (R : Ending → World → Prop) : rvalue_T cols_p cols_n cols_c row_p row_n row_c x0 x1 x2 x3 x4 x5_p x5_n x5_c w R = vcFn Tryd.prog [] [(14, [2, 4, 6, 8, 10, 12, 14, 16, 18, 20, 22, 24, 26, 0])] Tryd.f41 [Value.slice cols_p cols_n cols_c, Value.slice row_p row_n row_c, Value.agg
 #[Value.int IntKind.i64 x0, Value.string x1, Value.int IntKind.i64 x2, Value.int IntKind.i64 x3, Value.string x4,
 Value.slice x5_p x5_n x5_c]] w R := by kernel_rfl

set_option maxRecDepth 100000 in
theorem rvalue_vc (cols_p : Option Addr) (cols_n : Nat) (cols_c : Nat) (row_p : Option Addr) (row_n : Nat) (row_c : Nat) (x0 : Int) (x1 : ByteArray) (x2 : Int) (x3 : Int) (x4 : ByteArray) (x5_p : Option Addr) (x5_n : Nat) (x5_c : Nat) (w : World) (R : Ending → World → Prop) (h : rvalue_T cols_p cols_n cols_c row_p row_n row_c x0 x1 x2 x3 x4 x5_p x5_n x5_c w R) : Calls Tryd.prog 41 #[Value.slice cols_p cols_n cols_c, Value.slice row_p row_n row_c, Value.agg
 #[Value.int IntKind.i64 x0, Value.string x1, Value.int IntKind.i64 x2, Value.int IntKind.i64 x3, Value.string x4,
 Value.slice x5_p x5_n x5_c]] w R :=
  calls_of_vc (args := [Value.slice cols_p cols_n cols_c, Value.slice row_p row_n row_c, Value.agg
 #[Value.int IntKind.i64 x0, Value.string x1, Value.int IntKind.i64 x2, Value.int IntKind.i64 x3, Value.string x4,
 Value.slice x5_p x5_n x5_c]]) [] [(14, [2, 4, 6, 8, 10, 12, 14, 16, 18, 20, 22, 24, 26, 0])] Tryd.mixed Tryd.func41 (cast (rvalue_eq _ _ _ _ _ _ _ _ _ _ _ _ _ _ w R) h)

set_option maxRecDepth 100000 in
def reval_T (cols_p : Option Addr) (cols_n : Nat) (cols_c : Nat) (row_p : Option Addr) (row_n : Nat) (row_c : Nat) (x0 : Int) (x1 : ByteArray) (x2 : Int) (x3 : Int) (x4 : ByteArray) (x5_p : Option Addr) (x5_n : Nat) (x5_c : Nat) (w : World) (R : Ending → World → Prop) : Prop :=
  ∀ (b1 : Nat) (w'2 : World),
 New w (Obj.cells #[Value.int IntKind.i64 x0, Value.string x1, Value.int IntKind.i64 x2, Value.int IntKind.i64 x3, Value.string x4, Value.slice x5_p x5_n x5_c] 29) b1
 w'2 →
 ∀ (b4 : Nat) (w'5 : World),
 New w'2 (Obj.cells #[Value.int IntKind.i64 0, Value.int IntKind.i64 0, Value.string (ByteArray.mk #[])] 26) b4 w'5 →
 ∃ (n7 : Int),
 w'5.cell? (Addr.mk b1 0 none) = some (Value.int IntKind.i64 n7) ∧
 ∃ (s8 : ByteArray),
 w'5.cell? (Addr.mk b1 1 none) = some (Value.string s8) ∧
 ∃ (n9 : Int),
 w'5.cell? (Addr.mk b1 2 none) = some (Value.int IntKind.i64 n9) ∧
 ∃ (n10 : Int),
 w'5.cell? (Addr.mk b1 3 none) = some (Value.int IntKind.i64 n10) ∧
 ∃ (s11 : ByteArray),
 w'5.cell? (Addr.mk b1 4 none) = some (Value.string s11) ∧
 ∃ (p12 : Option Addr),
 ∃ (n13 : Nat),
 ∃ (c14 : Nat),
 w'5.cell? (Addr.mk b1 5 none) = some (Value.slice p12 n13 c14) ∧
 Calls Tryd.prog 21
 #[Value.slice cols_p cols_n cols_c,
 Value.agg #[Value.int IntKind.i64 n7, Value.string s8, Value.int IntKind.i64 n9, Value.int IntKind.i64 n10, Value.string s11, Value.slice p12 n13 c14]]
 w'5 fun (e15 : Ending) (w16 : World) ↦
 ∃ (n17 : Int),
 ∃ (n18 : Int),
 e15 = Ending.returned (Value.tuple #[Value.int IntKind.i64 n17, Value.int IntKind.i64 n18]) ∧
 (n18 ≠ 0 →
 (∃ (u20 : Value), w16.cell? (Addr.mk b4 0 none) = some u20) ∧
 w16.frozen? (Addr.mk b4 0 none) = false ∧
 (∃ (u21 : Value), w16.cell? (Addr.mk b4 1 none) = some u21) ∧
 w16.frozen? (Addr.mk b4 1 none) = false ∧
 (∃ (u22 : Value), w16.cell? (Addr.mk b4 2 none) = some u22) ∧
 w16.frozen? (Addr.mk b4 2 none) = false ∧
 ∀ (w'23 : World),
 Put w16 b4 0 [Value.int IntKind.i64 0, Value.int IntKind.i64 0, Value.string (ByteArray.mk #[])] w'23 →
 ∃ (n25 : Int),
 w'23.cell? (Addr.mk b4 0 none) = some (Value.int IntKind.i64 n25) ∧
 ∃ (n26 : Int),
 w'23.cell? (Addr.mk b4 1 none) = some (Value.int IntKind.i64 n26) ∧
 ∃ (s27 : ByteArray),
 w'23.cell? (Addr.mk b4 2 none) = some (Value.string s27) ∧
 R (Ending.returned (Value.tuple #[Value.agg #[Value.int IntKind.i64 n25, Value.int IntKind.i64 n26, Value.string s27], Value.int IntKind.i64 n18])) w'23) ∧
 (n18 = 0 →
 Calls Tryd.prog 13 #[Value.slice cols_p cols_n cols_c, Value.slice row_p row_n row_c] w16 fun (e29 : Ending) (w30 : World) ↦
 ∃ (b31 : Bool),
 e29 = Ending.returned (Value.bool b31) ∧
 (b31 = false →
 (∃ (u33 : Value), w30.cell? (Addr.mk b4 0 none) = some u33) ∧
 w30.frozen? (Addr.mk b4 0 none) = false ∧
 (∃ (u34 : Value), w30.cell? (Addr.mk b4 1 none) = some u34) ∧
 w30.frozen? (Addr.mk b4 1 none) = false ∧
 (∃ (u35 : Value), w30.cell? (Addr.mk b4 2 none) = some u35) ∧
 w30.frozen? (Addr.mk b4 2 none) = false ∧
 ∀ (w'36 : World),
 Put w30 b4 0 [Value.int IntKind.i64 0, Value.int IntKind.i64 0, Value.string (ByteArray.mk #[])] w'36 →
 ∃ (n38 : Int),
 w'36.cell? (Addr.mk b4 0 none) = some (Value.int IntKind.i64 n38) ∧
 ∃ (n39 : Int),
 w'36.cell? (Addr.mk b4 1 none) = some (Value.int IntKind.i64 n39) ∧
 ∃ (s40 : ByteArray),
 w'36.cell? (Addr.mk b4 2 none) = some (Value.string s40) ∧
 R (Ending.returned (Value.tuple #[Value.agg #[Value.int IntKind.i64 n38, Value.int IntKind.i64 n39, Value.string s40], Value.int IntKind.i64 2])) w'36) ∧
 (b31 = true →
 ∃ (n42 : Int),
 w30.cell? (Addr.mk b1 0 none) = some (Value.int IntKind.i64 n42) ∧
 ∃ (s43 : ByteArray),
 w30.cell? (Addr.mk b1 1 none) = some (Value.string s43) ∧
 ∃ (n44 : Int),
 w30.cell? (Addr.mk b1 2 none) = some (Value.int IntKind.i64 n44) ∧
 ∃ (n45 : Int),
 w30.cell? (Addr.mk b1 3 none) = some (Value.int IntKind.i64 n45) ∧
 ∃ (s46 : ByteArray),
 w30.cell? (Addr.mk b1 4 none) = some (Value.string s46) ∧
 ∃ (p47 : Option Addr),
 ∃ (n48 : Nat),
 ∃ (c49 : Nat),
 w30.cell? (Addr.mk b1 5 none) = some (Value.slice p47 n48 c49) ∧
 Calls Tryd.prog 41
 #[Value.slice cols_p cols_n cols_c, Value.slice row_p row_n row_c,
 Value.agg #[Value.int IntKind.i64 n42, Value.string s43, Value.int IntKind.i64 n44, Value.int IntKind.i64 n45, Value.string s46, Value.slice p47 n48 c49]]
 w30 fun (e50 : Ending) (w51 : World) ↦
 ∃ (n52 : Int),
 ∃ (n53 : Int),
 ∃ (s54 : ByteArray),
 ∃ (n55 : Int),
 e50 = Ending.returned (Value.tuple #[Value.agg #[Value.int IntKind.i64 n52, Value.int IntKind.i64 n53, Value.string s54], Value.int IntKind.i64 n55]) ∧
 (∃ (u56 : Value), w51.cell? (Addr.mk b4 0 none) = some u56) ∧
 w51.frozen? (Addr.mk b4 0 none) = false ∧
 (∃ (u57 : Value), w51.cell? (Addr.mk b4 1 none) = some u57) ∧
 w51.frozen? (Addr.mk b4 1 none) = false ∧
 (∃ (u58 : Value), w51.cell? (Addr.mk b4 2 none) = some u58) ∧
 w51.frozen? (Addr.mk b4 2 none) = false ∧
 ∀ (w'59 : World),
 Put w51 b4 0 [Value.int IntKind.i64 n52, Value.int IntKind.i64 n53, Value.string s54] w'59 →
 ∃ (n61 : Int),
 w'59.cell? (Addr.mk b4 0 none) = some (Value.int IntKind.i64 n61) ∧
 ∃ (n62 : Int),
 w'59.cell? (Addr.mk b4 1 none) = some (Value.int IntKind.i64 n62) ∧
 ∃ (s63 : ByteArray),
 w'59.cell? (Addr.mk b4 2 none) = some (Value.string s63) ∧
 R (Ending.returned (Value.tuple #[Value.agg #[Value.int IntKind.i64 n61, Value.int IntKind.i64 n62, Value.string s63], Value.int IntKind.i64 n55])) w'59))

set_option maxRecDepth 100000 in
theorem reval_eq (cols_p : Option Addr) (cols_n : Nat) (cols_c : Nat) (row_p : Option Addr) (row_n : Nat) (row_c : Nat) (x0 : Int) (x1 : ByteArray) (x2 : Int) (x3 : Int) (x4 : ByteArray) (x5_p : Option Addr) (x5_n : Nat) (x5_c : Nat) (w : World) (R : Ending → World → Prop) : reval_T cols_p cols_n cols_c row_p row_n row_c x0 x1 x2 x3 x4 x5_p x5_n x5_c w R = vcFn Tryd.prog [] [] Tryd.f22 [Value.slice cols_p cols_n cols_c, Value.slice row_p row_n row_c, Value.agg
 #[Value.int IntKind.i64 x0, Value.string x1, Value.int IntKind.i64 x2, Value.int IntKind.i64 x3, Value.string x4,
 Value.slice x5_p x5_n x5_c]] w R := by kernel_rfl

set_option maxRecDepth 100000 in
theorem reval_vc (cols_p : Option Addr) (cols_n : Nat) (cols_c : Nat) (row_p : Option Addr) (row_n : Nat) (row_c : Nat) (x0 : Int) (x1 : ByteArray) (x2 : Int) (x3 : Int) (x4 : ByteArray) (x5_p : Option Addr) (x5_n : Nat) (x5_c : Nat) (w : World) (R : Ending → World → Prop) (h : reval_T cols_p cols_n cols_c row_p row_n row_c x0 x1 x2 x3 x4 x5_p x5_n x5_c w R) : Calls Tryd.prog 22 #[Value.slice cols_p cols_n cols_c, Value.slice row_p row_n row_c, Value.agg
 #[Value.int IntKind.i64 x0, Value.string x1, Value.int IntKind.i64 x2, Value.int IntKind.i64 x3, Value.string x4,
 Value.slice x5_p x5_n x5_c]] w R :=
  calls_of_vc (args := [Value.slice cols_p cols_n cols_c, Value.slice row_p row_n row_c, Value.agg
 #[Value.int IntKind.i64 x0, Value.string x1, Value.int IntKind.i64 x2, Value.int IntKind.i64 x3, Value.string x4,
 Value.slice x5_p x5_n x5_c]]) [] [] Tryd.mixed Tryd.func22 (cast (reval_eq _ _ _ _ _ _ _ _ _ _ _ _ _ _ w R) h)


end Go.Proofs.YtdephmdfdgclpaaDoor
