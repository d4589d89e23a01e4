/- Texts of the proof, one behind the other. -/
import Derived.Test.YtckfedekpkgcdaaMa
import Derived.Lib.AppendStr
import Derived.Deep.DeepAppendWide
import Derived.Test.YtckfedekpkgcdaaProg
import Derived.SizedLaws
import Derived.Lib.Bytealg
set_option linter.unusedVariables false
set_option linter.unusedSimpArgs false
/- Soundness of the generator, part F: codes and functions. -/
namespace Go.Vc
open Go

section
variable {P : Program} {rd : Option Nat} {Q : Exit → Act → World → Prop}

/-! ### Tables of the environment -/
def inK : List (Nat × Option SV) → Nat → Bool
  | [], _ => false
  | p :: r, i => match Nat.beq p.1 i with | true => true | false => inK r i

theorem lkE_append (a b : List (Nat × Option SV)) (i : Nat) : lkE (a ++ b) i = if inK a i then lkE a i else lkE b i := by
  induction a with
  | nil => simp [inK]
  | cons p r ih =>
    obtain ⟨j, x⟩ := p
    cases hb : Nat.beq j i <;> simp [lkE, inK, hb, ih]

theorem inK_blank (ws : List (Nat × TypeId)) (i : Nat) : inK (blank ws) i = inW ws i := by
  induction ws with
  | nil => rfl
  | cons p r ih => simp only [blank, inK, inW]; split <;> simp_all

theorem lkE_blank (ws : List (Nat × TypeId)) (i : Nat) : lkE (blank ws) i = none := by
  induction ws with
  | nil => rfl
  | cons p r ih => simp only [blank, lkE]; split <;> simp_all

theorem cellsAs_ofCells {agg : Bool} {x : Value} {cs : List Value} (h : cellsAs agg x = some cs) : ∃ y, ofCells agg cs = some y ∧ y.den = x := by
  unfold cellsAs at h
  split at h
  · cases h; exact ⟨_, rfl, by simp [SV.den]⟩
  · cases h
  · cases h; exact ⟨_, rfl, rfl⟩

theorem setSlots_spec {N : Nat} {st' : St} {a : Act} (h : Agree N st' a) : ∀ {slots : List (Nat × Ty)} {vs : List Value}, slotVals st' slots = some vs →
    ∃ es, setSlots slots vs = some es ∧ (∀ i x, lkE es i = some x → a.tmps.getD i undef = x.den) ∧ (∀ i, inK es i = true → inS slots i = true) ∧ vs.length = (lsOf slots).length := by
  intro slots
  induction slots with
  | nil => intro vs hv; simp only [slotVals, Option.some.injEq] at hv; subst hv; exact ⟨[], rfl, fun i x hx => by simp [lkE] at hx, fun i hi => by simp [inK] at hi, rfl⟩
  | cons p r ih =>
    intro vs hv
    unfold slotVals at hv
    split at hv
    · rename_i x vs' hx hvs'
      split at hv
      · rename_i cs hcs
        split at hv
        · rename_i hlen
          cases hv
          have hl := nbeq.1 hlen
          obtain ⟨es, hes, he1, he2, he3⟩ := ih hvs'
          obtain ⟨y, hy, hyd⟩ := cellsAs_ofCells hcs
          have e1 : (cs ++ vs').take p.2.ls.length = cs := by rw [← hl]; simp
          have e2 : (cs ++ vs').drop p.2.ls.length = vs' := by rw [← hl]; simp
          refine ⟨(p.1, some y) :: es, by simp only [setSlots, e1, e2, hy, hes], ?_, ?_, by simp [lsOf, hl, he3]⟩
          · intro i z hz
            simp only [lkE] at hz
            split at hz
            · rename_i hb
              cases hz
              rw [hyd, ← nbeq.1 hb]
              exact h.e _ _ hx
            · exact he1 i z hz
          · intro i hi
            simp only [inK, inS] at hi ⊢
            split at hi
            · rename_i hb; rw [hb]
            · rename_i hb; rw [hb]; exact he2 i hi
        · cases hv
      · cases hv
    · cases hv

theorem carry_in {st : St} : ∀ {ws : List (Nat × TypeId)} {slots : List (Nat × Ty)}, carry P st ws = some slots → ∀ i, inS slots i = true → inW ws i = true := by
  intro ws
  induction ws with
  | nil => intro slots h i hi; simp only [carry, Option.some.injEq] at h; subst h; simp [inS] at hi
  | cons p r ih =>
    intro slots h i hi
    have up : ∀ acc, carry P st r = some acc → inS acc i = true → inW (p :: r) i = true := fun acc ha hs => by
      unfold inW; split
      · rfl
      · exact ih ha i hs
    unfold carry at h
    split at h
    · cases h
    · rename_i acc hacc
      split at h
      · cases h; exact up _ hacc hi
      · cases h; exact up _ hacc hi
      · split at h
        · cases h
          simp only [inS] at hi
          split at hi
          · rename_i hb; simp only [inW, hb]
          · exact up _ hacc hi
        · cases h

theorem named_in {nm : List Bool} : ∀ {ws : List (Nat × TypeId)} {slots : List (Nat × Ty)}, named P nm ws = some slots → ∀ i, inS slots i = true → inW ws i = true := by
  intro ws
  induction ws with
  | nil => intro slots h i hi; simp only [named, Option.some.injEq] at h; subst h; simp [inS] at hi
  | cons p r ih =>
    intro slots h i hi
    have up : ∀ acc, named P nm r = some acc → inS acc i = true → inW (p :: r) i = true := fun acc ha hs => by
      unfold inW; split
      · rfl
      · exact ih ha i hs
    unfold named at h
    split at h
    · cases h
    · rename_i acc hacc
      split at h
      · split at h
        · cases h
          simp only [inS] at hi
          split at hi
          · rename_i hb; simp only [inW, hb]
          · exact up _ hacc hi
        · cases h
      · cases h; exact up _ hacc hi

/-- What stays of the environment (but for the blocks for deferred calls). -/
def FrE (ws : List (Nat × TypeId)) (st st' : St) : Prop := ∀ i, inW ws i = false → lkE st'.e i = lkE st.e i

theorem FrE.refl (ws : List (Nat × TypeId)) (st : St) : FrE ws st st := fun _ _ => rfl
theorem FrE.trans {ws : List (Nat × TypeId)} {x y z : St} (h : FrE ws x y) (k : FrE ws y z) : FrE ws x z := fun i hi => (k i hi).trans (h i hi)
theorem FrE.mono {ws ws' : List (Nat × TypeId)} {x y : St} (h : FrE ws x y) (hs : ∀ i, inW ws' i = false → inW ws i = false) : FrE ws' x y := fun i hi => h i (hs i hi)

/-- The environment at a loop's head, or behind a cut. -/
theorem head_of_vals {N : Nat} {st st' : St} {a : Act} {ws : List (Nat × TypeId)} {slots : List (Nat × Ty)} {vs : List Value} (hin : ∀ i, inS slots i = true → inW ws i = true)
    (hf : FrE ws st st') (h : Agree N st' a) (hv : slotVals st' slots = some vs) :
    ∃ st1, headSt st ws slots vs = some st1 ∧ Agree N { st1 with ds := st'.ds } a ∧ st1.ge = [] ∧ FrE ws st st1 ∧ st1.ds = st.ds := by
  obtain ⟨es, hes, he1, he2, _⟩ := setSlots_spec h hv
  refine ⟨{ e := es ++ (blank ws ++ st.e), ge := [], ds := st.ds }, by simp only [headSt, hes], ⟨h.size, h.defers, ?_, fun i d hd => by simp [lkG] at hd, fun i d hd => by simp [lkG] at hd⟩, rfl, ?_, rfl⟩
  · intro i x hx
    simp only [lkE_append, inK_blank] at hx
    split at hx
    · exact he1 i x hx
    · split at hx
      · rw [lkE_blank] at hx; cases hx
      · rename_i hb
        have hi : inW ws i = false := by simpa using hb
        exact h.e i x ((hf i hi).trans hx)
  · intro i hi
    simp only [lkE_append, inK_blank, hi]
    have : inK es i = false := by
      cases hk : inK es i with
      | false => rfl
      | true => rw [hin i (he2 i hk)] at hi; cases hi
    simp [this]

theorem AllL_app {R : Type} : ∀ {ls : List Leaf} {F : List Value → Prop} {f : Tel R ls} {vs : List Value} {p : R}, AllL ls F → app ls f vs = some p → F vs := by
  intro ls
  induction ls with
  | nil =>
    intro F f vs p h ha
    cases vs with
    | nil => exact h
    | cons v r => simp [app] at ha
  | cons l r ih =>
    intro F f vs p h ha
    cases vs with
    | nil => cases l <;> simp [app] at ha
    | cons v vs =>
      cases l with
      | int k =>
        cases v <;> simp only [app, reduceCtorEq] at ha
        split at ha
        · rename_i hk; have := kid_inj hk; subst this; exact ih (F := fun vs => F (_ :: vs)) (h _) ha
        · cases ha
      | bool => cases v <;> simp only [app, reduceCtorEq] at ha; exact ih (F := fun vs => F (_ :: vs)) (h _) ha
      | str => cases v <;> simp only [app, reduceCtorEq] at ha; exact ih (F := fun vs => F (_ :: vs)) (h _) ha
      | slc => cases v <;> simp only [app, reduceCtorEq] at ha; exact ih (F := fun vs => F (_ :: vs)) (h _ _ _) ha
      | ptr => cases v <;> simp only [app, reduceCtorEq] at ha; exact ih (F := fun vs => F (_ :: vs)) (h _) ha
      | map => cases v <;> simp only [app, reduceCtorEq] at ha; exact ih (F := fun vs => F (_ :: vs)) (h _) ha
      | any => exact ih (F := fun vs => F (_ :: vs)) (h v) (by simpa only [app] using ha)

theorem AllL_intro : ∀ {ls : List Leaf} {F : List Value → Prop}, (∀ vs, F vs) → AllL ls F := by
  intro ls
  induction ls with
  | nil => intro F h; exact h []
  | cons l r ih =>
    intro F h
    cases l with
    | int k => intro n; exact ih (F := fun vs => F (_ :: vs)) fun vs => h _
    | bool => intro n; exact ih (F := fun vs => F (_ :: vs)) fun vs => h _
    | str => intro n; exact ih (F := fun vs => F (_ :: vs)) fun vs => h _
    | slc => intro p n c; exact ih (F := fun vs => F (_ :: vs)) fun vs => h _
    | ptr => intro n; exact ih (F := fun vs => F (_ :: vs)) fun vs => h _
    | map => intro n; exact ih (F := fun vs => F (_ :: vs)) fun vs => h _
    | any => intro n; exact ih (F := fun vs => F (_ :: vs)) fun vs => h _

theorem AllL_at {ls : List Leaf} {F : List Value → Prop} {I : Tel (World → Prop) ls} {vs : List Value} {w : World} (h : AllL ls F) (hi : atI I vs w) : F vs := by
  unfold atI at hi
  split at hi
  · rename_i p hp; exact AllL_app h hp
  · exact hi.elim

/-! ### The laws of control that the kit lacks in this form -/
theorem exists_least (p : Nat → Prop) (h : ∃ n, p n) : ∃ n, p n ∧ ∀ m, p m → n ≤ m := by
  obtain ⟨n, hn⟩ := h
  induction n using Nat.strongRecOn with
  | _ n ih =>
    by_cases hm : ∃ m, m < n ∧ p m
    · obtain ⟨m, hlt, hp⟩ := hm; exact ih m hlt hp
    · exact ⟨n, hn, fun m hp => Nat.le_of_not_lt fun hlt => hm ⟨m, hlt, hp⟩⟩

open Classical in
theorem wpIn_loop_ghost {F : Fence} {n0 : Nat} {c : Code} (G : Nat → Act → World → Prop)
    (step : ∀ n a w, G n a w → c.wpIn F n0 P (Exit.then (fun a' w' => ∃ n', n' < n ∧ G n' a' w') Q) a w) {n : Nat} {a : Act} {w : World} (h : G n a w) : (Code.loop c).wpIn F n0 P Q a w := by
  refine wpIn_loop (fun a w => ∃ n, G n a w) (fun a w => if h : ∃ n, G n a w then (exists_least _ h).choose else 0) ⟨n, h⟩ ?_
  intro a w hI
  have hs := (exists_least _ hI).choose_spec
  refine wpIn_mono (step _ a w hs.1) fun e a' w' hq => ?_
  cases e with
  | normal =>
    obtain ⟨n', hlt, hg⟩ := hq
    have hI' : ∃ n, G n a' w' := ⟨n', hg⟩
    refine ⟨hI', ?_⟩
    rw [dif_pos hI', dif_pos hI]
    have := (exists_least _ hI').choose_spec.2 n' hg
    omega
  | _ => exact hq

theorem stepR_scope {b : Frame} {a : Act} {k : List Item} {cs : List Frame} {w : World} {c : Code} :
    step P (lone (b.atR a (.code (.scope c) :: k)) cs w) = .next (lone (b.atR a (.code c :: .inScope c :: k)) cs w) :=
  step_lone_go (by simp [stepG, stepG.exec, Frame.atR])

theorem stepR_inScope {b : Frame} {a : Act} {k : List Item} {cs : List Frame} {w : World} {c : Code} :
    step P (lone (b.atR a (.inScope c :: k)) cs w) = .next (lone (b.atR a k) cs w) :=
  step_lone_go (by simp [stepG, stepG.exec, Frame.atR])

theorem wpIn_scope {F : Fence} {n : Nat} {c : Code} {a : Act} {w : World} (h : c.wpIn F n P (fun e a w => match e with | .goto _ => False | e => Q e a w) a w) : (Code.scope c).wpIn F n P Q a w := by
  intro b k cs hro hb hr
  have h0 : (lone (b.atR a (.code (.scope c) :: k)) cs w).fenced P F := fenced_calm hb hr rfl
  obtain ⟨e, a₁, w₁, hq, harr⟩ := h b (.inScope c :: k) cs hro hb hr
  cases e with
  | normal => exact ⟨.normal, a₁, w₁, hq, .head h0 stepR_scope (StepsIn.trans harr (.one (fenced_calm hb hr rfl) stepR_inScope))⟩
  | exit id =>
    have hx : exitTo id (.inScope c :: k) = exitTo id k := by simp [exitTo]
    exact ⟨.exit id, a₁, w₁, hq, fun k' hk => .head h0 stepR_scope (harr.1 k' (by rw [hx]; exact hk)),
      fun hr' hk => let ⟨k₁, h1, h2⟩ := harr.2 hr' (by rw [hx]; exact hk); ⟨k₁, h1, .head h0 stepR_scope h2⟩⟩
  | goto l => exact hq.elim
  | ret => exact ⟨_, a₁, w₁, hq, .of_steps (.one h0 stepR_scope) harr⟩
  | panic ch => exact ⟨_, a₁, w₁, hq, .of_steps (.one h0 stepR_scope) harr⟩
  | outgrown => exact ⟨_, a₁, w₁, hq, .of_steps (b := b) (k := k) (cs := cs) (e := .outgrown) (.one h0 stepR_scope) harr⟩

/-! ### Codes -/
/-- What stays of the environment, by the way in which a code is left. -/
def FrW (c : Code) (ex : Exit) (st st' : St) : Prop :=
  match ex with
  | .normal => ∃ ws, wr none c = some ws ∧ FrE ws st st'
  | .exit id => ∃ ws, wr (some id) c = some ws ∧ FrE ws st st'
  | _ => True

structure FrX (C : Cfg) (c : Code) (ex : Exit) (st st' : St) : Prop where
  e : FrW c ex st st'
  ds : pushes C (hasRg c) = false → st'.ds = st.ds

theorem oBeq_refl (t : Option Nat) : oBeq t t = true := by cases t <;> simp [oBeq, nbeq.2]
theorem joinW_left {x : List (Nat × TypeId)} (y : Option (List (Nat × TypeId))) : ∃ z, joinW (some x) y = some z ∧ ∀ i, inW z i = false → inW x i = false := by
  cases y with
  | none => exact ⟨x, rfl, fun _ h => h⟩
  | some y => exact ⟨x ++ y, rfl, fun i h => by rw [inW_append] at h; simp at h; exact h.1⟩

theorem joinW_right (x : Option (List (Nat × TypeId))) {y : List (Nat × TypeId)} : ∃ z, joinW x (some y) = some z ∧ ∀ i, inW z i = false → inW y i = false := by
  cases x with
  | none => exact ⟨y, rfl, fun _ h => h⟩
  | some x => exact ⟨x ++ y, rfl, fun i h => by rw [inW_append] at h; simp at h; exact h.2⟩

theorem app_left {x y : List (Nat × TypeId)} (i : Nat) (h : inW (x ++ y) i = false) : inW x i = false := by rw [inW_append] at h; simp at h; exact h.1
theorem app_right {x y : List (Nat × TypeId)} (i : Nat) (h : inW (x ++ y) i = false) : inW y i = false := by rw [inW_append] at h; simp at h; exact h.2

theorem pushes_or {C : Cfg} {x y : Bool} (h : pushes C (orB x y) = false) : pushes C x = false ∧ pushes C y = false := by
  unfold pushes at *
  cases hr : C.rd with
  | none => rw [hr] at h; cases x <;> cases y <;> simp_all [orB]
  | some l => exact ⟨rfl, rfl⟩

/-- The first of two is left by a jump. -/
theorem frW_seq_left {a b : Code} {id : Nat} {st st' : St} (h : FrW a (.exit id) st st') : FrW (.seq a b) (.exit id) st st' := by
  obtain ⟨ws, hw, hf⟩ := h
  unfold FrW
  simp only [wr, isN, hw]
  cases wr none a with
  | none => exact ⟨ws, rfl, hf⟩
  | some x =>
    obtain ⟨z, hz, hm⟩ := joinW_right (match wr (some id) b with | some y => some (x ++ y) | none => none) (y := ws)
    exact ⟨z, hz, hf.mono hm⟩

/-- The first of two goes off its end. -/
theorem frW_seq_right {a b : Code} {ex : Exit} {st st1 st' : St} {x : List (Nat × TypeId)} (hx : wr none a = some x) (h1 : FrE x st st1) (h : FrW b ex st1 st') : FrW (.seq a b) ex st st' := by
  unfold FrW at *
  cases ex with
  | normal =>
    obtain ⟨ws, hw, hf⟩ := h
    refine ⟨x ++ ws, by simp only [wr, hx, isN, hw], (h1.mono fun i hi => app_left i hi).trans (hf.mono fun i hi => app_right i hi)⟩
  | exit id =>
    obtain ⟨ws, hw, hf⟩ := h
    simp only [wr, hx, isN, hw]
    obtain ⟨z, hz, hm⟩ := joinW_left (x := x ++ ws) (wr (some id) a)
    exact ⟨z, hz, (h1.mono fun i hi => app_left i (hm i hi)).trans (hf.mono fun i hi => app_right i (hm i hi))⟩
  | _ => trivial

/-- What a code achieves. -/
def Post (C : Cfg) (c : Code) (Q : Exit → St → World → Prop) (st : St) : Exit → Act → World → Prop :=
  fun ex a' w' => ∃ st', st'.ge = [] ∧ Agree C.N st' a' ∧ FrX C c ex st st' ∧ Q ex st' w'

theorem withB_out {C : Cfg} {b : Bool} {K : Nat → Prop} (h : withB C b K) : ∃ B, K B := by
  unfold withB at h
  split at h
  · exact h
  · exact ⟨_, h⟩

theorem opens_iff {C : Cfg} {b : Bool} {B : Nat} {ds : List Nat} {w : World} {X : Prop} : opens C b B ds w X ↔ ((pushes C b = true → Open B ds w) ∧ X) := by
  unfold opens
  cases pushes C b <;> simp

theorem allDs_at {C : Cfg} {b : Bool} {B : Nat} {ds ds' : List Nat} {w : World} {K : List Nat → Prop} (h : allDs C b B ds w K) (ho : pushes C b = true → Open B ds' w) (he : pushes C b = false → ds' = ds) : K ds' := by
  unfold allDs at h
  cases hp : pushes C b with
  | true => rw [hp] at h; exact h ds' (ho hp)
  | false => rw [hp] at h; rw [he hp]; exact h

theorem frE_ds {ws : List (Nat × TypeId)} {st st' : St} {ds : List Nat} (h : FrE ws st st') : FrE ws st { st' with ds := ds } := h

/-! ### A range over a function -/
def stOf : Nat → LoopState
  | 0 => .ready
  | 1 => .busy
  | 2 => .exhausted
  | k + 3 => if k % 2 = 0 then .done else .exhausted
def pendOf : Nat → Option Code
  | 0 => none
  | 1 => none
  | 2 => none
  | 3 => some .ret
  | 4 => some .ret
  | k + 5 => some (.exit (k / 2))

theorem parTys_spec {ag : List Oper} : ∀ {ps : List Nat} {ts : List (Nat × Ty)}, parTys P ag ps = some ts → keysOf ts = ps := by
  intro ps
  induction ps with
  | nil => intro ts h; simp only [parTys, Option.some.injEq] at h; subst h; rfl
  | cons t r ih =>
    intro ts h
    unfold parTys at h
    split at h
    · rename_i ty ts' _ hts
      split at h
      · cases h; simp [keysOf, ih hts]
      · cases h
    · rename_i ts' _ hts
      cases h; simp [keysOf, ih hts]
    · cases h

theorem packL_length : ∀ {ts : List (Nat × Ty)} {vs : List Value} {xs : List SV}, packL ts vs = some xs → xs.length = ts.length := by
  intro ts
  induction ts with
  | nil => intro vs xs h; simp only [packL, Option.some.injEq] at h; subst h; rfl
  | cons p r ih =>
    intro vs xs h
    unfold packL at h
    split at h
    · rename_i x xs' _ hxs; cases h; simp [ih hxs]
    · cases h

theorem dens_length (xs : List SV) : (dens xs).length = xs.length := by induction xs <;> simp_all [dens]

theorem zipE_spec : ∀ {ts : List (Nat × Ty)} {xs : List SV} {tmps : Array Value} (i : Nat) (x : SV), noDup (keysOf ts) = true → (∀ k ∈ keysOf ts, k < tmps.size) → xs.length = ts.length →
    (lkE (zipE ts xs) i = some x → (((keysOf ts).zip (dens xs)).foldl (fun (tmps : Array Value) (t, a) => tmps.setIfInBounds t a) tmps).getD i undef = x.den) ∧
    (inK (zipE ts xs) i = false → (((keysOf ts).zip (dens xs)).foldl (fun (tmps : Array Value) (t, a) => tmps.setIfInBounds t a) tmps).getD i undef = tmps.getD i undef) ∧
    (((keysOf ts).zip (dens xs)).foldl (fun (tmps : Array Value) (t, a) => tmps.setIfInBounds t a) tmps).size = tmps.size := by
  intro ts
  induction ts with
  | nil => intro xs tmps i x _ _ hl; cases xs <;> simp [zipE, lkE, keysOf]
  | cons p r ih =>
    intro xs tmps i x hd hk hl
    cases xs with
    | nil => simp at hl
    | cons y ys =>
      have hd' : noDup (keysOf r) = true ∧ p.1 ∉ keysOf r := by
        simp only [keysOf] at hd
        unfold noDup at hd
        split at hd
        · cases hd
        · rename_i hm
          refine ⟨hd, fun hc => ?_⟩
          rw [memN_iff.2 hc] at hm; cases hm
      have hp : p.1 < tmps.size := hk p.1 (by simp [keysOf])
      have hks : ∀ k ∈ keysOf r, k < (tmps.setIfInBounds p.1 y.den).size := fun k hk' => by simpa using hk k (by simp [keysOf, hk'])
      obtain ⟨i1, i2, i3⟩ := ih (xs := ys) (tmps := tmps.setIfInBounds p.1 y.den) i x hd'.1 hks (by simpa using hl)
      simp only [keysOf, dens, List.zip_cons_cons, List.foldl_cons, zipE, lkE, inK]
      refine ⟨fun h => ?_, fun h => ?_, by rw [i3]; simp⟩
      · split at h
        · rename_i hb
          cases h
          have hb := nbeq.1 hb
          have hno : inK (zipE r ys) i = false := by
            have : ∀ (r : List (Nat × Ty)) (ys : List SV), i ∉ keysOf r → inK (zipE r ys) i = false := by
              intro r
              induction r with
              | nil => intro ys _; cases ys <;> rfl
              | cons q r ihr =>
                intro ys hi
                cases ys with
                | nil => rfl
                | cons z zs =>
                  simp only [keysOf, List.mem_cons, not_or] at hi
                  simp only [zipE, inK, nbeq_no.2 (Ne.symm hi.1), ihr zs hi.2]
            exact this r ys (by rw [← hb]; exact hd'.2)
          rw [i2 hno, getD_set hp, if_pos hb]
        · exact i1 h
      · split at h
        · cases h
        · rename_i hb
          rw [i2 h, getD_set hp, if_neg (nbeq_no.1 hb)]

theorem round_agree {N : Nat} {st : St} {a : Act} {ps : Array Tmp} {ts : List (Nat × Ty)} {xs : List SV} (h : Agree N st a) (hk : keysOf ts = ps.toList) (hok : parsOk N (keysOf ts) = true) (hl : xs.length = ts.length) :
    Agree N { e := zipE ts xs ++ st.e, ge := [], ds := [] } { tmps := (ps.zip (dens xs).toArray).foldl (fun tmps (t, a) => tmps.setIfInBounds t a) a.tmps, defers := [] } := by
  have hok' : noDup (keysOf ts) = true ∧ ∀ k ∈ keysOf ts, k < a.tmps.size := by
    unfold parsOk at hok
    split at hok
    · rename_i h1
      refine ⟨h1, fun k hk => ?_⟩
      rw [h.size]
      exact Nat.lt_of_succ_le (Nat.le_of_ble_eq_true (allB_iff.1 hok k hk))
    · cases hok
  have hfold : (ps.zip (dens xs).toArray).foldl (fun (tmps : Array Value) (t, a) => tmps.setIfInBounds t a) a.tmps = ((keysOf ts).zip (dens xs)).foldl (fun (tmps : Array Value) (t, a) => tmps.setIfInBounds t a) a.tmps := by
    rw [hk, ← Array.foldl_toList, Array.toList_zip]
  refine ⟨?_, rfl, ?_, fun i d hd => by simp [lkG] at hd, fun i d hd => by simp [lkG] at hd⟩
  · show Array.size _ = N
    rw [hfold, (zipE_spec (ts := ts) (xs := xs) (tmps := a.tmps) 0 (.b true) hok'.1 hok'.2 hl).2.2, h.size]
  · intro i x hx
    show Array.getD _ i undef = _
    rw [hfold]
    obtain ⟨i1, i2, _⟩ := zipE_spec (ts := ts) (xs := xs) (tmps := a.tmps) i x hok'.1 hok'.2 hl
    simp only [lkE_append] at hx
    split at hx
    · exact i1 hx
    · rename_i hno
      rw [i2 (by simpa using hno)]
      exact h.e i x hx

theorem OrIds_out {F : Nat → Prop} : ∀ {l : List Nat}, OrIds F False l → ∃ id, F id := by
  intro l
  induction l with
  | nil => intro h; exact h.elim
  | cons i r ih => 
    intro h
    rcases h with h | h
    · exact ⟨i, h⟩
    · exact ih h

theorem ranged_out {r : Nat → Loop} {l : Nat} {ret : Bool} {exs : List Nat} {Q : Exit → St → World → Prop} {st' : St} {W : World} (h : ranged r l ret exs Q st' W) :
    (Rec r l 0 W ∧ Q .normal st' (turn r l 2 W)) ∨ (Rec r l 3 W ∧ Q .ret st' (turn r l 4 W)) ∨ ∃ id, Rec r l (5 + 2 * id) W ∧ Q (.exit id) st' (turn r l (6 + 2 * id) W) := by
  unfold ranged at h
  rcases h with h | h
  · exact .inl h
  · split at h
    · rcases h with h | h
      · exact .inr (.inl h)
      · exact .inr (.inr (OrIds_out h))
    · exact .inr (.inr (OrIds_out h))

/-- One round. -/
theorem round_sound {asg body : Code} {C : Cfg} {st : St} {a : Act} {l : Nat} {ps : Array Tmp} {ts : List (Nat × Ty)} {r : Nat → Loop} {fn df : Nat}
    (hr : r = fun k => { state := stOf k, pending := pendOf k, fn := fn, tmps := a.tmps, params := ps, assign := asg, body := body, defers := df })
    (iha : ∀ (C : Cfg) (Q : Exit → St → World → Prop) (st : St) (a : Act) (w : World), st.ge = [] → Agree C.N st a → vc P C asg Q st w → asg.wpIn (FW C.rd) 0 P (Post C asg Q st) a w)
    (ihb : ∀ (C : Cfg) (Q : Exit → St → World → Prop) (st : St) (a : Act) (w : World), st.ge = [] → Agree C.N st a → vc P C body Q st w → body.wpIn (FW C.rd) 0 P (Post C body Q st) a w)
    (h : Agree C.N st a) (hk : keysOf ts = ps.toList) (hok : parsOk C.N (keysOf ts) = true) {xs : List SV} (hl : xs.length = ts.length) {W : World} {R : Bool → World → Prop} (h0 : Rec r l 0 W)
    (hv : vc P { C with rd := some l } asg (fun ex st2 Wa => match ex with
        | .normal => Rec r l 0 Wa ∧ ∀ Wb : World, Wb = turn r l 1 Wa → vc P { C with rd := some l } body (fun ex _ W3 => Rec r l 1 W3 ∧ (match ex with
          | .normal => R true (turn r l 0 W3)
          | .ret => R false (turn r l 3 W3)
          | .exit id => R false (turn r l (5 + 2 * id) W3)
          | _ => False)) st2 Wb
        | _ => False) { e := zipE ts xs ++ st.e, ge := [], ds := [] } W) :
    Yield P l (dens xs).toArray W R := by
  intro rd'
  have hsz : (dens xs).toArray.size = (r 0).params.size := by
    rw [hr]
    simp only [List.size_toArray, dens_length, hl]
    have := congrArg List.length hk
    have hkl : ∀ ts : List (Nat × Ty), (keysOf ts).length = ts.length := by intro ts; induction ts <;> simp_all [keysOf]
    rw [hkl] at this
    simpa using this
  have hy := run_yield (P := P) (args := (dens xs).toArray) h0 hsz
  rw [hr] at hy
  refine ⟨_, _, _, _, hy, roundIn_of_wpIn trivial ?_⟩
  have hwp := iha { C with rd := some l } _ _ _ W rfl (round_agree h hk hok hl) hv
  refine wpIn_mono hwp ?_
  rintro ex a1 Wa ⟨s, g1, g2, g3, g4⟩
  cases ex with
  | normal =>
    obtain ⟨hrec, hvb⟩ := g4
    refine ⟨turn r l 1 Wa, ?_, ?_⟩
    · have := run_beginRound (P := P) hrec (by rw [hr]; rfl)
      rw [this]
      unfold turn
      rw [hr]
      rfl
    · refine wpIn_mono (ihb { C with rd := some l } _ s a1 _ g1 g2 (hvb _ rfl)) ?_
      rintro ex a3 W3 ⟨s3, k1, k2, k3, k4⟩
      obtain ⟨hb, hR⟩ := k4
      cases ex with
      | normal => exact ⟨_, _, run_endRound (P := P) none hb, true, rfl, by rw [hr] at hR ⊢; exact hR⟩
      | ret => exact ⟨_, _, run_endRound (P := P) (some .ret) hb, false, rfl, by rw [hr] at hR ⊢; exact hR⟩
      | exit id =>
        refine ⟨_, _, run_endRound (P := P) (some (.exit id)) hb, false, rfl, ?_⟩
        have e1 : stOf (5 + 2 * id) = .done := by
          rw [show 5 + 2 * id = (2 + 2 * id) + 3 by omega]; simp only [stOf]; rw [if_pos (by omega)]
        have e2 : pendOf (5 + 2 * id) = some (.exit id) := by
          rw [show 5 + 2 * id = (2 * id) + 5 by omega]; simp only [pendOf]; rw [show 2 * id / 2 = id by omega]
        unfold turn at hR
        rw [hr] at hR ⊢
        simp only [e1, e2] at hR
        exact hR
      | _ => exact hR.elim
  | _ => exact g4.elim

/-- Behind the iterator. -/
theorem behind {asg body : Code} {l : Nat} {ps : Array Tmp} {r : Nat → Loop} {fn df : Nat} {tmps : Array Value}
    (hr : r = fun k => { state := stOf k, pending := pendOf k, fn := fn, tmps := tmps, params := ps, assign := asg, body := body, defers := df })
    {C : Cfg} {f : Operand} {Q : Exit → St → World → Prop} {st st' : St} {a' : Act} {ret : Bool} {exs : List Nat} {W : World} (hge : st'.ge = []) (hag : Agree C.N st' a') (he : st'.e = st.e) (hds : C.rd.isSome = true → st'.ds = st.ds)
    (hR : ranged r l ret exs Q st' W) (v : Value) : rangePost (FW C.rd) 0 P l (Post C (.rangeFunc f ps asg body) Q st) a' (.returned v) W := by
  have frx : ∀ ex, FrX C (.rangeFunc f ps asg body) ex st st' := fun ex => by
    refine ⟨?_, fun hp => ?_⟩
    · unfold FrW
      cases ex <;> first | trivial | exact ⟨[], by simp [wr], fun i _ => by rw [he]⟩
    · cases hrd : C.rd with
      | none => simp [pushes, hrd, hasRg] at hp
      | some l => exact hds (by rw [hrd]; rfl)
  rcases ranged_out hR with ⟨h0, hQ⟩ | ⟨h0, hQ⟩ | ⟨id, h0, hQ⟩
  · have := run_endLoop (P := P) h0 (by rw [hr]; simp [stOf])
    refine ⟨_, _, this, ?_⟩
    unfold turn at hQ
    rw [hr] at hQ ⊢
    exact ⟨st', hge, hag, frx _, hQ⟩
  · have := run_endLoop (P := P) h0 (by rw [hr]; simp [stOf])
    refine ⟨_, _, this, ?_⟩
    unfold turn at hQ
    rw [hr] at hQ ⊢
    exact wpIn_ret ⟨st', hge, hag, frx _, hQ⟩
  · have e1 : stOf (5 + 2 * id) = .done := by
      rw [show 5 + 2 * id = (2 + 2 * id) + 3 by omega]; simp only [stOf]; rw [if_pos (by omega)]
    have e2 : pendOf (5 + 2 * id) = some (.exit id) := by
      rw [show 5 + 2 * id = (2 * id) + 5 by omega]; simp only [pendOf]; rw [show 2 * id / 2 = id by omega]
    have e3 : stOf (6 + 2 * id) = .exhausted := by
      rw [show 6 + 2 * id = (3 + 2 * id) + 3 by omega]; simp only [stOf]; rw [if_neg (by omega)]
    have e4 : pendOf (6 + 2 * id) = some (.exit id) := by
      rw [show 6 + 2 * id = (1 + 2 * id) + 5 by omega]; simp only [pendOf]; rw [show (1 + 2 * id) / 2 = id by omega]
    have := run_endLoop (P := P) h0 (by rw [hr]; simp [e1])
    refine ⟨_, _, this, ?_⟩
    unfold turn at hQ
    rw [hr] at hQ ⊢
    simp only [e2, e3, e4] at hQ ⊢
    exact wpIn_exit ⟨st', hge, hag, frx _, hQ⟩

theorem range_sound {f : Operand} {ps : Array Tmp} {asg body : Code}
    (iha : ∀ (C : Cfg) (Q : Exit → St → World → Prop) (st : St) (a : Act) (w : World), st.ge = [] → Agree C.N st a → vc P C asg Q st w → asg.wpIn (FW C.rd) 0 P (Post C asg Q st) a w)
    (ihb : ∀ (C : Cfg) (Q : Exit → St → World → Prop) (st : St) (a : Act) (w : World), st.ge = [] → Agree C.N st a → vc P C body Q st w → body.wpIn (FW C.rd) 0 P (Post C body Q st) a w)
    {C : Cfg} {Q : Exit → St → World → Prop} {st : St} {a : Act} {w : World} (hge : st.ge = []) (h : Agree C.N st a) (hv : vc P C (.rangeFunc f ps asg body) Q st w) :
    (Code.rangeFunc f ps asg body).wpIn (FW C.rd) 0 P (Post C (.rangeFunc f ps asg body) Q st) a w := by
  unfold vc at hv
  split at hv
  · rename_i fv ts hf hts
    have hk := parTys_spec hts
    split at hv
    · rename_i hok
      obtain ⟨g, lb, rfl, hen, hv⟩ := hv
      have hg : a.eval f = .func (.func g) #[] lb := by rw [ev_sound h (.nil a) hf, den_v]
      have eargs : ∀ l : Nat, (#[.func (.yield l) #[] #[]] ++ lb : Array Value) = (.func (.yield l) #[] #[] :: lb.toList).toArray := fun l => by apply Array.ext'; simp
      split at hv
      · rename_i hrd
        rw [hrd]
        refine wpIn_rangeFunc fun fn _ => ?_
        obtain ⟨r, hr⟩ : ∃ r : Nat → Loop, r = fun k => { state := stOf k, pending := pendOf k, fn := fn, tmps := a.tmps, params := ps, assign := asg, body := body, defers := w.heap.size } := ⟨_, rfl⟩
        have hcall := hv r w.heap.size (w.heap.size + 1) _ ⟨rfl, rfl, rfl⟩ ?_
        · refine ⟨w.heap.size + 1, [{ target := .collected w.heap.size, args := #[] }], (w.alloc (.deferred (some []))).alloc (.loop (r 0)), { target := .fn (.func g) lb, args := #[.func (.yield (w.heap.size + 1)) #[] #[]] },
            (w.alloc (.deferred (some []))).alloc (.loop (r 0)), g, #[.func (.yield (w.heap.size + 1)) #[] #[]] ++ lb, (w.alloc (.deferred (some []))).alloc (.loop (r 0)), ?_, ?_, ?_, ?_, fun h => by simp [FW] at h, ?_⟩
          · rw [hr]; exact run_enterLoop_outer _ _ _ _ _
          · simp only [resolve, hg]
            simp [go_sem]
          · intro f' _; trivial
          · simp [invoke, go_sem, run_enter hen]
          · rw [eargs]
            refine callsIn_FW (hcall.mono ?_)
            rintro e W ⟨⟨v, rfl⟩, hR⟩
            have := behind (P := P) (C := C) (f := f) (st := st) (st' := { st with ds := w.heap.size :: st.ds }) (a' := { a with defers := [{ target := .collected w.heap.size, args := #[] }] ++ a.defers }) hr hge
              ⟨h.size, by simp [h.defers], h.e, h.g, h.u⟩ rfl (fun hs => by rw [hrd] at hs; cases hs) hR v
            rw [hrd] at this
            exact this
        · -- the rounds
          refine AllL_intro fun vs => ?_
          split
          · trivial
          · rename_i xs hxs
            intro W R h0 hvr
            exact round_sound (fn := fn) (df := w.heap.size) hr iha ihb h hk hok (packL_length hxs) h0 hvr
      · rename_i l0 hrd
        obtain ⟨⟨q, hq⟩, hv⟩ := hv
        rw [hrd]
        refine wpIn_rangeFunc fun fn _ => ?_
        obtain ⟨r, hr⟩ : ∃ r : Nat → Loop, r = fun k => { state := stOf k, pending := pendOf k, fn := fn, tmps := a.tmps, params := ps, assign := asg, body := body, defers := q.defers } := ⟨_, rfl⟩
        have hcall := hv r w.heap.size _ ⟨rfl, rfl⟩ ?_
        · refine ⟨w.heap.size, [], w.alloc (.loop (r 0)), { target := .fn (.func g) lb, args := #[.func (.yield w.heap.size) #[] #[]] },
            w.alloc (.loop (r 0)), g, #[.func (.yield w.heap.size) #[] #[]] ++ lb, w.alloc (.loop (r 0)), ?_, ?_, ?_, ?_, fun h => by simp [FW] at h, ?_⟩
          · rw [hr]; exact run_enterLoop_inner hq _ _ _ _ _
          · simp only [resolve, hg]
            simp [go_sem]
          · intro f' _; trivial
          · simp [invoke, go_sem, run_enter hen]
          · rw [eargs]
            refine callsIn_FW (hcall.mono ?_)
            rintro e W ⟨⟨v, rfl⟩, hR⟩
            have := behind (P := P) (C := C) (f := f) (st := st) (st' := st) (a' := { a with defers := [] ++ a.defers }) hr hge
              ⟨h.size, by simp [h.defers], h.e, h.g, h.u⟩ rfl (fun _ => rfl) hR v
            rw [hrd] at this
            exact this
        · -- the rounds
          refine AllL_intro fun vs => ?_
          split
          · trivial
          · rename_i xs hxs
            intro W R h0 hvr
            exact round_sound (fn := fn) (df := q.defers) hr iha ihb h hk hok (packL_length hxs) h0 hvr
    · exact hv.elim
  · exact hv.elim

theorem vc_sound (hm : P.follows .mixedOrders = true) : ∀ (c : Code) (C : Cfg) (Q : Exit → St → World → Prop) (st : St) (a : Act) (w : World), st.ge = [] → Agree C.N st a → vc P C c Q st w →
    c.wpIn (FW C.rd) 0 P (Post C c Q st) a w := by
  intro c
  induction c with
  | skip => intro C Q st a w hge h hv; exact wpIn_skip ⟨st, hge, h, ⟨⟨[], rfl, .refl _ _⟩, fun _ => rfl⟩, hv⟩
  | label l => intro C Q st a w hge h hv; exact wpIn_label ⟨st, hge, h, ⟨⟨[], rfl, .refl _ _⟩, fun _ => rfl⟩, hv⟩
  | exit id => intro C Q st a w hge h hv; exact wpIn_exit ⟨st, hge, h, ⟨⟨[], by simp [wr, oBeq_refl], .refl _ _⟩, fun _ => rfl⟩, hv⟩
  | goto l => intro C Q st a w hge h hv; exact hv.elim
  | ret => intro C Q st a w hge h hv; exact wpIn_ret ⟨st, hge, h, ⟨trivial, fun _ => rfl⟩, hv⟩
  | refuse s => intro C Q st a w hge h hv; exact hv.elim
  | rangeFunc f ps ag b iha ihb => intro C Q st a w hge h hv; exact range_sound iha ihb hge h hv
  | region id ops draw =>
    intro C Q st a w hge h hv
    have := vcRegion_sound (rd := C.rd) (id := id) (od := lkO C.ords id) (ops := ops.toList) (draw := draw) (Q := Post C (.region id ops draw) Q st) (ws := wrOps ops.toList) hm (fun _ hi => hi) hge
      (K := fun st' w' => Q .normal st' w' ∧ st'.ge = []) (st := st) (a := a) (w := w)
      (fun st' a' w' ha hf hk => ⟨st', hk.2, ha, ⟨⟨wrOps ops.toList, rfl, hf.2⟩, fun _ => hf.1⟩, hk.1⟩) h
    simp only [Array.toArray_toList] at this
    refine this ?_
    -- behind a region nothing hangs on a guard
    have heq : ∀ (l : List Oper), vcOps P C.N ops.toList l (fun st' w' => Q .normal st' w') = vcOps P C.N ops.toList l (fun st' w' => Q .normal st' w' ∧ st'.ge = []) := by
      intro l
      induction l with
      | nil => funext st1 w1; simp [vcOps]
      | cons o r ih => funext st1 w1; simp only [vcOps, ih]
    have heq2 : ∀ (l : OT), vcOrd P C.N ops.toList l (fun st' w' => Q .normal st' w') = vcOrd P C.N ops.toList l (fun st' w' => Q .normal st' w' ∧ st'.ge = []) := by
      intro l
      induction l with
      | nil => funext st1 w1; simp [vcOrd]
      | one o r ih => funext st1 w1; simp only [vcOrd, ih]
      | alt s t ihs iht => funext st1 w1; simp only [vcOrd, ihs, iht]
    dsimp only [vc] at hv
    unfold vcRegion at hv ⊢
    split at hv
    · rw [← heq]; exact hv
    · split at hv
      · intro w' hw'; rw [← heq2]; exact hv w' hw'
      · exact hv.elim
  | cond o x y ihx ihy =>
    intro C Q st a w hge h hv
    have px : ∀ st', ∀ ex a' w', Post C x Q st' ex a' w' → Post C (.cond o x y) Q st' ex a' w' := by
      rintro st' ex a' w' ⟨s, h1, h2, ⟨h3, h3d⟩, h4⟩
      refine ⟨s, h1, h2, ⟨?_, fun hp => h3d (pushes_or hp).1⟩, h4⟩
      unfold FrW at *
      cases ex with
      | normal => obtain ⟨ws, hw, hf⟩ := h3; obtain ⟨z, hz, hmz⟩ := joinW_left (x := ws) (wr none y); exact ⟨z, by simp only [wr, hw, hz], hf.mono hmz⟩
      | exit id => obtain ⟨ws, hw, hf⟩ := h3; obtain ⟨z, hz, hmz⟩ := joinW_left (x := ws) (wr (some id) y); exact ⟨z, by simp only [wr, hw, hz], hf.mono hmz⟩
      | _ => trivial
    have py : ∀ st', ∀ ex a' w', Post C y Q st' ex a' w' → Post C (.cond o x y) Q st' ex a' w' := by
      rintro st' ex a' w' ⟨s, h1, h2, ⟨h3, h3d⟩, h4⟩
      refine ⟨s, h1, h2, ⟨?_, fun hp => h3d (pushes_or hp).2⟩, h4⟩
      unfold FrW at *
      cases ex with
      | normal => obtain ⟨ws, hw, hf⟩ := h3; obtain ⟨z, hz, hmz⟩ := joinW_right (wr none x) (y := ws); exact ⟨z, by simp only [wr, hw, hz], hf.mono hmz⟩
      | exit id => obtain ⟨ws, hw, hf⟩ := h3; obtain ⟨z, hz, hmz⟩ := joinW_right (wr (some id) x) (y := ws); exact ⟨z, by simp only [wr, hw, hz], hf.mono hmz⟩
      | _ => trivial
    unfold vc at hv
    split at hv
    · rename_i ho; exact wpIn_cond_true (ev_sound h (.nil a) ho) (wpIn_mono (ihx C Q st a w hge h hv) (px st))
    · rename_i ho; exact wpIn_cond_false (ev_sound h (.nil a) ho) (wpIn_mono (ihy C Q st a w hge h hv) (py st))
    · rename_i v _ _ ho
      split at hv
      · rename_i g hg0
        refine wpIn_cond_split (t := g.val) (by rw [ev_sound h (.nil a) ho, cndOf_den hg0]) (fun hg => ?_) (fun hg => ?_)
        · exact wpIn_mono (ihx C Q st a w hge h (hv.1 (Cnd.is_of hg))) (px st)
        · exact wpIn_mono (ihy C Q st a w hge h (hv.2 (Cnd.is_of hg))) (py st)
      · exact hv.elim
    · exact hv.elim
  | block id b ih =>
    intro C Q st a w hge h hv
    unfold vc at hv
    refine wpIn_block (wpIn_mono (ih C _ st a w hge h hv) ?_)
    rintro ex a' w' ⟨s, h1, h2, ⟨h3, h3d⟩, h4⟩
    cases ex with
    | normal =>
      refine ⟨s, h1, h2, ⟨?_, h3d⟩, h4⟩
      obtain ⟨ws, hw, hf⟩ := h3
      obtain ⟨z, hz, hmz⟩ := joinW_left (x := ws) (wr (some id) b)
      exact ⟨z, by simp only [wr, isN, hw, hz], hf.mono hmz⟩
    | exit j =>
      simp only at h4
      by_cases hj : j = id
      · subst hj
        rw [nbeq.2 rfl] at h4
        simp only [Exit.inBlock, if_true]
        refine ⟨s, h1, h2, ⟨?_, h3d⟩, h4⟩
        obtain ⟨ws, hw, hf⟩ := h3
        obtain ⟨z, hz, hmz⟩ := joinW_right (wr none b) (y := ws)
        exact ⟨z, by simp only [wr, isN, hw, hz], hf.mono hmz⟩
      · rw [nbeq_no.2 hj] at h4
        simp only [Exit.inBlock, hj, if_false]
        refine ⟨s, h1, h2, ⟨?_, h3d⟩, h4⟩
        obtain ⟨ws, hw, hf⟩ := h3
        exact ⟨ws, by simp only [wr, isN, oBeq, nbeq_no.2 hj, hw], hf⟩
    | goto l => exact ⟨s, h1, h2, ⟨trivial, h3d⟩, h4⟩
    | ret => exact ⟨s, h1, h2, ⟨trivial, h3d⟩, h4⟩
    | panic ch => exact ⟨s, h1, h2, ⟨trivial, h3d⟩, h4⟩
    | outgrown => exact ⟨s, h1, h2, ⟨trivial, h3d⟩, h4⟩
  | scope b ih =>
    intro C Q st a w hge h hv
    unfold vc at hv
    refine wpIn_scope (wpIn_mono (ih C _ st a w hge h hv) ?_)
    rintro ex a' w' ⟨s, h1, h2, ⟨h3, h3d⟩, h4⟩
    cases ex with
    | normal => exact ⟨s, h1, h2, ⟨h3, h3d⟩, h4⟩
    | exit j => exact ⟨s, h1, h2, ⟨h3, h3d⟩, h4⟩
    | goto l => exact h4.elim
    | ret => exact ⟨s, h1, h2, ⟨trivial, h3d⟩, h4⟩
    | panic ch => exact ⟨s, h1, h2, ⟨trivial, h3d⟩, h4⟩
    | outgrown => exact ⟨s, h1, h2, ⟨trivial, h3d⟩, h4⟩
  | seq x y ihx ihy =>
    intro C Q st a w hge h hv
    unfold vc at hv
    have jump : ∀ ex a' w' s, ex ≠ .normal → s.ge = [] → Agree C.N s a' → FrX C x ex st s → Q ex s w' → Post C (.seq x y) Q st ex a' w' := by
      intro ex a' w' s hne h1 h2 h3 h4
      refine ⟨s, h1, h2, ⟨?_, fun hp => h3.ds (pushes_or hp).1⟩, h4⟩
      cases ex with
      | normal => exact absurd rfl hne
      | exit id => exact frW_seq_left h3.e
      | _ => trivial
    split at hv
    · refine wpIn_seq (wpIn_mono (ihx C _ st a w hge h hv) ?_)
      rintro ex a' w' ⟨s, h1, h2, h3, h4⟩
      cases ex with
      | normal =>
        obtain ⟨ws, hw, hf⟩ := h3.e
        refine wpIn_mono (ihy C Q s a' w' h1 h2 h4) ?_
        rintro ex2 a2 w2 ⟨s2, k1, k2, k3, k4⟩
        exact ⟨s2, k1, k2, ⟨frW_seq_right hw hf k3.e, fun hp => (k3.ds (pushes_or hp).2).trans (h3.ds (pushes_or hp).1)⟩, k4⟩
      | exit j => exact jump _ _ _ s (by simp) h1 h2 h3 h4
      | goto l => exact jump _ _ _ s (by simp) h1 h2 h3 h4
      | ret => exact jump _ _ _ s (by simp) h1 h2 h3 h4
      | panic ch => exact jump _ _ _ s (by simp) h1 h2 h3 h4
      | outgrown => exact jump _ _ _ s (by simp) h1 h2 h3 h4
    · split at hv
      · refine wpIn_seq (wpIn_mono (ihx C _ st a w hge h hv) ?_)
        rintro ex a' w' ⟨s, h1, h2, h3, h4⟩
        cases ex with
        | normal => exact h4.elim
        | exit j => exact jump _ _ _ s (by simp) h1 h2 h3 h4
        | goto l => exact jump _ _ _ s (by simp) h1 h2 h3 h4
        | ret => exact jump _ _ _ s (by simp) h1 h2 h3 h4
        | panic ch => exact jump _ _ _ s (by simp) h1 h2 h3 h4
        | outgrown => exact jump _ _ _ s (by simp) h1 h2 h3 h4
      · rename_i ws hws
        split at hv
        · exact hv.elim
        · rename_i slots hslots
          obtain ⟨J, hv⟩ := hv
          obtain ⟨B, hv1, hv2⟩ := withB_out hv
          refine wpIn_seq (wpIn_mono (ihx C _ st a w hge h hv1) ?_)
          rintro ex a' w' ⟨s, h1, h2, h3, h4⟩
          cases ex with
          | normal =>
            obtain ⟨ws', hw, hf⟩ := h3.e
            have : ws' = ws := by rw [hws] at hw; cases hw; rfl
            subst this
            rw [opens_iff] at h4
            obtain ⟨hop, h4⟩ := h4
            split at h4
            · rename_i vs hvs
              obtain ⟨st1, hst1, hag, hge1, hf1, hds1⟩ := head_of_vals (named_in hslots) hf h2 hvs
              have hb := AllL_at hv2 h4 w' h4
              rw [hst1] at hb
              have hb' := allDs_at hb hop h3.ds
              refine wpIn_mono (ihy C Q { st1 with ds := s.ds } a' w' hge1 hag hb') ?_
              rintro ex2 a2 w2 ⟨s2, k1, k2, k3, k4⟩
              exact ⟨s2, k1, k2, ⟨frW_seq_right hw (frE_ds hf1) k3.e, fun hp => (k3.ds (pushes_or hp).2).trans (h3.ds (pushes_or hp).1)⟩, k4⟩
            · exact h4.elim
          | exit j => exact jump _ _ _ s (by simp) h1 h2 h3 h4
          | goto l => exact jump _ _ _ s (by simp) h1 h2 h3 h4
          | ret => exact jump _ _ _ s (by simp) h1 h2 h3 h4
          | panic ch => exact jump _ _ _ s (by simp) h1 h2 h3 h4
          | outgrown => exact jump _ _ _ s (by simp) h1 h2 h3 h4
  | loop b ih =>
    intro C Q st a w hge h hv
    unfold vc at hv
    have out : ∀ (ex : Exit) (s1 s : St) (zs : List (Nat × TypeId)), (∀ zs', wr none b = some zs' → zs' = zs) → FrE zs st s1 → (wr none b = none → s1 = st) → FrW b ex s1 s → ex ≠ .normal → FrW (.loop b) ex st s := by
      intro ex s1 s zs hzs hf1 hnone hx hne
      unfold FrW at *
      cases ex with
      | normal => exact absurd rfl hne
      | exit id =>
        obtain ⟨ws, hw, hf⟩ := hx
        simp only [wr, isN, hw]
        cases hb : wr none b with
        | none => rw [hnone hb] at hf; exact ⟨ws, rfl, hf⟩
        | some zs' =>
          have := hzs zs' hb
          subst this
          exact ⟨zs' ++ ws, rfl, (hf1.mono fun i hi => app_left i hi).trans (hf.mono fun i hi => app_right i hi)⟩
      | _ => trivial
    split at hv
    · rename_i hb
      refine wpIn_loop_ghost (fun _ a' w' => a' = a ∧ w' = w) (n := 0) ?_ ⟨rfl, rfl⟩
      rintro n a' w' ⟨rfl, rfl⟩
      refine wpIn_mono (ih C _ st a' w' hge h hv) ?_
      rintro ex a2 w2 ⟨s, h1, h2, h3, h4⟩
      have lv : ex ≠ .normal → FrX C (.loop b) ex st s := fun hne => ⟨out _ st s [] (fun zs' hz => by rw [hb] at hz; cases hz) (.refl _ _) (fun _ => rfl) h3.e hne, h3.ds⟩
      cases ex with
      | normal => exact h4.elim
      | exit j => exact ⟨s, h1, h2, lv (by simp), h4⟩
      | goto l => exact ⟨s, h1, h2, lv (by simp), h4⟩
      | ret => exact ⟨s, h1, h2, lv (by simp), h4⟩
      | panic ch => exact ⟨s, h1, h2, lv (by simp), h4⟩
      | outgrown => exact ⟨s, h1, h2, lv (by simp), h4⟩
    · rename_i ws hws
      split at hv
      · exact hv.elim
      · rename_i slots hslots
        split at hv
        · exact hv.elim
        · rename_i vs0 hvs0
          obtain ⟨I, M, hv⟩ := hv
          obtain ⟨B, hI0, hall⟩ := withB_out hv
          rw [opens_iff] at hall
          obtain ⟨hop0, hall⟩ := hall
          obtain ⟨st0, hst0, hag0, hge0, hf0, hds0⟩ := head_of_vals (carry_in hslots) (.refl ws st) h hvs0
          refine wpIn_loop_ghost (fun n a' w' => ∃ vs st1 ds, headSt st ws slots vs = some st1 ∧ Agree C.N { st1 with ds := ds } a' ∧ st1.ge = [] ∧ FrE ws st st1 ∧ atI I vs w' ∧ atN M vs w' = n ∧ (pushes C (hasRg b) = true → Open B ds w') ∧ (pushes C (hasRg b) = false → ds = st.ds) ∧ st1.ds = st.ds) (n := atN M vs0 w) ?_
            ⟨vs0, st0, st.ds, hst0, hag0, hge0, hf0, hI0, rfl, hop0, fun _ => rfl, hds0⟩
          rintro n a' w' ⟨vs, st1, ds, hst1, hag, hge1, hf1, hI, rfl, hop, hdse, hds1⟩
          have hb := AllL_at hall hI w' hI
          rw [hst1] at hb
          have hb' := allDs_at hb hop (ds' := ds) (fun hp => hdse hp)
          refine wpIn_mono (ih C _ { st1 with ds := ds } a' w' hge1 hag hb') ?_
          rintro ex a2 w2 ⟨s, h1, h2, h3, h4⟩
          have hx : ex ≠ .normal → FrX C (.loop b) ex st s := fun hne =>
            ⟨out ex { st1 with ds := ds } s ws (fun zs' hz => by rw [hws] at hz; cases hz; rfl) (frE_ds hf1) (fun hn => by rw [hws] at hn; cases hn) h3.e hne, fun hp => (h3.ds hp).trans (hdse hp)⟩
          cases ex with
          | normal =>
            obtain ⟨ws', hw, hf⟩ := h3.e
            have : ws' = ws := by rw [hws] at hw; cases hw; rfl
            subst this
            rw [opens_iff] at h4
            obtain ⟨hop4, h4⟩ := h4
            split at h4
            · rename_i vs' hvs'
              obtain ⟨st2, hst2, hag2, hge2, hf2, hds2⟩ := head_of_vals (carry_in hslots) ((frE_ds hf1).trans hf) h2 hvs'
              exact ⟨_, h4.2, vs', st2, s.ds, hst2, hag2, hge2, hf2, h4.1, rfl, hop4, fun hp => (h3.ds hp).trans (hdse hp), hds2⟩
            · exact h4.elim
          | exit j => exact ⟨s, h1, h2, hx (by simp), h4⟩
          | goto l => exact ⟨s, h1, h2, hx (by simp), h4⟩
          | ret => exact ⟨s, h1, h2, hx (by simp), h4⟩
          | panic ch => exact ⟨s, h1, h2, hx (by simp), h4⟩
          | outgrown => exact ⟨s, h1, h2, hx (by simp), h4⟩

/-! ### Functions -/
theorem resVC_run {N : Nat} {st : St} {a : Act} {w : World} (h : Agree N st a) : ∀ {rs : List ResultVar} {F : List SV → Prop}, resVC P st w rs F →
    ∃ xs, F xs ∧ ∀ g : ResultVar → Sem Value, (∀ t, g (.tmp t) = pure (a.tmps.getD t undef)) → (∀ d t, g (.cell d t) = do loadVar t (← asAddr (a.tmps.getD d undef))) → (rs.mapM g).run P w = .ok (dens xs) w := by
  intro rs
  induction rs with
  | nil => intro F hF; exact ⟨[], hF, fun g _ _ => by simp [dens]⟩
  | cons r rs ih =>
    intro F hF
    cases r with
    | tmp t =>
      dsimp only [resVC] at hF
      split at hF
      · rename_i x hx
        obtain ⟨xs, hF, hxs⟩ := ih hF
        refine ⟨x :: xs, hF, fun g g1 g2 => ?_⟩
        simp only [List.mapM_cons, Sem.run_bind, g1, Sem.run_pure, Result.andThen_ok, hxs g g1 g2, h.e _ _ hx, dens]
      · exact hF.elim
    | cell d t =>
      dsimp only [resVC] at hF
      split at hF
      · rename_i x ty hx hty
        obtain ⟨b, o, hp, hF⟩ := asPtr_out hF
        obtain ⟨y, hF, hy⟩ := loadT_out hty hF
        obtain ⟨xs, hF, hxs⟩ := ih hF
        refine ⟨y :: xs, hF, fun g g1 g2 => ?_⟩
        have hd := h.e _ _ hx
        rw [hp] at hd
        simp only [List.mapM_cons, Sem.run_bind, g2, Sem.run_pure, Result.andThen_ok, hd, asAddr, hy w (fun _ => rfl), hxs g g1 g2, dens]
      · exact hF.elim

theorem ofResults_den (xs : List SV) : (ofResults xs).den = (if h : (dens xs).toArray.size = 1 then (dens xs).toArray[0] else .tuple (dens xs).toArray) := by
  have hd : ∀ l : List SV, dens l = l.map SV.den := by intro l; induction l <;> simp_all [dens]
  cases xs with
  | nil => simp [ofResults, dens, SV.den]
  | cons x r =>
    cases r with
    | nil => simp [ofResults, dens]
    | cons y r => simp [ofResults, dens, SV.den, hd]

theorem initE_get : ∀ (args : List Value) (k i : Nat) (x : SV), lkE (initE args k) i = some x → k ≤ i ∧ ∃ v, args[i - k]? = some v ∧ x.den = v := by
  intro args
  induction args with
  | nil => intro k i x h; simp [initE, lkE] at h
  | cons v r ih =>
    intro k i x h
    simp only [initE, lkE] at h
    split at h
    · rename_i hb
      cases h
      have := nbeq.1 hb
      subst this
      exact ⟨Nat.le_refl _, v, by simp, rfl⟩
    · obtain ⟨h1, u, h2, h3⟩ := ih (k + 1) i x h
      refine ⟨by omega, u, ?_, h3⟩
      rw [show i - k = (i - (k + 1)) + 1 by omega]
      simpa using h2

theorem leaves_unD {fn : Func} {tmps : Array Value} {R : Ending → World → Prop} {F : World → Prop} {n : Nat} {Fe : Fence} :
    ∀ (ds : List Nat) (w : World), unD ds w F → (∀ w', F w' → ∃ v, (results fn tmps).run P w' = .ok v w' ∧ R (.returned v) w') →
      LeavesInM Fe n P fn tmps R (ds.map fun r => { target := .collected r, args := #[] }) .returning w := by
  intro ds
  induction ds with
  | nil => intro w hu hF; exact hF w hu
  | cons d r ih =>
    intro w hu hF
    refine ⟨by simp, .inl ⟨d, _, rfl, run_takeDeferred hu.1, ih _ hu.2 hF⟩⟩

theorem retQ_post {fn : Func} {R : Ending → World → Prop} {C : Cfg} {c : Code} {st0 : St} {Fe : Fence} {n : Nat} : ∀ ex a w, Post C c (retQ P fn R) st0 ex a w → bodyPostM Fe n P fn R ex a w := by
  have main : ∀ st a w, Agree C.N st a → (unD st.ds w fun w' => resVC P st w' fn.results.toList fun xs => R (.returned (ofResults xs).den) w') →
      LeavesInM Fe n P fn a.tmps R a.defers .returning w := by
    intro st a w hag hq
    rw [hag.defers]
    refine leaves_unD st.ds w hq fun w' hr => ?_
    obtain ⟨xs, hR, hrun⟩ := resVC_run hag hr
    refine ⟨_, ?_, hR⟩
    unfold results
    rw [Sem.run_bind, Array.mapM_eq_mapM_toList]
    simp only [Sem.run_map]
    rw [hrun _ (fun t => rfl) (fun d t => rfl)]
    simp only [Result.andThen_ok, Sem.run_pure, ofResults_den]
  rintro ex a w ⟨st, _, hag, _, hq⟩
  cases ex with
  | normal => exact main st a w hag hq
  | ret => exact main st a w hag hq
  | _ => exact hq.elim

/-- **A FUNCTION's CONTRACT OUT OF ITS VERIFICATION CONDITION.** -/
theorem calls_of_vc {f : FuncId} {fn : Func} {args : List Value} {w : World} {R : Ending → World → Prop} (cuts : List Nat) (ords : List (Nat × List Nat)) (hm : P.follows .mixedOrders = true)
    (hf : P.funcs[f]? = some fn) (hv : vcFn P cuts ords fn args w R) : Calls P f args.toArray w R := by
  unfold vcFn at hv
  split at hv
  · exact hv.elim
  · rename_i c hb
    split at hv
    · rename_i hle
      have hle := Nat.le_of_ble_eq_true hle
      have hag : Agree (cfgOf cuts ords fn).N { e := initE args 0, ge := [], ds := [] } { tmps := args.toArray ++ Array.replicate (fn.ntmps - args.toArray.size) undef, defers := [] } := by
        refine ⟨by simp [cfgOf]; omega, rfl, ?_, fun i d hd => by simp [lkG] at hd, fun i d hd => by simp [lkG] at hd⟩
        intro i x hx
        obtain ⟨_, v, hv1, hv2⟩ := initE_get args 0 i x hx
        rw [hv2]
        simp only [Nat.sub_zero] at hv1
        have hi : i < args.length := (List.getElem?_eq_some_iff.1 hv1).1
        simp [Array.getD_eq_getD_getElem?, Array.getElem?_append, hi]
        exact (List.getElem?_eq_some_iff.1 hv1).2
      have := vc_sound hm c (cfgOf cuts ords fn) (retQ P fn R) _ _ w rfl hag hv
      exact (callsIn_wide (n := 0)).1 (callsIn_of_wp_marks (F := Fence.wide) hf hb trivial (wpIn_mono this retQ_post))
    · exact hv.elim
end

end Go.Vc

/- What lies in memory, in the words of the contracts: values in a row, blocks and rows of one's own, what each step leaves as it was. -/
namespace Go.Vc
open Go Go.RowKit

/-! ### Steps -/
/-- All that was there is as it was. -/
def Ext (w w' : World) : Prop := Below w.heap.size w w'

theorem Ext.below {w w' : World} (h : Ext w w') : Below w.heap.size w w' := h
theorem Ext.size {w w' : World} (h : Ext w w') : w.heap.size ≤ w'.heap.size := h.below.size
theorem Ext.block {w w' : World} (h : Ext w w') (k : Nat) (hk : k < w.heap.size) : w'.heap[k]? = w.heap[k]? := h.below.block k hk
theorem Ext.rfl {w : World} : Ext w w := Below.refl _ _
theorem Ext.trans {a b c : World} (h : Ext a b) (k : Ext b c) : Ext a c := h.below.trans (k.below.mono h.size)
theorem Ext.same {bs : Option (List Nat)} {wr w w' : World} (h : Ext w w') : SameTo bs wr w w' := fun k _ hk => h.block k hk
theorem _root_.Go.RowKit.Below.ext {B : Nat} {a w w' : World} (h : Below B a w) (k : Ext w w') (hB : B ≤ w.heap.size) : Below B a w' := h.trans (k.below.mono hB)
theorem _root_.Go.RowKit.Below.cast {B B' : Nat} {a w : World} (h : Below B a w) (e : B = B') : Below B' a w := e ▸ h

/-- All is as it was but for block b. -/
structure But (b : Nat) (w w' : World) : Prop where
  os : w'.os = w.os
  tape : w'.tape = w.tape
  output : w'.output = w.output
  size : w.heap.size ≤ w'.heap.size
  block : ∀ k, k < w.heap.size → k ≠ b → w'.heap[k]? = w.heap[k]?

theorem Ext.but {w w' : World} (h : Ext w w') (b : Nat) : But b w w' := ⟨h.below.os, h.below.tape, h.below.output, h.size, fun k hk _ => h.block k hk⟩
theorem But.sameIn {b : Nat} {l : List Nat} {wr w w' : World} (h : But b w w') (hb : b ∉ l) : SameTo (some l) wr w w' := fun k hk hw => h.block k hw (fun e => hb (e ▸ hk))
theorem But.trans {b : Nat} {x y z : World} (h : But b x y) (k : But b y z) : But b x z :=
  ⟨k.os.trans h.os, k.tape.trans h.tape, k.output.trans h.output, Nat.le_trans h.size k.size, fun i hi hne => (k.block i (Nat.lt_of_lt_of_le hi h.size) hne).trans (h.block i hi hne)⟩
theorem _root_.Go.RowKit.Below.but {B b : Nat} {a w w' : World} (h : Below B a w) (k : But b w w') (hb : B ≤ b) (hB : B ≤ w.heap.size) : Below B a w' :=
  h.trans ⟨k.os, k.tape, k.output, k.size, fun i hi => k.block i (by omega) (by omega)⟩

theorem New.ext {w w' : World} {o : Obj} {b : Nat} (h : New w o b w') : Ext w w' := by rw [h.2]; exact (Below.refl _ w).alloc (Nat.le_refl _) o
theorem New.size {w w' : World} {o : Obj} {b : Nat} (h : New w o b w') : b = w.heap.size ∧ w'.heap.size = w.heap.size + 1 := ⟨h.1, by rw [h.2]; simp⟩
theorem New.obj {w w' : World} {o : Obj} {b : Nat} (h : New w o b w') : w'.heap[b]? = some o := by rw [h.2, h.1]; exact World.alloc_heap_new w o
theorem Drew.ext {w w' : World} (h : Drew w w') : Ext w w' := by rw [h]; exact (Below.refl _ w).drew
theorem Drew.size {w w' : World} (h : Drew w w') : w'.heap.size = w.heap.size := by rw [h]; rfl
theorem drew_ext (w : World) : Ext w w.drew := (Below.refl _ w).drew

theorem setL_but : ∀ (vs : List Value) (b o j : Nat) (w : World), But b w (setL vs b o j w) ∧ (setL vs b o j w).heap.size = w.heap.size
  | [], _, _, _, w => ⟨⟨rfl, rfl, rfl, Nat.le_refl _, fun _ _ _ => rfl⟩, rfl⟩
  | v :: vs, b, o, j, w => by
    obtain ⟨h, hs⟩ := setL_but vs b o (j + 1) (w.setCell ⟨b, off o j, none⟩ v)
    have h1 : But b w (w.setCell ⟨b, off o j, none⟩ v) := ⟨rfl, rfl, rfl, by simp [World.setCell], fun k _ hne => Below.heap_setCell w _ v k hne⟩
    exact ⟨h1.trans h, by rw [setL, hs]; simp [World.setCell]⟩
theorem Put.but {w w' : World} {b o : Nat} {vs : List Value} (h : Put w b o vs w') : But b w w' := by rw [h]; exact (setL_but vs b o 0 w).1
theorem Put.size {w w' : World} {b o : Nat} {vs : List Value} (h : Put w b o vs w') : w'.heap.size = w.heap.size := by rw [h]; exact (setL_but vs b o 0 w).2
theorem grown_but {w w' : World} {b o n c : Nat} (h : w.grownBy w' (Value.slice (some ⟨b, o, none⟩) n c).ownBlock) : But b w w' := ⟨h.os, h.tape, h.output, h.size, fun k hk hne => h.block k hk (by intro e; cases e; exact hne rfl)⟩
theorem grown_nil {w w' : World} {n c : Nat} (h : w.grownBy w' (Value.slice none n c).ownBlock) : Ext w w' := ⟨h.os, h.tape, h.output, h.size, fun k hk => h.block k hk (by intro e; cases e)⟩

theorem turn_but {r : Nat → Loop} {l k : Nat} {w : World} : But l w (turn r l k w) ∧ (turn r l k w).heap.size = w.heap.size :=
  ⟨⟨rfl, rfl, rfl, by simp [turn], fun i _ hne => World.putObj_heap_other hne⟩, by simp [turn]⟩
theorem Rec.lt {r : Nat → Loop} {l k : Nat} {w : World} (h : Rec r l k w) : l < w.heap.size := (Array.getElem?_eq_some_iff.1 h).1
theorem Rec.turn {r : Nat → Loop} {l k : Nat} {w : World} (h : Rec r l k w) (k' : Nat) : Rec r l k' (turn r l k' w) := World.putObj_heap_same h.lt
theorem Rec.ext {r : Nat → Loop} {l k : Nat} {w w' : World} (h : Rec r l k w) (e : Ext w w') : Rec r l k w' := (e.block l h.lt).trans h
theorem Rec.but {r : Nat → Loop} {l k b : Nat} {w w' : World} (h : Rec r l k w) (e : But b w w') (hne : l ≠ b) : Rec r l k w' := (e.block l h.lt hne).trans h

theorem Began.ext {w w1 : World} {r : Nat → Loop} {d l : Nat} (h : Began w r d l w1) : Ext w w1 := by
  rw [h.2.2]; exact ((Below.refl _ w).alloc (Nat.le_refl _) _).alloc (by simp) _
/-- The block for deferred calls is open. -/
def Dfr (d : Nat) (w : World) : Prop := w.heap[d]? = some (.deferred (some []))
theorem Began.dfr {w w1 : World} {r : Nat → Loop} {d l : Nat} (h : Began w r d l w1) : Dfr d w1 := by
  unfold Dfr
  rw [h.2.2, h.1]
  rw [Below.heap_alloc _ _ _ (by simp)]
  exact World.alloc_heap_new w _
theorem Dfr.lt {d : Nat} {w : World} (h : Dfr d w) : d < w.heap.size := (Array.getElem?_eq_some_iff.1 h).1
theorem Dfr.ext {d : Nat} {w w' : World} (h : Dfr d w) (e : Ext w w') : Dfr d w' := (e.block d h.lt).trans h
theorem Dfr.but {d b : Nat} {w w' : World} (h : Dfr d w) (e : But b w w') (hne : d ≠ b) : Dfr d w' := (e.block d h.lt hne).trans h
/-! ### Blocks -/
/-- Block b holds the cells cs, and none of them is frozen. -/
def Blk (w : World) (b : Nat) (t : TypeId) (cs : Array Value) : Prop := w.heap[b]? = some (.cells cs t (0, 0))

theorem Blk.new {w w' : World} {b : Nat} {t : TypeId} {cs : Array Value} (h : New w (.cells cs t) b w') : Blk w' b t cs := h.obj
theorem Blk.lt {w : World} {b : Nat} {t : TypeId} {cs : Array Value} (h : Blk w b t cs) : b < w.heap.size := (Array.getElem?_eq_some_iff.1 h).1
theorem Blk.ext {w w' : World} {b : Nat} {t : TypeId} {cs : Array Value} (h : Blk w b t cs) (e : Ext w w') : Blk w' b t cs := (e.block b h.lt).trans h
theorem Blk.but {w w' : World} {b b' : Nat} {t : TypeId} {cs : Array Value} (h : Blk w b t cs) (e : But b' w w') (hne : b ≠ b') : Blk w' b t cs := (e.block b h.lt hne).trans h
theorem Blk.cell {w : World} {b : Nat} {t : TypeId} {cs : Array Value} (h : Blk w b t cs) (i : Nat) : w.cell? ⟨b, i, none⟩ = cs[i]? := by
  unfold World.cell?
  rw [show w.heap[b]? = _ from h]
  simp
/-- The one cell of a box. -/
theorem Blk.one {w : World} {b : Nat} {t : TypeId} {v : Value} (h : Blk w b t #[v]) : w.cell? ⟨b, 0, none⟩ = some v := by rw [h.cell]; rfl
theorem Blk.frozen {w : World} {b : Nat} {t : TypeId} {cs : Array Value} (h : Blk w b t cs) (i : Nat) : w.frozen? ⟨b, i, none⟩ = false := by
  unfold World.frozen?
  rw [show w.heap[b]? = _ from h]
  simp
theorem Blk.set {w : World} {b : Nat} {t : TypeId} {cs : Array Value} (h : Blk w b t cs) (i : Nat) (v : Value) : Blk (w.setCell ⟨b, i, none⟩ v) b t (cs.setIfInBounds i v) := by
  unfold Blk World.setCell
  rw [Array.getElem?_modify, if_pos rfl, show w.heap[b]? = _ from h]
  simp
def setA : Array Value → Nat → List Value → Array Value
  | cs, _, [] => cs
  | cs, i, v :: vs => setA (cs.setIfInBounds i v) (i + 1) vs
theorem off_succ (o j : Nat) : off o (j + 1) = off o j + 1 := by cases j <;> rfl
theorem Blk.setL : ∀ (vs : List Value) {w : World} {b : Nat} {t : TypeId} {cs : Array Value} (o j : Nat), Blk w b t cs → Blk (setL vs b o j w) b t (setA cs (off o j) vs)
  | [], _, _, _, _, _, _, h => h
  | v :: vs, w, b, t, cs, o, j, h => by
    have := Blk.setL vs o (j + 1) (h.set (off o j) v)
    rw [off_succ] at this
    exact this
theorem Blk.put {w w' : World} {b : Nat} {t : TypeId} {cs : Array Value} {o : Nat} {vs : List Value} (h : Blk w b t cs) (p : Put w b o vs w') : Blk w' b t (setA cs o vs) := by
  rw [p]; exact Blk.setL vs o 0 h
theorem Blk.box {w w' : World} {b : Nat} {t : TypeId} {u v : Value} (h : Blk w b t #[u]) (p : Put w b 0 [v] w') : Blk w' b t #[v] := h.put p
theorem Blk.ne_rec {w : World} {b l k : Nat} {t : TypeId} {cs : Array Value} {r : Nat → Loop} (h : Blk w b t cs) (k' : Rec r l k w) : b ≠ l := by
  intro e; subst e; unfold Blk at h; unfold Rec at k'; rw [h] at k'; cases k'
theorem Blk.ne_dfr {w : World} {b d : Nat} {t : TypeId} {cs : Array Value} (h : Blk w b t cs) (k' : Dfr d w) : b ≠ d := by
  intro e; subst e; unfold Blk at h; unfold Dfr at k'; rw [h] at k'; cases k'
theorem Rec.ne_dfr {w : World} {l k d : Nat} {r : Nat → Loop} (h : Rec r l k w) (k' : Dfr d w) : l ≠ d := by
  intro e; subst e; unfold Rec at h; unfold Dfr at k'; rw [h] at k'; cases k'

/-! ### Values in a row -/
/-- The values vs lie at p, one behind the other. -/
def At (w : World) (p : Option Addr) (vs : List Value) : Prop :=
  vs = [] ∨ ∃ b o, p = some ⟨b, o, none⟩ ∧ ∀ i v, vs[i]? = some v → w.cell? ⟨b, o + i, none⟩ = some v

/-- Bytes as values. -/
def vB (l : List UInt8) : List Value := l.map fun x => .int .u8 ((x.toNat : Nat) : Int)
/-- Integers of a kind as values. -/
def vI (k : IntKind) (l : List Int) : List Value := l.map fun x => .int k x

theorem vB_length (l : List UInt8) : (vB l).length = l.length := by simp [vB]
theorem vI_length (k : IntKind) (l : List Int) : (vI k l).length = l.length := by simp [vI]
theorem vB_append (a b : List UInt8) : vB (a ++ b) = vB a ++ vB b := by simp [vB]
theorem vB_one {l : List UInt8} : ∀ u ∈ vB l, u.oneCell' = true := by intro u hu; obtain ⟨x, _, rfl⟩ := List.mem_map.1 hu; rfl
theorem vI_one {k : IntKind} {l : List Int} : ∀ u ∈ vI k l, u.oneCell' = true := by intro u hu; obtain ⟨x, _, rfl⟩ := List.mem_map.1 hu; rfl
theorem cell_lt {w : World} {b o : Nat} {v : Value} (h : w.cell? ⟨b, o, none⟩ = some v) : b < w.heap.size := World.block_lt_of_cell? w _ h
theorem cell_of {w w' : World} {b o : Nat} {v : Value} (h : w.cell? ⟨b, o, none⟩ = some v) (hb : w'.heap[b]? = w.heap[b]?) : w'.cell? ⟨b, o, none⟩ = some v := by
  rw [← h]; simp [World.cell?, hb]
theorem cell_ext {w w' : World} {b o : Nat} {v : Value} (h : w.cell? ⟨b, o, none⟩ = some v) (e : Ext w w') : w'.cell? ⟨b, o, none⟩ = some v := cell_of h (e.block b (cell_lt h))

theorem At.nil (w : World) (p : Option Addr) : At w p [] := .inl rfl

theorem At.get {w : World} {p : Option Addr} {vs : List Value} (h : At w p vs) {i : Nat} (hi : i < vs.length) : ∃ b o, p = some ⟨b, o, none⟩ ∧ w.cell? ⟨b, o + i, none⟩ = some vs[i] := by
  rcases h with rfl | ⟨b, o, hp, hc⟩
  · simp at hi
  · exact ⟨b, o, hp, hc i _ (List.getElem?_eq_getElem hi)⟩
theorem At.getI {w : World} {p : Option Addr} {k : IntKind} {l : List Int} (h : At w p (vI k l)) {i : Nat} (hi : i < l.length) : ∃ b o, p = some ⟨b, o, none⟩ ∧ w.cell? ⟨b, o + i, none⟩ = some (.int k l[i]) := by
  obtain ⟨b, o, hp, hc⟩ := h.get (i := i) (by rw [vI_length]; exact hi)
  exact ⟨b, o, hp, by simpa [vI] using hc⟩

/-- A world in which p's block lies as it lay. -/
theorem At.kept {w w' : World} {p : Option Addr} {vs : List Value} (h : At w p vs) (hk : ∀ b o, p = some ⟨b, o, none⟩ → b < w.heap.size → w'.heap[b]? = w.heap[b]?) : At w' p vs := by
  rcases h with rfl | ⟨b, o, rfl, hc⟩
  · exact .inl rfl
  · refine .inr ⟨b, o, rfl, fun i v hv => ?_⟩
    have := hc i v hv
    exact cell_of this (hk b o rfl (cell_lt this))
theorem At.ext {w w' : World} {p : Option Addr} {vs : List Value} (h : At w p vs) (e : Ext w w') : At w' p vs := h.kept fun b _ _ hlt => e.block b hlt
theorem At.but {w w' : World} {b : Nat} {p : Option Addr} {vs : List Value} (h : At w p vs) (e : But b w w') (hne : ∀ b' o, p = some ⟨b', o, none⟩ → b' ≠ b) : At w' p vs := h.kept fun b' o hp hlt => e.block b' hlt (hne b' o hp)
theorem Blk.at {w : World} {b : Nat} {t : TypeId} {cs : Array Value} (h : Blk w b t cs) : At w (some ⟨b, 0, none⟩) cs.toList :=
  .inr ⟨b, 0, rfl, fun i v hv => by rw [h.cell, Nat.zero_add]; simpa using hv⟩
theorem New.at {w w' : World} {b : Nat} {t : TypeId} {cs : Array Value} {f : Nat × Nat} (h : New w (.cells cs t f) b w') : At w' (some ⟨b, 0, none⟩) cs.toList := by
  refine .inr ⟨b, 0, rfl, fun i v hv => ?_⟩
  rw [cell_of_row w' b (0 + i) cs t f h.obj]
  simpa using hv

theorem At.take {w : World} {p : Option Addr} {vs : List Value} (h : At w p vs) (n : Nat) : At w p (vs.take n) := by
  rcases h with rfl | ⟨b, o, rfl, hc⟩
  · exact .inl (by simp)
  · refine .inr ⟨b, o, rfl, fun i v hv => hc i v ?_⟩
    rw [List.getElem?_take] at hv
    split at hv
    · exact hv
    · cases hv

/-- s[l:k], of cells of size s. -/
theorem At.slice {w : World} {p : Option Addr} {vs : List Value} (h : At w p vs) (l k m s : Nat) (hk : k ≤ m) : At w (slBase p l m s) ((vs.take (k * s)).drop (l * s)) := by
  unfold slBase
  split
  · rename_i hm
    subst hm
    refine .inl ?_
    rw [List.drop_eq_nil_iff, List.length_take]
    have := Nat.mul_le_mul_right s hk
    omega
  · rcases h with rfl | ⟨b, o, rfl, hc⟩
    · exact .inl (by simp)
    · refine .inr ⟨b, o + l * s, ?_, fun i v hv => ?_⟩
      · simp only [Option.map, Addr.add_lit]
      · rw [List.getElem?_drop, List.getElem?_take] at hv
        split at hv
        · have := hc _ _ hv; rwa [← Nat.add_assoc] at this
        · cases hv
theorem slBase_none {p : Option Addr} {l m s : Nat} (h : slBase p l m s = none) : p = none := by
  unfold slBase at h
  split at h
  · exact h
  · cases p with
    | none => rfl
    | some y => cases h

theorem At.bytes {w : World} {p : Option Addr} {l : List UInt8} (h : At w p (vB l)) : BytesAt w p l.length l := by
  refine ⟨rfl, fun hpos => ?_⟩
  rcases h with h | ⟨b, o, rfl, hc⟩
  · have := congrArg List.length h; simp [vB] at this; subst this; simp at hpos
  · refine ⟨b, o, rfl, fun i hi => hc i _ ?_⟩
    simp [vB, hi]
theorem At.bytes' {w : World} {p : Option Addr} {l : List UInt8} {n : Nat} (h : At w p (vB l)) (hn : l.length = n) : BytesAt w p n l := hn ▸ h.bytes

/-! ### Rows of one's own -/
/-- The slice (p, n, c) of elements of s cells leads to a row of our own that holds vs, or is nil. -/
def Mine (B : Nat) (t : TypeId) (s : Nat) (w : World) (p : Option Addr) (n c : Nat) (vs : List Value) : Prop := w.ownsRow B t s (.slice p n c) n vs

section
variable {B : Nat} {t : TypeId} {s : Nat} {w w' : World} {p : Option Addr} {n c : Nat} {vs : List Value}
theorem Mine.nil (B : Nat) (t : TypeId) (s : Nat) (w : World) : Mine B t s w none 0 0 [] := World.ownsRow_nil w B t s
theorem Mine.len (h : Mine B t s w p n c vs) : vs.length = n * s := h.1
theorem Mine.at (h : Mine B t s w p n c vs) : At w p vs := by
  rcases h.2 with ⟨e, hn⟩ | ⟨g, cap, cur, e, hb, hg, h1, h2, h3, h4⟩
  · cases e; left; have := h.1; cases vs with | nil => rfl | cons _ _ => simp at this
  · cases e
    refine .inr ⟨g, 0, rfl, fun i v hv => ?_⟩
    rw [cell_of_row w g (0 + i) cur t (0, 0) hg, Nat.zero_add]
    rw [← h4, List.getElem?_take] at hv
    split at hv
    · simpa using hv
    · cases hv
theorem Mine.ge (h : Mine B t s w p n c vs) : ∀ b o, p = some ⟨b, o, none⟩ → B ≤ b ∧ b < w.heap.size := by
  intro b o hp; subst hp; exact World.ownsRow.lt h b rfl
theorem Mine.shape (h : Mine B t s w p n c vs) : (p = none ∧ n = 0 ∧ c = 0 ∧ vs = []) ∨ ∃ b, p = some ⟨b, 0, none⟩ ∧ B ≤ b ∧ b < w.heap.size := by
  rcases h.2 with ⟨e, hn⟩ | ⟨g, cap, cur, e, hb, hg, _⟩
  · cases e; left; have := h.1; exact ⟨rfl, rfl, rfl, by cases vs with | nil => rfl | cons _ _ => simp at this⟩
  · cases e; exact .inr ⟨g, rfl, hb, (Array.getElem?_eq_some_iff.1 hg).1⟩
theorem Mine.kept (h : Mine B t s w p n c vs) (hk : ∀ b o, p = some ⟨b, o, none⟩ → b < w.heap.size → w'.heap[b]? = w.heap[b]?) : Mine B t s w' p n c vs := by
  refine ⟨h.1, ?_⟩
  rcases h.2 with hn | ⟨g, cap, cur, e, hb, hg, rest⟩
  · exact .inl hn
  · cases e
    exact .inr ⟨g, c, cur, rfl, hb, (hk g 0 rfl (Array.getElem?_eq_some_iff.1 hg).1).trans hg, rest⟩
theorem Mine.ext (h : Mine B t s w p n c vs) (e : Ext w w') : Mine B t s w' p n c vs := h.kept fun b _ _ hlt => e.block b hlt
theorem Mine.but {b : Nat} (h : Mine B t s w p n c vs) (e : But b w w') (hne : ∀ b' o, p = some ⟨b', o, none⟩ → b' ≠ b) : Mine B t s w' p n c vs := h.kept fun b' o hp hlt => e.block b' hlt (hne b' o hp)
theorem Mine.mono {B' : Nat} (h : Mine B t s w p n c vs) (hB : B' ≤ B) : Mine B' t s w p n c vs := by
  refine ⟨h.1, ?_⟩
  rcases h.2 with hn | ⟨g, cap, cur, e, hb, rest⟩
  · exact .inl hn
  · exact .inr ⟨g, cap, cur, e, by omega, rest⟩
theorem Mine.cap (h : Mine B t s w p n c vs) : n ≤ c ∧ c ≤ maxLen := by
  rcases h.2 with ⟨e, hn⟩ | ⟨g, cap, cur, e, hb, _, h1, h2, _⟩
  · cases e; simp [hn]
  · cases e; exact ⟨h1, h2⟩
theorem Mine.isNil (h : Mine B t s w p n c vs) (hp : p = none) : n = 0 ∧ c = 0 := by
  rcases h.2 with ⟨e, hn⟩ | ⟨g, cap, cur, e, _⟩
  · exact ⟨(Value.slice.inj e).2.1, (Value.slice.inj e).2.2⟩
  · subst hp; have := (Value.slice.inj e).1; cases this
/-- A row just made, of which nothing is in use. -/
theorem Mine.made {b : Nat} {cur : Array Value} {cap : Nat} (h : New w (.cells cur t) b w') (hB : B ≤ w.heap.size) (hm : cap ≤ maxLen) (hs : cur.size = cap * s) : Mine B t s w' (some ⟨b, 0, none⟩) 0 cap [] := by
  obtain ⟨rfl, rfl⟩ := h
  exact World.ownsRow_made w cur cap hB hm hs
/-- A row just laid, all of it in use. -/
theorem Mine.lit {b : Nat} {cur : Array Value} {cap : Nat} (h : New w (.cells cur t) b w') (hB : B ≤ w.heap.size) (hm : cap ≤ maxLen) (hs : cur.size = cap * s) : Mine B t s w' (some ⟨b, 0, none⟩) cap cap cur.toList := by
  obtain ⟨rfl, rfl⟩ := h
  exact World.ownsRow_lit w cur cap hB hm hs
theorem Mine.ne_rec {b o l k : Nat} {r : Nat → Loop} (h : Mine B t s w p n c vs) (hp : p = some ⟨b, o, none⟩) (k' : Rec r l k w) : b ≠ l := by
  rcases h.2 with ⟨e, hn⟩ | ⟨g, cap, cur, e, hb, hg, _⟩
  · subst hp; cases e
  · subst hp; cases e; intro e; subst e; unfold Rec at k'; rw [hg] at k'; cases k'
theorem Mine.ne_dfr {b o d : Nat} (h : Mine B t s w p n c vs) (hp : p = some ⟨b, o, none⟩) (k' : Dfr d w) : b ≠ d := by
  rcases h.2 with ⟨e, hn⟩ | ⟨g, cap, cur, e, hb, hg, _⟩
  · subst hp; cases e
  · subst hp; cases e; intro e; subst e; unfold Dfr at k'; rw [hg] at k'; cases k'
/-- The row's block by itself. -/
theorem Mine.blk (h : Mine B t s w p n c vs) (hn : 0 < n ∨ p ≠ none) : ∃ b cur, p = some ⟨b, 0, none⟩ ∧ B ≤ b ∧ Blk w b t cur ∧ cur.size = c * s ∧ cur.toList.take (n * s) = vs := by
  rcases h.2 with ⟨e, hn'⟩ | ⟨g, cap, cur, e, hb, hg, h1, h2, h3, h4⟩
  · cases e; rcases hn with hn | hn
    · omega
    · exact absurd rfl hn
  · cases e; exact ⟨g, cur, rfl, hb, hg, h3, h4⟩
/-- What was written into a row of one's own. -/
theorem setA_spec : ∀ (vs : List Value) (cs : Array Value) (o : Nat), (setA cs o vs).size = cs.size ∧ ∀ i, (setA cs o vs)[i]? = if o ≤ i ∧ i < o + vs.length ∧ i < cs.size then vs[i - o]? else cs[i]?
  | [], cs, o => ⟨rfl, fun i => by rw [if_neg (by simp; omega)]; rfl⟩
  | v :: vs, cs, o => by
    obtain ⟨h1, h2⟩ := setA_spec vs (cs.setIfInBounds o v) (o + 1)
    refine ⟨by simp only [setA, h1]; simp, fun i => ?_⟩
    simp only [setA, h2, Array.size_setIfInBounds, List.length_cons, Array.getElem?_setIfInBounds]
    by_cases ho : o = i
    · subst ho
      rw [if_neg (by omega)]
      by_cases hs : o < cs.size
      · rw [if_pos rfl, if_pos hs, if_pos (by omega)]; simp
      · rw [if_pos rfl, if_neg hs, if_neg (by omega)]; rw [Array.getElem?_eq_none (by omega)]
    · by_cases hc : o + 1 ≤ i ∧ i < o + 1 + vs.length ∧ i < cs.size
      · rw [if_pos hc, if_pos (by omega), show i - o = (i - (o + 1)) + 1 by omega]; simp
      · rw [if_neg hc, if_neg ho, if_neg (by omega)]
/-- A store into a row of one's own: element i becomes us. -/
theorem Mine.put {i : Nat} {us : List Value} (h : Mine B t s w p n c vs) (hi : i < n) (hu : us.length = s) :
    ∃ b, p = some ⟨b, 0, none⟩ ∧ B ≤ b ∧ b < w.heap.size ∧ (∀ j, j < s → (∃ u, w.cell? ⟨b, i * s + j, none⟩ = some u) ∧ w.frozen? ⟨b, i * s + j, none⟩ = false) ∧
      ∀ w', Put w b (i * s) us w' → Mine B t s w' p n c (vs.take (i * s) ++ us ++ vs.drop (i * s + s)) := by
  obtain ⟨b, cur, hp, hB, hblk, hsz, htk⟩ := h.blk (.inl (by omega))
  have hcap := h.cap
  have hlen := h.len
  have h1 : i * s + s ≤ n * s := by rw [← Nat.succ_mul]; exact Nat.mul_le_mul_right s hi
  have h2 : n * s ≤ c * s := Nat.mul_le_mul_right s hcap.1
  refine ⟨b, hp, hB, hblk.lt, fun j hj => ⟨?_, hblk.frozen _⟩, fun w' hput => ?_⟩
  · rw [hblk.cell]; exact ⟨cur[i * s + j]'(by omega), by simp⟩
  · have hb' := hblk.put hput
    obtain ⟨s1, s2⟩ := setA_spec us cur (i * s)
    refine ⟨by simp only [List.length_append, List.length_take, List.length_drop, hu]; omega, .inr ⟨b, c, _, by rw [hp], hB, hb', hcap.1, hcap.2, by rw [s1, hsz], ?_⟩⟩
    apply List.ext_getElem?
    intro k
    rw [List.getElem?_take]
    have hk2 : (setA cur (i * s) us).toList[k]? = (setA cur (i * s) us)[k]? := by simp
    rw [hk2, s2]
    have hvs : ∀ k, k < n * s → vs[k]? = cur[k]? := fun k hk => by rw [← htk, List.getElem?_take, if_pos hk]; simp
    by_cases hk : k < n * s
    · rw [if_pos hk]
      by_cases hc : i * s ≤ k ∧ k < i * s + us.length ∧ k < cur.size
      · rw [if_pos hc, List.append_assoc, List.getElem?_append_right (by simp; omega), List.getElem?_append_left (by simp; omega)]
        congr 1; simp; omega
      · rw [if_neg hc, ← hvs k hk]
        rcases Nat.lt_or_ge k (i * s) with hlt | hge
        · rw [List.append_assoc, List.getElem?_append_left (by simp; omega), List.getElem?_take, if_pos hlt]
        · rw [List.getElem?_append_right (by simp; omega), List.getElem?_drop]
          congr 1; simp; omega
    · rw [if_neg hk, List.getElem?_eq_none]
      simp only [List.length_append, List.length_take, List.length_drop, hu]; omega
end

/-! ### append -/
/-- What append leaves: a row of our own with the new values behind the old ones; no other block has turned. -/
theorem append_own {P : Program} {t ty u : TypeId} {z : Ty} {B s : Nat} {w : World} {p q : Option Addr} {n c m d : Nat} {xs news : List Value} (ht : P.underlying t = some (.slice u)) (hz : tyOf P u = some z)
    (h1 : z.ls.length = s) (h0 : 0 < s) (hown : Mine B u s w p n c xs) (hat : At w q news) (hm : news.length = m * s) (hq : q = none → m = 0 ∧ d = 0) (hone : ∀ x ∈ news, x.oneCell' = true) (hB : B ≤ w.heap.size)
    (hroom : ((n + m) + (n + m) / 4 + 192) * z.bytes ≤ 281474976710656) (hlen : n + m ≤ maxLen) :
    ∃ p' c' w', (Builtin.append_ #[t, t] ty #[.slice p n c, .slice q m d]).run P w = .ok (.slice p' (n + m) c') w' ∧ Mine B u s w' p' (n + m) c' (xs ++ news) ∧ w.grownBy w' (Value.slice p n c).ownBlock := by
  obtain ⟨i, d', hi, hzz, hd, hsz, hls, hag, hby⟩ := tyOf_spec hz
  have hsize : i.size = s := by rw [hsz]; have := h1; rw [hls, length_leavesOf] at this; simpa using this
  cases q with
  | none =>
    obtain ⟨rfl, rfl⟩ := hq rfl
    have hn : news = [] := by cases news with | nil => rfl | cons _ _ => simp at hm
    subst hn
    refine ⟨p, c, w, ?_, by simpa using hown, ⟨rfl, rfl, rfl, Nat.le_refl _, fun _ _ _ => rfl⟩⟩
    have hcap := hown.cap.1
    cases p with
    | none => simp [Builtin.append_, run_underlying ht, sizeOf, typeInfo, hi, Builtin.lenOf, hcap, Builtin.firstCells]
    | some a => simp [Builtin.append_, run_underlying ht, sizeOf, typeInfo, hi, Builtin.lenOf, hcap, Builtin.firstCells, storeCells]
  | some a =>
    have hnews : ∀ j x, news[j]? = some x → w.cell? (a.add j) = some x := by
      intro j x hx
      rcases hat with rfl | ⟨b, o, hp, hc⟩
      · simp at hx
      · cases hp; rw [Addr.add_lit]; exact hc j x hx
    obtain ⟨v', w', hrun, hown', hg, _⟩ := run_append_own_wide (P := P) w B t ty u i z.zero s z.bytes ht hi hzz hsize hby.symm (by rw [← hsz]; exact hsize) h0 (.slice p n c) n xs hown a m d news hm
      hnews hone hlen hroom hB
    rcases hown'.2 with ⟨rfl, hn0⟩ | ⟨g, cap, cur, rfl, rest⟩
    · exact ⟨none, 0, w', by rw [hrun, hn0], by rw [hn0] at hown' ⊢; exact hown', hg⟩
    · exact ⟨some ⟨g, 0, none⟩, cap, w', hrun, hown', hg⟩

/-- append(nil, make([]T, n)...): a row of our own that begins empty when it is cut to nothing. -/
theorem append_zeros_nil {P : Program} {t v ty u : TypeId} {k : IntKind} {z : Ty} {B : Nat} {w : World} {n : Nat} (ht : P.underlying t = some (.slice u)) (hv : P.underlying v = some (.int k)) (hz : tyOf P u = some z)
    (h1 : z.ls.length = 1) (hB : B ≤ w.heap.size) (h0 : 0 < n) (hroom : n * z.bytes ≤ 281474976710656) (hlen : n ≤ maxLen) :
    ∃ c w', (Builtin.append_ #[t, v] ty #[.slice none 0 0, .int .i64 (n : Int)]).run P w = .ok (.slice (some ⟨w.heap.size, 0, none⟩) n c) w' ∧ n ≤ c ∧ Mine B u 1 w' (some ⟨w.heap.size, 0, none⟩) 0 c [] ∧ Ext w w' := by
  obtain ⟨i, d', hi, hzz, hd, hsz, hls, hag, hby⟩ := tyOf_spec hz
  have hsize : i.size = 1 := by rw [hsz]; have := h1; rw [hls, length_leavesOf] at this; simpa using this
  rw [hby] at hroom
  have hlen' : n ≤ 9223372036854775807 := hlen
  have hw : IntKind.i64.wrap (n : Int) = n := by rw [IntKind.wrap_i64]; omega
  have n1 : ¬ ((n : Int) < 0) := by omega
  have n2 : ¬ (281474976710656 < (n : Int) * (i.bytes : Int)) := by
    have : ((n * i.bytes : Nat) : Int) ≤ 281474976710656 := Int.ofNat_le.2 hroom
    rw [Int.natCast_mul] at this
    omega
  have n3 : n ≠ 0 := by omega
  have n4 : ¬ (9223372036854775807 < (n : Int)) := by omega
  have n5 : ¬ (281474976710656 < Builtin.nextslicecap n 0 * i.bytes) := by rw [nextslicecap_zero h0]; omega
  refine ⟨grownCap w n 0 u, w.drew.alloc (.cells (Builtin.zeroCells z.zero.cells n ++ Builtin.zeroCells z.zero.cells (grownCap w n 0 u - n)) u), ?_, grownCap_ge w n 0 u, ?_, ?_⟩
  · simp [Builtin.append_, run_underlying ht, run_underlying hv, sizeOf, typeInfo, zeroValue, hi, hzz, hw, n1, n2, n3, n4, n5, Question.forced, run_firstCells_none, newRow, grownCap, asInt, asIntOf, hsize]
  · have := grownCap_ge w n 0 u
    have hm := grownCap_le_maxLen w n 0 u hlen
    exact Mine.made (w := w.drew) ⟨rfl, rfl⟩ hB hm (by simp only [Array.size_append, size_zeroCells]; rw [← hsz, hsize]; omega)
  · exact (Below.refl _ w).drew.alloc (Nat.le_refl _) _

/-- Behind an append onto a row of one's own. -/
theorem Mine.grown {B : Nat} {t : TypeId} {s : Nat} {w w' : World} {p : Option Addr} {n c : Nat} {vs : List Value} (h : Mine B t s w p n c vs) (hg : w.grownBy w' (Value.slice p n c).ownBlock) :
    (p = none ∧ Ext w w') ∨ ∃ b, p = some ⟨b, 0, none⟩ ∧ B ≤ b ∧ But b w w' := by
  rcases h.shape with ⟨rfl, _⟩ | ⟨b, rfl, hb, _⟩
  · exact .inl ⟨rfl, grown_nil hg⟩
  · exact .inr ⟨b, rfl, hb, grown_but hg⟩
theorem Mine.below {B B0 : Nat} {t : TypeId} {s : Nat} {a w w' : World} {p : Option Addr} {n c : Nat} {vs : List Value} (h : Mine B t s w p n c vs) (hg : w.grownBy w' (Value.slice p n c).ownBlock) (hb : Below B0 a w) (hB : B0 ≤ B) (hs : B0 ≤ w.heap.size) : Below B0 a w' := by
  rcases h.grown hg with ⟨_, e⟩ | ⟨b, _, hle, e⟩
  · exact hb.ext e hs
  · exact hb.but e (by omega) hs
theorem At.grown {B : Nat} {t : TypeId} {s : Nat} {w w' : World} {p q : Option Addr} {n c : Nat} {vs us : List Value} (h : Mine B t s w p n c vs) (hg : w.grownBy w' (Value.slice p n c).ownBlock) (hq : At w q us)
    (hne : ∀ b o b' o', q = some ⟨b, o, none⟩ → p = some ⟨b', o', none⟩ → b ≠ b') : At w' q us := by
  rcases h.grown hg with ⟨_, e⟩ | ⟨b, hp, hle, e⟩
  · exact hq.ext e
  · exact hq.but e fun b' o hq' => hne b' o b 0 hq' hp

/-! ### Freezing -/
theorem cell_freeze (w : World) (a : Addr) (n : Nat) (b : Addr) : (w.freeze a n).cell? b = w.cell? b := by
  unfold World.freeze
  split
  · rfl
  · simp only [World.cell?, Array.getElem?_modify]
    by_cases h : a.block = b.block
    · rw [if_pos h]
      cases w.heap[b.block]? with
      | none => rfl
      | some o => cases o <;> rfl
    · rw [if_neg h]

theorem At.freeze {w : World} {p : Option Addr} {vs : List Value} (h : At w p vs) (a : Addr) (n : Nat) : At (w.freeze a n) p vs := by
  rcases h with rfl | ⟨b, o, rfl, hc⟩
  · exact .inl rfl
  · exact .inr ⟨b, o, rfl, fun i v hv => by rw [cell_freeze]; exact hc i v hv⟩

/-! ### Numbers -/
theorem i64_fit {n : Int} (h0 : -9223372036854775808 ≤ n) (h1 : n ≤ 9223372036854775807) : IntKind.i64.wrap n = n := by rw [IntKind.wrap_i64]; omega
theorem u64_fit {n : Int} (h0 : 0 ≤ n) (h1 : n < 18446744073709551616) : IntKind.u64.wrap n = n := by simp [IntKind.wrap, IntKind.bits, IntKind.signed]; omega
/-! ### Arguments -/
theorem wf_i64 {n : Int} (h : (Lit.int .i64 n).wf = true) : -9223372036854775808 ≤ n ∧ n ≤ 9223372036854775807 := by
  simp only [Lit.wf, Bool.and_eq_true, decide_eq_true_eq] at h
  exact h
end Go.Vc

/- Numbers: bits, shifts, signed numbers as unsigned ones and back. -/
namespace Go.Vc
open Go

theorem xor_ones_u64 {a : Nat} (h1 : a < 18446744073709551616) : bits .xor .u64 (a : Int) 18446744073709551615 = ((18446744073709551615 - a : Nat) : Int) := by
  have e : bits .xor .u64 (a : Int) 18446744073709551615 = IntKind.u64.wrap (((BitVec.ofInt 64 a ^^^ BitVec.allOnes 64).toNat : Nat) : Int) := rfl
  rw [e, BitVec.xor_allOnes, BitVec.toNat_not, BitVec.toNat_ofInt, u64_fit (by omega) (by omega)]
  omega
theorem xor_zero_u64 {a : Nat} (h1 : a < 18446744073709551616) : bits .xor .u64 (a : Int) 0 = (a : Int) := by
  have e : bits .xor .u64 (a : Int) 0 = IntKind.u64.wrap (((BitVec.ofInt 64 a ^^^ 0#64).toNat : Nat) : Int) := rfl
  rw [e, BitVec.xor_zero, BitVec.toNat_ofInt, u64_fit (by omega) (by omega)]
  omega

theorem u64_wrap (n : Int) : IntKind.u64.wrap n = n % 18446744073709551616 := by simp [IntKind.wrap, IntKind.bits, IntKind.signed]
/-! ### Signed numbers as unsigned ones -/
def zigN (x : Int) : Nat := if x < 0 then (-2 * x - 1).toNat else (2 * x).toNat
def unzig (v : Nat) : Int := if v % 2 = 1 then -((v / 2 : Nat) : Int) - 1 else ((v / 2 : Nat) : Int)

theorem zig_lt {x : Int} (h0 : -9223372036854775808 ≤ x) (h1 : x ≤ 9223372036854775807) : zigN x < 18446744073709551616 := by unfold zigN; split <;> omega
theorem unzig_zig (x : Int) : unzig (zigN x) = x := by unfold unzig zigN; split <;> split <;> omega
theorem shl1_i64 {x : Int} : shlI .i64 x 1 = IntKind.i64.wrap (x * 2) := rfl
theorem shr63_i64 {x : Int} (h0 : -9223372036854775808 ≤ x) (h1 : x ≤ 9223372036854775807) : shrI .i64 x 63 = if x < 0 then -1 else 0 := by
  have : shrI .i64 x 63 = Int.fdiv x 9223372036854775808 := rfl
  rw [this, Int.fdiv_eq_ediv_of_nonneg _ (by decide)]
  split <;> omega

/-- The program's way. -/
theorem zig_prog {x : Int} (h0 : -9223372036854775808 ≤ x) (h1 : x ≤ 9223372036854775807) :
    bits .xor .u64 (IntKind.u64.wrap (shlI .i64 x 1)) (IntKind.u64.wrap (shrI .i64 x 63)) = (zigN x : Int) := by
  rw [shl1_i64, shr63_i64 h0 h1, IntKind.wrap_i64, u64_wrap]
  by_cases hx : x < 0
  · rw [if_pos hx, show IntKind.u64.wrap (-1) = 18446744073709551615 from by decide +kernel]
    have : ((x * 2 + 9223372036854775808) % 18446744073709551616 - 9223372036854775808) % 18446744073709551616 = (((18446744073709551616 + 2 * x).toNat : Nat) : Int) := by omega
    rw [this, xor_ones_u64 (by omega)]
    unfold zigN; rw [if_pos hx]; omega
  · rw [if_neg hx, show IntKind.u64.wrap 0 = 0 from by decide +kernel]
    have : ((x * 2 + 9223372036854775808) % 18446744073709551616 - 9223372036854775808) % 18446744073709551616 = (((2 * x).toNat : Nat) : Int) := by omega
    rw [this, xor_zero_u64 (by omega)]
    unfold zigN; rw [if_neg hx]

/-! ### Texts as bytes -/
def tB (s : ByteArray) : List UInt8 := s.data.toList
theorem tB_length (s : ByteArray) : (tB s).length = s.size := Array.length_toList
theorem tB_mk (l : List UInt8) : tB ⟨l.toArray⟩ = l := by simp [tB]
theorem mk_tB (s : ByteArray) : (⟨(tB s).toArray⟩ : ByteArray) = s := by cases s; simp [tB]
theorem mk_inj {a b : List UInt8} : (ByteArray.mk a.toArray = ByteArray.mk b.toArray) ↔ a = b := by
  constructor
  · intro h; have := congrArg tB h; rwa [tB_mk, tB_mk] at this
  · rintro rfl; rfl
theorem tB_inj {s t : ByteArray} : tB s = tB t ↔ s = t := by
  constructor
  · intro h; rw [← mk_tB s, h, mk_tB]
  · rintro rfl; rfl
theorem sEq_self (s : ByteArray) : sEq s s = true := sEq_iff.2 rfl
theorem bytesRow_take (s : ByteArray) (c : Nat) : (bytesRow s c).toList.take s.size = vB (tB s) := by
  unfold bytesRow vB tB
  have hl : (s.data.map fun b => Value.int .u8 b.toNat).toList.length = s.size := by rw [Array.length_toList, Array.size_map]; rfl
  rw [Array.toList_append, List.take_append_of_le_length (Nat.le_of_eq hl.symm), List.take_of_length_le (Nat.le_of_eq hl)]
  simp
end Go.Vc

/- Numbers as digits of 2^s, and how one bit more turns them: plain Lean. -/
namespace Go.Vc
open Go Go.RowKit

/-- The n digits of N, of s bits each, the least one first. -/
def digits (s n N : Nat) : List Nat := (List.range n).map fun i => N / 2 ^ (s * i) % 2 ^ s
/-- The number that digits of s bits are. -/
def value (s : Nat) : List Nat → Nat
  | [] => 0
  | x :: l => x + 2 ^ s * value s l
/-- Numbers as values. -/
def vN (k : IntKind) (l : List Nat) : List Value := l.map fun (x : Nat) => .int k (x : Int)

/-- n bytes of N. -/
def bytesOf (n N : Nat) : List UInt8 := (digits 8 n N).map UInt8.ofNat
/-- The number that bytes are. -/
def ofBytes (l : List UInt8) : Nat := value 8 (l.map UInt8.toNat)
/-! ### The machine's operations -/
theorem i64_next {n : Nat} (h : n < 9223372036854775807) : IntKind.i64.wrap ((n : Int) + 1) = ((n + 1 : Nat) : Int) := i64_fit (by omega) (by omega)
theorem take_snoc {α : Type} {l : List α} {k : Nat} {x : α} (h : l[k]? = some x) : l.take (k + 1) = l.take k ++ [x] := by rw [List.take_add_one, h]; rfl

/-! ### How many bits a number needs -/
def bl (v : Nat) : Nat := if v = 0 then 0 else v.log2 + 1
/-- All numbers' bits together. -/
def orL (l : List Nat) : Nat := l.foldl (· ||| ·) 0
/-- The least width of numbers. -/
def widthN (l : List Nat) : Nat := bl (orL l)
/-! ### Numbers that lie in a row -/
/-- A slice of 64-bit numbers that came in. -/
structure Us (w : World) (p : Option Addr) (n c : Nat) (l : List Nat) : Prop where
  len : l.length = n
  cap : n ≤ c ∧ c ≤ maxLen
  lies : At w p (vN .u64 l)
  nil : p = none → n = 0 ∧ c = 0
  lt : ∀ x ∈ l, x < 18446744073709551616
theorem Us.ext {w w' : World} {p : Option Addr} {n c : Nat} {l : List Nat} (h : Us w p n c l) (e : Ext w w') : Us w' p n c l := ⟨h.len, h.cap, h.lies.ext e, h.nil, h.lt⟩
theorem Us.le {w : World} {p : Option Addr} {n c : Nat} {l : List Nat} (h : Us w p n c l) : n ≤ maxLen := Nat.le_trans h.cap.1 h.cap.2
theorem Us.nothing (w : World) : Us w none 0 0 [] := ⟨rfl, ⟨Nat.le_refl _, Nat.zero_le _⟩, .inl rfl, fun _ => ⟨rfl, rfl⟩, by simp⟩
/-- Bytes of our own; numbers of our own. -/
def OutB (B : Nat) (t : TypeId) (w : World) (p : Option Addr) (n c : Nat) (l : List UInt8) : Prop := l.length = n ∧ Mine B t 1 w p n c (vB l)
def OutU (B : Nat) (t : TypeId) (w : World) (p : Option Addr) (n c : Nat) (l : List Nat) : Prop := l.length = n ∧ (∀ x ∈ l, x < 18446744073709551616) ∧ Mine B t 1 w p n c (vN .u64 l)
/-- Bytes that came in. -/
structure InB (w : World) (p : Option Addr) (n c : Nat) (l : List UInt8) : Prop where
  len : l.length = n
  cap : n ≤ c ∧ c ≤ maxLen
  lies : At w p (vB l)
  nil : p = none → n = 0 ∧ c = 0
theorem InB.ext {w w' : World} {p : Option Addr} {n c : Nat} {l : List UInt8} (h : InB w p n c l) (e : Ext w w') : InB w' p n c l := ⟨h.len, h.cap, h.lies.ext e, h.nil⟩
theorem InB.bytes {w : World} {p : Option Addr} {n c : Nat} {l : List UInt8} (h : InB w p n c l) : BytesAt w p n l := h.lies.bytes' h.len
theorem InB.le {w : World} {p : Option Addr} {n c : Nat} {l : List UInt8} (h : InB w p n c l) : n ≤ maxLen := Nat.le_trans h.cap.1 h.cap.2
theorem OutB.ext {B : Nat} {t : TypeId} {w w' : World} {p : Option Addr} {n c : Nat} {l : List UInt8} (h : OutB B t w p n c l) (e : Ext w w') : OutB B t w' p n c l := ⟨h.1, h.2.ext e⟩
theorem OutB.inn {B : Nat} {t : TypeId} {w : World} {p : Option Addr} {n c : Nat} {l : List UInt8} (h : OutB B t w p n c l) : InB w p n c l := ⟨h.1, h.2.cap, h.2.at, h.2.isNil⟩
theorem OutB.bytes {B : Nat} {t : TypeId} {w : World} {p : Option Addr} {n c : Nat} {l : List UInt8} (h : OutB B t w p n c l) : BytesAt w p n l := h.2.at.bytes' h.1
theorem OutU.ext {B : Nat} {t : TypeId} {w w' : World} {p : Option Addr} {n c : Nat} {l : List Nat} (h : OutU B t w p n c l) (e : Ext w w') : OutU B t w' p n c l := ⟨h.1, h.2.1, h.2.2.ext e⟩
theorem OutU.us {B : Nat} {t : TypeId} {w : World} {p : Option Addr} {n c : Nat} {l : List Nat} (h : OutU B t w p n c l) : Us w p n c l := ⟨h.1, h.2.2.cap, h.2.2.at, h.2.2.isNil, h.2.1⟩
end Go.Vc

/- Parts: slices of bytes. -/
namespace Go.Vc
open Go
theorem i64_succ {n : Int} (h0 : 0 ≤ n) (h1 : n < 9223372036854775807) : IntKind.i64.wrap (n + 1) = n + 1 := by rw [IntKind.wrap_i64]; omega
end Go.Vc
namespace Go.Proofs.Ytckfedekpkgcdaa
open Go Go.Vc Go.RowKit
set_option maxRecDepth 20000
/-- The parts lie at p: slices, each of them bytes. -/
def Parts (w : World) (p : Option Addr) (bs : List (List UInt8)) : Prop :=
  bs = [] ∨ ∃ b o, p = some ⟨b, o, none⟩ ∧ ∀ k l, bs[k]? = some l → ∃ q d, w.cell? ⟨b, o + k, none⟩ = some (.slice q l.length d) ∧ At w q (vB l) ∧ l.length ≤ maxLen ∧ (q = none → l = [] ∧ d = 0)

theorem take_succ_flat {bs : List (List UInt8)} {k : Nat} {l : List UInt8} (h : bs[k]? = some l) : (bs.take (k + 1)).flatten = (bs.take k).flatten ++ l := by
  rw [List.take_add_one, h]; simp

end Go.Proofs.Ytckfedekpkgcdaa

/- The seat's program by its name, and the one fact that the generator asks of it. -/
namespace Go.Proofs.Ytckfedekpkgcdaa
open Go Go.Vc
set_option maxRecDepth 20000
theorem Try.mixed : Try.prog.follows .mixedOrders = true := by kernel_rfl
end Go.Proofs.Ytckfedekpkgcdaa

namespace Go.Vc
open Go
abbrev RI (w : World) (b o : Nat) (F : Int → Prop) : Prop := ∃ n : Int, w.cell? ⟨b, o, none⟩ = some (.int .i64 n) ∧ F n
abbrev RS (w : World) (b o : Nat) (F : ByteArray → Prop) : Prop := ∃ s : ByteArray, w.cell? ⟨b, o, none⟩ = some (.string s) ∧ F s
abbrev RL (w : World) (b o : Nat) (F : Option Addr → Nat → Nat → Prop) : Prop := ∃ (p : Option Addr) (n c : Nat), w.cell? ⟨b, o, none⟩ = some (.slice p n c) ∧ F p n c
abbrev CW (w : World) (b o : Nat) (F : Unit → Prop) : Prop := (∃ u : Value, w.cell? ⟨b, o, none⟩ = some u) ∧ w.frozen? ⟨b, o, none⟩ = false ∧ F ()
end Go.Vc

/- The verification conditions of the functions, evaluated: printed by program. -/
namespace Go.Proofs.Ytckfedekpkgcdaa
open Go Go.Vc
set_option maxRecDepth 20000

set_option maxRecDepth 100000 in
def wireNumber_T (b_p : Option Addr) (b_n : Nat) (b_c : Nat) (n : Int) (w : World) (R : Ending → World → Prop) : Prop :=
  Calls Try.prog 55 #[.int .u64 n] w fun e1 w2 ↦
 ∃ p3 n4 c5, e1 = .returned (.slice p3 n4 c5) ∧ ∀ b6 w'7, New w2 (Obj.cells #[.slice b_p b_n b_c, .slice p3 n4 c5] 89) b6 w'7 → Calls Try.prog 46 #[.slice (some ⟨b6, 0, none⟩) 2 2] w'7 fun e9 w10 ↦
 ∃ p11 n12 c13, e9 = .returned (.slice p11 n12 c13) ∧ R (.returned (.slice p11 n12 c13)) w10

set_option maxRecDepth 100000 in
theorem wireNumber_eq (b_p : Option Addr) (b_n : Nat) (b_c : Nat) (n : Int) (w : World) (R : Ending → World → Prop) : wireNumber_T b_p b_n b_c n w R = vcFn Try.prog [] [] Try.f54 [.slice b_p b_n b_c, .int .u64 n] w R := by kernel_rfl

set_option maxRecDepth 100000 in
theorem wireNumber_vc (b_p : Option Addr) (b_n : Nat) (b_c : Nat) (n : Int) (w : World) (R : Ending → World → Prop) (hvc : wireNumber_T b_p b_n b_c n w R) : Calls Try.prog 54 #[.slice b_p b_n b_c, .int .u64 n] w R :=
  calls_of_vc (args := [.slice b_p b_n b_c, .int .u64 n]) [] [] Try.mixed Try.func54 (cast (wireNumber_eq _ _ _ _ w R) hvc)

set_option maxRecDepth 100000 in
def wireSigned_T (b_p : Option Addr) (b_n : Nat) (b_c : Nat) (n : Int) (w : World) (R : Ending → World → Prop) : Prop :=
  Calls Try.prog 54
 #[.slice b_p b_n b_c, .int .u64 (bits BinOp.xor IntKind.u64 (IntKind.u64.wrap (shlI IntKind.i64 n 1)) (IntKind.u64.wrap (shrI IntKind.i64 n 63)))] w
 fun e1 w2 ↦
 ∃ p3 n4 c5, e1 = .returned (.slice p3 n4 c5) ∧ R (.returned (.slice p3 n4 c5)) w2

set_option maxRecDepth 100000 in
theorem wireSigned_eq (b_p : Option Addr) (b_n : Nat) (b_c : Nat) (n : Int) (w : World) (R : Ending → World → Prop) : wireSigned_T b_p b_n b_c n w R = vcFn Try.prog [] [] Try.f47 [.slice b_p b_n b_c, .int .i64 n] w R := by kernel_rfl

set_option maxRecDepth 100000 in
theorem wireSigned_vc (b_p : Option Addr) (b_n : Nat) (b_c : Nat) (n : Int) (w : World) (R : Ending → World → Prop) (hvc : wireSigned_T b_p b_n b_c n w R) : Calls Try.prog 47 #[.slice b_p b_n b_c, .int .i64 n] w R :=
  calls_of_vc (args := [.slice b_p b_n b_c, .int .i64 n]) [] [] Try.mixed Try.func47 (cast (wireSigned_eq _ _ _ _ w R) hvc)

set_option maxRecDepth 100000 in
def wireText_T (b_p : Option Addr) (b_n : Nat) (b_c : Nat) (s : ByteArray) (w : World) (R : Ending → World → Prop) : Prop :=
  (1048576 < (↑s.size : Int) → R (.returned (.tuple #[.slice none 0 0, .int .i64 2])) w) ∧ ((↑s.size : Int) ≤ 1048576 → Calls Try.prog 55 #[.int .u64 (IntKind.u64.wrap (↑s.size : Int))] w fun e3 w4 ↦
 ∃ p5 n6 c7, e3 = .returned (.slice p5 n6 c7) ∧ ∀ (c8 b9 : Nat) (w'10 : World), s.size ≤ c8 → New w4.drew (Obj.cells (bytesRow s c8) 5 ((bytesRow s c8).size, (bytesRow s c8).size + 1)) b9 w'10 → ∀ b13 w'14, New w'10 (Obj.cells #[.slice b_p b_n b_c, .slice p5 n6 c7, .slice (some ⟨b9, 0, none⟩) s.size c8] 89) b13 w'14 → Calls Try.prog 46 #[.slice (some ⟨b13, 0, none⟩) 3 3] w'14 fun e16 w17 ↦
 ∃ p18 n19 c20, e16 = .returned (.slice p18 n19 c20) ∧ R (.returned (.tuple #[.slice p18 n19 c20, .int .i64 0])) w17)

set_option maxRecDepth 100000 in
theorem wireText_eq (b_p : Option Addr) (b_n : Nat) (b_c : Nat) (s : ByteArray) (w : World) (R : Ending → World → Prop) : wireText_T b_p b_n b_c s w R = vcFn Try.prog [] [] Try.f48 [.slice b_p b_n b_c, .string s] w R := by kernel_rfl

set_option maxRecDepth 100000 in
theorem wireText_vc (b_p : Option Addr) (b_n : Nat) (b_c : Nat) (s : ByteArray) (w : World) (R : Ending → World → Prop) (hvc : wireText_T b_p b_n b_c s w R) : Calls Try.prog 48 #[.slice b_p b_n b_c, .string s] w R :=
  calls_of_vc (args := [.slice b_p b_n b_c, .string s]) [] [] Try.mixed Try.func48 (cast (wireText_eq _ _ _ _ w R) hvc)

set_option maxRecDepth 100000 in
def digits_T (n : Int) (w : World) (R : Ending → World → Prop) : Prop :=
  ∃ (I1 : Int → Option Addr → Nat → Nat → World → Prop), ∃ (M2 : Int → Option Addr → Nat → Nat → World → Nat), I1 n none 0 0 w ∧ ∀ (n3 : Int) (p4 : Option Addr) (n5 c6 : Nat) (w'7 : World), I1 n3 p4 n5 c6 w'7 → (shrI IntKind.u64 n3 7 = 0 → ∀ b10 w'11, New w'7 (Obj.cells #[.int .u8 (IntKind.u8.wrap (bits BinOp.and IntKind.u64 n3 127))] 5) b10 w'11 → ∃ p13 n14 c15, ∃ (w'16 : World), Sem.run Try.prog (Builtin.append_ #[89, 89] 89 #[.slice p4 n5 c6, .slice (some ⟨b10, 0, none⟩) 1 1]) w'11 = Result.ok (.slice p13 n14 c15) w'16 ∧ R (.returned (.slice p13 n14 c15)) w'16) ∧ (shrI IntKind.u64 n3 7 ≠ 0 → ∀ b18 w'19, New w'7 (Obj.cells #[.int .u8 (bits BinOp.or IntKind.u8 (IntKind.u8.wrap (bits BinOp.and IntKind.u64 n3 127)) 128)] 5) b18 w'19 → ∃ p21 n22 c23, ∃ (w'24 : World), Sem.run Try.prog (Builtin.append_ #[89, 89] 89 #[.slice p4 n5 c6, .slice (some ⟨b18, 0, none⟩) 1 1]) w'19 = Result.ok (.slice p21 n22 c23) w'24 ∧ I1 (shrI IntKind.u64 n3 7) p21 n22 c23 w'24 ∧ M2 (shrI IntKind.u64 n3 7) p21 n22 c23 w'24 < M2 n3 p4 n5 c6 w'7)

set_option maxRecDepth 100000 in
theorem digits_eq (n : Int) (w : World) (R : Ending → World → Prop) : digits_T n w R = vcFn Try.prog [] [] Try.f55 [.int .u64 n] w R := by kernel_rfl

set_option maxRecDepth 100000 in
theorem digits_vc (n : Int) (w : World) (R : Ending → World → Prop) (hvc : digits_T n w R) : Calls Try.prog 55 #[.int .u64 n] w R :=
  calls_of_vc (args := [.int .u64 n]) [] [] Try.mixed Try.func55 (cast (digits_eq _ w R) hvc)

set_option maxRecDepth 100000 in
def concat_T (slices_p : Option Addr) (slices_n : Nat) (slices_c : Nat) (w : World) (R : Ending → World → Prop) : Prop :=
  ∃ (I1 : Int → Int → World → Prop), ∃ (M2 : Int → Int → World → Nat), I1 0 0 w ∧ ∀ (n3 n4 : Int) (w'5 : World), I1 n3 n4 w'5 → (n4 < (↑slices_n : Int) → ∃ b8, ∃ o9, slices_p = some ⟨b8, o9, none⟩ ∧ 0 ≤ n4 ∧ n4 < (↑slices_n : Int) ∧ ∃ p10 n11 c12, w'5.cell? ⟨b8, (o9 + n4.toNat), none⟩ = some (.slice p10 n11 c12) ∧ (IntKind.i64.wrap (n3 + (↑n11 : Int)) < 0 → False) ∧ (0 ≤ IntKind.i64.wrap (n3 + (↑n11 : Int)) → I1 (IntKind.i64.wrap (n3 + (↑n11 : Int))) (IntKind.i64.wrap (n4 + 1)) w'5 ∧ M2 (IntKind.i64.wrap (n3 + (↑n11 : Int))) (IntKind.i64.wrap (n4 + 1)) w'5 < M2 n3 n4 w'5)) ∧ ((↑slices_n : Int) ≤ n4 → Calls Try.prog 53 #[.slice none 0 0, .int .i64 n3] w'5 fun e16 w17 ↦
 ∃ p18 n19 c20, e16 = .returned (.slice p18 n19 c20) ∧ ∃ (I21 : Option Addr → Nat → Nat → Int → World → Prop), ∃ (M22 : Option Addr → Nat → Nat → Int → World → Nat), I21 p18 n19 c20 0 w17 ∧ ∀ (p23 : Option Addr) (n24 c25 : Nat) (n26 : Int) (w'27 : World), I21 p23 n24 c25 n26 w'27 → (n26 < (↑slices_n : Int) → ∃ b30, ∃ o31, slices_p = some ⟨b30, o31, none⟩ ∧ 0 ≤ n26 ∧ n26 < (↑slices_n : Int) ∧ ∃ p32 n33 c34, w'27.cell? ⟨b30, (o31 + n26.toNat), none⟩ = some (.slice p32 n33 c34) ∧ ∃ p35 n36 c37, ∃ (w'38 : World), Sem.run Try.prog (Builtin.append_ #[89, 89] 89 #[.slice p23 n24 c25, .slice p32 n33 c34]) w'27 = Result.ok (.slice p35 n36 c37) w'38 ∧ I21 p35 n36 c37 (IntKind.i64.wrap (n26 + 1)) w'38 ∧ M22 p35 n36 c37 (IntKind.i64.wrap (n26 + 1)) w'38 < M22 p23 n24 c25 n26 w'27) ∧ ((↑slices_n : Int) ≤ n26 → R (.returned (.slice p23 n24 c25)) w'27))

set_option maxRecDepth 100000 in
theorem concat_eq (slices_p : Option Addr) (slices_n : Nat) (slices_c : Nat) (w : World) (R : Ending → World → Prop) : concat_T slices_p slices_n slices_c w R = vcFn Try.prog [] [] Try.f46 [.slice slices_p slices_n slices_c] w R := by kernel_rfl

set_option maxRecDepth 100000 in
theorem concat_vc (slices_p : Option Addr) (slices_n : Nat) (slices_c : Nat) (w : World) (R : Ending → World → Prop) (hvc : concat_T slices_p slices_n slices_c w R) : Calls Try.prog 46 #[.slice slices_p slices_n slices_c] w R :=
  calls_of_vc (args := [.slice slices_p slices_n slices_c]) [] [] Try.mixed Try.func46 (cast (concat_eq _ _ _ w R) hvc)

set_option maxRecDepth 100000 in
def grow_T (s_p : Option Addr) (s_n : Nat) (s_c : Nat) (n : Int) (w : World) (R : Ending → World → Prop) : Prop :=
  (n < 0 → False) ∧ (0 ≤ n → (0 < IntKind.i64.wrap (n - IntKind.i64.wrap ((↑s_c : Int) - (↑s_n : Int))) → 0 ≤ (↑s_c : Int) ∧ (↑s_c : Int) ≤ (↑s_c : Int) ∧ ∃ p4 n5 c6, ∃ (w'7 : World), Sem.run Try.prog (Builtin.append_ #[89, 3] 89 #[.slice s_p s_c s_c, .int .i64 (IntKind.i64.wrap (n - IntKind.i64.wrap ((↑s_c : Int) - (↑s_n : Int))))])
 w =
 Result.ok (.slice p4 n5 c6) w'7 ∧ 0 ≤ (↑s_n : Int) ∧ (↑s_n : Int) ≤ (↑c6 : Int) ∧ R (.returned (.slice p4 s_n c6)) w'7) ∧ (IntKind.i64.wrap (n - IntKind.i64.wrap ((↑s_c : Int) - (↑s_n : Int))) ≤ 0 → R (.returned (.slice s_p s_n s_c)) w))

set_option maxRecDepth 100000 in
theorem grow_eq (s_p : Option Addr) (s_n : Nat) (s_c : Nat) (n : Int) (w : World) (R : Ending → World → Prop) : grow_T s_p s_n s_c n w R = vcFn Try.prog [] [] Try.f53 [.slice s_p s_n s_c, .int .i64 n] w R := by kernel_rfl

set_option maxRecDepth 100000 in
theorem grow_vc (s_p : Option Addr) (s_n : Nat) (s_c : Nat) (n : Int) (w : World) (R : Ending → World → Prop) (hvc : grow_T s_p s_n s_c n w R) : Calls Try.prog 53 #[.slice s_p s_n s_c, .int .i64 n] w R :=
  calls_of_vc (args := [.slice s_p s_n s_c, .int .i64 n]) [] [] Try.mixed Try.func53 (cast (grow_eq _ _ _ _ w R) hvc)


end Go.Proofs.Ytckfedekpkgcdaa

/- Numbers as bytes: the contracts of the functions that lay them. -/
namespace Go.Vc
open Go

/-- A number's bytes. -/
def uvar (n : Nat) : List UInt8 := if h : n < 128 then [UInt8.ofNat n] else UInt8.ofNat (n % 128 + 128) :: uvar (n / 128)
termination_by n
decreasing_by omega

theorem uvar_small {n : Nat} (h : n < 128) : uvar n = [UInt8.ofNat n] := by rw [uvar, dif_pos h]
theorem uvar_big {n : Nat} (h : 128 ≤ n) : uvar n = UInt8.ofNat (n % 128 + 128) :: uvar (n / 128) := by rw [uvar, dif_neg (by omega)]

theorem uvar_len : ∀ (k n : Nat), n < 128 ^ (k + 1) → (uvar n).length ≤ k + 1
  | 0, n, h => by rw [uvar_small (by simpa using h)]; simp
  | k + 1, n, h => by
    by_cases hs : n < 128
    · rw [uvar_small hs]; simp
    · rw [uvar_big (by omega)]
      have := uvar_len k (n / 128) (by rw [Nat.div_lt_iff_lt_mul (by decide), ← Nat.pow_succ]; exact h)
      simp; omega

theorem uvar_len10 {n : Nat} (h : n < 18446744073709551616) : (uvar n).length ≤ 10 := uvar_len 9 n (Nat.lt_of_lt_of_le h (by decide))

theorem shr7_u64 (n : Nat) : shrI .u64 (n : Int) 7 = ((n / 128 : Nat) : Int) := by
  have : shrI .u64 (n : Int) 7 = Int.fdiv (n : Int) 128 := rfl
  rw [this, Int.fdiv_eq_ediv_of_nonneg _ (by decide)]
  omega

theorem and127_u64 (n : Nat) (h : n < 18446744073709551616) : bits .and .u64 (n : Int) 127 = ((n % 128 : Nat) : Int) := by
  have := bits_mask .u64 64 (by decide) (fun m h0 h1 => by simp [IntKind.wrap, IntKind.bits, IntKind.signed]; omega) 7 (by decide) (n : Int) (by omega) (by show (n : Int) < 18446744073709551616; omega)
  rw [show ((2 : Int) ^ 7 - 1) = 127 from rfl, show ((2 : Int) ^ 7) = 128 from rfl] at this
  rw [this]; omega

theorem wrap_u8_small (n : Nat) (h : n < 256) : IntKind.u8.wrap (n : Int) = (n : Int) := by rw [IntKind.wrap_u8]; omega

theorem or128_u8 (n : Nat) (h : n < 128) : bits .or .u8 (n : Int) 128 = ((n + 128 : Nat) : Int) := by
  have hx : 128 ||| n = 128 + n := by
    have := Nat.two_pow_add_eq_or_of_lt (i := 7) (b := n) (by simpa using h) 1
    simpa using this.symm
  rw [show (128 : Int) = ((128 : Nat) : Int) from rfl, (bits_nat .u8 8 (by decide) (fun m h0 h1 => by rw [IntKind.wrap_u8]; omega) n 128 (by omega) (by decide)).2]
  rw [Nat.or_comm, hx, Nat.add_comm]

theorem u8_toNat {n : Nat} (h : n < 256) : (UInt8.ofNat n).toNat = n := by simp; omega
end Go.Vc

namespace Go.Proofs.Ytckfedekpkgcdaa
open Go Go.Vc Go.RowKit
set_option maxRecDepth 20000

theorem und30 : Try.prog.underlying 89 = some (.slice 5) := by kernel_rfl
theorem ty5 : ∃ z, tyOf Try.prog 5 = some z ∧ z.ls.length = 1 ∧ z.bytes = 1 := ⟨_, (by kernel_rfl : tyOf Try.prog 5 = some { agg := false, ls := [.int .u8], zero := .int .u8 0, bytes := 1, big := false, n := 1 }), rfl, rfl⟩

/-- append of bytes onto bytes of one's own. -/
theorem append_bytes {B : Nat} {w : World} {p q : Option Addr} {n c m d : Nat} {xs ys : List UInt8} (hown : Mine B 5 1 w p n c (vB xs)) (hat : At w q (vB ys)) (hm : ys.length = m) (hq : q = none → m = 0 ∧ d = 0)
    (hB : B ≤ w.heap.size) (hroom : n + m ≤ 211106232532992) :
    ∃ p' c' w', (Builtin.append_ #[89, 89] 89 #[.slice p n c, .slice q m d]).run Try.prog w = .ok (.slice p' (n + m) c') w' ∧ Mine B 5 1 w' p' (n + m) c' (vB (xs ++ ys)) ∧ w.grownBy w' (Value.slice p n c).ownBlock := by
  obtain ⟨z, hz, h1, hb⟩ := ty5
  rw [vB_append]
  exact append_own und30 hz h1 (by decide) hown hat (by rw [vB_length]; omega) hq vB_one hB (by rw [hb]; omega) (by simp [maxLen]; omega)

/-- append(b, x) where x has just been laid in a block of its own. -/
theorem append_byte {B : Nat} {w w1 : World} {p : Option Addr} {n c b : Nat} {xs : List UInt8} {x : Int} (y : UInt8) (hown : Mine B 5 1 w p n c (vB xs)) (hnew : New w (.cells #[.int .u8 x] 5) b w1) (hx : x = ((y.toNat : Nat) : Int))
    (hB : B ≤ w.heap.size) (hroom : n + 1 ≤ 211106232532992) :
    ∃ p' c' w', (Builtin.append_ #[89, 89] 89 #[.slice p n c, .slice (some ⟨b, 0, none⟩) 1 1]).run Try.prog w1 = .ok (.slice p' (n + 1) c') w' ∧ Mine B 5 1 w' p' (n + 1) c' (vB (xs ++ [y])) ∧ w1.grownBy w' (Value.slice p n c).ownBlock := by
  have hat : At w1 (some ⟨b, 0, none⟩) (vB [y]) := by have := hnew.at; rw [hx] at this; exact this
  have := hnew.ext.size
  exact append_bytes (d := 1) (hown.ext hnew.ext) hat rfl (fun e => by cases e) (by omega) hroom

theorem digits_ok (w : World) (n : Nat) (hn : n < 18446744073709551616) :
    Calls Try.prog 55 #[.int .u64 (n : Int)] w fun e w' => ∃ p c, e = .returned (.slice p (uvar n).length c) ∧ Mine w.heap.size 5 1 w' p (uvar n).length c (vB (uvar n)) ∧ Ext w w' := by
  have hl10 := uvar_len10 hn
  apply digits_vc
  unfold digits_T
  refine ⟨fun i p l c w' => ∃ (k : Nat) (pre : List UInt8), i = (k : Int) ∧ k ≤ n ∧ pre ++ uvar k = uvar n ∧ pre.length = l ∧ Mine w.heap.size 5 1 w' p l c (vB pre) ∧ Ext w w', fun i _ _ _ _ => i.toNat,
    ⟨n, [], rfl, Nat.le_refl _, rfl, rfl, Mine.nil _ _ _ _, .rfl⟩, ?_⟩
  rintro i p l c w' ⟨k, pre, rfl, hk, hpre, hl, hown, hext⟩
  have hkn : k < 18446744073709551616 := by omega
  have hlen : pre.length + (uvar k).length ≤ 10 := by have := congrArg List.length hpre; simp at this; omega
  rw [shr7_u64, and127_u64 k hkn, wrap_u8_small _ (by omega), or128_u8 _ (by omega)]
  have hB := hext.size
  refine ⟨fun hz b w1 hnew => ?_, fun hz b w1 hnew => ?_⟩
  · have hk0 : k < 128 := by omega
    obtain ⟨p', c', w2, hrun, hown2, hg⟩ := append_byte (UInt8.ofNat k) hown hnew (by rw [u8_toNat (by omega), Nat.mod_eq_of_lt hk0]) hB (by omega)
    have e : pre ++ [UInt8.ofNat k] = uvar n := by rw [← hpre, uvar_small hk0]
    have el : l + 1 = (uvar n).length := by rw [← e]; simp [hl]
    exact ⟨p', l + 1, c', w2, hrun, p', c', by rw [el], by rw [← el, ← e]; exact hown2, (hown.ext hnew.ext).below hg (hext.trans hnew.ext) (Nat.le_refl _) (Nat.le_trans hB hnew.ext.size)⟩
  · have hk0 : 128 ≤ k := by omega
    obtain ⟨p', c', w2, hrun, hown2, hg⟩ := append_byte (UInt8.ofNat (k % 128 + 128)) hown hnew (by rw [u8_toNat (by omega)]) hB (by omega)
    refine ⟨p', l + 1, c', w2, hrun, ⟨k / 128, pre ++ [UInt8.ofNat (k % 128 + 128)], rfl, by omega, ?_, by simp [hl], hown2, (hown.ext hnew.ext).below hg (hext.trans hnew.ext) (Nat.le_refl _) (Nat.le_trans hB hnew.ext.size)⟩, by simp only [Int.toNat_natCast]; omega⟩
    rw [← hpre, uvar_big hk0]; simp

theorem und3 : Try.prog.underlying 3 = some (.int .i64) := by kernel_rfl

theorem grow_nil (w : World) (n : Nat) (hn : n ≤ 211106232532992) :
    Calls Try.prog 53 #[.slice none 0 0, .int .i64 (n : Int)] w fun e w' => ∃ p c, e = .returned (.slice p 0 c) ∧ Mine w.heap.size 5 1 w' p 0 c [] ∧ Ext w w' := by
  apply grow_vc
  unfold grow_T
  have hz : IntKind.i64.wrap ((n : Int) - IntKind.i64.wrap ((0 : Nat) - (0 : Nat))) = (n : Int) := by
    rw [show IntKind.i64.wrap (((0 : Nat) : Int) - ((0 : Nat) : Int)) = 0 from by decide +kernel, IntKind.wrap_i64]; omega
  refine ⟨fun h => by omega, fun _ => ?_⟩
  rw [hz]
  refine ⟨fun h => ?_, fun h => ?_⟩
  · have h0 : 0 < n := by omega
    obtain ⟨z, hz5, h1, hb⟩ := ty5
    obtain ⟨c, w', hrun, hc, hmine, hext⟩ := append_zeros_nil (B := w.heap.size) (w := w) (ty := 89) und30 und3 hz5 h1 (Nat.le_refl _) h0 (by rw [hb]; omega) (by simp [maxLen]; omega)
    refine ⟨by omega, by omega, _, _, _, _, hrun, by omega, by omega, ?_⟩
    exact ⟨_, _, rfl, hmine, hext⟩
  · exact ⟨none, 0, rfl, Mine.nil _ _ _ _, .rfl⟩

theorem concat_ok (w : World) (p : Option Addr) (n c : Nat) (bs : List (List UInt8)) (hn : bs.length = n) (hm : n ≤ maxLen) (hp : Parts w p bs) (htot : bs.flatten.length ≤ 211106232532992) :
    Calls Try.prog 46 #[.slice p n c] w fun e w' => ∃ p' c', e = .returned (.slice p' bs.flatten.length c') ∧ Mine w.heap.size 5 1 w' p' bs.flatten.length c' (vB bs.flatten) ∧ Ext w w' := by
  have hm' : n ≤ 9223372036854775807 := by simpa [maxLen] using hm
  have upto : ∀ k, (bs.take k).flatten.length ≤ bs.flatten.length := by
    intro k
    have := congrArg List.length (congrArg List.flatten (List.take_append_drop k bs))
    rw [List.flatten_append, List.length_append] at this
    omega
  apply concat_vc
  unfold concat_T
  refine ⟨fun s i w' => ∃ k : Nat, i = (k : Int) ∧ k ≤ n ∧ w' = w ∧ s = (((bs.take k).flatten.length : Nat) : Int), fun _ i _ => n - i.toNat, ⟨0, rfl, Nat.zero_le _, rfl, by simp⟩, ?_⟩
  rintro s i w' ⟨k, rfl, hk, hw, rfl⟩
  subst hw
  have part : ∀ k, k < n → ∃ l b o q d, p = some ⟨b, o, none⟩ ∧ bs[k]? = some l ∧ w'.cell? ⟨b, o + k, none⟩ = some (.slice q l.length d) ∧ At w' q (vB l) ∧ (q = none → l = [] ∧ d = 0) := by
    intro k hk
    obtain ⟨l, hl⟩ : ∃ l, bs[k]? = some l := ⟨_, List.getElem?_eq_getElem (by omega)⟩
    rcases hp with hp | ⟨b, o, rfl, hp⟩
    · subst hp; simp at hl
    obtain ⟨q, d, hc, hq, _, hqn⟩ := hp k l hl
    exact ⟨l, b, o, q, d, rfl, hl, hc, hq, hqn⟩
  refine ⟨fun hlt => ?_, fun hge => ?_⟩
  · have hlt' : k < n := by omega
    obtain ⟨l, b, o, q, d, hpp, hl, hc, hq, hqn⟩ := part k hlt'
    have hf := take_succ_flat hl
    have hfl := congrArg List.length hf
    have hu := upto (k + 1)
    rw [List.length_append] at hfl
    refine ⟨b, o, hpp, by omega, by omega, q, l.length, d, by simpa using hc, ?_⟩
    have e : IntKind.i64.wrap ((((bs.take k).flatten.length : Nat) : Int) + ((l.length : Nat) : Int)) = (((bs.take (k + 1)).flatten.length : Nat) : Int) := by rw [IntKind.wrap_i64]; omega
    rw [e, i64_succ (by omega) (by omega)]
    exact ⟨fun h => by omega, fun _ => ⟨⟨k + 1, by simp, hlt', rfl, rfl⟩, by simp only [Int.toNat_natCast]; omega⟩⟩
  · have hk' : k = n := by omega
    subst hk'
    have htake : bs.take k = bs := List.take_of_length_le (by omega)
    rw [htake]
    refine (grow_nil w' bs.flatten.length htot).mono ?_
    rintro e w1 ⟨p1, c1, rfl, hmine, hbel⟩
    refine ⟨p1, 0, c1, rfl, ?_⟩
    refine ⟨fun p l c i w2 => ∃ j : Nat, i = (j : Int) ∧ j ≤ k ∧ l = (bs.take j).flatten.length ∧ Mine w'.heap.size 5 1 w2 p l c (vB (bs.take j).flatten) ∧ Ext w' w2, fun _ _ _ i _ => k - i.toNat,
      ⟨0, rfl, Nat.zero_le _, by simp, by simpa [vB] using hmine, hbel⟩, ?_⟩
    rintro p2 l2 c2 i w2 ⟨j, rfl, hj, rfl, hmine2, hbel2⟩
    refine ⟨fun hlt => ?_, fun hge2 => ?_⟩
    · have hlt' : j < k := by omega
      obtain ⟨l, b, o, q, d, hpp, hl, hc, hq, hqn⟩ := part j hlt'
      have hf := take_succ_flat hl
      have hfl := congrArg List.length hf
      have hu := upto (j + 1)
      rw [List.length_append] at hfl
      refine ⟨b, o, hpp, by omega, by omega, q, l.length, d, ?_, ?_⟩
      · simp only [Int.toNat_natCast]; exact cell_ext hc hbel2
      obtain ⟨p3, c3, w3, hrun, hmine3, hg⟩ := append_bytes (d := d) hmine2 (hq.ext hbel2) rfl (fun e => by obtain ⟨h1, h2⟩ := hqn e; subst h1; exact ⟨rfl, h2⟩) hbel2.size (by omega)
      refine ⟨p3, _, c3, w3, hrun, ?_, by simp only [i64_succ (n := (j : Int)) (by omega) (by omega)]; omega⟩
      rw [i64_succ (by omega) (by omega)]
      refine ⟨j + 1, by simp, hlt', hfl.symm, ?_, hmine2.below hg hbel2 (Nat.le_refl _) hbel2.size⟩
      rw [hf]; exact hmine3
    · have hj' : j = k := by omega
      subst hj'
      rw [htake] at hmine2 ⊢
      exact ⟨_, _, rfl, hmine2, hbel2⟩

theorem Parts.ext {w w' : World} {p : Option Addr} {bs : List (List UInt8)} (h : Parts w p bs) (e : Ext w w') : Parts w' p bs := by
  rcases h with h | ⟨b, o, hp, h⟩
  · exact .inl h
  · refine .inr ⟨b, o, hp, fun k l hl => ?_⟩
    obtain ⟨q, d, h1, h2, h3, h4⟩ := h k l hl
    exact ⟨q, d, cell_ext h1 e, h2.ext e, h3, h4⟩

/-- Slices laid in a new block. -/
theorem parts_new {w w' : World} {b : Nat} {t : TypeId} {cs : Array Value} {bs : List (List UInt8)} (hnew : New w (.cells cs t) b w')
    (h : ∀ (k : Nat) (l : List UInt8), bs[k]? = some l → ∃ (q : Option Addr) (d : Nat), cs[k]? = some (Value.slice q l.length d) ∧ At w q (vB l) ∧ l.length ≤ maxLen ∧ (q = none → l = [] ∧ d = 0)) :
    Parts w' (some ⟨b, 0, none⟩) bs := by
  refine .inr ⟨_, _, rfl, fun k l hl => ?_⟩
  obtain ⟨q, d, hc, hq, hm, hn⟩ := h k l hl
  refine ⟨q, d, ?_, hq.ext hnew.ext, hm, hn⟩
  rw [(Blk.new hnew).cell, Nat.zero_add]; exact hc
theorem number_ok (w : World) (p : Option Addr) (n c : Nat) (l : List UInt8) (m : Nat) (hn : l.length = n) (hp : At w p (vB l)) (hnil : p = none → n = 0 ∧ c = 0) (hroom : n + 10 ≤ 211106232532992) (hm : m < 18446744073709551616) :
    Calls Try.prog 54 #[.slice p n c, .int .u64 (m : Int)] w fun e w' => ∃ p' c', e = .returned (.slice p' (l ++ uvar m).length c') ∧ Mine w.heap.size 5 1 w' p' (l ++ uvar m).length c' (vB (l ++ uvar m)) ∧ Ext w w' := by
  apply wireNumber_vc
  unfold wireNumber_T
  refine (digits_ok w m hm).mono ?_
  rintro e w2 ⟨p2, c2, rfl, hmine, hbel⟩
  have hlen := uvar_len10 hm
  refine ⟨p2, _, c2, rfl, fun b w3 hnew => ?_⟩
  have hparts : Parts w3 (some ⟨b, 0, none⟩) [l, uvar m] := parts_new hnew (by
    intro k x hx
    match k, hx with
    | 0, hx => cases hx; exact ⟨p, c, by simp [hn], hp.ext hbel, by simp [maxLen]; omega, fun e => by obtain ⟨h1, h2⟩ := hnil e; exact ⟨List.eq_nil_of_length_eq_zero (by omega), h2⟩⟩
    | 1, hx =>
      cases hx
      refine ⟨p2, c2, by simp, hmine.at, by simp [maxLen]; omega, fun e => ?_⟩
      obtain ⟨h1, h2⟩ := hmine.isNil e
      exact ⟨List.eq_nil_of_length_eq_zero h1, h2⟩
    | k + 2, hx => simp at hx)
  refine (concat_ok _ _ 2 2 [l, uvar m] rfl (by simp [maxLen]) hparts (by simp; omega)).mono ?_
  rintro e w4 ⟨p3, c3, rfl, hmine3, hbel3⟩
  have e1 : [l, uvar m].flatten = l ++ uvar m := by simp
  rw [e1] at hmine3 ⊢
  exact ⟨p3, _, c3, rfl, p3, c3, rfl, hmine3.mono (hbel.trans hnew.ext).size, (hbel.trans hnew.ext).trans hbel3⟩

end Go.Proofs.Ytckfedekpkgcdaa

/- Numbers out of bytes: the contracts of both readings, by one definition. -/
namespace Go.Vc
open Go

/-- Which number do bytes say, and how many bytes is it? (i: how many were read before; acc: their sum.) -/
def rd : List UInt8 → Nat → Nat → Option (Nat × Nat)
  | [], _, _ => none
  | c :: r, i, acc =>
    if 9 < i ∨ (i = 9 ∧ c.toNat ≠ 1) then none
    else if c.toNat < 128 then (if c.toNat = 0 ∧ 0 < i then none else some (acc + c.toNat % 128 * 2 ^ (7 * i), i + 1))
    else rd r (i + 1) (acc + c.toNat % 128 * 2 ^ (7 * i))

/-- Which number bytes say at a place, and where it ends. -/
def takeN (l : List UInt8) (pos : Int) : Option (Nat × Nat) := if 0 ≤ pos then (rd (l.drop pos.toNat) 0 0).map fun r => (r.1, pos.toNat + r.2) else none

/-- What TakeNumber hands back. -/
def takeV (l : List UInt8) (pos : Int) : Value :=
  match takeN l pos with
  | some (v, k) => .tuple #[.int .u64 (v : Int), .int .i64 (k : Int), .int .i64 0]
  | none => .tuple #[.int .u64 0, .int .i64 0, .int .i64 20]
/-- What TakeSigned hands back. -/
def takeS (l : List UInt8) (pos : Int) : Value :=
  match takeN l pos with
  | some (v, k) => .tuple #[.int .i64 (unzig v), .int .i64 (k : Int), .int .i64 0]
  | none => .tuple #[.int .i64 0, .int .i64 0, .int .i64 20]

/-! A number's bytes are read as it was, whatever stands behind; and what is read has these bytes. -/
theorem rd_uvar : ∀ (j n i acc : Nat) (rest : List UInt8), n < 128 ^ (j + 1) → i + j ≤ 9 → (i + j = 9 → n < 2 * 128 ^ j) → (0 < i → 0 < n) → rd (uvar n ++ rest) i acc = some (acc + n * 2 ^ (7 * i), i + (uvar n).length)
  | j, n, i, acc, rest, hn, hi, h9, hp => by
    by_cases hs : n < 128
    · rw [uvar_small hs]
      have e : (UInt8.ofNat n).toNat = n := u8_toNat (by omega)
      have hne : ¬ (9 < i ∨ (i = 9 ∧ (UInt8.ofNat n).toNat ≠ 1)) := by
        rw [e]
        rintro (h | ⟨h, h'⟩)
        · omega
        · have : j = 0 := by omega
          subst this
          have := h9 (by omega)
          have := hp (by omega)
          simp at *; omega
      simp only [List.singleton_append, rd]
      rw [if_neg hne, e, if_pos hs, if_neg (by intro h; have := hp h.2; omega), Nat.mod_eq_of_lt hs]
      simp
    · have hj : j ≠ 0 := by rintro rfl; simp at hn; omega
      obtain ⟨j', rfl⟩ := Nat.exists_eq_succ_of_ne_zero hj
      rw [uvar_big (by omega)]
      have e : (UInt8.ofNat (n % 128 + 128)).toNat = n % 128 + 128 := u8_toNat (by omega)
      simp only [List.cons_append, rd]
      have hp1 : 128 ^ (j' + 1 + 1) = 128 ^ (j' + 1) * 128 := Nat.pow_succ ..
      have hp2 : 128 ^ (j' + 1) = 128 ^ j' * 128 := Nat.pow_succ ..
      rw [if_neg (by omega), e, if_neg (by omega)]
      rw [rd_uvar j' (n / 128) (i + 1) _ rest (by rw [Nat.div_lt_iff_lt_mul (by decide), ← hp1]; exact hn) (by omega) (fun h => by have := h9 (by omega); simp only [Nat.succ_eq_add_one] at this; rw [hp2] at this; omega) (fun _ => by omega)]
      congr 1
      refine Prod.ext ?_ (by simp; omega)
      show acc + (n % 128 + 128) % 128 * 2 ^ (7 * i) + n / 128 * 2 ^ (7 * (i + 1)) = acc + n * 2 ^ (7 * i)
      have h1 : 2 ^ (7 * (i + 1)) = 128 * 2 ^ (7 * i) := by rw [Nat.mul_add, Nat.pow_add]; omega
      rw [h1, show (n % 128 + 128) % 128 = n % 128 by omega, ← Nat.mul_assoc, Nat.add_assoc, ← Nat.add_mul]
      congr 2; omega

theorem takeN_uvar {n : Nat} (hn : n < 18446744073709551616) (pre rest : List UInt8) : takeN (pre ++ (uvar n ++ rest)) (pre.length : Int) = some (n, pre.length + (uvar n).length) := by
  unfold takeN
  rw [if_pos (by omega)]
  simp only [Int.toNat_natCast, List.drop_left]
  rw [rd_uvar 9 n 0 0 rest (by omega) (by omega) (fun _ => by omega) (fun h => by omega)]
  simp

end Go.Vc

/- Numbers, signed numbers and texts as bytes: the contracts of both programs. -/
namespace Go.Vc
open Go
/-- A text's bytes behind others, and the error's number. -/
def textL (l : List UInt8) (s : List UInt8) : List UInt8 × Int := if s.length ≤ 1048576 then (l ++ (uvar s.length ++ s), 0) else ([], 2)

/-- What TakeText hands back. -/
def takeT (l : List UInt8) (pos most : Int) : Value :=
  match takeN l pos with
  | some (v, k) => if v ≤ 1048576 ∧ (v : Int) ≤ most ∧ v ≤ l.length - k then .tuple #[.string ⟨((l.drop k).take v).toArray⟩, .int .i64 ((k + v : Nat) : Int), .int .i64 0] else .tuple #[.string ⟨#[]⟩, .int .i64 0, .int .i64 20]
  | none => .tuple #[.string ⟨#[]⟩, .int .i64 0, .int .i64 20]
end Go.Vc

namespace Go.Proofs.Ytckfedekpkgcdaa
open Go Go.Vc Go.RowKit
set_option maxRecDepth 20000

/-- Bytes in a row of our own. -/
def Out (B : Nat) (w : World) (p : Option Addr) (n c : Nat) (l : List UInt8) : Prop := l.length = n ∧ Mine B 5 1 w p n c (vB l)
/-- Bytes that are handed in. -/
structure In (w : World) (p : Option Addr) (n c : Nat) (l : List UInt8) : Prop where
  len : l.length = n
  cap : n ≤ c ∧ c ≤ maxLen
  lies : At w p (vB l)
  nil : p = none → n = 0 ∧ c = 0

theorem Out.ext {B : Nat} {w w' : World} {p : Option Addr} {n c : Nat} {l : List UInt8} (h : Out B w p n c l) (e : Ext w w') : Out B w' p n c l := ⟨h.1, h.2.ext e⟩
theorem Out.mono {B B' : Nat} {w : World} {p : Option Addr} {n c : Nat} {l : List UInt8} (h : Out B w p n c l) (hB : B' ≤ B) : Out B' w p n c l := ⟨h.1, h.2.mono hB⟩
theorem Out.inn {B : Nat} {w : World} {p : Option Addr} {n c : Nat} {l : List UInt8} (h : Out B w p n c l) : In w p n c l := ⟨h.1, h.2.cap, h.2.at, h.2.isNil⟩
theorem Out.bytes {B : Nat} {w : World} {p : Option Addr} {n c : Nat} {l : List UInt8} (h : Out B w p n c l) : BytesAt w p n l := h.2.at.bytes' h.1
theorem In.ext {w w' : World} {p : Option Addr} {n c : Nat} {l : List UInt8} (h : In w p n c l) (e : Ext w w') : In w' p n c l := ⟨h.len, h.cap, h.lies.ext e, h.nil⟩
theorem In.nothing (w : World) : In w none 0 0 [] := ⟨rfl, ⟨Nat.le_refl _, Nat.zero_le _⟩, At.nil _ _, fun _ => ⟨rfl, rfl⟩⟩
theorem In.bytes {w : World} {p : Option Addr} {n c : Nat} {l : List UInt8} (h : In w p n c l) : BytesAt w p n l := h.lies.bytes' h.len
theorem In.le {w : World} {p : Option Addr} {n c : Nat} {l : List UInt8} (h : In w p n c l) : n ≤ maxLen := Nat.le_trans h.cap.1 h.cap.2

theorem number_out (w : World) {p : Option Addr} {n c : Nat} {l : List UInt8} {m : Nat} (h : In w p n c l) (hroom : n + 10 ≤ 211106232532992) (hm : m < 18446744073709551616) :
    Calls Try.prog 54 #[.slice p n c, .int .u64 (m : Int)] w fun e w' => ∃ p' n' c', e = .returned (.slice p' n' c') ∧ Out w.heap.size w' p' n' c' (l ++ uvar m) ∧ Ext w w' := by
  refine (number_ok w p n c l m h.len h.lies h.nil hroom hm).mono ?_
  rintro e w' ⟨p', c', rfl, hm, he⟩
  exact ⟨p', _, c', rfl, ⟨rfl, hm⟩, he⟩

theorem signed_out (w : World) {p : Option Addr} {n c : Nat} {l : List UInt8} {x : Int} (h : In w p n c l) (hroom : n + 10 ≤ 211106232532992) (h0 : -9223372036854775808 ≤ x) (h1 : x ≤ 9223372036854775807) :
    Calls Try.prog 47 #[.slice p n c, .int .i64 x] w fun e w' => ∃ p' n' c', e = .returned (.slice p' n' c') ∧ Out w.heap.size w' p' n' c' (l ++ uvar (zigN x)) ∧ Ext w w' := by
  apply wireSigned_vc
  unfold wireSigned_T
  rw [zig_prog h0 h1]
  refine (number_out w h hroom (zig_lt h0 h1)).mono ?_
  rintro e w' ⟨p', n', c', rfl, ho, he⟩
  exact ⟨p', n', c', rfl, p', n', c', rfl, ho, he⟩

theorem text_out (w : World) {p : Option Addr} {n c : Nat} {l : List UInt8} {s : ByteArray} (h : In w p n c l) (hroom : n + 2000000 ≤ 211106232532992) :
    Calls Try.prog 48 #[.slice p n c, .string s] w fun e w' => ∃ p' n' c', e = .returned (.tuple #[.slice p' n' c', .int .i64 (textL l (tB s)).2]) ∧ Out w.heap.size w' p' n' c' (textL l (tB s)).1 ∧ Ext w w' := by
  apply wireText_vc
  unfold wireText_T textL
  rw [tB_length]
  refine ⟨fun hs => ?_, fun hs => ?_⟩
  · rw [if_neg (by omega)]
    exact ⟨none, 0, 0, rfl, ⟨rfl, Mine.nil _ _ _ _⟩, .rfl⟩
  · rw [if_pos (by omega), u64_fit (by omega) (by omega)]
    have hl10 := uvar_len10 (n := s.size) (by omega)
    refine (digits_ok w s.size (by omega)).mono ?_
    rintro e w2 ⟨p2, c2, rfl, hmine, hx2⟩
    refine ⟨p2, _, c2, rfl, fun cs b w3 hcs hnew b2 w4 hnew2 => ?_⟩
    have hx3 : Ext w2 w3 := (drew_ext w2).trans hnew.ext
    have hat : At w3 (some ⟨b, 0, none⟩) (vB (tB s)) := by rw [← bytesRow_take s cs]; exact hnew.at.take _
    have hlen := h.len
    have hparts : Parts w4 (some ⟨b2, 0, none⟩) [l, uvar s.size, tB s] := parts_new hnew2 (by
      intro k x hx
      match k, hx with
      | 0, hx => cases hx; exact ⟨p, c, by simp [hlen], (h.lies.ext hx2).ext hx3, by simp [maxLen]; omega, fun e => by obtain ⟨h1, h2⟩ := h.nil e; exact ⟨List.eq_nil_of_length_eq_zero (by omega), h2⟩⟩
      | 1, hx =>
        cases hx
        exact ⟨p2, c2, by simp, hmine.at.ext hx3, by simp [maxLen]; omega, fun e => by obtain ⟨h1, h2⟩ := hmine.isNil e; exact ⟨List.eq_nil_of_length_eq_zero h1, h2⟩⟩
      | 2, hx => cases hx; exact ⟨some ⟨b, 0, none⟩, cs, by simp [tB_length], hat, by rw [tB_length]; simp [maxLen]; omega, fun e => by cases e⟩
      | k + 3, hx => simp at hx)
    have hx4 : Ext w w4 := (hx2.trans hx3).trans hnew2.ext
    refine (concat_ok _ _ 3 3 [l, uvar s.size, tB s] rfl (by simp [maxLen]) hparts (by simp [tB_length]; omega)).mono ?_
    rintro e w5 ⟨p3, c3, rfl, hmine3, hx5⟩
    have e1 : [l, uvar s.size, tB s].flatten = l ++ (uvar s.size ++ tB s) := by simp
    rw [e1] at hmine3 ⊢
    exact ⟨p3, _, c3, rfl, p3, _, c3, rfl, ⟨rfl, hmine3.mono hx4.size⟩, hx4.trans hx5⟩

end Go.Proofs.Ytckfedekpkgcdaa

/- Stable sorts, as plain laws of lists: a list that is in order, and in which those that stand alike come as they came, is one alone. -/
namespace Go.Vc

/-- A comparator: turned round its sign turns; it is transitive. -/
structure Cmp {α : Type} (c : α → α → Int) : Prop where
  anti : ∀ x y, c y x = - c x y
  trans : ∀ x y z, c x y ≤ 0 → c y z ≤ 0 → c x z ≤ 0

section
variable {α : Type} {c : α → α → Int}

theorem Cmp.self (h : Cmp c) (x : α) : c x x = 0 := by have := h.anti x x; omega
theorem Cmp.lt_of (h : Cmp c) {x y z : α} (a : c x y < 0) (b : c y z ≤ 0) : c x z < 0 := by
  have := h.trans x y z (by omega) b
  rcases Int.lt_or_eq_of_le this with h1 | h1
  · exact h1
  · have h2 := h.anti x z
    have h3 := h.trans y z x b (by omega)
    have h4 := h.anti x y
    omega
theorem Cmp.of_lt (h : Cmp c) {x y z : α} (a : c x y ≤ 0) (b : c y z < 0) : c x z < 0 := by
  have := h.trans x y z a (by omega)
  rcases Int.lt_or_eq_of_le this with h1 | h1
  · exact h1
  · have h2 := h.anti x z
    have h3 := h.trans z x y (by omega) a
    have h4 := h.anti y z
    omega
theorem Cmp.eq_trans (h : Cmp c) {x y z : α} (a : c x y = 0) (b : c y z = 0) : c x z = 0 := by
  have h1 := h.trans x y z (by omega) (by omega)
  have h2 := h.anti x y
  have h3 := h.anti y z
  have h4 := h.trans z y x (by omega) (by omega)
  have h5 := h.anti x z
  omega
theorem Cmp.eq_symm (h : Cmp c) {x y : α} (a : c x y = 0) : c y x = 0 := by have := h.anti x y; omega

def Ord (c : α → α → Int) (l : List α) : Prop := l.Pairwise fun x y => c x y ≤ 0
/-- Those of a list that stand as z does. -/
def cls (c : α → α → Int) (z : α) (l : List α) : List α := l.filter fun x => decide (c z x = 0)
def SameF (c : α → α → Int) (xs ys : List α) : Prop := ∀ z, cls c z xs = cls c z ys
/-- ys is xs in order, and stable. -/
structure Stab (c : α → α → Int) (xs ys : List α) : Prop where
  ord : Ord c ys
  same : SameF c xs ys

theorem cls_append (z : α) (a b : List α) : cls c z (a ++ b) = cls c z a ++ cls c z b := by simp [cls]
theorem SameF.rfl {a : List α} : SameF c a a := fun _ => Eq.refl _
theorem SameF.symm {a b : List α} (h : SameF c a b) : SameF c b a := fun z => (h z).symm
theorem SameF.trans {a b d : List α} (h : SameF c a b) (k : SameF c b d) : SameF c a d := fun z => (h z).trans (k z)
theorem SameF.app {a b d e : List α} (h : SameF c a b) (k : SameF c d e) : SameF c (a ++ d) (b ++ e) := fun z => by rw [cls_append, cls_append, h z, k z]
/-- Two blocks, no two of which stand alike, change places. -/
theorem SameF.swap (hc : Cmp c) {u v : List α} (h : ∀ x ∈ u, ∀ y ∈ v, c x y ≠ 0) : SameF c (u ++ v) (v ++ u) := by
  intro z
  rw [cls_append, cls_append]
  by_cases hu : cls c z u = []
  · rw [hu]; simp
  · by_cases hv : cls c z v = []
    · rw [hv]; simp
    · exfalso
      obtain ⟨x, hx⟩ := List.exists_mem_of_ne_nil _ hu
      obtain ⟨y, hy⟩ := List.exists_mem_of_ne_nil _ hv
      simp only [cls, List.mem_filter, decide_eq_true_eq] at hx hy
      exact h x hx.1 y hy.1 (hc.eq_trans (hc.eq_symm hx.2) hy.2)
theorem SameF.mem (hc : Cmp c) {a b : List α} (h : SameF c a b) {x : α} : x ∈ a ↔ x ∈ b := by
  have key : ∀ l : List α, x ∈ l ↔ x ∈ cls c x l := fun l => by simp [cls, hc.self]
  rw [key a, key b, h x]
theorem cls_split {z x : α} : ∀ {b r : List α}, cls c z b = x :: r → ∃ s t, b = s ++ x :: t ∧ cls c z s = []
  | [], r, h => by simp [cls] at h
  | y :: b, r, h => by
    by_cases hy : c z y = 0
    · have e1 : cls c z (y :: b) = y :: cls c z b := by simp [cls, hy]
      rw [e1] at h
      cases h
      exact ⟨[], b, rfl, rfl⟩
    · have e1 : ∀ l : List α, cls c z (y :: l) = cls c z l := fun l => by simp [cls, hy]
      rw [e1] at h
      obtain ⟨s, t, rfl, hs⟩ := cls_split h
      exact ⟨y :: s, t, rfl, by rw [e1, hs]⟩
theorem SameF.length (hc : Cmp c) : ∀ {a b : List α}, SameF c a b → a.length = b.length
  | [], b, h => by
    cases b with
    | nil => rfl
    | cons y b => have := (SameF.mem hc h (x := y)).2 (by simp); cases this
  | x :: a, b, h => by
    have hx := h x
    have e1 : cls c x (x :: a) = x :: cls c x a := by simp [cls, hc.self]
    rw [e1] at hx
    obtain ⟨s, t, rfl, hs⟩ := cls_split hx.symm
    have h2 : SameF c (s ++ x :: t) (x :: (s ++ t)) := by
      have : SameF c (s ++ [x] ++ t) ([x] ++ s ++ t) := by
        refine SameF.app (SameF.swap hc fun p hp q hq e => ?_) .rfl
        simp at hq; subst hq
        have : p ∈ cls c q s := by simp [cls, hp, hc.eq_symm e]
        rw [hs] at this; cases this
      simpa using this
    have h3 := h.trans h2
    have h4 : SameF c a (s ++ t) := by
      intro z
      have hz := h3 z
      by_cases hzx : c z x = 0
      · have e1 : ∀ l : List α, cls c z (x :: l) = x :: cls c z l := fun l => by simp [cls, hzx]
        rw [e1, e1] at hz
        exact (List.cons.inj hz).2
      · have e1 : ∀ l : List α, cls c z (x :: l) = cls c z l := fun l => by simp [cls, hzx]
        rwa [e1, e1] at hz
    have := SameF.length hc h4
    simp only [List.length_append, List.length_cons] at this ⊢
    omega

/-- There is one such list alone. -/
theorem Ord.unique (hc : Cmp c) : ∀ {a b : List α}, Ord c a → Ord c b → SameF c a b → a = b
  | [], b, _, _, h => by
    cases b with
    | nil => rfl
    | cons y b => have := (SameF.mem hc h (x := y)).2 (by simp); cases this
  | x :: a, [], _, _, h => by have := (SameF.mem hc h (x := x)).1 (by simp); cases this
  | x :: a, y :: b, ha, hb, h => by
    have hxb : x ∈ y :: b := (SameF.mem hc h).1 (by simp)
    have hya : y ∈ x :: a := (SameF.mem hc h).2 (by simp)
    have h1 : c y x ≤ 0 := by
      rcases List.mem_cons.1 hxb with rfl | hm
      · rw [hc.self]; exact Int.le_refl 0
      · exact (List.pairwise_cons.1 hb).1 x hm
    have h2 : c x y ≤ 0 := by
      rcases List.mem_cons.1 hya with rfl | hm
      · rw [hc.self]; exact Int.le_refl 0
      · exact (List.pairwise_cons.1 ha).1 y hm
    have h3 := hc.anti x y
    have h0 : c x y = 0 := by omega
    have hx := h x
    have e1 : cls c x (x :: a) = x :: cls c x a := by simp [cls, hc.self]
    have e2 : cls c x (y :: b) = y :: cls c x b := by simp [cls, h0]
    rw [e1, e2] at hx
    have hxy : x = y := (List.cons.inj hx).1
    subst hxy
    congr 1
    refine Ord.unique hc (List.pairwise_cons.1 ha).2 (List.pairwise_cons.1 hb).2 fun z => ?_
    have hz := h z
    by_cases hzx : c z x = 0
    · have e1 : ∀ l : List α, cls c z (x :: l) = x :: cls c z l := fun l => by simp [cls, hzx]
      rw [e1, e1] at hz
      exact (List.cons.inj hz).2
    · have e1 : ∀ l : List α, cls c z (x :: l) = cls c z l := fun l => by simp [cls, hzx]
      rwa [e1, e1] at hz
theorem Stab.unique (hc : Cmp c) {xs ys zs : List α} (h : Stab c xs ys) (k : Stab c xs zs) : ys = zs := Ord.unique hc h.ord k.ord (h.same.symm.trans k.same)
theorem Stab.mem (hc : Cmp c) {xs ys : List α} (h : Stab c xs ys) {x : α} : x ∈ ys ↔ x ∈ xs := (SameF.mem hc h.same).symm
theorem Stab.length (hc : Cmp c) {xs ys : List α} (h : Stab c xs ys) : ys.length = xs.length := (SameF.length hc h.same).symm
/-! ### Insertion -/
/-- Two lists in order, put together: the lesser halves, the greater halves. -/
theorem Stab.halves (hc : Cmp c) {a1 u v b2 r1 r2 : List α} (ha : Ord c (a1 ++ u)) (hb : Ord c (v ++ b2)) (h1 : ∀ x ∈ u, ∀ y ∈ v, c y x < 0) (h2 : ∀ x ∈ a1, ∀ y ∈ b2, c x y ≤ 0)
    (k1 : Stab c (a1 ++ v) r1) (k2 : Stab c (u ++ b2) r2) : Stab c ((a1 ++ u) ++ (v ++ b2)) (r1 ++ r2) := by
  have hA := List.pairwise_append.1 ha
  have hB := List.pairwise_append.1 hb
  refine ⟨List.pairwise_append.2 ⟨k1.ord, k2.ord, fun x hx y hy => ?_⟩, ?_⟩
  · have hx := (k1.mem hc).1 hx
    have hy := (k2.mem hc).1 hy
    rcases List.mem_append.1 hx with hx | hx <;> rcases List.mem_append.1 hy with hy | hy
    · exact hA.2.2 x hx y hy
    · exact h2 x hx y hy
    · have := h1 y hy x hx; omega
    · exact hB.2.2 x hx y hy
  · have e : SameF c ((a1 ++ u) ++ (v ++ b2)) ((a1 ++ v) ++ (u ++ b2)) := by
      have : SameF c (u ++ v) (v ++ u) := SameF.swap hc fun x hx y hy e => by have := h1 x hx y hy; have := hc.anti x y; omega
      have h3 : SameF c (a1 ++ ((u ++ v) ++ b2)) (a1 ++ ((v ++ u) ++ b2)) := SameF.app .rfl (SameF.app this .rfl)
      simpa [List.append_assoc] using h3
    exact e.trans (SameF.app k1.same k2.same)
/-- In order already. -/
theorem Ord.app {a b : List α} (ha : Ord c a) (hb : Ord c b) (h : ∀ x ∈ a, ∀ y ∈ b, c x y ≤ 0) : Ord c (a ++ b) := List.pairwise_append.2 ⟨ha, hb, h⟩
theorem Ord.left {a b : List α} (h : Ord c (a ++ b)) : Ord c a := (List.pairwise_append.1 h).1
theorem Ord.right {a b : List α} (h : Ord c (a ++ b)) : Ord c b := (List.pairwise_append.1 h).2.1
theorem Ord.get (hc : Cmp c) {l : List α} (h : Ord c l) {i j : Nat} (hij : i ≤ j) {x y : α} (hx : l[i]? = some x) (hy : l[j]? = some y) : c x y ≤ 0 := by
  rcases Nat.lt_or_eq_of_le hij with hlt | rfl
  · obtain ⟨hi, rfl⟩ := List.getElem?_eq_some_iff.1 hx
    obtain ⟨hj, rfl⟩ := List.getElem?_eq_some_iff.1 hy
    exact List.pairwise_iff_getElem.1 h i j hi hj hlt
  · rw [hx] at hy; cases hy; rw [hc.self]; exact Int.le_refl 0
end
end Go.Vc

/- The frame: what a walk holds in memory of its own, boxes and rows, and how each step turns it. -/
namespace Go.Vc
open Go Go.RowKit

/-! ### append, and where the row then lies -/
theorem ok_inj {v v' : Value} {w w' : World} {r : Result Value} (h : r = .ok v w) (h' : r = .ok v' w') : v = v' ∧ w = w' := by
  rw [h] at h'; cases h'; exact ⟨rfl, rfl⟩

/-- As append_own; the row lies where it lay, or is new. -/
theorem append_at {P : Program} {t ty u : TypeId} {z : Ty} {B s : Nat} {w : World} {p q : Option Addr} {n c m d : Nat} {xs news : List Value} (ht : P.underlying t = some (.slice u)) (hz : tyOf P u = some z)
    (h1 : z.ls.length = s) (h0 : 0 < s) (hown : Mine B u s w p n c xs) (hat : At w q news) (hm : news.length = m * s) (hq : q = none → m = 0 ∧ d = 0) (hone : ∀ x ∈ news, x.oneCell' = true) (hB : B ≤ w.heap.size)
    (hroom : ((n + m) + (n + m) / 4 + 192) * z.bytes ≤ 281474976710656) (hlen : n + m ≤ maxLen) :
    ∃ p' c' w', (Builtin.append_ #[t, t] ty #[.slice p n c, .slice q m d]).run P w = .ok (.slice p' (n + m) c') w' ∧ Mine B u s w' p' (n + m) c' (xs ++ news) ∧ w.grownBy w' (Value.slice p n c).ownBlock ∧
      (∀ b o, p' = some ⟨b, o, none⟩ → w.heap.size ≤ b ∨ p = some ⟨b, 0, none⟩) := by
  obtain ⟨p', c', w', hrun, hmine, hg⟩ := append_own (ty := ty) ht hz h1 h0 hown hat hm hq hone hB hroom hlen
  refine ⟨p', c', w', hrun, hmine, hg, ?_⟩
  rcases hown.shape with ⟨rfl, rfl, rfl, rfl⟩ | ⟨g, rfl, hg1, hg2⟩
  · obtain ⟨p2, c2, w2, hrun2, hmine2, _⟩ := append_own (ty := ty) ht hz h1 h0 (Mine.nil w.heap.size u s w) hat hm hq hone (Nat.le_refl _) hroom hlen
    obtain ⟨e, _⟩ := ok_inj hrun hrun2
    cases e
    exact fun b o hb => .inl (hmine2.ge b o hb).1
  · obtain ⟨g', cur, hp, _, hblk, hcs, htake⟩ := hown.blk (.inr (by simp))
    cases hp
    obtain ⟨i, d', hi, hzz, hd, hsz, hls, hag, hby⟩ := tyOf_spec hz
    have hsize : i.size = s := by rw [hsz]; have := h1; rw [hls, length_leavesOf] at this; simpa using this
    subst hsize
    cases q with
    | none =>
      obtain ⟨rfl, rfl⟩ := hq rfl
      have hcap := hown.cap.1
      have hr : (Builtin.append_ #[t, t] ty #[.slice (some ⟨g, 0, none⟩) n c, .slice none 0 0]).run P w = .ok (.slice (some ⟨g, 0, none⟩) n c) w := by
        simp [Builtin.append_, run_underlying ht, sizeOf, typeInfo, hi, Builtin.lenOf, hcap, Builtin.firstCells, storeCells]
      obtain ⟨e, _⟩ := ok_inj hrun hr
      cases e
      exact fun b o hb => .inr (by cases hb; rfl)
    | some a =>
      have hnews : ∀ j x, news[j]? = some x → w.cell? (a.add j) = some x := by
        intro j x hx
        rcases hat with rfl | ⟨b, o, hp, hc⟩
        · simp at hx
        · cases hp; rw [Addr.add_lit]; exact hc j x hx
      by_cases hfit : n + m ≤ c
      · have hr := run_append_room (P := P) w t ty u i ht hi g n c cur hblk a m d news hm hnews hone hfit (by rw [hm, hcs, ← Nat.add_mul]; exact Nat.mul_le_mul_right _ hfit)
        obtain ⟨e, _⟩ := ok_inj hrun hr
        cases e
        exact fun b o hb => .inr (by cases hb; rfl)
      · have holds : ∀ j x, xs[j]? = some x → w.cell? ((⟨g, 0, none⟩ : Addr).add j) = some x := by
          intro j x hj
          rw [Addr.add_lit, hblk.cell, Nat.zero_add]
          rw [← htake, List.getElem?_take] at hj
          split at hj
          · simpa using hj
          · cases hj
        simp only [maxLen] at hlen
        have hr := run_append_grow (P := P) w t ty u i _ ht hi hzz ⟨g, 0, none⟩ n c xs hown.len holds a m d news hm hnews (by omega) (by omega) (growslice_fits_wide (by omega) (by rw [← hby]; exact hroom))
        obtain ⟨e, _⟩ := ok_inj hrun hr
        cases e
        exact fun b o hb => .inl (by cases hb; exact Nat.le_refl _)

/-! ### The frame -/
/-- A growable row of our own: its elements' type, their cells, the slice, and what it holds. -/
structure Row where
  t : TypeId
  s : Nat
  p : Option Addr
  n : Nat
  c : Nat
  vs : List Value

/-- Since w0 we have laid the blocks fs and the rows ms, all unlike; all that was there is as it was. -/
structure Hold (w0 W : World) (fs : List (Nat × Obj)) (ms : List Row) : Prop where
  ext : Ext w0 W
  ge : ∀ x ∈ fs, w0.heap.size ≤ x.1
  holds : ∀ (i : Nat) x, fs[i]? = some x → W.heap[x.1]? = some x.2
  keys : ∀ (i j : Nat) x y, fs[i]? = some x → fs[j]? = some y → i ≠ j → x.1 ≠ y.1
  own : ∀ (i : Nat) m, ms[i]? = some m → Mine w0.heap.size m.t m.s W m.p m.n m.c m.vs
  apart : ∀ (i j : Nat) x m, fs[i]? = some x → ms[j]? = some m → ∀ b o, m.p = some ⟨b, o, none⟩ → x.1 ≠ b
  rows : ∀ (i j : Nat) m m', ms[i]? = some m → ms[j]? = some m' → i ≠ j → ∀ b o b' o', m.p = some ⟨b, o, none⟩ → m'.p = some ⟨b', o', none⟩ → b ≠ b'

section
variable {w0 W W' : World} {fs : List (Nat × Obj)} {ms : List Row} {b d l k : Nat} {o : Obj} {r : Nat → Loop} {t u : TypeId} {s n c : Nat} {p : Option Addr} {vs : List Value} {cs : Array Value}

theorem Hold.start (h : Ext w0 W) : Hold w0 W [] [] := ⟨h, by simp, by simp, by simp, by simp, by simp, by simp⟩
theorem Hold.size (h : Hold w0 W fs ms) : w0.heap.size ≤ W.heap.size := h.ext.size
theorem Hold.lt (h : Hold w0 W fs ms) (i : Nat) {x : Nat × Obj} (hi : fs[i]? = some x) : x.1 < W.heap.size := (Array.getElem?_eq_some_iff.1 (h.holds i x hi)).1

/-- All of ours is as it was. -/
theorem Hold.step (h : Hold w0 W fs ms) (e : Ext W W') : Hold w0 W' fs ms :=
  ⟨h.ext.trans e, h.ge, fun i x hx => (e.block _ (h.lt i hx)).trans (h.holds i x hx), h.keys, fun i m hm => (h.own i m hm).ext e, h.apart, h.rows⟩

/-- A new block. -/
theorem Hold.new (h : Hold w0 W fs ms) (e : New W o b W') : Hold w0 W' ((b, o) :: fs) ms := by
  have h' := h.step e.ext
  obtain ⟨hb, hs⟩ := e.size
  refine ⟨h'.ext, ?_, ?_, ?_, h'.own, ?_, h'.rows⟩
  · intro x hx
    rcases List.mem_cons.1 hx with rfl | hx
    · rw [hb]; exact h.size
    · exact h.ge x hx
  · intro i x hx
    cases i with
    | zero => cases hx; exact e.obj
    | succ i => exact h'.holds i x (by simpa using hx)
  · intro i j x y hx hy hij
    cases i with
    | zero =>
      cases hx
      cases j with
      | zero => omega
      | succ j => have := h.lt j (by simpa using hy); simp only; omega
    | succ i =>
      have h1 := h.lt i (by simpa using hx)
      cases j with
      | zero => cases hy; simp only; omega
      | succ j => exact h.keys i j x y (by simpa using hx) (by simpa using hy) (by omega)
  · intro i j x m hx hm b' o' hp
    cases i with
    | zero => cases hx; have := (h.own j m hm).ge b' o' hp; simp only; omega
    | succ i => exact h.apart i j x m (by simpa using hx) hm b' o' hp

/-- Block i has turned. -/
theorem Hold.upd (h : Hold w0 W fs ms) (i : Nat) {o o' : Obj} (hi : fs[i]? = some (b, o)) (e : But b W W') (ho : W'.heap[b]? = some o') : Hold w0 W' (fs.set i (b, o')) ms := by
  have hge := h.ge _ (List.mem_of_getElem? hi)
  have key : ∀ (j : Nat) x, (fs.set i (b, o'))[j]? = some x → ∃ y, fs[j]? = some y ∧ y.1 = x.1 ∧ (j ≠ i → y = x) := by
    intro j x hx
    rw [List.getElem?_set] at hx
    split at hx
    · rename_i hij
      subst hij
      split at hx
      · cases hx; exact ⟨_, hi, rfl, fun hne => absurd rfl hne⟩
      · cases hx
    · exact ⟨x, hx, rfl, fun _ => rfl⟩
  refine ⟨h.ext.below.but e hge h.size, ?_, ?_, ?_, ?_, ?_, h.rows⟩
  · intro x hx
    obtain ⟨j, hj⟩ := List.mem_iff_getElem?.1 hx
    obtain ⟨y, hy, hyx, _⟩ := key j x hj
    rw [← hyx]; exact h.ge _ (List.mem_of_getElem? hy)
  · intro j x hx
    by_cases hij : j = i
    · subst hij
      rw [List.getElem?_set, if_pos rfl] at hx
      split at hx
      · cases hx; exact ho
      · cases hx
    · obtain ⟨y, hy, _, hyx⟩ := key j x hx
      have := hyx hij
      subst this
      rw [e.block _ (h.lt j hy) (h.keys j i _ _ hy hi hij)]
      exact h.holds j _ hy
  · intro j k x y hx hy hjk
    obtain ⟨x', hx', e1, _⟩ := key j x hx
    obtain ⟨y', hy', e2, _⟩ := key k y hy
    rw [← e1, ← e2]; exact h.keys j k _ _ hx' hy' hjk
  · intro j m hm
    exact (h.own j m hm).but e fun b' o' hp hb => h.apart i j _ m hi hm b' o' hp hb.symm
  · intro j k x m hx hm b' o' hp
    obtain ⟨x', hx', e1, _⟩ := key j x hx
    rw [← e1]; exact h.apart j k _ m hx' hm b' o' hp

theorem Hold.base (h : Hold w0 W fs ms) (i : Nat) (hi : fs[i]? = some (b, o)) : w0.heap.size ≤ b := h.ge _ (List.mem_of_getElem? hi)
theorem Hold.blk (h : Hold w0 W fs ms) (i : Nat) (hi : fs[i]? = some (b, .cells cs t (0, 0))) : Blk W b t cs := h.holds i _ hi
theorem Hold.put (h : Hold w0 W fs ms) (i : Nat) {q : Nat} (hi : fs[i]? = some (b, .cells cs t (0, 0))) (e : Put W b q vs W') : Hold w0 W' (fs.set i (b, .cells (setA cs q vs) t (0, 0))) ms :=
  h.upd i hi e.but ((h.blk i hi).put e)
theorem Hold.box (h : Hold w0 W fs ms) (i : Nat) {v v' : Value} (hi : fs[i]? = some (b, .cells #[v] t (0, 0))) (e : Put W b 0 [v'] W') : Hold w0 W' (fs.set i (b, .cells #[v'] t (0, 0))) ms := h.put i hi e
theorem Hold.loop (h : Hold w0 W fs ms) (i : Nat) (hi : fs[i]? = some (l, .loop (r k))) : Rec r l k W := h.holds i _ hi
theorem Hold.dfr (h : Hold w0 W fs ms) (i : Nat) (hi : fs[i]? = some (d, .deferred (some []))) : Dfr d W := h.holds i _ hi
theorem Hold.turn (h : Hold w0 W fs ms) (i k' : Nat) (hi : fs[i]? = some (l, .loop (r k))) : Hold w0 (Go.Vc.turn r l k' W) (fs.set i (l, .loop (r k'))) ms :=
  h.upd i hi turn_but.1 ((h.loop i hi).turn k')
/-- Fewer are held. -/
theorem Hold.drop (h : Hold w0 W fs ms) (fs' : List (Nat × Obj)) (f : Nat → Nat) (hf : ∀ (i : Nat) x, fs'[i]? = some x → fs[f i]? = some x) (hj : ∀ i j, f i = f j → i = j) : Hold w0 W fs' ms :=
  ⟨h.ext, fun x hx => by obtain ⟨j, hj⟩ := List.mem_iff_getElem?.1 hx; exact h.ge x (List.mem_of_getElem? (hf j x hj)), fun i x hx => h.holds _ x (hf i x hx),
    fun i j x y hx hy hij => h.keys _ _ x y (hf i x hx) (hf j y hy) fun e => hij (hj _ _ e), h.own, fun i j x m hx => h.apart _ j x m (hf i x hx), h.rows⟩
theorem Hold.tail {x : Nat × Obj} (h : Hold w0 W (x :: fs) ms) : Hold w0 W fs ms := h.drop fs (· + 1) (fun i x hx => by simpa using hx) (fun i j e => by omega)

/-- A row of ours, nil. -/
theorem Hold.nilRow (h : Hold w0 W fs ms) (t : TypeId) (s : Nat) : Hold w0 W fs (⟨t, s, none, 0, 0, []⟩ :: ms) := by
  refine ⟨h.ext, h.ge, h.holds, h.keys, ?_, ?_, ?_⟩
  · intro i m hm
    cases i with
    | zero => cases hm; exact Mine.nil _ _ _ _
    | succ i => exact h.own i m (by simpa using hm)
  · intro i j x m hx hm b o hp
    cases j with
    | zero => cases hm; cases hp
    | succ j => exact h.apart i j x m hx (by simpa using hm) b o hp
  · intro i j m m' hm hm' hij b o b' o' hp hp'
    cases i with
    | zero => cases hm; cases hp
    | succ i =>
      cases j with
      | zero => cases hm'; cases hp'
      | succ j => exact h.rows i j m m' (by simpa using hm) (by simpa using hm') (by omega) b o b' o' hp hp'

/-- A row of ours, laid by a step that left all else. -/
theorem Hold.addRow (h : Hold w0 W fs ms) (e : Ext W W') (hm : Mine W.heap.size t s W' p n c vs) : Hold w0 W' fs (⟨t, s, p, n, c, vs⟩ :: ms) := by
  have h' := h.step e
  refine ⟨h'.ext, h'.ge, h'.holds, h'.keys, ?_, ?_, ?_⟩
  · intro i m hm'
    cases i with
    | zero => cases hm'; exact hm.mono h.size
    | succ i => exact h'.own i m (by simpa using hm')
  · intro i j x m hx hm' b o hp
    cases j with
    | zero => cases hm'; have := h.lt i hx; have := hm.ge b o hp; omega
    | succ j => exact h.apart i j x m hx (by simpa using hm') b o hp
  · intro i j m m' hm1 hm2 hij b o b' o' hp hp'
    cases i with
    | zero =>
      cases hm1
      cases j with
      | zero => omega
      | succ j => have := (h.own j m' (by simpa using hm2)).ge b' o' hp'; have := hm.ge b o hp; omega
    | succ i =>
      cases j with
      | zero => cases hm2; have := (h.own i m (by simpa using hm1)).ge b o hp; have := hm.ge b' o' hp'; omega
      | succ j => exact h.rows i j m m' (by simpa using hm1) (by simpa using hm2) (by omega) b o b' o' hp hp'
theorem Hold.litRow (h : Hold w0 W fs ms) {cap : Nat} (e : New W (.cells cs t) b W') (hm : cap ≤ maxLen) (hs : cs.size = cap * s) : Hold w0 W' fs (⟨t, s, some ⟨b, 0, none⟩, cap, cap, cs.toList⟩ :: ms) := h.addRow e.ext (Mine.lit e (Nat.le_refl _) hm hs)

theorem Hold.row (h : Hold w0 W fs ms) (i : Nat) (hi : ms[i]? = some ⟨t, s, p, n, c, vs⟩) : Mine w0.heap.size t s W p n c vs := h.own i _ hi

/-- Row i has turned. -/
theorem Hold.updRow (h : Hold w0 W fs ms) (i : Nat) {p' : Option Addr} {n' c' : Nat} {vs' : List Value} (hi : ms[i]? = some ⟨t, s, p, n, c, vs⟩) (hg : (p = none ∧ Ext W W') ∨ ∃ b, p = some ⟨b, 0, none⟩ ∧ w0.heap.size ≤ b ∧ But b W W')
    (hm : Mine w0.heap.size t s W' p' n' c' vs') (hp : ∀ b o, p' = some ⟨b, o, none⟩ → W.heap.size ≤ b ∨ p = some ⟨b, 0, none⟩) : Hold w0 W' fs (ms.set i ⟨t, s, p', n', c', vs'⟩) := by
  have key : ∀ (j : Nat) m, (ms.set i ⟨t, s, p', n', c', vs'⟩)[j]? = some m → (j = i ∧ m = ⟨t, s, p', n', c', vs'⟩) ∨ (j ≠ i ∧ ms[j]? = some m) := by
    intro j m hm
    rw [List.getElem?_set] at hm
    split at hm
    · rename_i hij
      split at hm
      · cases hm; exact .inl ⟨hij.symm, rfl⟩
      · cases hm
    · rename_i hij; exact .inr ⟨fun e => hij e.symm, hm⟩
  have base : Ext w0 W' ∧ (∀ (i : Nat) x, fs[i]? = some x → W'.heap[x.1]? = some x.2) ∧ ∀ (j : Nat) m, j ≠ i → ms[j]? = some m → Mine w0.heap.size m.t m.s W' m.p m.n m.c m.vs := by
    rcases hg with ⟨_, e⟩ | ⟨b, hb, _, e⟩
    · have h' := h.step e
      exact ⟨h'.ext, h'.holds, fun j m _ hm => h'.own j m hm⟩
    · have hge := ((h.row i hi).ge b 0 hb).1
      refine ⟨h.ext.below.but e hge h.size, fun j x hx => ?_, fun j m hj hm => ?_⟩
      · rw [e.block _ (h.lt j hx) (h.apart j i x _ hx hi b 0 hb)]; exact h.holds j x hx
      · exact (h.own j m hm).but e fun b' o' hp' hbb => h.rows i j _ m hi hm (fun e => hj e.symm) b 0 b' o' hb hp' hbb.symm
  refine ⟨base.1, h.ge, base.2.1, h.keys, ?_, ?_, ?_⟩
  · intro j m hm'
    rcases key j m hm' with ⟨_, rfl⟩ | ⟨hj, hm''⟩
    · exact hm
    · exact base.2.2 j m hj hm''
  · intro j k x m hx hm' b o hb
    rcases key k m hm' with ⟨_, rfl⟩ | ⟨hj, hm''⟩
    · rcases hp b o hb with hlt | hold
      · have := h.lt j hx; omega
      · exact h.apart j i x _ hx hi b 0 hold
    · exact h.apart j k x m hx hm'' b o hb
  · intro j k m m' hm1 hm2 hjk b o b' o' hb hb'
    rcases key j m hm1 with ⟨rfl, rfl⟩ | ⟨hj, hm1'⟩
    · rcases key k m' hm2 with ⟨rfl, _⟩ | ⟨hk, hm2'⟩
      · exact absurd rfl hjk
      · rcases hp b o hb with hlt | hold
        · have := (h.own k m' hm2').ge b' o' hb'; omega
        · exact h.rows j k _ m' hi hm2' (fun e => hk e.symm) b 0 b' o' hold hb'
    · rcases key k m' hm2 with ⟨rfl, rfl⟩ | ⟨hk, hm2'⟩
      · rcases hp b' o' hb' with hlt | hold
        · have := (h.own j m hm1').ge b o hb; omega
        · exact h.rows j k m _ hm1' hi hj b o b' 0 hb hold
      · exact h.rows j k m m' hm1' hm2' hjk b o b' o' hb hb'

/-- append onto row i. -/
theorem Hold.append {P : Program} {t' ty : TypeId} {z : Ty} {q : Option Addr} {m d' : Nat} {news : List Value} (h : Hold w0 W fs ms) (i : Nat) (hi : ms[i]? = some ⟨t, s, p, n, c, vs⟩) (ht : P.underlying t' = some (.slice t)) (hz : tyOf P t = some z)
    (h1 : z.ls.length = s) (h0 : 0 < s) (hat : At W q news) (hm : news.length = m * s) (hq : q = none → m = 0 ∧ d' = 0) (hone : ∀ x ∈ news, x.oneCell' = true)
    (hroom : ((n + m) + (n + m) / 4 + 192) * z.bytes ≤ 281474976710656) (hlen : n + m ≤ maxLen) :
    ∃ p' c' W', (Builtin.append_ #[t', t'] ty #[.slice p n c, .slice q m d']).run P W = .ok (.slice p' (n + m) c') W' ∧ Hold w0 W' fs (ms.set i ⟨t, s, p', n + m, c', vs ++ news⟩) := by
  obtain ⟨p', c', W', h2, h3, h4, h5⟩ := append_at (ty := ty) ht hz h1 h0 (h.row i hi) hat hm hq hone h.size hroom hlen
  exact ⟨p', c', W', h2, h.updRow i hi ((h.row i hi).grown h4) h3 h5⟩
end
end Go.Vc

/- What is handed in, opened: of whatever depth. -/
namespace Go.Vc
open Go Go.RowKit

/-- The cells cs are a value of type t that can be read, and each string and slice in it is within the platform's reach. -/
def Arg (P : Program) (w : World) (t : TypeId) (cs : List Value) : Prop :=
  ∃ (H : Type) (enc : TypeId × Value → H) (fuel : Nat) (d : DataW H) (ps : List MemPlace), DataW.trod enc P w 0 (fun _ => true) true fuel t cs = some (d, ps) ∧ ∀ n ∈ d.weights P t, n ≤ 140737488351232

theorem mapM_some {α β : Type} {f : α → Option β} : ∀ {l : List α} {ys : List β}, l.mapM f = some ys → ys.length = l.length ∧ ∀ (i : Nat) x, l[i]? = some x → ∃ y, ys[i]? = some y ∧ f x = some y := by
  intro l
  induction l with
  | nil => intro ys h; simp at h; subst h; exact ⟨rfl, fun i x hx => by simp at hx⟩
  | cons a l ih =>
    intro ys h
    rw [List.mapM_cons] at h
    cases ha : f a with
    | none => rw [ha] at h; simp at h
    | some b =>
      rw [ha] at h
      cases hl : l.mapM f with
      | none => rw [hl] at h; simp at h
      | some zs =>
        rw [hl] at h
        simp at h
        subst h
        obtain ⟨h1, h2⟩ := ih hl
        refine ⟨by simp [h1], fun i x hx => ?_⟩
        cases i with
        | zero => simp at hx; subst hx; exact ⟨b, rfl, ha⟩
        | succ i => simp at hx; obtain ⟨y, hy, hf⟩ := h2 i x hx; exact ⟨y, by simpa using hy, hf⟩

theorem cells?_some {w : World} {b n : Nat} {a : Addr} {cs : List Value} (h : w.cells? b a n = some cs) : cs.length = n ∧ ∀ (j : Nat) v, cs[j]? = some v → w.cell? (a.add j) = some v := by
  unfold World.cells? at h
  split at h
  · obtain ⟨h1, h2⟩ := mapM_some h
    simp at h1
    refine ⟨h1, fun j v hj => ?_⟩
    have hjn : j < n := by have := (List.getElem?_eq_some_iff.1 hj).1; omega
    obtain ⟨y, hy, hf⟩ := h2 j j (by simp [hjn])
    rw [hj] at hy; cases hy
    exact hf
  · cases h

theorem weightsAll_mem {H : Type} {P : Program} {e : TypeId} : ∀ {ds : List (DataW H)} {d : DataW H}, d ∈ ds → ∀ n ∈ d.weights P e, n ∈ DataW.weightsAll P e ds := by
  intro ds
  induction ds with
  | nil => intro d h; cases h
  | cons x r ih =>
    intro d h n hn
    simp only [DataW.weightsAll, List.mem_append]
    rcases List.mem_cons.1 h with rfl | h
    · exact .inl hn
    · exact .inr (ih h n hn)

section
variable {P : Program} {w : World} {t : TypeId} {cs : List Value}

theorem Arg.int {k : IntKind} (hu : P.underlying t = some (.int k)) (h : Arg P w t cs) : ∃ n, cs = [.int k n] ∧ (Lit.int k n).wf = true := by
  obtain ⟨H, enc, fuel, d, ps, h, _⟩ := h
  cases fuel with
  | zero => cases h
  | succ f =>
    simp only [DataW.trod, hu] at h
    split at h <;> simp_all

theorem Arg.bool (hu : P.underlying t = some .bool) (h : Arg P w t cs) : ∃ b, cs = [.bool b] := by
  obtain ⟨H, enc, fuel, d, ps, h, _⟩ := h
  cases fuel with
  | zero => cases h
  | succ f =>
    simp only [DataW.trod, hu] at h
    split at h <;> simp_all

theorem Arg.string (hu : P.underlying t = some .string) (h : Arg P w t cs) : ∃ s, cs = [.string s] ∧ s.size ≤ 140737488351232 := by
  obtain ⟨H, enc, fuel, d, ps, h, hw⟩ := h
  cases fuel with
  | zero => cases h
  | succ f =>
    simp only [DataW.trod, hu] at h
    split at h <;> simp_all
    rename_i s
    obtain ⟨_, rfl, rfl⟩ := h
    exact hw _ (by simp [DataW.weights])

theorem Arg.struct {fs : Array Field} (hu : P.underlying t = some (.struct fs)) (h : Arg P w t cs) : cs.length = P.cellsOf t ∧ ∀ f ∈ fs.toList, Arg P w f.type ((cs.drop f.offset).take (P.cellsOf f.type)) := by
  obtain ⟨H, enc, fuel, d, ps, h, hw⟩ := h
  cases fuel with
  | zero => cases h
  | succ n =>
    simp only [DataW.trod, hu] at h
    split at h
    · rename_i hl
      refine ⟨hl, fun f hf => ?_⟩
      cases hm : fs.toList.mapM fun f => DataW.trod enc P w 0 (fun _ => true) true n f.type ((cs.drop f.offset).take (P.cellsOf f.type)) with
      | none => rw [hm] at h; cases h
      | some xs =>
        rw [hm] at h
        cases h
        obtain ⟨i, hi⟩ := List.mem_iff_getElem?.1 hf
        obtain ⟨h1, h2⟩ := mapM_some hm
        obtain ⟨y, hy, hfy⟩ := h2 i f hi
        refine ⟨H, enc, n, y.1, y.2, hfy, fun k hk => hw k ?_⟩
        simp only [DataW.weights, hu]
        exact DataW.weights_mem_each (j := i) (by simp [hi]) (by simp [hy]) k hk
    · cases h

theorem Arg.array {n : Nat} {e : TypeId} (hu : P.underlying t = some (.array n e)) (h : Arg P w t cs) : cs.length = P.cellsOf t ∧ ∀ i, i < n → Arg P w e ((cs.drop (i * P.cellsOf e)).take (P.cellsOf e)) := by
  obtain ⟨H, enc, fuel, d, ps, h, hw⟩ := h
  cases fuel with
  | zero => cases h
  | succ m =>
    simp only [DataW.trod, hu] at h
    split at h
    · rename_i hl
      refine ⟨hl, fun i hi => ?_⟩
      cases hm : (List.range n).mapM fun i => DataW.trod enc P w 0 (fun _ => true) true m e ((cs.drop (i * P.cellsOf e)).take (P.cellsOf e)) with
      | none => rw [hm] at h; cases h
      | some xs =>
        rw [hm] at h
        cases h
        obtain ⟨h1, h2⟩ := mapM_some hm
        obtain ⟨y, hy, hfy⟩ := h2 i i (by simp [hi])
        refine ⟨H, enc, m, y.1, y.2, hfy, fun k hk => hw k ?_⟩
        simp only [DataW.weights, hu]
        exact weightsAll_mem (List.mem_map.2 ⟨y, List.mem_of_getElem? hy, rfl⟩) k hk
    · cases h

theorem flatten_get {css : List (List Value)} {s : Nat} (hs : ∀ x ∈ css, x.length = s) {i j : Nat} (hj : j < s) : css.flatten[i * s + j]? = (css[i]?).bind fun x => x[j]? := by
  induction css generalizing i with
  | nil => simp
  | cons a r ih =>
    have ha := hs a (by simp)
    cases i with
    | zero => simp only [Nat.zero_mul, Nat.zero_add, List.flatten_cons]; rw [List.getElem?_append_left (by omega)]; rfl
    | succ i =>
      simp only [List.flatten_cons]
      rw [List.getElem?_append_right (by rw [ha, Nat.add_mul]; omega), show (i + 1) * s + j - a.length = i * s + j by rw [ha, Nat.add_mul]; omega, ih fun x hx => hs x (by simp [hx])]
      rfl

theorem Arg.slice {e : TypeId} (hu : P.underlying t = some (.slice e)) (h0 : 0 < P.cellsOf e) (h : Arg P w t cs) :
    ∃ (p : Option Addr) (n c : Nat) (css : List (List Value)), cs = [.slice p n c] ∧ n ≤ c ∧ c ≤ maxLen ∧ c * P.bytesOf e ≤ 140737488351232 ∧ css.length = c ∧ (∀ x ∈ css, x.length = P.cellsOf e ∧ Arg P w e x) ∧ At w p css.flatten ∧ (p = none → n = 0 ∧ c = 0) := by
  obtain ⟨H, enc, fuel, d, ps, h, hw⟩ := h
  cases fuel with
  | zero => cases h
  | succ m =>
    have shape : (cs = [.slice none 0 0]) ∨ ∃ a n c, cs = [.slice (some a) n c] := by
      match cs, h with
      | [], h => simp [DataW.trod, hu] at h
      | [.slice none 0 0], _ => exact .inl rfl
      | [.slice none (n + 1) c], h => simp [DataW.trod, hu] at h
      | [.slice none 0 (c + 1)], h => simp [DataW.trod, hu] at h
      | [.slice (some a) n c], _ => exact .inr ⟨a, n, c, rfl⟩
      | [.bool _], h => simp [DataW.trod, hu] at h
      | [.int _ _], h => simp [DataW.trod, hu] at h
      | [.float _ _], h => simp [DataW.trod, hu] at h
      | [.complex _ _ _], h => simp [DataW.trod, hu] at h
      | [.string _], h => simp [DataW.trod, hu] at h
      | [.pointer _], h => simp [DataW.trod, hu] at h
      | [.map _], h => simp [DataW.trod, hu] at h
      | [.chan _], h => simp [DataW.trod, hu] at h
      | [.nilFunc], h => simp [DataW.trod, hu] at h
      | [.func _ _ _], h => simp [DataW.trod, hu] at h
      | [.nilIface], h => simp [DataW.trod, hu] at h
      | [.iface _ _], h => simp [DataW.trod, hu] at h
      | [.tuple _], h => simp [DataW.trod, hu] at h
      | [.agg _], h => simp [DataW.trod, hu] at h
      | _ :: _ :: _, h => simp [DataW.trod, hu] at h
    rcases shape with rfl | ⟨a, len, cap, rfl⟩
    · exact ⟨none, 0, 0, [], rfl, Nat.le_refl _, Nat.zero_le _, by simp, rfl, fun x hx => by simp at hx, At.nil _ _, fun _ => ⟨rfl, rfl⟩⟩
    · simp only [DataW.trod, hu] at h
      split at h
      · rename_i hc
        obtain ⟨_, hlc, hcm⟩ := hc
        let elemAt : Nat → Option (DataW H × List MemPlace) := fun i => (w.cells? 0 (a.add (i * P.cellsOf e)) (P.cellsOf e)).bind (DataW.trod enc P w 0 (fun _ => true) true m e)
        change ((List.range len).mapM elemAt).bind _ = _ at h
        cases hm1 : (List.range len).mapM elemAt with
        | none => rw [hm1] at h; cases h
        | some elems =>
          rw [hm1] at h
          simp only [Option.bind_some, if_true] at h
          change ((List.range (cap - len)).mapM fun j => elemAt (len + j)).map _ = _ at h
          cases hm2 : (List.range (cap - len)).mapM fun j => elemAt (len + j) with
          | none => rw [hm2] at h; cases h
          | some rest =>
            rw [hm2] at h
            simp only [Option.map_some, Option.some.injEq, Prod.mk.injEq] at h
            obtain ⟨rfl, _⟩ := h
            obtain ⟨a1, a2⟩ := mapM_some hm1
            obtain ⟨b1, b2⟩ := mapM_some hm2
            simp only [List.length_range] at a1 b1
            simp only [DataW.weights, hu, List.length_map, List.mem_cons, List.mem_append] at hw
            have all : ∀ i, i < cap → ∃ cs, w.cells? 0 (a.add (i * P.cellsOf e)) (P.cellsOf e) = some cs ∧ Arg P w e cs := by
              intro i hi
              have key : ∃ y, elemAt i = some y ∧ ((∃ j : Nat, elems[j]? = some y) ∨ ∃ j : Nat, rest[j]? = some y) := by
                rcases Nat.lt_or_ge i len with hl | hl
                · obtain ⟨y, hy, hf⟩ := a2 i i (List.getElem?_range hl)
                  exact ⟨y, hf, .inl ⟨i, hy⟩⟩
                · obtain ⟨y, hy, hf⟩ := b2 (i - len) (i - len) (List.getElem?_range (by omega))
                  rw [show len + (i - len) = i by omega] at hf
                  exact ⟨y, hf, .inr ⟨_, hy⟩⟩
              obtain ⟨y, hf, hy⟩ := key
              have hf' : (w.cells? 0 (a.add (i * P.cellsOf e)) (P.cellsOf e)).bind (DataW.trod enc P w 0 (fun _ => true) true m e) = some y := hf
              clear hf
              cases hcs : w.cells? 0 (a.add (i * P.cellsOf e)) (P.cellsOf e) with
              | none => rw [hcs] at hf'; cases hf'
              | some cs =>
                rw [hcs] at hf'
                have hf : DataW.trod enc P w 0 (fun _ => true) true m e cs = some y := hf'
                refine ⟨cs, rfl, H, enc, m, y.1, y.2, hf, fun k hk => hw k (.inr ?_)⟩
                rcases hy with ⟨j, hy⟩ | ⟨j, hy⟩
                · exact .inl (weightsAll_mem (List.mem_map.2 ⟨y, List.mem_of_getElem? hy, rfl⟩) k hk)
                · exact .inr (weightsAll_mem (List.mem_map.2 ⟨y, List.mem_of_getElem? hy, rfl⟩) k hk)
            obtain ⟨css, hcl, hcss⟩ : ∃ css : List (List Value), css.length = cap ∧ ∀ i x, css[i]? = some x → w.cells? 0 (a.add (i * P.cellsOf e)) (P.cellsOf e) = some x ∧ Arg P w e x := by
              refine ⟨(List.range cap).map fun i => (w.cells? 0 (a.add (i * P.cellsOf e)) (P.cellsOf e)).getD [], by simp, fun i x hx => ?_⟩
              rw [List.getElem?_map] at hx
              have hi : i < cap := by
                rcases Nat.lt_or_ge i cap with h' | h'
                · exact h'
                · rw [List.getElem?_eq_none (by simpa using h')] at hx; cases hx
              rw [List.getElem?_range hi] at hx
              obtain ⟨cs, h1, h2⟩ := all i hi
              simp only [Option.map_some, h1, Option.getD_some, Option.some.injEq] at hx
              subst hx
              exact ⟨h1, h2⟩
            have hlen : ∀ x ∈ css, x.length = P.cellsOf e := fun x hx => by
              obtain ⟨i, hi⟩ := List.mem_iff_getElem?.1 hx
              exact (cells?_some (hcss i x hi).1).1
            refine ⟨some a, len, cap, css, rfl, hlc, hcm, ?_, hcl, fun x hx => ?_, ?_, fun e => by cases e⟩
            · have := hw ((elems.length + rest.length) * P.bytesOf e) (.inl rfl)
              rw [a1, b1, show len + (cap - len) = cap by omega] at this
              exact this
            · obtain ⟨i, hi⟩ := List.mem_iff_getElem?.1 hx
              exact ⟨hlen x hx, (hcss i x hi).2⟩
            · cases hcz : css with
              | nil => exact .inl rfl
              | cons c0 r =>
                rw [← hcz]
                have h00 := cells?_some (hcss 0 c0 (by rw [hcz]; rfl)).1
                have hc0 : 0 < c0.length := by rw [h00.1]; exact h0
                have hcell := h00.2 0 c0[0] (by simp [hc0])
                obtain ⟨ab, ao, ag⟩ := a
                have hs : ag = none := by
                  cases ag with
                  | none => rfl
                  | some y =>
                    have e0 : ((⟨ab, ao, some y⟩ : Addr).add (0 * P.cellsOf e)).add 0 = ⟨ab, ao, some y⟩ := by rw [Nat.zero_mul, Addr.add_zero', Addr.add_zero']
                    rw [e0] at hcell
                    simp only [World.cell?, Option.isSome_some, if_true] at hcell
                    split at hcell <;> cases hcell
                subst hs
                refine .inr ⟨ab, ao, rfl, fun i v hv => ?_⟩
                have hdm : i = i / P.cellsOf e * P.cellsOf e + i % P.cellsOf e := by rw [Nat.mul_comm]; exact (Nat.div_add_mod _ _).symm
                have hj := Nat.mod_lt i h0
                rw [hdm, flatten_get hlen hj] at hv
                cases hx : css[i / P.cellsOf e]? with
                | none => rw [hx] at hv; cases hv
                | some x =>
                  rw [hx] at hv
                  have := (cells?_some (hcss _ x hx).1).2 _ v hv
                  rw [Addr.add_lit, Addr.add_lit] at this
                  rw [hdm, ← Nat.add_assoc]; exact this
      · cases h
end

/-- An argument at the top. -/
theorem Arg.of {H : Type} {enc : TypeId × Value → H} {P : Program} {w : World} {ts : List TypeId} {ds : List (DataW H)} {t : TypeId} {v : Value} {d : DataW H} {ps : List MemPlace} {j : Nat}
    (h : DataW.Trod enc P w 0 (fun _ => true) true t v d ps) (hz : (DataW.weightsEach P ts ds).all (· ≤ reachBytes) = true) (ht : ts[j]? = some t) (hd : ds[j]? = some d) : Arg P w t v.cells.toList := by
  obtain ⟨fuel, h⟩ := h
  refine ⟨H, enc, fuel, d, ps, h, fun n hn => ?_⟩
  have := List.all_eq_true.1 hz n (DataW.weights_mem_each ht hd n hn)
  exact of_decide_eq_true this

theorem plain_cells {P : Program} {w : World} {r : Reach} {base : Nat} {t : TypeId} {v : Value} (hu : isAggD (P.underlying t) = false) (h : Value.okWide P w r base t v) (hn : P.underlying t ≠ none) : v.cells.toList = [v] := by
  have : ∀ cs, v ≠ .agg cs := by
    intro cs e
    subst e
    unfold Value.okWide at h
    split at h
    · rename_i hh; rw [hh] at hu; cases hu
    · rename_i hh; rw [hh] at hu; cases hu
    · unfold Cell.okWide at h
      split at h <;> simp_all [Cell.ok]
  cases v with
  | agg cs => exact absurd rfl (this cs)
  | _ => rfl
end Go.Vc

/- Values, rows and lists of rows as the memory bears them; how two values stand. Plain Lean, no program. -/
namespace Go.Vc
open Go Go.RowKit

/-! ### Numbers and texts, held against one another -/
def cmpI (x y : Int) : Int := if x < y then -1 else if y < x then 1 else 0
def cmpS (a b : ByteArray) : Int := Lib.compareBytes (tB a) (tB b)

theorem cmpI_spec (x y : Int) : (cmpI x y = -1 ∧ x < y) ∨ (cmpI x y = 0 ∧ x = y) ∨ (cmpI x y = 1 ∧ y < x) := by
  unfold cmpI
  split
  · exact .inl ⟨rfl, ‹_›⟩
  · split
    · exact .inr (.inr ⟨rfl, ‹_›⟩)
    · exact .inr (.inl ⟨rfl, by omega⟩)
theorem cmpI_cmp : Cmp cmpI := by
  refine ⟨fun x y => ?_, fun x y z h k => ?_⟩
  · have := cmpI_spec x y
    have := cmpI_spec y x
    omega
  · have := cmpI_spec x y
    have := cmpI_spec y z
    have := cmpI_spec x z
    omega
theorem compareBytes_anti : ∀ a b : List UInt8, Lib.compareBytes b a = - Lib.compareBytes a b
  | [], [] => rfl
  | [], _ :: _ => rfl
  | _ :: _, [] => rfl
  | x :: a, y :: b => by
    unfold Lib.compareBytes
    by_cases h1 : x < y
    · have h2 : ¬ y < x := UInt8.lt_asymm h1
      simp [h1, h2]
    · by_cases h2 : y < x
      · simp [h1, h2]
      · simp only [h1, h2, if_false]; exact compareBytes_anti a b
theorem u8_eq {x y : UInt8} (h1 : ¬ x < y) (h2 : ¬ y < x) : x = y := UInt8.le_antisymm (UInt8.not_lt.1 h2) (UInt8.not_lt.1 h1)
theorem compareBytes_trans : ∀ a b c : List UInt8, Lib.compareBytes a b ≤ 0 → Lib.compareBytes b c ≤ 0 → Lib.compareBytes a c ≤ 0
  | [], _, [], _, _ => by simp [Lib.compareBytes]
  | [], _, _ :: _, _, _ => by simp [Lib.compareBytes]
  | _ :: _, [], _, h, _ => by simp [Lib.compareBytes] at h
  | _ :: _, _ :: _, [], _, h => by simp [Lib.compareBytes] at h
  | x :: a, y :: b, z :: c, h, k => by
    unfold Lib.compareBytes at h k ⊢
    by_cases h1 : x < y
    · by_cases k1 : y < z
      · simp [UInt8.lt_trans h1 k1]
      · by_cases k2 : z < y
        · simp [k1, k2] at k
        · have := u8_eq k1 k2; subst this; simp [h1]
    · by_cases h2 : y < x
      · simp [h1, h2] at h
      · have := u8_eq h1 h2; subst this
        simp only [h1, if_false] at h
        by_cases k1 : x < z
        · simp [k1]
        · by_cases k2 : z < x
          · simp [k1, k2] at k
          · simp only [k1, k2, if_false] at k ⊢
            exact compareBytes_trans a b c h k
theorem compareBytes_zero : ∀ {a b : List UInt8}, Lib.compareBytes a b = 0 ↔ a = b
  | [], [] => by simp [Lib.compareBytes]
  | [], _ :: _ => by simp [Lib.compareBytes]
  | _ :: _, [] => by simp [Lib.compareBytes]
  | x :: a, y :: b => by
    unfold Lib.compareBytes
    by_cases h1 : x < y
    · have : x ≠ y := fun e => by subst e; exact UInt8.lt_irrefl _ h1
      simp [h1, this]
    · by_cases h2 : y < x
      · have : x ≠ y := fun e => by subst e; exact UInt8.lt_irrefl _ h2
        simp [h1, h2, this]
      · have := u8_eq h1 h2; subst this
        simp only [h1, if_false, List.cons.injEq, true_and]
        exact compareBytes_zero
theorem cmpS_cmp : Cmp cmpS := ⟨fun a b => compareBytes_anti _ _, fun a b c => compareBytes_trans _ _ _⟩
theorem cmpS_zero {a b : ByteArray} : cmpS a b = 0 ↔ a = b := by unfold cmpS; rw [compareBytes_zero]; exact tB_inj
section
variable {α β : Type} {c d : α → α → Int}
def lexC (c d : α → α → Int) (x y : α) : Int := if c x y ≠ 0 then c x y else d x y
theorem Cmp.lex (hc : Cmp c) (hd : Cmp d) : Cmp (lexC c d) := by
  refine ⟨fun x y => ?_, fun x y z h k => ?_⟩
  · have := hc.anti x y
    have := hd.anti x y
    unfold lexC
    split <;> split <;> omega
  · unfold lexC at h k ⊢
    by_cases h0 : c x y = 0
    · rw [if_neg (by simpa using h0)] at h
      by_cases k0 : c y z = 0
      · rw [if_neg (by simpa using k0)] at k
        rw [if_neg (by simpa using hc.eq_trans h0 k0)]
        exact hd.trans x y z h k
      · rw [if_pos k0] at k
        have : c x z < 0 := hc.of_lt (by omega) (y := y) (by omega)
        rw [if_pos (by omega)]; omega
    · rw [if_pos h0] at h
      have : c x z < 0 := by
        by_cases k0 : c y z = 0
        · exact hc.lt_of (y := y) (by omega) (by omega)
        · rw [if_pos k0] at k
          exact hc.lt_of (y := y) (by omega) k
      rw [if_pos (by omega)]; omega
theorem Cmp.on (f : β → α) (hc : Cmp c) : Cmp fun x y => c (f x) (f y) := ⟨fun _ _ => hc.anti _ _, fun _ _ _ => hc.trans _ _ _⟩
theorem Cmp.neg (hc : Cmp c) : Cmp fun x y => - c x y := by
  refine ⟨fun x y => by rw [hc.anti x y], fun x y z h k => ?_⟩
  have h1 := hc.anti x y
  have h2 := hc.anti y z
  have h3 := hc.anti x z
  have := hc.trans z y x (by omega) (by omega)
  omega
theorem Cmp.none : Cmp (fun _ _ : α => (0 : Int)) := ⟨fun _ _ => by simp, fun _ _ _ _ _ => Int.le_refl 0⟩
end

/-! ### Values -/
structure Val where
  k : Int
  n : Int
  s : ByteArray

theorem Val.ext' {a b : Val} : a = b ↔ a.k = b.k ∧ a.n = b.n ∧ a.s = b.s := by cases a; cases b; simp
instance : DecidableEq Val := fun _ _ => decidable_of_iff _ Val.ext'.symm
instance : Inhabited Val := ⟨⟨0, 0, ⟨#[]⟩⟩⟩
def nullV : Val := ⟨0, 0, ⟨#[]⟩⟩
def numV (n : Int) : Val := ⟨1, n, ⟨#[]⟩⟩

def Val.cs (v : Val) : List Value := [.int .i64 v.k, .int .i64 v.n, .string v.s]
def Val.agg (v : Val) : Value := .agg #[.int .i64 v.k, .int .i64 v.n, .string v.s]
def i64F (x : Int) : Prop := -9223372036854775808 ≤ x ∧ x ≤ 9223372036854775807
def Val.fit (v : Val) : Prop := i64F v.k ∧ i64F v.n

theorem Val.cs_length (v : Val) : v.cs.length = 3 := rfl
theorem Val.cs_one (v : Val) : ∀ u ∈ v.cs, u.oneCell' = true := by
  intro u hu
  simp only [Val.cs, List.mem_cons, List.not_mem_nil, or_false] at hu
  rcases hu with rfl | rfl | rfl <;> rfl

/-- May a value be? -/
def Val.Ok (v : Val) : Prop := (v.k = 0 ∧ v.n = 0 ∧ v.s = ⟨#[]⟩) ∨ (v.k = 1 ∧ v.s = ⟨#[]⟩) ∨ (v.k = 2 ∧ (v.n = 0 ∨ v.n = 1) ∧ v.s = ⟨#[]⟩) ∨ (v.k = 3 ∧ v.n = 0 ∧ v.s.size ≤ 1024)
instance (v : Val) : Decidable v.Ok := by unfold Val.Ok; exact inferInstance
def Val.right (v : Val) : Bool := decide v.Ok
def rightL (l : List Val) : Bool := l.all Val.right

def cmpV : Val → Val → Int := lexC (fun a b => cmpI a.k b.k) (lexC (fun a b => cmpI a.n b.n) fun a b => cmpS a.s b.s)
theorem cmpV_cmp : Cmp cmpV := (cmpI_cmp.on Val.k).lex ((cmpI_cmp.on Val.n).lex (cmpS_cmp.on Val.s))
theorem cmpV_def (a b : Val) : cmpV a b = if cmpI a.k b.k ≠ 0 then cmpI a.k b.k else if cmpI a.n b.n ≠ 0 then cmpI a.n b.n else cmpS a.s b.s := rfl
theorem cmpV_zero {a b : Val} : cmpV a b = 0 ↔ a = b := by
  have h1 := cmpI_spec a.k b.k
  have h2 := cmpI_spec a.n b.n
  rw [Val.ext', cmpV_def]
  split
  · constructor
    · intro h; omega
    · intro h; omega
  · split
    · constructor
      · intro h; omega
      · intro h; omega
    · constructor
      · intro h; exact ⟨by omega, by omega, cmpS_zero.1 h⟩
      · exact fun h => cmpS_zero.2 h.2.2

/-- The document's way to hold two values against one another. -/
def lessV (a b : Val) : Bool := if a.k ≠ b.k then decide (a.k < b.k) else if a.k = 3 then sLt a.s b.s else decide (a.n < b.n)
def rcmpV (a b : Val) : Int := if lessV a b then -1 else if lessV b a then 1 else 0
/-! ### Lists of things of some cells each -/
section
variable {α : Type}
structure Ls (enc : α → List Value) (w : World) (p : Option Addr) (n c : Nat) (l : List α) : Prop where
  len : l.length = n
  cap : n ≤ c ∧ c ≤ maxLen
  lies : At w p (l.flatMap enc)
  nil : p = none → n = 0 ∧ c = 0
variable {enc : α → List Value} {s : Nat} {w w' : World} {p : Option Addr} {n c : Nat} {l : List α}
theorem Ls.ext (h : Ls enc w p n c l) (e : Ext w w') : Ls enc w' p n c l := ⟨h.len, h.cap, h.lies.ext e, h.nil⟩
theorem Ls.le (h : Ls enc w p n c l) : n ≤ maxLen := Nat.le_trans h.cap.1 h.cap.2
theorem Ls.kept (h : Ls enc w p n c l) (hk : ∀ b o, p = some ⟨b, o, none⟩ → b < w.heap.size → w'.heap[b]? = w.heap[b]?) : Ls enc w' p n c l := ⟨h.len, h.cap, h.lies.kept hk, h.nil⟩
theorem Ls.nothing (enc : α → List Value) (w : World) : Ls enc w none 0 0 [] := ⟨rfl, ⟨Nat.le_refl _, Nat.zero_le _⟩, .inl rfl, fun _ => ⟨rfl, rfl⟩⟩
theorem flatMap_get {enc : α → List Value} (hs : ∀ x, (enc x).length = s) {i j : Nat} {x : α} (hi : l[i]? = some x) (hj : j < s) : (l.flatMap enc)[i * s + j]? = (enc x)[j]? := by
  rw [List.flatMap_def, flatten_get (s := s) (by intro y hy; obtain ⟨z, _, rfl⟩ := List.mem_map.1 hy; exact hs z) hj, List.getElem?_map, hi]
  rfl
/-- The cells of thing i. -/
theorem At.things (hs : ∀ x, (enc x).length = s) (h0 : 0 < s) (h : At w p (l.flatMap enc)) {i : Nat} {x : α} (hi : l[i]? = some x) :
    ∃ b o, p = some ⟨b, o, none⟩ ∧ ∀ j v, (enc x)[j]? = some v → w.cell? ⟨b, o + (i * s + j), none⟩ = some v := by
  rcases h with h | ⟨b, o, hp, hc⟩
  · have := flatMap_get (enc := enc) (s := s) hs hi h0
    rw [h] at this
    have h1 : (enc x)[0]? = some ((enc x)[0]'(by rw [hs]; exact h0)) := List.getElem?_eq_getElem _
    rw [h1] at this; simp at this
  · refine ⟨b, o, hp, fun j v hv => hc _ _ ?_⟩
    have hj : j < s := by rw [← hs x]; exact (List.getElem?_eq_some_iff.1 hv).1
    rw [flatMap_get hs hi hj, hv]
theorem flatMap_length (hs : ∀ x, (enc x).length = s) : ∀ l : List α, (l.flatMap enc).length = l.length * s
  | [] => by simp
  | x :: l => by rw [List.flatMap_cons, List.length_append, hs, flatMap_length hs l, List.length_cons, Nat.succ_mul, Nat.add_comm]
theorem flatMap_take (hs : ∀ x, (enc x).length = s) : ∀ (l : List α) (k : Nat), (l.take k).flatMap enc = (l.flatMap enc).take (k * s)
  | [], k => by simp
  | x :: l, 0 => by simp
  | x :: l, k + 1 => by
    rw [List.take_succ_cons, List.flatMap_cons, List.flatMap_cons, flatMap_take hs l k, Nat.succ_mul, Nat.add_comm, List.take_append, hs, Nat.add_sub_cancel_left, List.take_of_length_le (l := enc x) (by rw [hs]; omega)]
theorem flatMap_drop (hs : ∀ x, (enc x).length = s) : ∀ (l : List α) (k : Nat), (l.drop k).flatMap enc = (l.flatMap enc).drop (k * s)
  | [], k => by simp
  | x :: l, 0 => by simp
  | x :: l, k + 1 => by
    rw [List.drop_succ_cons, List.flatMap_cons, flatMap_drop hs l k, Nat.succ_mul, Nat.add_comm, List.drop_append, hs, Nat.add_sub_cancel_left, @List.drop_eq_nil_of_le _ (enc x) _ (by rw [hs]; omega), List.nil_append]
/-- s[lo:hi]. -/
theorem Ls.slice (hs : ∀ x, (enc x).length = s) (h : Ls enc w p n c l) {lo hi : Nat} (h1 : lo ≤ hi) (h2 : hi ≤ n) : Ls enc w (slBase p lo c s) (hi - lo) (c - lo) ((l.take hi).drop lo) := by
  have hc := h.cap
  refine ⟨by rw [List.length_drop, List.length_take, h.len]; omega, ⟨by omega, by omega⟩, ?_, fun e => ?_⟩
  · rw [flatMap_drop hs, flatMap_take hs]
    exact h.lies.slice lo hi c s (by omega)
  · have := h.nil (slBase_none e); omega
theorem Ls.take (hs : ∀ x, (enc x).length = s) (h : Ls enc w p n c l) {k : Nat} (h2 : k ≤ n) : Ls enc w p k c (l.take k) := by
  have hc := h.cap
  refine ⟨by rw [List.length_take, h.len]; omega, ⟨by omega, hc.2⟩, ?_, fun e => ?_⟩
  · rw [flatMap_take hs]; exact h.lies.take _
  · have := h.nil e; omega
/-- A row of our own that holds things. -/
theorem Mine.ls {B : Nat} {t : TypeId} (hs : ∀ x, (enc x).length = s) (h0 : 0 < s) (h : Mine B t s w p n c (l.flatMap enc)) : Ls enc w p n c l := by
  have h1 := h.len
  rw [flatMap_length hs] at h1
  exact ⟨Nat.eq_of_mul_eq_mul_right h0 h1, h.cap, h.at, h.isNil⟩
theorem flatMap_one (h : ∀ x, ∀ u ∈ enc x, u.oneCell' = true) (l : List α) : ∀ u ∈ l.flatMap enc, u.oneCell' = true := by
  intro u hu
  obtain ⟨x, _, hx⟩ := List.mem_flatMap.1 hu
  exact h x u hx

theorem list_lift {β : Type} {f : α → β} {Q : α → Prop} : ∀ {ys : List β}, (∀ y ∈ ys, ∃ a, y = f a ∧ Q a) → ∃ l : List α, ys = l.map f ∧ ∀ a ∈ l, Q a
  | [], _ => ⟨[], rfl, by simp⟩
  | y :: ys, h => by
    obtain ⟨a, rfl, ha⟩ := h y (by simp)
    obtain ⟨l, rfl, hl⟩ := list_lift (ys := ys) fun z hz => h z (by simp [hz])
    exact ⟨a :: l, rfl, fun b hb => by rcases List.mem_cons.1 hb with rfl | hb; exact ha; exact hl b hb⟩
/-- A slice that came in. -/
theorem arg_ls {P : Program} {t e : TypeId} {v : Value} {Q : α → Prop} (hu : P.underlying t = some (.slice e)) (h0 : 0 < P.cellsOf e) (hQ : ∀ x, Arg P w e x → ∃ a, x = enc a ∧ Q a) (hs : ∀ a, (enc a).length = P.cellsOf e) (h : Arg P w t [v]) :
    ∃ p n c l, v = .slice p n c ∧ Ls enc w p n c l ∧ (∀ a ∈ l, Q a) ∧ c * P.bytesOf e ≤ 140737488351232 := by
  obtain ⟨p, n, c, css, he, h1, h2, h3, h4, h5, h6, h7⟩ := Arg.slice hu h0 h
  cases he
  obtain ⟨full, rfl, hf⟩ := list_lift (f := enc) (Q := Q) (ys := css) fun x hx => hQ x (h5 x hx).2
  rw [← List.flatMap_def] at h6
  rw [List.length_map] at h4
  refine ⟨p, n, c, full.take n, rfl, ⟨by rw [List.length_take]; omega, ⟨h1, h2⟩, ?_, h7⟩, fun a ha => hf a (List.mem_of_mem_take ha), h3⟩
  rw [flatMap_take hs]
  exact h6.take _
end

theorem Blk.c3 {w : World} {b : Nat} {t : TypeId} {x y z : Value} (h : Blk w b t #[x, y, z]) : w.cell? ⟨b, 0, none⟩ = some x ∧ w.cell? ⟨b, 1, none⟩ = some y ∧ w.cell? ⟨b, 2, none⟩ = some z :=
  ⟨by rw [h.cell]; rfl, by rw [h.cell]; rfl, by rw [h.cell]; rfl⟩

theorem and1_i64 (n : Int) : bits .and .i64 n 1 = n % 2 := by
  have e : bits .and .i64 n 1 = IntKind.i64.wrap (((BitVec.ofInt 64 n &&& 1#64).toNat : Nat) : Int) := rfl
  rw [e, BitVec.toNat_and, BitVec.toNat_ofInt, show (1#64).toNat = 1 from rfl, Nat.and_one_is_mod, i64_fit (by omega) (by omega)]
  omega

/-! ### Slices as things -/
structure Sl where
  p : Option Addr
  n : Nat
  c : Nat
def Sl.v (h : Sl) : Value := .slice h.p h.n h.c
def Sl.cs (h : Sl) : List Value := [.slice h.p h.n h.c]
theorem Sl.cs_length (h : Sl) : h.cs.length = 1 := rfl
theorem Sl.cs_one (h : Sl) : ∀ u ∈ h.cs, u.oneCell' = true := by intro u hu; simp [Sl.cs] at hu; subst hu; rfl

/-- Values in a row. -/
abbrev Vs := Ls Val.cs
/-- Rows: their heads hs, what they hold. -/
structure Rws (w : World) (p : Option Addr) (n c : Nat) (hs : List Sl) (L : List (List Val)) : Prop where
  heads : Ls Sl.cs w p n c hs
  rows : ∀ (i : Nat) (h : Sl) (r : List Val), hs[i]? = some h → L[i]? = some r → Vs w h.p h.n h.c r
  len : L.length = n
section
variable {w w' : World} {p : Option Addr} {n c : Nat} {hs : List Sl} {L : List (List Val)}
theorem Rws.ext (h : Rws w p n c hs L) (e : Ext w w') : Rws w' p n c hs L := ⟨h.heads.ext e, fun i x r hx hr => (h.rows i x r hx hr).ext e, h.len⟩
theorem Rws.hlen (h : Rws w p n c hs L) : hs.length = n := h.heads.len
theorem Rws.nothing (w : World) : Rws w none 0 0 [] [] := ⟨Ls.nothing _ w, by simp, rfl⟩
theorem Rws.get (h : Rws w p n c hs L) {i : Nat} {r : List Val} (hi : L[i]? = some r) : ∃ x, hs[i]? = some x ∧ Vs w x.p x.n x.c r ∧ ∃ b o, p = some ⟨b, o, none⟩ ∧ w.cell? ⟨b, o + i, none⟩ = some (.slice x.p x.n x.c) := by
  have hlt : i < hs.length := by rw [h.hlen, ← h.len]; exact (List.getElem?_eq_some_iff.1 hi).1
  obtain ⟨b, o, hp, hc⟩ := h.heads.lies.things Sl.cs_length (by decide) (List.getElem?_eq_getElem hlt)
  refine ⟨hs[i], List.getElem?_eq_getElem hlt, h.rows i _ _ (List.getElem?_eq_getElem hlt) hi, b, o, hp, ?_⟩
  have := hc 0 _ rfl
  simpa using this
theorem Ls.val {r : List Val} (h : Vs w p n c r) {i : Nat} {v : Val} (hi : r[i]? = some v) :
    ∃ b o, p = some ⟨b, o, none⟩ ∧ w.cell? ⟨b, o + i * 3, none⟩ = some (.int .i64 v.k) ∧ w.cell? ⟨b, o + i * 3 + 1, none⟩ = some (.int .i64 v.n) ∧ w.cell? ⟨b, o + i * 3 + 2, none⟩ = some (.string v.s) := by
  obtain ⟨b, o, hp, hc⟩ := h.lies.things Val.cs_length (by decide) hi
  exact ⟨b, o, hp, by have := hc 0 _ rfl; simpa [Nat.add_assoc] using this, by have := hc 1 _ rfl; rwa [← Nat.add_assoc] at this, by have := hc 2 _ rfl; rwa [← Nat.add_assoc] at this⟩
theorem Rws.take (h : Rws w p n c hs L) {k : Nat} (hk : k ≤ n) : Rws w p k c (hs.take k) (L.take k) :=
  ⟨h.heads.take Sl.cs_length hk, fun i x r hx hr => h.rows i x r (by rw [List.getElem?_take] at hx; split at hx; exact hx; cases hx) (by rw [List.getElem?_take] at hr; split at hr; exact hr; cases hr), by rw [List.length_take, h.len]; omega⟩
theorem Rws.le (h : Rws w p n c hs L) : n ≤ maxLen := h.heads.le
end

/-- The types and the places of a struct's fields. -/
def structOf (P : Program) (t : TypeId) : Option (List (TypeId × Nat)) := match P.underlying t with
  | some (.struct fs) => some (fs.toList.map fun f => (f.type, f.offset))
  | _ => none
theorem Arg.fields {P : Program} {w : World} {t : TypeId} {cs : List Value} {l : List (TypeId × Nat)} (hu : structOf P t = some l) (h : Arg P w t cs) :
    cs.length = P.cellsOf t ∧ ∀ x ∈ l, Arg P w x.1 ((cs.drop x.2).take (P.cellsOf x.1)) := by
  unfold structOf at hu
  split at hu
  · rename_i fs hfs
    cases hu
    obtain ⟨h1, h2⟩ := Arg.struct hfs h
    refine ⟨h1, fun x hx => ?_⟩
    obtain ⟨f, hf, rfl⟩ := List.mem_map.1 hx
    exact h2 f hf
  · cases hu
theorem arg_val {P : Program} {w : World} {t ti tn ts : TypeId} {cs : List Value} (hu : structOf P t = some [(ti, 0), (tn, 1), (ts, 2)]) (hc : P.cellsOf t = 3) (h1 : P.cellsOf ti = 1) (h2 : P.cellsOf tn = 1) (h3 : P.cellsOf ts = 1)
    (u1 : P.underlying ti = some (.int .i64)) (u2 : P.underlying tn = some (.int .i64)) (u3 : P.underlying ts = some .string) (h : Arg P w t cs) : ∃ v : Val, cs = v.cs ∧ v.fit := by
  obtain ⟨hl, hf⟩ := Arg.fields hu h
  rw [hc] at hl
  obtain ⟨a, b, d, rfl⟩ : ∃ a b d, cs = [a, b, d] := by
    match cs, hl with
    | [a, b, d], _ => exact ⟨a, b, d, rfl⟩
  have f1 := hf (ti, 0) (by simp)
  have f2 := hf (tn, 1) (by simp)
  have f3 := hf (ts, 2) (by simp)
  simp only [h1, h2, h3] at f1 f2 f3
  obtain ⟨k, e1, w1⟩ := Arg.int u1 f1
  obtain ⟨n, e2, w2⟩ := Arg.int u2 f2
  obtain ⟨s, e3, _⟩ := Arg.string u3 f3
  simp at e1 e2 e3
  subst e1 e2 e3
  exact ⟨⟨k, n, s⟩, rfl, wf_i64 w1, wf_i64 w2⟩
end Go.Vc

/- Values, schemas and rows as bytes: plain Lean, no program. -/
namespace Go.Vc
open Go Go.RowKit

/-! ### Values -/
def valB (v : Val) : List UInt8 := UInt8.ofNat v.k.toNat :: (if v.k = 1 then uvar (zigN v.n) else if v.k = 2 then [UInt8.ofNat v.n.toNat] else if v.k = 3 then uvar v.s.size ++ tB v.s else [])
/-- Which byte stands at a place. -/
def by_ (l : List UInt8) (i : Nat) : Nat := (l.getD i 0).toNat
def textOf (l : List UInt8) (i n : Nat) : ByteArray := ⟨((l.drop i).take n).toArray⟩
def takeVal (l : List UInt8) (pos : Int) : Option (Val × Nat) :=
  if 0 ≤ pos ∧ pos < (l.length : Int) then
    if by_ l pos.toNat = 0 then some (nullV, pos.toNat + 1)
    else if by_ l pos.toNat = 1 then (takeN l (pos + 1)).map fun r => (⟨1, unzig r.1, ⟨#[]⟩⟩, r.2)
    else if by_ l pos.toNat = 2 then (takeN l (pos + 1)).bind fun r => if r.1 ≤ 1 then some (⟨2, (r.1 : Int), ⟨#[]⟩⟩, r.2) else none
    else if by_ l pos.toNat = 3 then (takeN l (pos + 1)).bind fun r => if r.1 ≤ 1024 ∧ r.1 ≤ l.length - r.2 then some (⟨3, 0, textOf l r.2 r.1⟩, r.2 + r.1) else none
    else none
  else none
theorem by_mid (pre : List UInt8) (c : UInt8) (r : List UInt8) : by_ (pre ++ c :: r) pre.length = c.toNat := by
  unfold by_
  rw [List.getD_eq_getElem?_getD, List.getElem?_append_right (Nat.le_refl _), Nat.sub_self]; rfl
theorem text_mid (pre x r : List UInt8) : textOf (pre ++ (x ++ r)) pre.length x.length = ⟨x.toArray⟩ := by
  unfold textOf; rw [List.drop_left, List.take_left]
theorem takeVal_lay {v : Val} (hv : v.Ok) (hf : v.fit) (pre rest : List UInt8) : takeVal (pre ++ (valB v ++ rest)) (pre.length : Int) = some (v, pre.length + (valB v).length) := by
  obtain ⟨k, n, s⟩ := v
  have hpos : ∀ c (x : List UInt8), 0 ≤ (pre.length : Int) ∧ (pre.length : Int) < ((pre ++ (c :: x)).length : Int) := fun c x => by simp; omega
  have hnext : (pre.length : Int) + 1 = ((pre.length + 1 : Nat) : Int) := by omega
  have hsplit : ∀ (c : UInt8) (z : Nat) (x : List UInt8), z < 18446744073709551616 → takeN (pre ++ (c :: (uvar z ++ x))) ((pre.length + 1 : Nat) : Int) = some (z, pre.length + 1 + (uvar z).length) := by
    intro c z x hz
    have := takeN_uvar hz (pre ++ [c]) x
    rw [List.length_append, List.append_assoc] at this
    exact this
  rcases hv with ⟨e1, e2, e3⟩ | ⟨e1, e3⟩ | ⟨e1, e2, e3⟩ | ⟨e1, e2, e3⟩
  · dsimp only at e1 e2 e3
    subst e1 e2 e3
    have hb : valB ⟨0, 0, ⟨#[]⟩⟩ = [0] := rfl
    rw [hb]
    unfold takeVal
    rw [List.cons_append, if_pos (hpos _ _), Int.toNat_natCast, by_mid, if_pos (by rfl)]; rfl
  · dsimp only at e1 e3
    subst e1 e3
    have hb : valB ⟨1, n, ⟨#[]⟩⟩ = 1 :: uvar (zigN n) := rfl
    rw [hb]
    unfold takeVal
    have hn : i64F n := hf.2
    unfold i64F at hn
    rw [List.cons_append, if_pos (hpos _ _), Int.toNat_natCast, by_mid, if_neg (by decide), if_pos (by rfl), hnext, hsplit _ _ _ (zig_lt (by omega) (by omega))]
    simp only [Option.map_some, unzig_zig, List.length_cons]
    congr 2; omega
  · dsimp only at e1 e2 e3
    subst e1 e3
    obtain ⟨m, rfl, hm⟩ : ∃ m : Nat, n = (m : Int) ∧ m ≤ 1 := ⟨n.toNat, by omega, by omega⟩
    have hb : valB ⟨2, (m : Int), ⟨#[]⟩⟩ = 2 :: uvar m := by
      have e : valB ⟨2, (m : Int), ⟨#[]⟩⟩ = 2 :: [UInt8.ofNat ((m : Nat) : Int).toNat] := rfl
      rw [e, uvar_small (by omega), Int.toNat_natCast]
    rw [hb]
    unfold takeVal
    rw [List.cons_append, if_pos (hpos _ _), Int.toNat_natCast, by_mid, if_neg (by decide), if_neg (by decide), if_pos (by rfl), hnext, hsplit _ _ _ (by omega)]
    simp only [Option.bind_some, List.length_cons]
    rw [if_pos hm]
    congr 2; omega
  · dsimp only at e1 e2 e3
    subst e1 e2
    have hb : valB ⟨3, 0, s⟩ = 3 :: (uvar s.size ++ tB s) := rfl
    rw [hb]
    unfold takeVal
    rw [List.cons_append, if_pos (hpos _ _), Int.toNat_natCast, by_mid, if_neg (by decide), if_neg (by decide), if_neg (by decide), if_pos (by rfl), hnext, List.append_assoc, hsplit _ _ _ (by omega)]
    simp only [Option.bind_some, List.length_cons, List.length_append]
    have hl : (tB s).length = s.size := tB_length s
    rw [if_pos ⟨e3, by omega⟩]
    have e : pre ++ 3 :: (uvar s.size ++ (tB s ++ rest)) = (pre ++ 3 :: uvar s.size) ++ (tB s ++ rest) := by simp
    have el : pre.length + 1 + (uvar s.size).length = (pre ++ 3 :: uvar s.size).length := by simp; omega
    rw [e, el, show s.size = (tB s).length from hl.symm, text_mid]
    have es : (⟨(tB s).toArray⟩ : ByteArray) = s := tB_inj.1 (tB_mk _)
    rw [es]
    congr 2
    simp; omega
end Go.Vc

/- The frame, its blocks in any order; blocks for deferred calls that are not known one by one. -/
namespace Go.Vc
open Go Go.RowKit

section
variable {w0 W W' : World} {fs fs' gs : List (Nat × Obj)} {B d : Nat} {ds : List Nat} {ms : List Row}

theorem Hold.mem (h : Hold w0 W fs ms) {x : Nat × Obj} (hx : x ∈ fs) : W.heap[x.1]? = some x.2 := by
  obtain ⟨i, hi⟩ := List.mem_iff_getElem?.1 hx
  exact h.holds i x hi
theorem Hold.ltM (h : Hold w0 W fs ms) {x : Nat × Obj} (hx : x ∈ fs) : x.1 < W.heap.size := (Array.getElem?_eq_some_iff.1 (h.mem hx)).1
theorem Hold.blkM {b : Nat} {cs : Array Value} {t : TypeId} (h : Hold w0 W fs ms) (hx : (b, Obj.cells cs t (0, 0)) ∈ fs) : Blk W b t cs := h.mem hx
theorem Hold.nodup (h : Hold w0 W fs ms) : (fs.map (·.1)).Nodup := by
  rw [List.Nodup, List.pairwise_iff_getElem]
  intro i j hi hj hij
  simp only [List.getElem_map]
  simp only [List.length_map] at hi hj
  exact h.keys i j _ _ (List.getElem?_eq_getElem hi) (List.getElem?_eq_getElem hj) (by omega)
theorem Hold.make (e : Ext w0 W) (h : ∀ x ∈ fs, w0.heap.size ≤ x.1 ∧ W.heap[x.1]? = some x.2) (hn : (fs.map (·.1)).Nodup) : Hold w0 W fs [] := by
  refine ⟨e, fun x hx => (h x hx).1, fun i x hx => (h x (List.mem_of_getElem? hx)).2, fun i j x y hx hy hij => ?_, by simp, by simp, by simp⟩
  rw [List.Nodup, List.pairwise_iff_getElem] at hn
  obtain ⟨hi, rfl⟩ := List.getElem?_eq_some_iff.1 hx
  obtain ⟨hj, rfl⟩ := List.getElem?_eq_some_iff.1 hy
  rcases Nat.lt_or_ge i j with hlt | hge
  · have := hn i j (by simpa) (by simpa) hlt
    rwa [List.getElem_map, List.getElem_map] at this
  · have := hn j i (by simpa) (by simpa) (by omega)
    rw [List.getElem_map, List.getElem_map] at this
    exact this.symm
theorem Hold.perm (h : Hold w0 W fs []) (hp : fs.Perm fs') : Hold w0 W fs' [] :=
  Hold.make h.ext (fun x hx => ⟨h.ge x (hp.mem_iff.2 hx), h.mem (hp.mem_iff.2 hx)⟩) ((hp.map _).nodup_iff.1 h.nodup)
theorem Hold.sub (h : Hold w0 W fs []) (hp : fs'.Sublist fs) : Hold w0 W fs' [] :=
  Hold.make h.ext (fun x hx => ⟨h.ge x (hp.subset hx), h.mem (hp.subset hx)⟩) (h.nodup.sublist (hp.map _))
theorem Hold.swap {a b c : List (Nat × Obj)} (h : Hold w0 W ((a ++ b) ++ c) []) : Hold w0 W (b ++ (a ++ c)) [] := by
  rw [← List.append_assoc]
  exact h.perm (List.perm_append_comm.append_right c)
theorem Hold.left {a b : List (Nat × Obj)} (h : Hold w0 W (a ++ b) []) : Hold w0 W a [] := h.sub (List.sublist_append_left _ _)
theorem Hold.right {a b : List (Nat × Obj)} (h : Hold w0 W (a ++ b) []) : Hold w0 W b [] := h.sub (List.sublist_append_right _ _)
theorem Hold.but {b : Nat} (h : Hold w0 W fs []) (e : But b W W') (hb : w0.heap.size ≤ b) (hf : ∀ x ∈ fs, x.1 ≠ b) : Hold w0 W' fs [] :=
  Hold.make (h.ext.below.but e hb h.size) (fun x hx => ⟨h.ge x hx, (e.block _ (h.ltM hx) (hf x hx)).trans (h.mem hx)⟩) h.nodup

/-- Open blocks as held ones. -/
def dfs (ds : List Nat) : List (Nat × Obj) := ds.map fun d => (d, .deferred (some []))
theorem Hold.opened (h : Hold w0 W (dfs ds ++ fs) []) (hB : ∀ d ∈ ds, B ≤ d) : Go.Vc.Open B ds W := by
  constructor
  · have := h.left.nodup
    have e : (dfs ds).map (·.1) = ds := by unfold dfs; rw [List.map_map]; exact List.map_id _
    rwa [e] at this
  · intro d hd
    exact ⟨hB d hd, h.mem (x := (d, .deferred (some []))) (List.mem_append_left _ (List.mem_map.2 ⟨d, hd, rfl⟩))⟩
end

theorem Blk.c6 {w : World} {b : Nat} {t : TypeId} {x y z u v q : Value} (h : Blk w b t #[x, y, z, u, v, q]) : w.cell? ⟨b, 0, none⟩ = some x ∧ w.cell? ⟨b, 1, none⟩ = some y ∧ w.cell? ⟨b, 2, none⟩ = some z ∧
    w.cell? ⟨b, 3, none⟩ = some u ∧ w.cell? ⟨b, 4, none⟩ = some v ∧ w.cell? ⟨b, 5, none⟩ = some q := by
  refine ⟨?_, ?_, ?_, ?_, ?_, ?_⟩ <;> (rw [h.cell]; rfl)
/-- A block of six cells can be written. -/
theorem Blk.w6 {w : World} {b : Nat} {t : TypeId} {x y z u v q : Value} (h : Blk w b t #[x, y, z, u, v, q]) {X : Prop} (hX : X) : (∃ u, w.cell? ⟨b, 0, none⟩ = some u) ∧ w.frozen? ⟨b, 0, none⟩ = false ∧ (∃ u, w.cell? ⟨b, 1, none⟩ = some u) ∧ w.frozen? ⟨b, 1, none⟩ = false ∧
    (∃ u, w.cell? ⟨b, 2, none⟩ = some u) ∧ w.frozen? ⟨b, 2, none⟩ = false ∧ (∃ u, w.cell? ⟨b, 3, none⟩ = some u) ∧ w.frozen? ⟨b, 3, none⟩ = false ∧ (∃ u, w.cell? ⟨b, 4, none⟩ = some u) ∧ w.frozen? ⟨b, 4, none⟩ = false ∧
    (∃ u, w.cell? ⟨b, 5, none⟩ = some u) ∧ w.frozen? ⟨b, 5, none⟩ = false ∧ X := by
  obtain ⟨a0, a1, a2, a3, a4, a5⟩ := h.c6
  exact ⟨⟨_, a0⟩, h.frozen _, ⟨_, a1⟩, h.frozen _, ⟨_, a2⟩, h.frozen _, ⟨_, a3⟩, h.frozen _, ⟨_, a4⟩, h.frozen _, ⟨_, a5⟩, h.frozen _, hX⟩
end Go.Vc
namespace Go.Vc
open Go Go.RowKit
/-- A value of three cells is written into a variable and read out of it. -/
theorem Hold.ret3 {w0 W : World} {fs : List (Nat × Obj)} {ms : List Row} {b : Nat} {t : TypeId} {x y z : Value} {X : Int → Int → ByteArray → World → Prop} (H : Hold w0 W fs ms) (i : Nat) (hi : fs[i]? = some (b, .cells #[x, y, z] t (0, 0))) (k n : Int) (s : ByteArray)
    (hX : ∀ W', Ext w0 W' → X k n s W') : (∃ u, W.cell? ⟨b, 0, none⟩ = some u) ∧ W.frozen? ⟨b, 0, none⟩ = false ∧ (∃ u, W.cell? ⟨b, 1, none⟩ = some u) ∧ W.frozen? ⟨b, 1, none⟩ = false ∧ (∃ u, W.cell? ⟨b, 2, none⟩ = some u) ∧ W.frozen? ⟨b, 2, none⟩ = false ∧
    ∀ W' : World, Put W b 0 [.int .i64 k, .int .i64 n, .string s] W' → ∃ k' : Int, W'.cell? ⟨b, 0, none⟩ = some (.int .i64 k') ∧ ∃ n' : Int, W'.cell? ⟨b, 1, none⟩ = some (.int .i64 n') ∧ ∃ s' : ByteArray, W'.cell? ⟨b, 2, none⟩ = some (.string s') ∧ X k' n' s' W' := by
  have B := H.blk i hi
  have c0 : W.cell? ⟨b, 0, none⟩ = some x := by rw [B.cell]; rfl
  have c1 : W.cell? ⟨b, 1, none⟩ = some y := by rw [B.cell]; rfl
  have c2 : W.cell? ⟨b, 2, none⟩ = some z := by rw [B.cell]; rfl
  refine ⟨⟨_, c0⟩, B.frozen _, ⟨_, c1⟩, B.frozen _, ⟨_, c2⟩, B.frozen _, fun W' h => ?_⟩
  have H' := H.put i hi h
  have B' : Blk W' b t #[.int .i64 k, .int .i64 n, .string s] := B.put h
  exact ⟨k, by rw [B'.cell]; rfl, n, by rw [B'.cell]; rfl, s, by rw [B'.cell]; rfl, hX W' H'.ext⟩
end Go.Vc

/- Cells out of the frame, one by one: what the printed steps of a walk use. -/
namespace Go.Vc
open Go Go.RowKit

section
variable {w0 W W' : World} {fs : List (Nat × Obj)} {ms : List Row} {b k : Nat} {t : TypeId} {cs : Array Value} {v : Value}
theorem Hold.get (h : Hold w0 W fs ms) (i : Nat) (hi : fs[i]? = some (b, .cells cs t (0, 0))) (hk : cs[k]? = some v) : W.cell? ⟨b, k, none⟩ = some v := by
  rw [(h.blk i hi).cell]; exact hk
theorem Hold.frz (h : Hold w0 W fs ms) (i : Nat) (hi : fs[i]? = some (b, .cells cs t (0, 0))) : W.frozen? ⟨b, k, none⟩ = false := (h.blk i hi).frozen k
end
end Go.Vc

/- The frame's blocks and rows in any order, and fewer of them. -/
namespace Go.Vc
open Go Go.RowKit

theorem perm_of_sum {α : Type} {l l' : List α} (h : ∀ f : α → Nat, (l.map f).sum = (l'.map f).sum) : l.Perm l' := by
  classical
  have key : ∀ (x : α) (l : List α), l.count x = (l.map fun y => if y == x then 1 else 0).sum := by
    intro x l
    induction l with
    | nil => rfl
    | cons y l ih => rw [List.count_cons, List.map_cons, List.sum_cons, ih, Nat.add_comm]
  rw [List.perm_iff_count]
  intro x
  rw [key, key]
  exact h _

section
variable {w0 W W' : World} {fs fs' gs : List (Nat × Obj)} {ms ms' ns : List Row}

def Row.apart (m m' : Row) : Prop := ∀ b o b' o', m.p = some ⟨b, o, none⟩ → m'.p = some ⟨b', o', none⟩ → b ≠ b'
theorem Row.apart_symm {m m' : Row} (h : m.apart m') : m'.apart m := fun b o b' o' hb hb' e => h b' o' b o hb' hb e.symm
theorem Hold.pw (h : Hold w0 W fs ms) : ms.Pairwise Row.apart := by
  rw [List.pairwise_iff_getElem]
  intro i j hi hj hij
  exact h.rows i j _ _ (List.getElem?_eq_getElem hi) (List.getElem?_eq_getElem hj) (by omega)
theorem Hold.ownM (h : Hold w0 W fs ms) {m : Row} (hm : m ∈ ms) : Mine w0.heap.size m.t m.s W m.p m.n m.c m.vs := by
  obtain ⟨i, hi⟩ := List.mem_iff_getElem?.1 hm
  exact h.own i m hi
theorem Hold.apartM (h : Hold w0 W fs ms) {x : Nat × Obj} {m : Row} (hx : x ∈ fs) (hm : m ∈ ms) : ∀ b o, m.p = some ⟨b, o, none⟩ → x.1 ≠ b := by
  obtain ⟨i, hi⟩ := List.mem_iff_getElem?.1 hx
  obtain ⟨j, hj⟩ := List.mem_iff_getElem?.1 hm
  exact h.apart i j x m hi hj
theorem Hold.makeA (e : Ext w0 W) (h : ∀ x ∈ fs, w0.heap.size ≤ x.1 ∧ W.heap[x.1]? = some x.2) (hn : (fs.map (·.1)).Nodup) (ho : ∀ m ∈ ms, Mine w0.heap.size m.t m.s W m.p m.n m.c m.vs)
    (ha : ∀ x ∈ fs, ∀ m ∈ ms, ∀ b o, m.p = some ⟨b, o, none⟩ → x.1 ≠ b) (hp : ms.Pairwise Row.apart) : Hold w0 W fs ms := by
  have H := Hold.make e h hn
  refine ⟨e, H.ge, H.holds, H.keys, fun i m hm => ho m (List.mem_of_getElem? hm), fun i j x m hx hm => ha x (List.mem_of_getElem? hx) m (List.mem_of_getElem? hm), fun i j m m' hm hm' hij => ?_⟩
  rw [List.pairwise_iff_getElem] at hp
  obtain ⟨hi, rfl⟩ := List.getElem?_eq_some_iff.1 hm
  obtain ⟨hj, rfl⟩ := List.getElem?_eq_some_iff.1 hm'
  rcases Nat.lt_or_ge i j with hlt | hge
  · exact hp i j hi hj hlt
  · exact Row.apart_symm (hp j i hj hi (by omega))
theorem Hold.permA (h : Hold w0 W fs ms) (hf : fs.Perm fs') (hm : ms.Perm ms') : Hold w0 W fs' ms' :=
  Hold.makeA h.ext (fun x hx => ⟨h.ge x (hf.mem_iff.2 hx), h.mem (hf.mem_iff.2 hx)⟩) ((hf.map _).nodup_iff.1 h.nodup) (fun m hx => h.ownM (hm.mem_iff.2 hx)) (fun x hx m hy => h.apartM (hf.mem_iff.2 hx) (hm.mem_iff.2 hy))
    ((hm.pairwise_iff (fun h => Row.apart_symm h)).1 h.pw)
theorem Hold.subA (h : Hold w0 W fs ms) (hf : fs'.Sublist fs) (hm : ms'.Sublist ms) : Hold w0 W fs' ms' :=
  Hold.makeA h.ext (fun x hx => ⟨h.ge x (hf.subset hx), h.mem (hf.subset hx)⟩) (h.nodup.sublist (hf.map _)) (fun m hx => h.ownM (hm.subset hx)) (fun x hx m hy => h.apartM (hf.subset hx) (hm.subset hy)) (h.pw.sublist hm)
/-- What follows from the rest of the frame, whatever the things laid before it become. -/
def Keeps (w0 : World) (fs : List (Nat × Obj)) (ms : List Row) (X : World → Prop) : Prop := ∀ W gs ns, Hold w0 W (gs ++ fs) (ns ++ ms) → X W
theorem Keeps.more {X : World → Prop} (k : Keeps w0 fs ms X) (gs : List (Nat × Obj)) (ns : List Row) : Keeps w0 (gs ++ fs) (ns ++ ms) X := fun W gs' ns' h => k W (gs' ++ gs) (ns' ++ ns) (by rw [List.append_assoc, List.append_assoc]; exact h)
theorem Keeps.perm {X : World → Prop} (k : Keeps w0 fs ms X) (hf : fs.Perm fs') (hm : ms.Perm ms') : Keeps w0 fs' ms' X := fun W gs ns h => k W gs ns (h.permA (hf.symm.append_left _) (hm.symm.append_left _))
theorem Keeps.old {X : World → Prop} (h : ∀ W, Ext w0 W → X W) : Keeps w0 fs ms X := fun W _ _ H => h W H.ext
/-- Cells in the midst of a block. -/
theorem Hold.mid {b : Nat} {t : TypeId} {pre mid post : List Value} (h : Hold w0 W fs ms) (i : Nat) (hi : fs[i]? = some (b, .cells (pre ++ (mid ++ post)).toArray t (0, 0))) (k : Nat) {v : Value} (hk : mid[k]? = some v) : W.cell? ⟨b, pre.length + k, none⟩ = some v := by
  have hlt := (List.getElem?_eq_some_iff.1 hk).1
  rw [(h.blk i hi).cell, List.getElem?_toArray, List.getElem?_append_right (by omega), Nat.add_sub_cancel_left, List.getElem?_append_left hlt]
  exact hk
theorem setA_mid (pre mid post vs : List Value) (k : Nat) (hl : k + vs.length ≤ mid.length) : setA (pre ++ (mid ++ post)).toArray (pre.length + k) vs = (pre ++ ((mid.take k ++ vs ++ mid.drop (k + vs.length)) ++ post)).toArray := by
  obtain ⟨s1, s2⟩ := setA_spec vs (pre ++ (mid ++ post)).toArray (pre.length + k)
  apply Array.ext_getElem?
  intro i
  rw [s2]
  simp only [List.getElem?_toArray, List.size_toArray, List.length_append]
  rcases Nat.lt_or_ge i pre.length with hi | hi
  · rw [if_neg (by omega), List.getElem?_append_left hi, List.getElem?_append_left hi]
  · rw [List.getElem?_append_right hi, List.getElem?_append_right hi]
    by_cases h1 : i - pre.length < k
    · rw [if_neg (by omega), List.getElem?_append_left (by omega), List.getElem?_append_left (by simp only [List.length_append, List.length_take, List.length_drop]; omega), List.getElem?_append_left (by simp only [List.length_append, List.length_take]; omega),
        List.getElem?_append_left (by rw [List.length_take]; omega), List.getElem?_take, if_pos h1]
    · by_cases h2 : i - pre.length < k + vs.length
      · rw [if_pos (by omega), List.getElem?_append_left (by simp only [List.length_append, List.length_take, List.length_drop]; omega), List.getElem?_append_left (by simp only [List.length_append, List.length_take]; omega),
          List.getElem?_append_right (by rw [List.length_take]; omega), List.length_take, show i - (pre.length + k) = i - pre.length - min k mid.length by omega]
      · rw [if_neg (by omega)]
        rcases Nat.lt_or_ge (i - pre.length) mid.length with h3 | h3
        · rw [List.getElem?_append_left h3, List.getElem?_append_left (by simp only [List.length_append, List.length_take, List.length_drop]; omega), List.getElem?_append_right (by simp only [List.length_append, List.length_take]; omega), List.getElem?_drop]
          congr 1
          simp only [List.length_append, List.length_take]
          omega
        · rw [List.getElem?_append_right h3, List.getElem?_append_right (by simp only [List.length_append, List.length_take, List.length_drop]; omega)]
          congr 1
          simp only [List.length_append, List.length_take, List.length_drop]
          omega
theorem Hold.putMid {b : Nat} {t : TypeId} {pre mid post vs : List Value} (h : Hold w0 W fs ms) (i : Nat) (hi : fs[i]? = some (b, .cells (pre ++ (mid ++ post)).toArray t (0, 0))) (k : Nat) (e : Put W b (pre.length + k) vs W') (mid' : List Value)
    (hm : mid.take k ++ vs ++ mid.drop (k + vs.length) = mid') (hl : k + vs.length ≤ mid.length) : Hold w0 W' (fs.set i (b, .cells (pre ++ (mid' ++ post)).toArray t (0, 0))) ms := by
  have := h.put i hi e
  rw [setA_mid _ _ _ _ _ hl, hm] at this
  exact this
end
end Go.Vc

/- Groups of values: what a column gathers, what a row does to a table. Plain Lean, no program. -/
namespace Go.Vc
open Go Go.RowKit

/-- What a column has gathered. -/
structure Gth where
  rows : Int
  full : Int
  hi : Int
  lo : Nat
  least : Val
  most : Val
def gcs (r f h : Int) (l : Nat) (a b : Val) : List Value := [.int .i64 r, .int .i64 f, .int .i64 h, .int .u64 (l : Int), .int .i64 a.k, .int .i64 a.n, .string a.s, .int .i64 b.k, .int .i64 b.n, .string b.s]
def Gth.cs (g : Gth) : List Value := gcs g.rows g.full g.hi g.lo g.least g.most
theorem Gth.cs_length (g : Gth) : g.cs.length = 10 := rfl
theorem Gth.cs_one (g : Gth) : ∀ u ∈ g.cs, u.oneCell' = true := by
  intro u hu
  simp only [Gth.cs, gcs, List.mem_cons, List.not_mem_nil, or_false] at hu
  rcases hu with rfl | rfl | rfl | rfl | rfl | rfl | rfl | rfl | rfl | rfl <;> rfl
def Gth.zero : Gth := ⟨0, 0, 0, 0, nullV, nullV⟩
def w64 (n : Int) : Int := IntKind.i64.wrap n
def u64n (n : Int) : Nat := (n % 18446744073709551616).toNat
def Gth.add (g : Gth) (v : Val) : Gth :=
  if v.k = 0 then ⟨w64 (g.rows + 1), g.full, g.hi, g.lo, g.least, g.most⟩
  else ⟨w64 (g.rows + 1), w64 (g.full + 1), w64 (g.hi + w64 (shrI .i64 v.n 63 + w64 (((g.lo + u64n v.n) / 18446744073709551616 : Nat) : Int))), (g.lo + u64n v.n) % 18446744073709551616,
    if g.full = 0 ∨ cmpV v g.least < 0 then v else g.least, if g.full = 0 ∨ 0 < cmpV v g.most then v else g.most⟩
def Gth.answer (g : Gth) (agg : Int) : Val × Int :=
  if agg = 1 then (numV g.rows, 0) else if agg = 2 then (numV g.full, 0) else if agg = 4 then (g.least, 0) else if agg = 5 then (g.most, 0)
  else if g.full = 0 then (nullV, 0) else if g.hi ≠ shrI .i64 (w64 (g.lo : Int)) 63 then (nullV, 100) else (numV (w64 (g.lo : Int)), 0)

/-! ### A row's bytes -/
def keyL (r : List Val) : List UInt8 := r.flatMap valB
def keyB (r : List Val) : ByteArray := ⟨(keyL r).toArray⟩
def bytesP (r : List Val) : ByteArray × Bool := if rightL r then (keyB r, true) else (⟨#[]⟩, false)
theorem valB_len {v : Val} (h : v.Ok) (hf : v.fit) : 1 ≤ (valB v).length ∧ (valB v).length ≤ 1100 := by
  have h10 : ∀ n : Nat, n < 18446744073709551616 → (uvar n).length ≤ 10 := fun n hn => uvar_len10 hn
  unfold valB
  simp only [List.length_cons]
  refine ⟨by omega, ?_⟩
  split
  · have := h10 _ (zig_lt hf.2.1 hf.2.2); omega
  · split
    · simp
    · split
      · have hs : v.s.size ≤ 1024 := by unfold Val.Ok at h; omega
        have := h10 v.s.size (by omega)
        rw [List.length_append, tB_length]; omega
      · simp
theorem valB_front {a b : Val} (ha : a.Ok) (hfa : a.fit) (hb : b.Ok) (hfb : b.fit) {x y : List UInt8} (h : valB a ++ x = valB b ++ y) : a = b ∧ x = y := by
  have h1 := takeVal_lay ha hfa [] x
  have h2 := takeVal_lay hb hfb [] y
  rw [List.nil_append] at h1 h2
  rw [h, h2] at h1
  have e := Option.some.inj h1
  have e1 : b = a := congrArg Prod.fst e
  subst e1
  exact ⟨rfl, List.append_cancel_left h⟩
def okV (v : Val) : Prop := v.Ok ∧ v.fit
theorem keyL_inj : ∀ {a b : List Val}, (∀ v ∈ a, okV v) → (∀ v ∈ b, okV v) → keyL a = keyL b → a = b
  | [], [], _, _, _ => rfl
  | [], v :: b, _, hb, h => by
    have := congrArg List.length h
    have h1 := (valB_len (hb v (by simp)).1 (hb v (by simp)).2).1
    simp only [keyL, List.flatMap_nil, List.length_nil, List.flatMap_cons, List.length_append] at this
    omega
  | v :: a, [], ha, _, h => by
    have := congrArg List.length h
    have h1 := (valB_len (ha v (by simp)).1 (ha v (by simp)).2).1
    simp only [keyL, List.flatMap_nil, List.length_nil, List.flatMap_cons, List.length_append] at this
    omega
  | v :: a, u :: b, ha, hb, h => by
    simp only [keyL, List.flatMap_cons] at h
    obtain ⟨rfl, h'⟩ := valB_front (ha v (by simp)).1 (ha v (by simp)).2 (hb u (by simp)).1 (hb u (by simp)).2 h
    rw [keyL_inj (fun x hx => ha x (by simp [hx])) (fun x hx => hb x (by simp [hx])) h']
theorem keyB_inj {a b : List Val} (ha : ∀ v ∈ a, okV v) (hb : ∀ v ∈ b, okV v) (h : keyB a = keyB b) : a = b := keyL_inj ha hb (mk_inj.1 h)
theorem rightL_ok {r : List Val} (h : rightL r = true) : ∀ v ∈ r, v.Ok := fun v hv => of_decide_eq_true (List.all_eq_true.1 h v hv)
theorem rightL_okV {r : List Val} (h : rightL r = true) (hf : ∀ v ∈ r, v.fit) : ∀ v ∈ r, okV v := fun v hv => ⟨rightL_ok h v hv, hf v hv⟩
theorem rightL_take {r : List Val} {k : Nat} {v : Val} (h : r[k]? = some v) : rightL (r.take (k + 1)) = (rightL (r.take k) && v.right) := by
  unfold rightL
  rw [List.take_add_one, h, List.all_append]
  simp
theorem rightL_false {r : List Val} {v : Val} (h : v ∈ r) (hv : v.right = false) : rightL r = false := by
  unfold rightL
  rw [List.all_eq_false]
  exact ⟨v, h, by simp [hv]⟩
theorem keyL_len {r : List Val} (h : ∀ v ∈ r, okV v) : (keyL r).length ≤ r.length * 1100 := by
  induction r with
  | nil => simp [keyL]
  | cons v r ih =>
    have := (valB_len (h v (by simp)).1 (h v (by simp)).2).2
    have := ih fun x hx => h x (by simp [hx])
    simp only [keyL, List.flatMap_cons, List.length_append, List.length_cons] at this ⊢
    omega

/-! ### A table -/
def fitV (agg : Int) (v : Val) : Bool := v.right && !(decide (agg = 3) && decide (v.k ≠ 1) && decide (v.k ≠ 0))
def fitsL : List Int → List Val → Bool
  | [], [] => true
  | a :: l, v :: r => fitV a v && fitsL l r
  | _, _ => false
theorem fitsL_len : ∀ {l : List Int} {r : List Val}, fitsL l r = true → r.length = l.length
  | [], [], _ => rfl
  | _ :: l, _ :: r, h => by
    unfold fitsL at h
    rw [Bool.and_eq_true] at h
    simp [fitsL_len h.2]
  | [], _ :: _, h => by simp [fitsL] at h
  | _ :: _, [], h => by simp [fitsL] at h
theorem fitsL_get : ∀ {l : List Int} {r : List Val}, fitsL l r = true → ∀ {i : Nat} {a v}, l[i]? = some a → r[i]? = some v → fitV a v = true
  | a :: l, v :: r, h, i, x, y, hx, hy => by
    unfold fitsL at h
    rw [Bool.and_eq_true] at h
    cases i with
    | zero => cases hx; cases hy; exact h.1
    | succ i => exact fitsL_get h.2 (i := i) (by simpa using hx) (by simpa using hy)
  | [], _, _, i, x, y, hx, _ => by simp at hx
  | _ :: _, [], _, i, x, y, _, hy => by simp at hy
theorem fitsL_mk : ∀ {l : List Int} {r : List Val}, r.length = l.length → (∀ (i : Nat) a v, l[i]? = some a → r[i]? = some v → fitV a v = true) → fitsL l r = true
  | [], [], _, _ => rfl
  | a :: l, v :: r, hl, h => by
    unfold fitsL
    rw [h 0 a v rfl rfl, Bool.true_and]
    exact fitsL_mk (by simpa using hl) fun i x y hx hy => h (i + 1) x y (by simpa using hx) (by simpa using hy)
  | [], _ :: _, hl, _ => by simp at hl
  | _ :: _, [], hl, _ => by simp at hl
/-- A group. -/
structure Grp where
  key : List Val
  cols : List Gth
def addCols (cols : List Gth) (vals : List Val) : List Gth := List.zipWith Gth.add cols vals
def newCols (k : Nat) : List Gth := List.replicate k Gth.zero
def Grp.upd (key vals : List Val) (g : Grp) : Grp := if g.key = key then ⟨g.key, addCols g.cols vals⟩ else g
def hasK (gs : List Grp) (key : List Val) : Bool := gs.any fun g => decide (g.key = key)
/-- May a row be taken? -/
def mayP (aggs : List Int) (first : Option (List Val)) (key vals : List Val) : Bool := rightL key && fitsL aggs vals && (match first with | none => true | some k => decide (key.length = k.length))
def addP (aggs : List Int) (gs : List Grp) (key vals : List Val) : List Grp × Int :=
  if mayP aggs (gs.head?.map Grp.key) key vals then
    if hasK gs key then (gs.map (Grp.upd key vals), 0)
    else if gs.length = 4096 then (gs, 130) else (gs ++ [⟨key, addCols (newCols aggs.length) vals⟩], 0)
  else (gs, 2)
def Distinct (gs : List Grp) : Prop := (gs.map Grp.key).Nodup
theorem hasK_iff {gs : List Grp} {key : List Val} : hasK gs key = true ↔ ∃ g ∈ gs, g.key = key := by
  unfold hasK; rw [List.any_eq_true]; simp
theorem upd_other {gs : List Grp} {key vals : List Val} (h : hasK gs key = false) : gs.map (Grp.upd key vals) = gs := by
  have : ∀ g ∈ gs, Grp.upd key vals g = g := by
    intro g hg
    unfold Grp.upd
    rw [if_neg]
    intro e
    have := hasK_iff.2 ⟨g, hg, e⟩
    rw [h] at this; cases this
  rw [List.map_congr_left this, List.map_id']
theorem distinct_split {g1 g2 : List Grp} {g : Grp} (h : Distinct (g1 ++ g :: g2)) : hasK g1 g.key = false ∧ hasK g2 g.key = false := by
  unfold Distinct at h
  rw [List.map_append, List.map_cons, List.nodup_append] at h
  obtain ⟨_, h2, h3⟩ := h
  rw [List.nodup_cons] at h2
  constructor
  · rw [← Bool.not_eq_true, hasK_iff]
    rintro ⟨x, hx, e⟩
    exact h3 _ (List.mem_map_of_mem hx) _ (List.mem_cons_self) e
  · rw [← Bool.not_eq_true, hasK_iff]
    rintro ⟨x, hx, e⟩
    exact h2.1 (e ▸ List.mem_map_of_mem hx)
theorem upd_split {g1 g2 : List Grp} {g : Grp} {vals : List Val} (h : Distinct (g1 ++ g :: g2)) : (g1 ++ g :: g2).map (Grp.upd g.key vals) = g1 ++ ⟨g.key, addCols g.cols vals⟩ :: g2 := by
  obtain ⟨h1, h2⟩ := distinct_split h
  rw [List.map_append, List.map_cons, upd_other h1, upd_other h2]
  unfold Grp.upd
  rw [if_pos rfl]
end Go.Vc

/- What a column has gathered, told by the values that came. Plain Lean, no program. -/
namespace Go.Vc
open Go Go.RowKit

/-- The values that are not null. -/
def nn (vs : List Val) : List Val := vs.filter fun v => decide (v.k ≠ 0)
def sumN (vs : List Val) : Int := (vs.map Val.n).sum
structure Least (l : List Val) (x : Val) : Prop where
  none : l = [] → x = nullV
  mem : l ≠ [] → x ∈ l
  le : ∀ v ∈ l, cmpV x v ≤ 0
structure Most (l : List Val) (x : Val) : Prop where
  none : l = [] → x = nullV
  mem : l ≠ [] → x ∈ l
  le : ∀ v ∈ l, cmpV v x ≤ 0
structure Told (vs : List Val) (g : Gth) : Prop where
  rows : g.rows = vs.length
  full : g.full = (nn vs).length
  sum : g.hi * 18446744073709551616 + (g.lo : Int) = sumN (nn vs)
  lo : g.lo < 18446744073709551616
  least : Least (nn vs) g.least
  most : Most (nn vs) g.most
theorem nn_append (a b : List Val) : nn (a ++ b) = nn a ++ nn b := List.filter_append ..
theorem sumN_append (a b : List Val) : sumN (a ++ b) = sumN a + sumN b := by unfold sumN; rw [List.map_append, List.sum_append]
theorem nn_length (a : List Val) : (nn a).length ≤ a.length := List.length_filter_le ..
theorem sumN_range : ∀ {vs : List Val}, (∀ v ∈ vs, v.fit) → -(9223372036854775808 * (vs.length : Int)) ≤ sumN vs ∧ sumN vs ≤ 9223372036854775808 * (vs.length : Int)
  | [], _ => by simp [sumN]
  | v :: vs, h => by
    have h1 := (h v (by simp)).2
    have h2 := sumN_range (vs := vs) fun x hx => h x (by simp [hx])
    unfold i64F at h1
    unfold sumN at h2 ⊢
    simp only [List.map_cons, List.sum_cons, List.length_cons]
    omega
theorem told_zero : Told [] Gth.zero := ⟨rfl, rfl, rfl, by decide, ⟨fun _ => rfl, fun h => absurd rfl h, by simp [nn]⟩, ⟨fun _ => rfl, fun h => absurd rfl h, by simp [nn]⟩⟩
theorem w64_fit {n : Int} (h0 : -9223372036854775808 ≤ n) (h1 : n ≤ 9223372036854775807) : w64 n = n := i64_fit h0 h1
theorem cmpV_self (a : Val) : cmpV a a = 0 := cmpV_zero.2 rfl
theorem Told.add {vs : List Val} {g : Gth} {v : Val} (h : Told vs g) (hl : vs.length ≤ 1000000) (hf : ∀ x ∈ vs, x.fit) (hv : v.fit) : Told (vs ++ [v]) (g.add v) := by
  obtain ⟨h1, h2, h3, h4, h5, h6⟩ := h
  have hnl := nn_length vs
  have hr := sumN_range (vs := nn vs) fun x hx => hf x (List.mem_filter.1 hx).1
  have hvn := hv.2
  unfold i64F at hvn
  by_cases hk : v.k = 0
  · have e : nn (vs ++ [v]) = nn vs := by rw [nn_append]; simp [nn, hk]
    have ha : g.add v = ⟨w64 (g.rows + 1), g.full, g.hi, g.lo, g.least, g.most⟩ := by unfold Gth.add; rw [if_pos hk]
    rw [ha]
    refine ⟨?_, by rw [e]; exact h2, by rw [e]; exact h3, h4, by rw [e]; exact h5, by rw [e]; exact h6⟩
    rw [w64_fit (by omega) (by omega)]
    simp only [List.length_append, List.length_singleton]
    omega
  · have e : nn (vs ++ [v]) = nn vs ++ [v] := by rw [nn_append]; simp [nn, hk]
    have ha : g.add v = ⟨w64 (g.rows + 1), w64 (g.full + 1), w64 (g.hi + w64 (shrI .i64 v.n 63 + w64 (((g.lo + u64n v.n) / 18446744073709551616 : Nat) : Int))), (g.lo + u64n v.n) % 18446744073709551616,
        if g.full = 0 ∨ cmpV v g.least < 0 then v else g.least, if g.full = 0 ∨ 0 < cmpV v g.most then v else g.most⟩ := by unfold Gth.add; rw [if_neg hk]
    have hz : g.full = 0 ↔ nn vs = [] := by rw [h2, ← List.length_eq_zero_iff]; omega
    rw [ha]
    refine ⟨?_, ?_, ?_, ?_, ?_, ?_⟩
    · show w64 (g.rows + 1) = _
      rw [w64_fit (by omega) (by omega)]
      simp only [List.length_append, List.length_singleton]
      omega
    · show w64 (g.full + 1) = _
      rw [e, w64_fit (by omega) (by omega)]
      simp only [List.length_append, List.length_singleton]
      omega
    · show w64 (g.hi + w64 (shrI .i64 v.n 63 + w64 (((g.lo + u64n v.n) / 18446744073709551616 : Nat) : Int))) * 18446744073709551616 + (((g.lo + u64n v.n) % 18446744073709551616 : Nat) : Int) = _
      rw [e, sumN_append, ← h3, show sumN [v] = v.n by simp [sumN], shr63_i64 hvn.1 hvn.2]
      have hu : ((u64n v.n : Nat) : Int) = if v.n < 0 then v.n + 18446744073709551616 else v.n := by unfold u64n; split <;> omega
      have hc : (g.lo + u64n v.n) / 18446744073709551616 ≤ 1 := by
        have : u64n v.n < 18446744073709551616 := by unfold u64n; omega
        omega
      rw [w64_fit (n := (((g.lo + u64n v.n) / 18446744073709551616 : Nat) : Int)) (by omega) (by omega)]
      by_cases hn : v.n < 0
      · rw [if_pos hn] at hu ⊢
        rw [w64_fit (n := -1 + _) (by omega) (by omega), w64_fit (by omega) (by omega)]
        omega
      · rw [if_neg hn] at hu ⊢
        rw [w64_fit (n := 0 + _) (by omega) (by omega), w64_fit (by omega) (by omega)]
        omega
    · exact Nat.mod_lt _ (by decide)
    · rw [e]
      show Least _ (if g.full = 0 ∨ cmpV v g.least < 0 then v else g.least)
      refine ⟨fun h => by simp at h, fun _ => ?_, fun x hx => ?_⟩
      · split
        · simp
        · rename_i hne
          exact List.mem_append_left _ (h5.mem fun h => hne (.inl (hz.2 h)))
      · split
        · rename_i hc
          rcases List.mem_append.1 hx with hx | hx
          · rcases hc with hc | hc
            · rw [hz.1 hc] at hx; cases hx
            · exact cmpV_cmp.trans v g.least x (by omega) (h5.le x hx)
          · rw [List.mem_singleton] at hx; subst hx; rw [cmpV_self]; decide
        · rename_i hc
          rcases List.mem_append.1 hx with hx | hx
          · exact h5.le x hx
          · rw [List.mem_singleton] at hx; subst hx
            have := cmpV_cmp.anti g.least x
            have : ¬ cmpV x g.least < 0 := fun h => hc (.inr h)
            omega
    · rw [e]
      show Most _ (if g.full = 0 ∨ 0 < cmpV v g.most then v else g.most)
      refine ⟨fun h => by simp at h, fun _ => ?_, fun x hx => ?_⟩
      · split
        · simp
        · rename_i hne
          exact List.mem_append_left _ (h6.mem fun h => hne (.inl (hz.2 h)))
      · split
        · rename_i hc
          rcases List.mem_append.1 hx with hx | hx
          · rcases hc with hc | hc
            · rw [hz.1 hc] at hx; cases hx
            · have := cmpV_cmp.anti g.most v
              exact cmpV_cmp.trans x g.most v (h6.le x hx) (by omega)
          · rw [List.mem_singleton] at hx; subst hx; rw [cmpV_self]; decide
        · rename_i hc
          rcases List.mem_append.1 hx with hx | hx
          · exact h6.le x hx
          · rw [List.mem_singleton] at hx; subst hx
            have : ¬ 0 < cmpV x g.most := fun h => hc (.inr h)
            omega
def foldC (vs : List Val) : Gth := vs.foldl Gth.add Gth.zero
theorem foldC_snoc (vs : List Val) (v : Val) : foldC (vs ++ [v]) = (foldC vs).add v := by unfold foldC; rw [List.foldl_append]; rfl
theorem told_fold {vs : List Val} (hl : vs.length ≤ 1000000) (hf : ∀ x ∈ vs, x.fit) : Told vs (foldC vs) := by
  have key : ∀ k, k ≤ vs.length → Told (vs.take k) (foldC (vs.take k)) := by
    intro k
    induction k with
    | zero => intro _; rw [List.take_zero]; exact told_zero
    | succ k ih =>
      intro hk
      have g : vs[k]? = some (vs[k]'(by omega)) := List.getElem?_eq_getElem _
      have ht : vs.take (k + 1) = vs.take k ++ [vs[k]'(by omega)] := by rw [List.take_add_one, g]; rfl
      rw [ht, foldC_snoc]
      exact (ih (by omega)).add (by rw [List.length_take]; omega) (fun x hx => hf x (List.mem_of_mem_take hx)) (hf _ (List.getElem_mem _))
  have := key vs.length (Nat.le_refl _)
  rwa [List.take_length] at this

/-- What a column answers. -/
def fitB (n : Int) : Bool := decide (-9223372036854775808 ≤ n) && decide (n ≤ 9223372036854775807)
theorem Told.answer {vs : List Val} {g : Gth} (h : Told vs g) (agg : Int) : g.answer agg = if agg = 1 then (numV vs.length, 0) else if agg = 2 then (numV (nn vs).length, 0) else if agg = 4 then (g.least, 0) else if agg = 5 then (g.most, 0)
    else if nn vs = [] then (nullV, 0) else if fitB (sumN (nn vs)) then (numV (sumN (nn vs)), 0) else (nullV, 100) := by
  obtain ⟨h1, h2, h3, h4, h5, h6⟩ := h
  unfold Gth.answer
  rw [h1, h2]
  split
  · rfl
  split
  · rfl
  split
  · rfl
  split
  · rfl
  have hz : (((nn vs).length : Nat) : Int) = 0 ↔ nn vs = [] := by rw [← List.length_eq_zero_iff]; omega
  by_cases hn : nn vs = []
  · rw [if_pos (hz.2 hn), if_pos hn]
  rw [if_neg fun h => hn (hz.1 h), if_neg hn]
  unfold fitB
  by_cases hlt : (g.lo : Int) < 9223372036854775808
  · have hw : w64 (g.lo : Int) = g.lo := w64_fit (by omega) (by omega)
    have hs : shrI .i64 (g.lo : Int) 63 = 0 := by rw [shr63_i64 (by omega) (by omega), if_neg (by omega)]
    rw [hw, hs]
    by_cases hh : g.hi = 0
    · have e : sumN (nn vs) = g.lo := by omega
      rw [if_neg (fun h => h hh), e, if_pos (by rw [Bool.and_eq_true, decide_eq_true_eq, decide_eq_true_eq]; omega)]
    · rw [if_pos hh, if_neg (by rw [Bool.and_eq_true, decide_eq_true_eq, decide_eq_true_eq]; omega)]
  · have hw : w64 (g.lo : Int) = g.lo - 18446744073709551616 := by unfold w64; rw [IntKind.wrap_i64]; omega
    have hs : shrI .i64 ((g.lo : Int) - 18446744073709551616) 63 = -1 := by rw [shr63_i64 (by omega) (by omega), if_pos (by omega)]
    rw [hw, hs]
    by_cases hh : g.hi = -1
    · have e : sumN (nn vs) = g.lo - 18446744073709551616 := by omega
      rw [if_neg (fun h => h hh), e, if_pos (by rw [Bool.and_eq_true, decide_eq_true_eq, decide_eq_true_eq]; omega)]
    · rw [if_pos hh, if_neg (by rw [Bool.and_eq_true, decide_eq_true_eq, decide_eq_true_eq]; omega)]
end Go.Vc
