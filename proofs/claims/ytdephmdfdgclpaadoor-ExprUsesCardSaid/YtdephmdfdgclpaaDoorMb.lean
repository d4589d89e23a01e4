/- Texts of the proof, one behind the other. -/
import Derived.Test.YtdephmdfdgclpaaDoorMa
import Derived.Test.YtdephmdfdgclpaaDoorProg
import Derived.Lib.AppendStr
import Derived.Deep.DeepAppendWide
import Derived.SizedLaws
import Derived.Lib.Bytealg
import Derived.MapKept
set_option linter.unusedVariables false
set_option linter.unusedSimpArgs false
/- Soundness of the generator, part F: codes and functions. -/
namespace Go.Vc
open Go

section
variable {P : Program} {rd : Option Nat} {Q : Exit → Act → World → Prop}

/-! ### Tables of the environment -/
def inK : List (Nat × Option SV) → Nat → Bool
  | [], _ => false
  | p :: r, i => match Nat.beq p.1 i with | true => true | false => inK r i

theorem lkE_append (a b : List (Nat × Option SV)) (i : Nat) : lkE (a ++ b) i = if inK a i then lkE a i else lkE b i := by
  induction a with
  | nil => simp [inK]
  | cons p r ih =>
    obtain ⟨j, x⟩ := p
    cases hb : Nat.beq j i <;> simp [lkE, inK, hb, ih]

theorem inK_blank (ws : List (Nat × TypeId)) (i : Nat) : inK (blank ws) i = inW ws i := by
  induction ws with
  | nil => rfl
  | cons p r ih => simp only [blank, inK, inW]; split <;> simp_all

theorem lkE_blank (ws : List (Nat × TypeId)) (i : Nat) : lkE (blank ws) i = none := by
  induction ws with
  | nil => rfl
  | cons p r ih => simp only [blank, lkE]; split <;> simp_all

theorem cellsAs_ofCells {agg : Bool} {x : Value} {cs : List Value} (h : cellsAs agg x = some cs) : ∃ y, ofCells agg cs = some y ∧ y.den = x := by
  unfold cellsAs at h
  split at h
  · cases h; exact ⟨_, rfl, by simp [SV.den]⟩
  · cases h
  · cases h; exact ⟨_, rfl, rfl⟩

theorem setSlots_spec {N : Nat} {st' : St} {a : Act} (h : Agree N st' a) : ∀ {slots : List (Nat × Ty)} {vs : List Value}, slotVals st' slots = some vs →
    ∃ es, setSlots slots vs = some es ∧ (∀ i x, lkE es i = some x → a.tmps.getD i undef = x.den) ∧ (∀ i, inK es i = true → inS slots i = true) ∧ vs.length = (lsOf slots).length := by
  intro slots
  induction slots with
  | nil => intro vs hv; simp only [slotVals, Option.some.injEq] at hv; subst hv; exact ⟨[], rfl, fun i x hx => by simp [lkE] at hx, fun i hi => by simp [inK] at hi, rfl⟩
  | cons p r ih =>
    intro vs hv
    unfold slotVals at hv
    split at hv
    · rename_i x vs' hx hvs'
      split at hv
      · rename_i cs hcs
        split at hv
        · rename_i hlen
          cases hv
          have hl := nbeq.1 hlen
          obtain ⟨es, hes, he1, he2, he3⟩ := ih hvs'
          obtain ⟨y, hy, hyd⟩ := cellsAs_ofCells hcs
          have e1 : (cs ++ vs').take p.2.ls.length = cs := by rw [← hl]; simp
          have e2 : (cs ++ vs').drop p.2.ls.length = vs' := by rw [← hl]; simp
          refine ⟨(p.1, some y) :: es, by simp only [setSlots, e1, e2, hy, hes], ?_, ?_, by simp [lsOf, hl, he3]⟩
          · intro i z hz
            simp only [lkE] at hz
            split at hz
            · rename_i hb
              cases hz
              rw [hyd, ← nbeq.1 hb]
              exact h.e _ _ hx
            · exact he1 i z hz
          · intro i hi
            simp only [inK, inS] at hi ⊢
            split at hi
            · rename_i hb; rw [hb]
            · rename_i hb; rw [hb]; exact he2 i hi
        · cases hv
      · cases hv
    · cases hv

theorem carry_in {st : St} : ∀ {ws : List (Nat × TypeId)} {slots : List (Nat × Ty)}, carry P st ws = some slots → ∀ i, inS slots i = true → inW ws i = true := by
  intro ws
  induction ws with
  | nil => intro slots h i hi; simp only [carry, Option.some.injEq] at h; subst h; simp [inS] at hi
  | cons p r ih =>
    intro slots h i hi
    have up : ∀ acc, carry P st r = some acc → inS acc i = true → inW (p :: r) i = true := fun acc ha hs => by
      unfold inW; split
      · rfl
      · exact ih ha i hs
    unfold carry at h
    split at h
    · cases h
    · rename_i acc hacc
      split at h
      · cases h; exact up _ hacc hi
      · cases h; exact up _ hacc hi
      · split at h
        · cases h
          simp only [inS] at hi
          split at hi
          · rename_i hb; simp only [inW, hb]
          · exact up _ hacc hi
        · cases h

theorem named_in {nm : List Bool} : ∀ {ws : List (Nat × TypeId)} {slots : List (Nat × Ty)}, named P nm ws = some slots → ∀ i, inS slots i = true → inW ws i = true := by
  intro ws
  induction ws with
  | nil => intro slots h i hi; simp only [named, Option.some.injEq] at h; subst h; simp [inS] at hi
  | cons p r ih =>
    intro slots h i hi
    have up : ∀ acc, named P nm r = some acc → inS acc i = true → inW (p :: r) i = true := fun acc ha hs => by
      unfold inW; split
      · rfl
      · exact ih ha i hs
    unfold named at h
    split at h
    · cases h
    · rename_i acc hacc
      split at h
      · split at h
        · cases h
          simp only [inS] at hi
          split at hi
          · rename_i hb; simp only [inW, hb]
          · exact up _ hacc hi
        · cases h
      · cases h; exact up _ hacc hi

/-- What stays of the environment (but for the blocks for deferred calls). -/
def FrE (ws : List (Nat × TypeId)) (st st' : St) : Prop := ∀ i, inW ws i = false → lkE st'.e i = lkE st.e i

theorem FrE.refl (ws : List (Nat × TypeId)) (st : St) : FrE ws st st := fun _ _ => rfl
theorem FrE.trans {ws : List (Nat × TypeId)} {x y z : St} (h : FrE ws x y) (k : FrE ws y z) : FrE ws x z := fun i hi => (k i hi).trans (h i hi)
theorem FrE.mono {ws ws' : List (Nat × TypeId)} {x y : St} (h : FrE ws x y) (hs : ∀ i, inW ws' i = false → inW ws i = false) : FrE ws' x y := fun i hi => h i (hs i hi)

/-- The environment at a loop's head, or behind a cut. -/
theorem head_of_vals {N : Nat} {st st' : St} {a : Act} {ws : List (Nat × TypeId)} {slots : List (Nat × Ty)} {vs : List Value} (hin : ∀ i, inS slots i = true → inW ws i = true)
    (hf : FrE ws st st') (h : Agree N st' a) (hv : slotVals st' slots = some vs) :
    ∃ st1, headSt st ws slots vs = some st1 ∧ Agree N { st1 with ds := st'.ds } a ∧ st1.ge = [] ∧ FrE ws st st1 ∧ st1.ds = st.ds := by
  obtain ⟨es, hes, he1, he2, _⟩ := setSlots_spec h hv
  refine ⟨{ e := es ++ (blank ws ++ st.e), ge := [], ds := st.ds }, by simp only [headSt, hes], ⟨h.size, h.defers, ?_, fun i d hd => by simp [lkG] at hd, fun i d hd => by simp [lkG] at hd⟩, rfl, ?_, rfl⟩
  · intro i x hx
    simp only [lkE_append, inK_blank] at hx
    split at hx
    · exact he1 i x hx
    · split at hx
      · rw [lkE_blank] at hx; cases hx
      · rename_i hb
        have hi : inW ws i = false := by simpa using hb
        exact h.e i x ((hf i hi).trans hx)
  · intro i hi
    simp only [lkE_append, inK_blank, hi]
    have : inK es i = false := by
      cases hk : inK es i with
      | false => rfl
      | true => rw [hin i (he2 i hk)] at hi; cases hi
    simp [this]

theorem AllL_app {R : Type} : ∀ {ls : List Leaf} {F : List Value → Prop} {f : Tel R ls} {vs : List Value} {p : R}, AllL ls F → app ls f vs = some p → F vs := by
  intro ls
  induction ls with
  | nil =>
    intro F f vs p h ha
    cases vs with
    | nil => exact h
    | cons v r => simp [app] at ha
  | cons l r ih =>
    intro F f vs p h ha
    cases vs with
    | nil => cases l <;> simp [app] at ha
    | cons v vs =>
      cases l with
      | int k =>
        cases v <;> simp only [app, reduceCtorEq] at ha
        split at ha
        · rename_i hk; have := kid_inj hk; subst this; exact ih (F := fun vs => F (_ :: vs)) (h _) ha
        · cases ha
      | bool => cases v <;> simp only [app, reduceCtorEq] at ha; exact ih (F := fun vs => F (_ :: vs)) (h _) ha
      | str => cases v <;> simp only [app, reduceCtorEq] at ha; exact ih (F := fun vs => F (_ :: vs)) (h _) ha
      | slc => cases v <;> simp only [app, reduceCtorEq] at ha; exact ih (F := fun vs => F (_ :: vs)) (h _ _ _) ha
      | ptr => cases v <;> simp only [app, reduceCtorEq] at ha; exact ih (F := fun vs => F (_ :: vs)) (h _) ha
      | map => cases v <;> simp only [app, reduceCtorEq] at ha; exact ih (F := fun vs => F (_ :: vs)) (h _) ha
      | any => exact ih (F := fun vs => F (_ :: vs)) (h v) (by simpa only [app] using ha)

theorem AllL_intro : ∀ {ls : List Leaf} {F : List Value → Prop}, (∀ vs, F vs) → AllL ls F := by
  intro ls
  induction ls with
  | nil => intro F h; exact h []
  | cons l r ih =>
    intro F h
    cases l with
    | int k => intro n; exact ih (F := fun vs => F (_ :: vs)) fun vs => h _
    | bool => intro n; exact ih (F := fun vs => F (_ :: vs)) fun vs => h _
    | str => intro n; exact ih (F := fun vs => F (_ :: vs)) fun vs => h _
    | slc => intro p n c; exact ih (F := fun vs => F (_ :: vs)) fun vs => h _
    | ptr => intro n; exact ih (F := fun vs => F (_ :: vs)) fun vs => h _
    | map => intro n; exact ih (F := fun vs => F (_ :: vs)) fun vs => h _
    | any => intro n; exact ih (F := fun vs => F (_ :: vs)) fun vs => h _

theorem AllL_at {ls : List Leaf} {F : List Value → Prop} {I : Tel (World → Prop) ls} {vs : List Value} {w : World} (h : AllL ls F) (hi : atI I vs w) : F vs := by
  unfold atI at hi
  split at hi
  · rename_i p hp; exact AllL_app h hp
  · exact hi.elim

/-! ### The laws of control that the kit lacks in this form -/
theorem exists_least (p : Nat → Prop) (h : ∃ n, p n) : ∃ n, p n ∧ ∀ m, p m → n ≤ m := by
  obtain ⟨n, hn⟩ := h
  induction n using Nat.strongRecOn with
  | _ n ih =>
    by_cases hm : ∃ m, m < n ∧ p m
    · obtain ⟨m, hlt, hp⟩ := hm; exact ih m hlt hp
    · exact ⟨n, hn, fun m hp => Nat.le_of_not_lt fun hlt => hm ⟨m, hlt, hp⟩⟩

open Classical in
theorem wpIn_loop_ghost {F : Fence} {n0 : Nat} {c : Code} (G : Nat → Act → World → Prop)
    (step : ∀ n a w, G n a w → c.wpIn F n0 P (Exit.then (fun a' w' => ∃ n', n' < n ∧ G n' a' w') Q) a w) {n : Nat} {a : Act} {w : World} (h : G n a w) : (Code.loop c).wpIn F n0 P Q a w := by
  refine wpIn_loop (fun a w => ∃ n, G n a w) (fun a w => if h : ∃ n, G n a w then (exists_least _ h).choose else 0) ⟨n, h⟩ ?_
  intro a w hI
  have hs := (exists_least _ hI).choose_spec
  refine wpIn_mono (step _ a w hs.1) fun e a' w' hq => ?_
  cases e with
  | normal =>
    obtain ⟨n', hlt, hg⟩ := hq
    have hI' : ∃ n, G n a' w' := ⟨n', hg⟩
    refine ⟨hI', ?_⟩
    rw [dif_pos hI', dif_pos hI]
    have := (exists_least _ hI').choose_spec.2 n' hg
    omega
  | _ => exact hq

theorem stepR_scope {b : Frame} {a : Act} {k : List Item} {cs : List Frame} {w : World} {c : Code} :
    step P (lone (b.atR a (.code (.scope c) :: k)) cs w) = .next (lone (b.atR a (.code c :: .inScope c :: k)) cs w) :=
  step_lone_go (by simp [stepG, stepG.exec, Frame.atR])

theorem stepR_inScope {b : Frame} {a : Act} {k : List Item} {cs : List Frame} {w : World} {c : Code} :
    step P (lone (b.atR a (.inScope c :: k)) cs w) = .next (lone (b.atR a k) cs w) :=
  step_lone_go (by simp [stepG, stepG.exec, Frame.atR])

theorem wpIn_scope {F : Fence} {n : Nat} {c : Code} {a : Act} {w : World} (h : c.wpIn F n P (fun e a w => match e with | .goto _ => False | e => Q e a w) a w) : (Code.scope c).wpIn F n P Q a w := by
  intro b k cs hro hb hr
  have h0 : (lone (b.atR a (.code (.scope c) :: k)) cs w).fenced P F := fenced_calm hb hr rfl
  obtain ⟨e, a₁, w₁, hq, harr⟩ := h b (.inScope c :: k) cs hro hb hr
  cases e with
  | normal => exact ⟨.normal, a₁, w₁, hq, .head h0 stepR_scope (StepsIn.trans harr (.one (fenced_calm hb hr rfl) stepR_inScope))⟩
  | exit id =>
    have hx : exitTo id (.inScope c :: k) = exitTo id k := by simp [exitTo]
    exact ⟨.exit id, a₁, w₁, hq, fun k' hk => .head h0 stepR_scope (harr.1 k' (by rw [hx]; exact hk)),
      fun hr' hk => let ⟨k₁, h1, h2⟩ := harr.2 hr' (by rw [hx]; exact hk); ⟨k₁, h1, .head h0 stepR_scope h2⟩⟩
  | goto l => exact hq.elim
  | ret => exact ⟨_, a₁, w₁, hq, .of_steps (.one h0 stepR_scope) harr⟩
  | panic ch => exact ⟨_, a₁, w₁, hq, .of_steps (.one h0 stepR_scope) harr⟩
  | outgrown => exact ⟨_, a₁, w₁, hq, .of_steps (b := b) (k := k) (cs := cs) (e := .outgrown) (.one h0 stepR_scope) harr⟩

/-! ### Codes -/
/-- What stays of the environment, by the way in which a code is left. -/
def FrW (c : Code) (ex : Exit) (st st' : St) : Prop :=
  match ex with
  | .normal => ∃ ws, wr none c = some ws ∧ FrE ws st st'
  | .exit id => ∃ ws, wr (some id) c = some ws ∧ FrE ws st st'
  | _ => True

structure FrX (C : Cfg) (c : Code) (ex : Exit) (st st' : St) : Prop where
  e : FrW c ex st st'
  ds : pushes C (hasRg c) = false → st'.ds = st.ds

theorem oBeq_refl (t : Option Nat) : oBeq t t = true := by cases t <;> simp [oBeq, nbeq.2]
theorem joinW_left {x : List (Nat × TypeId)} (y : Option (List (Nat × TypeId))) : ∃ z, joinW (some x) y = some z ∧ ∀ i, inW z i = false → inW x i = false := by
  cases y with
  | none => exact ⟨x, rfl, fun _ h => h⟩
  | some y => exact ⟨x ++ y, rfl, fun i h => by rw [inW_append] at h; simp at h; exact h.1⟩

theorem joinW_right (x : Option (List (Nat × TypeId))) {y : List (Nat × TypeId)} : ∃ z, joinW x (some y) = some z ∧ ∀ i, inW z i = false → inW y i = false := by
  cases x with
  | none => exact ⟨y, rfl, fun _ h => h⟩
  | some x => exact ⟨x ++ y, rfl, fun i h => by rw [inW_append] at h; simp at h; exact h.2⟩

theorem app_left {x y : List (Nat × TypeId)} (i : Nat) (h : inW (x ++ y) i = false) : inW x i = false := by rw [inW_append] at h; simp at h; exact h.1
theorem app_right {x y : List (Nat × TypeId)} (i : Nat) (h : inW (x ++ y) i = false) : inW y i = false := by rw [inW_append] at h; simp at h; exact h.2

theorem pushes_or {C : Cfg} {x y : Bool} (h : pushes C (orB x y) = false) : pushes C x = false ∧ pushes C y = false := by
  unfold pushes at *
  cases hr : C.rd with
  | none => rw [hr] at h; cases x <;> cases y <;> simp_all [orB]
  | some l => exact ⟨rfl, rfl⟩

/-- The first of two is left by a jump. -/
theorem frW_seq_left {a b : Code} {id : Nat} {st st' : St} (h : FrW a (.exit id) st st') : FrW (.seq a b) (.exit id) st st' := by
  obtain ⟨ws, hw, hf⟩ := h
  unfold FrW
  simp only [wr, isN, hw]
  cases wr none a with
  | none => exact ⟨ws, rfl, hf⟩
  | some x =>
    obtain ⟨z, hz, hm⟩ := joinW_right (match wr (some id) b with | some y => some (x ++ y) | none => none) (y := ws)
    exact ⟨z, hz, hf.mono hm⟩

/-- The first of two goes off its end. -/
theorem frW_seq_right {a b : Code} {ex : Exit} {st st1 st' : St} {x : List (Nat × TypeId)} (hx : wr none a = some x) (h1 : FrE x st st1) (h : FrW b ex st1 st') : FrW (.seq a b) ex st st' := by
  unfold FrW at *
  cases ex with
  | normal =>
    obtain ⟨ws, hw, hf⟩ := h
    refine ⟨x ++ ws, by simp only [wr, hx, isN, hw], (h1.mono fun i hi => app_left i hi).trans (hf.mono fun i hi => app_right i hi)⟩
  | exit id =>
    obtain ⟨ws, hw, hf⟩ := h
    simp only [wr, hx, isN, hw]
    obtain ⟨z, hz, hm⟩ := joinW_left (x := x ++ ws) (wr (some id) a)
    exact ⟨z, hz, (h1.mono fun i hi => app_left i (hm i hi)).trans (hf.mono fun i hi => app_right i (hm i hi))⟩
  | _ => trivial

/-- What a code achieves. -/
def Post (C : Cfg) (c : Code) (Q : Exit → St → World → Prop) (st : St) : Exit → Act → World → Prop :=
  fun ex a' w' => ∃ st', st'.ge = [] ∧ Agree C.N st' a' ∧ FrX C c ex st st' ∧ Q ex st' w'

theorem withB_out {C : Cfg} {b : Bool} {K : Nat → Prop} (h : withB C b K) : ∃ B, K B := by
  unfold withB at h
  split at h
  · exact h
  · exact ⟨_, h⟩

theorem opens_iff {C : Cfg} {b : Bool} {B : Nat} {ds : List Nat} {w : World} {X : Prop} : opens C b B ds w X ↔ ((pushes C b = true → Open B ds w) ∧ X) := by
  unfold opens
  cases pushes C b <;> simp

theorem allDs_at {C : Cfg} {b : Bool} {B : Nat} {ds ds' : List Nat} {w : World} {K : List Nat → Prop} (h : allDs C b B ds w K) (ho : pushes C b = true → Open B ds' w) (he : pushes C b = false → ds' = ds) : K ds' := by
  unfold allDs at h
  cases hp : pushes C b with
  | true => rw [hp] at h; exact h ds' (ho hp)
  | false => rw [hp] at h; rw [he hp]; exact h

theorem frE_ds {ws : List (Nat × TypeId)} {st st' : St} {ds : List Nat} (h : FrE ws st st') : FrE ws st { st' with ds := ds } := h

/-! ### A range over a function -/
def stOf : Nat → LoopState
  | 0 => .ready
  | 1 => .busy
  | 2 => .exhausted
  | k + 3 => if k % 2 = 0 then .done else .exhausted
def pendOf : Nat → Option Code
  | 0 => none
  | 1 => none
  | 2 => none
  | 3 => some .ret
  | 4 => some .ret
  | k + 5 => some (.exit (k / 2))

theorem parTys_spec {ag : List Oper} : ∀ {ps : List Nat} {ts : List (Nat × Ty)}, parTys P ag ps = some ts → keysOf ts = ps := by
  intro ps
  induction ps with
  | nil => intro ts h; simp only [parTys, Option.some.injEq] at h; subst h; rfl
  | cons t r ih =>
    intro ts h
    unfold parTys at h
    split at h
    · rename_i ty ts' _ hts
      split at h
      · cases h; simp [keysOf, ih hts]
      · cases h
    · rename_i ts' _ hts
      cases h; simp [keysOf, ih hts]
    · cases h

theorem packL_length : ∀ {ts : List (Nat × Ty)} {vs : List Value} {xs : List SV}, packL ts vs = some xs → xs.length = ts.length := by
  intro ts
  induction ts with
  | nil => intro vs xs h; simp only [packL, Option.some.injEq] at h; subst h; rfl
  | cons p r ih =>
    intro vs xs h
    unfold packL at h
    split at h
    · rename_i x xs' _ hxs; cases h; simp [ih hxs]
    · cases h

theorem dens_length (xs : List SV) : (dens xs).length = xs.length := by induction xs <;> simp_all [dens]

theorem zipE_spec : ∀ {ts : List (Nat × Ty)} {xs : List SV} {tmps : Array Value} (i : Nat) (x : SV), noDup (keysOf ts) = true → (∀ k ∈ keysOf ts, k < tmps.size) → xs.length = ts.length →
    (lkE (zipE ts xs) i = some x → (((keysOf ts).zip (dens xs)).foldl (fun (tmps : Array Value) (t, a) => tmps.setIfInBounds t a) tmps).getD i undef = x.den) ∧
    (inK (zipE ts xs) i = false → (((keysOf ts).zip (dens xs)).foldl (fun (tmps : Array Value) (t, a) => tmps.setIfInBounds t a) tmps).getD i undef = tmps.getD i undef) ∧
    (((keysOf ts).zip (dens xs)).foldl (fun (tmps : Array Value) (t, a) => tmps.setIfInBounds t a) tmps).size = tmps.size := by
  intro ts
  induction ts with
  | nil => intro xs tmps i x _ _ hl; cases xs <;> simp [zipE, lkE, keysOf]
  | cons p r ih =>
    intro xs tmps i x hd hk hl
    cases xs with
    | nil => simp at hl
    | cons y ys =>
      have hd' : noDup (keysOf r) = true ∧ p.1 ∉ keysOf r := by
        simp only [keysOf] at hd
        unfold noDup at hd
        split at hd
        · cases hd
        · rename_i hm
          refine ⟨hd, fun hc => ?_⟩
          rw [memN_iff.2 hc] at hm; cases hm
      have hp : p.1 < tmps.size := hk p.1 (by simp [keysOf])
      have hks : ∀ k ∈ keysOf r, k < (tmps.setIfInBounds p.1 y.den).size := fun k hk' => by simpa using hk k (by simp [keysOf, hk'])
      obtain ⟨i1, i2, i3⟩ := ih (xs := ys) (tmps := tmps.setIfInBounds p.1 y.den) i x hd'.1 hks (by simpa using hl)
      simp only [keysOf, dens, List.zip_cons_cons, List.foldl_cons, zipE, lkE, inK]
      refine ⟨fun h => ?_, fun h => ?_, by rw [i3]; simp⟩
      · split at h
        · rename_i hb
          cases h
          have hb := nbeq.1 hb
          have hno : inK (zipE r ys) i = false := by
            have : ∀ (r : List (Nat × Ty)) (ys : List SV), i ∉ keysOf r → inK (zipE r ys) i = false := by
              intro r
              induction r with
              | nil => intro ys _; cases ys <;> rfl
              | cons q r ihr =>
                intro ys hi
                cases ys with
                | nil => rfl
                | cons z zs =>
                  simp only [keysOf, List.mem_cons, not_or] at hi
                  simp only [zipE, inK, nbeq_no.2 (Ne.symm hi.1), ihr zs hi.2]
            exact this r ys (by rw [← hb]; exact hd'.2)
          rw [i2 hno, getD_set hp, if_pos hb]
        · exact i1 h
      · split at h
        · cases h
        · rename_i hb
          rw [i2 h, getD_set hp, if_neg (nbeq_no.1 hb)]

theorem round_agree {N : Nat} {st : St} {a : Act} {ps : Array Tmp} {ts : List (Nat × Ty)} {xs : List SV} (h : Agree N st a) (hk : keysOf ts = ps.toList) (hok : parsOk N (keysOf ts) = true) (hl : xs.length = ts.length) :
    Agree N { e := zipE ts xs ++ st.e, ge := [], ds := [] } { tmps := (ps.zip (dens xs).toArray).foldl (fun tmps (t, a) => tmps.setIfInBounds t a) a.tmps, defers := [] } := by
  have hok' : noDup (keysOf ts) = true ∧ ∀ k ∈ keysOf ts, k < a.tmps.size := by
    unfold parsOk at hok
    split at hok
    · rename_i h1
      refine ⟨h1, fun k hk => ?_⟩
      rw [h.size]
      exact Nat.lt_of_succ_le (Nat.le_of_ble_eq_true (allB_iff.1 hok k hk))
    · cases hok
  have hfold : (ps.zip (dens xs).toArray).foldl (fun (tmps : Array Value) (t, a) => tmps.setIfInBounds t a) a.tmps = ((keysOf ts).zip (dens xs)).foldl (fun (tmps : Array Value) (t, a) => tmps.setIfInBounds t a) a.tmps := by
    rw [hk, ← Array.foldl_toList, Array.toList_zip]
  refine ⟨?_, rfl, ?_, fun i d hd => by simp [lkG] at hd, fun i d hd => by simp [lkG] at hd⟩
  · show Array.size _ = N
    rw [hfold, (zipE_spec (ts := ts) (xs := xs) (tmps := a.tmps) 0 (.b true) hok'.1 hok'.2 hl).2.2, h.size]
  · intro i x hx
    show Array.getD _ i undef = _
    rw [hfold]
    obtain ⟨i1, i2, _⟩ := zipE_spec (ts := ts) (xs := xs) (tmps := a.tmps) i x hok'.1 hok'.2 hl
    simp only [lkE_append] at hx
    split at hx
    · exact i1 hx
    · rename_i hno
      rw [i2 (by simpa using hno)]
      exact h.e i x hx

theorem OrIds_out {F : Nat → Prop} : ∀ {l : List Nat}, OrIds F False l → ∃ id, F id := by
  intro l
  induction l with
  | nil => intro h; exact h.elim
  | cons i r ih => 
    intro h
    rcases h with h | h
    · exact ⟨i, h⟩
    · exact ih h

theorem ranged_out {r : Nat → Loop} {l : Nat} {ret : Bool} {exs : List Nat} {Q : Exit → St → World → Prop} {st' : St} {W : World} (h : ranged r l ret exs Q st' W) :
    (Rec r l 0 W ∧ Q .normal st' (turn r l 2 W)) ∨ (Rec r l 3 W ∧ Q .ret st' (turn r l 4 W)) ∨ ∃ id, Rec r l (5 + 2 * id) W ∧ Q (.exit id) st' (turn r l (6 + 2 * id) W) := by
  unfold ranged at h
  rcases h with h | h
  · exact .inl h
  · split at h
    · rcases h with h | h
      · exact .inr (.inl h)
      · exact .inr (.inr (OrIds_out h))
    · exact .inr (.inr (OrIds_out h))

/-- One round. -/
theorem round_sound {asg body : Code} {C : Cfg} {st : St} {a : Act} {l : Nat} {ps : Array Tmp} {ts : List (Nat × Ty)} {r : Nat → Loop} {fn df : Nat}
    (hr : r = fun k => { state := stOf k, pending := pendOf k, fn := fn, tmps := a.tmps, params := ps, assign := asg, body := body, defers := df })
    (iha : ∀ (C : Cfg) (Q : Exit → St → World → Prop) (st : St) (a : Act) (w : World), st.ge = [] → Agree C.N st a → vc P C asg Q st w → asg.wpIn (FW C.rd) 0 P (Post C asg Q st) a w)
    (ihb : ∀ (C : Cfg) (Q : Exit → St → World → Prop) (st : St) (a : Act) (w : World), st.ge = [] → Agree C.N st a → vc P C body Q st w → body.wpIn (FW C.rd) 0 P (Post C body Q st) a w)
    (h : Agree C.N st a) (hk : keysOf ts = ps.toList) (hok : parsOk C.N (keysOf ts) = true) {xs : List SV} (hl : xs.length = ts.length) {W : World} {R : Bool → World → Prop} (h0 : Rec r l 0 W)
    (hv : vc P { C with rd := some l } asg (fun ex st2 Wa => match ex with
        | .normal => Rec r l 0 Wa ∧ ∀ Wb : World, Wb = turn r l 1 Wa → vc P { C with rd := some l } body (fun ex _ W3 => Rec r l 1 W3 ∧ (match ex with
          | .normal => R true (turn r l 0 W3)
          | .ret => R false (turn r l 3 W3)
          | .exit id => R false (turn r l (5 + 2 * id) W3)
          | _ => False)) st2 Wb
        | _ => False) { e := zipE ts xs ++ st.e, ge := [], ds := [] } W) :
    Yield P l (dens xs).toArray W R := by
  intro rd'
  have hsz : (dens xs).toArray.size = (r 0).params.size := by
    rw [hr]
    simp only [List.size_toArray, dens_length, hl]
    have := congrArg List.length hk
    have hkl : ∀ ts : List (Nat × Ty), (keysOf ts).length = ts.length := by intro ts; induction ts <;> simp_all [keysOf]
    rw [hkl] at this
    simpa using this
  have hy := run_yield (P := P) (args := (dens xs).toArray) h0 hsz
  rw [hr] at hy
  refine ⟨_, _, _, _, hy, roundIn_of_wpIn trivial ?_⟩
  have hwp := iha { C with rd := some l } _ _ _ W rfl (round_agree h hk hok hl) hv
  refine wpIn_mono hwp ?_
  rintro ex a1 Wa ⟨s, g1, g2, g3, g4⟩
  cases ex with
  | normal =>
    obtain ⟨hrec, hvb⟩ := g4
    refine ⟨turn r l 1 Wa, ?_, ?_⟩
    · have := run_beginRound (P := P) hrec (by rw [hr]; rfl)
      rw [this]
      unfold turn
      rw [hr]
      rfl
    · refine wpIn_mono (ihb { C with rd := some l } _ s a1 _ g1 g2 (hvb _ rfl)) ?_
      rintro ex a3 W3 ⟨s3, k1, k2, k3, k4⟩
      obtain ⟨hb, hR⟩ := k4
      cases ex with
      | normal => exact ⟨_, _, run_endRound (P := P) none hb, true, rfl, by rw [hr] at hR ⊢; exact hR⟩
      | ret => exact ⟨_, _, run_endRound (P := P) (some .ret) hb, false, rfl, by rw [hr] at hR ⊢; exact hR⟩
      | exit id =>
        refine ⟨_, _, run_endRound (P := P) (some (.exit id)) hb, false, rfl, ?_⟩
        have e1 : stOf (5 + 2 * id) = .done := by
          rw [show 5 + 2 * id = (2 + 2 * id) + 3 by omega]; simp only [stOf]; rw [if_pos (by omega)]
        have e2 : pendOf (5 + 2 * id) = some (.exit id) := by
          rw [show 5 + 2 * id = (2 * id) + 5 by omega]; simp only [pendOf]; rw [show 2 * id / 2 = id by omega]
        unfold turn at hR
        rw [hr] at hR ⊢
        simp only [e1, e2] at hR
        exact hR
      | _ => exact hR.elim
  | _ => exact g4.elim

/-- Behind the iterator. -/
theorem behind {asg body : Code} {l : Nat} {ps : Array Tmp} {r : Nat → Loop} {fn df : Nat} {tmps : Array Value}
    (hr : r = fun k => { state := stOf k, pending := pendOf k, fn := fn, tmps := tmps, params := ps, assign := asg, body := body, defers := df })
    {C : Cfg} {f : Operand} {Q : Exit → St → World → Prop} {st st' : St} {a' : Act} {ret : Bool} {exs : List Nat} {W : World} (hge : st'.ge = []) (hag : Agree C.N st' a') (he : st'.e = st.e) (hds : C.rd.isSome = true → st'.ds = st.ds)
    (hR : ranged r l ret exs Q st' W) (v : Value) : rangePost (FW C.rd) 0 P l (Post C (.rangeFunc f ps asg body) Q st) a' (.returned v) W := by
  have frx : ∀ ex, FrX C (.rangeFunc f ps asg body) ex st st' := fun ex => by
    refine ⟨?_, fun hp => ?_⟩
    · unfold FrW
      cases ex <;> first | trivial | exact ⟨[], by simp [wr], fun i _ => by rw [he]⟩
    · cases hrd : C.rd with
      | none => simp [pushes, hrd, hasRg] at hp
      | some l => exact hds (by rw [hrd]; rfl)
  rcases ranged_out hR with ⟨h0, hQ⟩ | ⟨h0, hQ⟩ | ⟨id, h0, hQ⟩
  · have := run_endLoop (P := P) h0 (by rw [hr]; simp [stOf])
    refine ⟨_, _, this, ?_⟩
    unfold turn at hQ
    rw [hr] at hQ ⊢
    exact ⟨st', hge, hag, frx _, hQ⟩
  · have := run_endLoop (P := P) h0 (by rw [hr]; simp [stOf])
    refine ⟨_, _, this, ?_⟩
    unfold turn at hQ
    rw [hr] at hQ ⊢
    exact wpIn_ret ⟨st', hge, hag, frx _, hQ⟩
  · have e1 : stOf (5 + 2 * id) = .done := by
      rw [show 5 + 2 * id = (2 + 2 * id) + 3 by omega]; simp only [stOf]; rw [if_pos (by omega)]
    have e2 : pendOf (5 + 2 * id) = some (.exit id) := by
      rw [show 5 + 2 * id = (2 * id) + 5 by omega]; simp only [pendOf]; rw [show 2 * id / 2 = id by omega]
    have e3 : stOf (6 + 2 * id) = .exhausted := by
      rw [show 6 + 2 * id = (3 + 2 * id) + 3 by omega]; simp only [stOf]; rw [if_neg (by omega)]
    have e4 : pendOf (6 + 2 * id) = some (.exit id) := by
      rw [show 6 + 2 * id = (1 + 2 * id) + 5 by omega]; simp only [pendOf]; rw [show (1 + 2 * id) / 2 = id by omega]
    have := run_endLoop (P := P) h0 (by rw [hr]; simp [e1])
    refine ⟨_, _, this, ?_⟩
    unfold turn at hQ
    rw [hr] at hQ ⊢
    simp only [e2, e3, e4] at hQ ⊢
    exact wpIn_exit ⟨st', hge, hag, frx _, hQ⟩

theorem range_sound {f : Operand} {ps : Array Tmp} {asg body : Code}
    (iha : ∀ (C : Cfg) (Q : Exit → St → World → Prop) (st : St) (a : Act) (w : World), st.ge = [] → Agree C.N st a → vc P C asg Q st w → asg.wpIn (FW C.rd) 0 P (Post C asg Q st) a w)
    (ihb : ∀ (C : Cfg) (Q : Exit → St → World → Prop) (st : St) (a : Act) (w : World), st.ge = [] → Agree C.N st a → vc P C body Q st w → body.wpIn (FW C.rd) 0 P (Post C body Q st) a w)
    {C : Cfg} {Q : Exit → St → World → Prop} {st : St} {a : Act} {w : World} (hge : st.ge = []) (h : Agree C.N st a) (hv : vc P C (.rangeFunc f ps asg body) Q st w) :
    (Code.rangeFunc f ps asg body).wpIn (FW C.rd) 0 P (Post C (.rangeFunc f ps asg body) Q st) a w := by
  unfold vc at hv
  split at hv
  · rename_i fv ts hf hts
    have hk := parTys_spec hts
    split at hv
    · rename_i hok
      obtain ⟨g, lb, rfl, hen, hv⟩ := hv
      have hg : a.eval f = .func (.func g) #[] lb := by rw [ev_sound h (.nil a) hf, den_v]
      have eargs : ∀ l : Nat, (#[.func (.yield l) #[] #[]] ++ lb : Array Value) = (.func (.yield l) #[] #[] :: lb.toList).toArray := fun l => by apply Array.ext'; simp
      split at hv
      · rename_i hrd
        rw [hrd]
        refine wpIn_rangeFunc fun fn _ => ?_
        obtain ⟨r, hr⟩ : ∃ r : Nat → Loop, r = fun k => { state := stOf k, pending := pendOf k, fn := fn, tmps := a.tmps, params := ps, assign := asg, body := body, defers := w.heap.size } := ⟨_, rfl⟩
        have hcall := hv r w.heap.size (w.heap.size + 1) _ ⟨rfl, rfl, rfl⟩ ?_
        · refine ⟨w.heap.size + 1, [{ target := .collected w.heap.size, args := #[] }], (w.alloc (.deferred (some []))).alloc (.loop (r 0)), { target := .fn (.func g) lb, args := #[.func (.yield (w.heap.size + 1)) #[] #[]] },
            (w.alloc (.deferred (some []))).alloc (.loop (r 0)), g, #[.func (.yield (w.heap.size + 1)) #[] #[]] ++ lb, (w.alloc (.deferred (some []))).alloc (.loop (r 0)), ?_, ?_, ?_, ?_, fun h => by simp [FW] at h, ?_⟩
          · rw [hr]; exact run_enterLoop_outer _ _ _ _ _
          · simp only [resolve, hg]
            simp [go_sem]
          · intro f' _; trivial
          · simp [invoke, go_sem, run_enter hen]
          · rw [eargs]
            refine callsIn_FW (hcall.mono ?_)
            rintro e W ⟨⟨v, rfl⟩, hR⟩
            have := behind (P := P) (C := C) (f := f) (st := st) (st' := { st with ds := w.heap.size :: st.ds }) (a' := { a with defers := [{ target := .collected w.heap.size, args := #[] }] ++ a.defers }) hr hge
              ⟨h.size, by simp [h.defers], h.e, h.g, h.u⟩ rfl (fun hs => by rw [hrd] at hs; cases hs) hR v
            rw [hrd] at this
            exact this
        · -- the rounds
          refine AllL_intro fun vs => ?_
          split
          · trivial
          · rename_i xs hxs
            intro W R h0 hvr
            exact round_sound (fn := fn) (df := w.heap.size) hr iha ihb h hk hok (packL_length hxs) h0 hvr
      · rename_i l0 hrd
        obtain ⟨⟨q, hq⟩, hv⟩ := hv
        rw [hrd]
        refine wpIn_rangeFunc fun fn _ => ?_
        obtain ⟨r, hr⟩ : ∃ r : Nat → Loop, r = fun k => { state := stOf k, pending := pendOf k, fn := fn, tmps := a.tmps, params := ps, assign := asg, body := body, defers := q.defers } := ⟨_, rfl⟩
        have hcall := hv r w.heap.size _ ⟨rfl, rfl⟩ ?_
        · refine ⟨w.heap.size, [], w.alloc (.loop (r 0)), { target := .fn (.func g) lb, args := #[.func (.yield w.heap.size) #[] #[]] },
            w.alloc (.loop (r 0)), g, #[.func (.yield w.heap.size) #[] #[]] ++ lb, w.alloc (.loop (r 0)), ?_, ?_, ?_, ?_, fun h => by simp [FW] at h, ?_⟩
          · rw [hr]; exact run_enterLoop_inner hq _ _ _ _ _
          · simp only [resolve, hg]
            simp [go_sem]
          · intro f' _; trivial
          · simp [invoke, go_sem, run_enter hen]
          · rw [eargs]
            refine callsIn_FW (hcall.mono ?_)
            rintro e W ⟨⟨v, rfl⟩, hR⟩
            have := behind (P := P) (C := C) (f := f) (st := st) (st' := st) (a' := { a with defers := [] ++ a.defers }) hr hge
              ⟨h.size, by simp [h.defers], h.e, h.g, h.u⟩ rfl (fun _ => rfl) hR v
            rw [hrd] at this
            exact this
        · -- the rounds
          refine AllL_intro fun vs => ?_
          split
          · trivial
          · rename_i xs hxs
            intro W R h0 hvr
            exact round_sound (fn := fn) (df := q.defers) hr iha ihb h hk hok (packL_length hxs) h0 hvr
    · exact hv.elim
  · exact hv.elim

theorem vc_sound (hm : P.follows .mixedOrders = true) : ∀ (c : Code) (C : Cfg) (Q : Exit → St → World → Prop) (st : St) (a : Act) (w : World), st.ge = [] → Agree C.N st a → vc P C c Q st w →
    c.wpIn (FW C.rd) 0 P (Post C c Q st) a w := by
  intro c
  induction c with
  | skip => intro C Q st a w hge h hv; exact wpIn_skip ⟨st, hge, h, ⟨⟨[], rfl, .refl _ _⟩, fun _ => rfl⟩, hv⟩
  | label l => intro C Q st a w hge h hv; exact wpIn_label ⟨st, hge, h, ⟨⟨[], rfl, .refl _ _⟩, fun _ => rfl⟩, hv⟩
  | exit id => intro C Q st a w hge h hv; exact wpIn_exit ⟨st, hge, h, ⟨⟨[], by simp [wr, oBeq_refl], .refl _ _⟩, fun _ => rfl⟩, hv⟩
  | goto l => intro C Q st a w hge h hv; exact hv.elim
  | ret => intro C Q st a w hge h hv; exact wpIn_ret ⟨st, hge, h, ⟨trivial, fun _ => rfl⟩, hv⟩
  | refuse s => intro C Q st a w hge h hv; exact hv.elim
  | rangeFunc f ps ag b iha ihb => intro C Q st a w hge h hv; exact range_sound iha ihb hge h hv
  | region id ops draw =>
    intro C Q st a w hge h hv
    have := vcRegion_sound (rd := C.rd) (id := id) (od := lkO C.ords id) (ops := ops.toList) (draw := draw) (Q := Post C (.region id ops draw) Q st) (ws := wrOps ops.toList) hm (fun _ hi => hi) hge
      (K := fun st' w' => Q .normal st' w' ∧ st'.ge = []) (st := st) (a := a) (w := w)
      (fun st' a' w' ha hf hk => ⟨st', hk.2, ha, ⟨⟨wrOps ops.toList, rfl, hf.2⟩, fun _ => hf.1⟩, hk.1⟩) h
    simp only [Array.toArray_toList] at this
    refine this ?_
    -- behind a region nothing hangs on a guard
    have heq : ∀ (l : List Oper), vcOps P C.N ops.toList l (fun st' w' => Q .normal st' w') = vcOps P C.N ops.toList l (fun st' w' => Q .normal st' w' ∧ st'.ge = []) := by
      intro l
      induction l with
      | nil => funext st1 w1; simp [vcOps]
      | cons o r ih => funext st1 w1; simp only [vcOps, ih]
    have heq2 : ∀ (l : OT), vcOrd P C.N ops.toList l (fun st' w' => Q .normal st' w') = vcOrd P C.N ops.toList l (fun st' w' => Q .normal st' w' ∧ st'.ge = []) := by
      intro l
      induction l with
      | nil => funext st1 w1; simp [vcOrd]
      | one o r ih => funext st1 w1; simp only [vcOrd, ih]
      | alt s t ihs iht => funext st1 w1; simp only [vcOrd, ihs, iht]
    dsimp only [vc] at hv
    unfold vcRegion at hv ⊢
    split at hv
    · rw [← heq]; exact hv
    · split at hv
      · intro w' hw'; rw [← heq2]; exact hv w' hw'
      · exact hv.elim
  | cond o x y ihx ihy =>
    intro C Q st a w hge h hv
    have px : ∀ st', ∀ ex a' w', Post C x Q st' ex a' w' → Post C (.cond o x y) Q st' ex a' w' := by
      rintro st' ex a' w' ⟨s, h1, h2, ⟨h3, h3d⟩, h4⟩
      refine ⟨s, h1, h2, ⟨?_, fun hp => h3d (pushes_or hp).1⟩, h4⟩
      unfold FrW at *
      cases ex with
      | normal => obtain ⟨ws, hw, hf⟩ := h3; obtain ⟨z, hz, hmz⟩ := joinW_left (x := ws) (wr none y); exact ⟨z, by simp only [wr, hw, hz], hf.mono hmz⟩
      | exit id => obtain ⟨ws, hw, hf⟩ := h3; obtain ⟨z, hz, hmz⟩ := joinW_left (x := ws) (wr (some id) y); exact ⟨z, by simp only [wr, hw, hz], hf.mono hmz⟩
      | _ => trivial
    have py : ∀ st', ∀ ex a' w', Post C y Q st' ex a' w' → Post C (.cond o x y) Q st' ex a' w' := by
      rintro st' ex a' w' ⟨s, h1, h2, ⟨h3, h3d⟩, h4⟩
      refine ⟨s, h1, h2, ⟨?_, fun hp => h3d (pushes_or hp).2⟩, h4⟩
      unfold FrW at *
      cases ex with
      | normal => obtain ⟨ws, hw, hf⟩ := h3; obtain ⟨z, hz, hmz⟩ := joinW_right (wr none x) (y := ws); exact ⟨z, by simp only [wr, hw, hz], hf.mono hmz⟩
      | exit id => obtain ⟨ws, hw, hf⟩ := h3; obtain ⟨z, hz, hmz⟩ := joinW_right (wr (some id) x) (y := ws); exact ⟨z, by simp only [wr, hw, hz], hf.mono hmz⟩
      | _ => trivial
    unfold vc at hv
    split at hv
    · rename_i ho; exact wpIn_cond_true (ev_sound h (.nil a) ho) (wpIn_mono (ihx C Q st a w hge h hv) (px st))
    · rename_i ho; exact wpIn_cond_false (ev_sound h (.nil a) ho) (wpIn_mono (ihy C Q st a w hge h hv) (py st))
    · rename_i v _ _ ho
      split at hv
      · rename_i g hg0
        refine wpIn_cond_split (t := g.val) (by rw [ev_sound h (.nil a) ho, cndOf_den hg0]) (fun hg => ?_) (fun hg => ?_)
        · exact wpIn_mono (ihx C Q st a w hge h (hv.1 (Cnd.is_of hg))) (px st)
        · exact wpIn_mono (ihy C Q st a w hge h (hv.2 (Cnd.is_of hg))) (py st)
      · exact hv.elim
    · exact hv.elim
  | block id b ih =>
    intro C Q st a w hge h hv
    unfold vc at hv
    refine wpIn_block (wpIn_mono (ih C _ st a w hge h hv) ?_)
    rintro ex a' w' ⟨s, h1, h2, ⟨h3, h3d⟩, h4⟩
    cases ex with
    | normal =>
      refine ⟨s, h1, h2, ⟨?_, h3d⟩, h4⟩
      obtain ⟨ws, hw, hf⟩ := h3
      obtain ⟨z, hz, hmz⟩ := joinW_left (x := ws) (wr (some id) b)
      exact ⟨z, by simp only [wr, isN, hw, hz], hf.mono hmz⟩
    | exit j =>
      simp only at h4
      by_cases hj : j = id
      · subst hj
        rw [nbeq.2 rfl] at h4
        simp only [Exit.inBlock, if_true]
        refine ⟨s, h1, h2, ⟨?_, h3d⟩, h4⟩
        obtain ⟨ws, hw, hf⟩ := h3
        obtain ⟨z, hz, hmz⟩ := joinW_right (wr none b) (y := ws)
        exact ⟨z, by simp only [wr, isN, hw, hz], hf.mono hmz⟩
      · rw [nbeq_no.2 hj] at h4
        simp only [Exit.inBlock, hj, if_false]
        refine ⟨s, h1, h2, ⟨?_, h3d⟩, h4⟩
        obtain ⟨ws, hw, hf⟩ := h3
        exact ⟨ws, by simp only [wr, isN, oBeq, nbeq_no.2 hj, hw], hf⟩
    | goto l => exact ⟨s, h1, h2, ⟨trivial, h3d⟩, h4⟩
    | ret => exact ⟨s, h1, h2, ⟨trivial, h3d⟩, h4⟩
    | panic ch => exact ⟨s, h1, h2, ⟨trivial, h3d⟩, h4⟩
    | outgrown => exact ⟨s, h1, h2, ⟨trivial, h3d⟩, h4⟩
  | scope b ih =>
    intro C Q st a w hge h hv
    unfold vc at hv
    refine wpIn_scope (wpIn_mono (ih C _ st a w hge h hv) ?_)
    rintro ex a' w' ⟨s, h1, h2, ⟨h3, h3d⟩, h4⟩
    cases ex with
    | normal => exact ⟨s, h1, h2, ⟨h3, h3d⟩, h4⟩
    | exit j => exact ⟨s, h1, h2, ⟨h3, h3d⟩, h4⟩
    | goto l => exact h4.elim
    | ret => exact ⟨s, h1, h2, ⟨trivial, h3d⟩, h4⟩
    | panic ch => exact ⟨s, h1, h2, ⟨trivial, h3d⟩, h4⟩
    | outgrown => exact ⟨s, h1, h2, ⟨trivial, h3d⟩, h4⟩
  | seq x y ihx ihy =>
    intro C Q st a w hge h hv
    unfold vc at hv
    have jump : ∀ ex a' w' s, ex ≠ .normal → s.ge = [] → Agree C.N s a' → FrX C x ex st s → Q ex s w' → Post C (.seq x y) Q st ex a' w' := by
      intro ex a' w' s hne h1 h2 h3 h4
      refine ⟨s, h1, h2, ⟨?_, fun hp => h3.ds (pushes_or hp).1⟩, h4⟩
      cases ex with
      | normal => exact absurd rfl hne
      | exit id => exact frW_seq_left h3.e
      | _ => trivial
    split at hv
    · refine wpIn_seq (wpIn_mono (ihx C _ st a w hge h hv) ?_)
      rintro ex a' w' ⟨s, h1, h2, h3, h4⟩
      cases ex with
      | normal =>
        obtain ⟨ws, hw, hf⟩ := h3.e
        refine wpIn_mono (ihy C Q s a' w' h1 h2 h4) ?_
        rintro ex2 a2 w2 ⟨s2, k1, k2, k3, k4⟩
        exact ⟨s2, k1, k2, ⟨frW_seq_right hw hf k3.e, fun hp => (k3.ds (pushes_or hp).2).trans (h3.ds (pushes_or hp).1)⟩, k4⟩
      | exit j => exact jump _ _ _ s (by simp) h1 h2 h3 h4
      | goto l => exact jump _ _ _ s (by simp) h1 h2 h3 h4
      | ret => exact jump _ _ _ s (by simp) h1 h2 h3 h4
      | panic ch => exact jump _ _ _ s (by simp) h1 h2 h3 h4
      | outgrown => exact jump _ _ _ s (by simp) h1 h2 h3 h4
    · split at hv
      · refine wpIn_seq (wpIn_mono (ihx C _ st a w hge h hv) ?_)
        rintro ex a' w' ⟨s, h1, h2, h3, h4⟩
        cases ex with
        | normal => exact h4.elim
        | exit j => exact jump _ _ _ s (by simp) h1 h2 h3 h4
        | goto l => exact jump _ _ _ s (by simp) h1 h2 h3 h4
        | ret => exact jump _ _ _ s (by simp) h1 h2 h3 h4
        | panic ch => exact jump _ _ _ s (by simp) h1 h2 h3 h4
        | outgrown => exact jump _ _ _ s (by simp) h1 h2 h3 h4
      · rename_i ws hws
        split at hv
        · exact hv.elim
        · rename_i slots hslots
          obtain ⟨J, hv⟩ := hv
          obtain ⟨B, hv1, hv2⟩ := withB_out hv
          refine wpIn_seq (wpIn_mono (ihx C _ st a w hge h hv1) ?_)
          rintro ex a' w' ⟨s, h1, h2, h3, h4⟩
          cases ex with
          | normal =>
            obtain ⟨ws', hw, hf⟩ := h3.e
            have : ws' = ws := by rw [hws] at hw; cases hw; rfl
            subst this
            rw [opens_iff] at h4
            obtain ⟨hop, h4⟩ := h4
            split at h4
            · rename_i vs hvs
              obtain ⟨st1, hst1, hag, hge1, hf1, hds1⟩ := head_of_vals (named_in hslots) hf h2 hvs
              have hb := AllL_at hv2 h4 w' h4
              rw [hst1] at hb
              have hb' := allDs_at hb hop h3.ds
              refine wpIn_mono (ihy C Q { st1 with ds := s.ds } a' w' hge1 hag hb') ?_
              rintro ex2 a2 w2 ⟨s2, k1, k2, k3, k4⟩
              exact ⟨s2, k1, k2, ⟨frW_seq_right hw (frE_ds hf1) k3.e, fun hp => (k3.ds (pushes_or hp).2).trans (h3.ds (pushes_or hp).1)⟩, k4⟩
            · exact h4.elim
          | exit j => exact jump _ _ _ s (by simp) h1 h2 h3 h4
          | goto l => exact jump _ _ _ s (by simp) h1 h2 h3 h4
          | ret => exact jump _ _ _ s (by simp) h1 h2 h3 h4
          | panic ch => exact jump _ _ _ s (by simp) h1 h2 h3 h4
          | outgrown => exact jump _ _ _ s (by simp) h1 h2 h3 h4
  | loop b ih =>
    intro C Q st a w hge h hv
    unfold vc at hv
    have out : ∀ (ex : Exit) (s1 s : St) (zs : List (Nat × TypeId)), (∀ zs', wr none b = some zs' → zs' = zs) → FrE zs st s1 → (wr none b = none → s1 = st) → FrW b ex s1 s → ex ≠ .normal → FrW (.loop b) ex st s := by
      intro ex s1 s zs hzs hf1 hnone hx hne
      unfold FrW at *
      cases ex with
      | normal => exact absurd rfl hne
      | exit id =>
        obtain ⟨ws, hw, hf⟩ := hx
        simp only [wr, isN, hw]
        cases hb : wr none b with
        | none => rw [hnone hb] at hf; exact ⟨ws, rfl, hf⟩
        | some zs' =>
          have := hzs zs' hb
          subst this
          exact ⟨zs' ++ ws, rfl, (hf1.mono fun i hi => app_left i hi).trans (hf.mono fun i hi => app_right i hi)⟩
      | _ => trivial
    split at hv
    · rename_i hb
      refine wpIn_loop_ghost (fun _ a' w' => a' = a ∧ w' = w) (n := 0) ?_ ⟨rfl, rfl⟩
      rintro n a' w' ⟨rfl, rfl⟩
      refine wpIn_mono (ih C _ st a' w' hge h hv) ?_
      rintro ex a2 w2 ⟨s, h1, h2, h3, h4⟩
      have lv : ex ≠ .normal → FrX C (.loop b) ex st s := fun hne => ⟨out _ st s [] (fun zs' hz => by rw [hb] at hz; cases hz) (.refl _ _) (fun _ => rfl) h3.e hne, h3.ds⟩
      cases ex with
      | normal => exact h4.elim
      | exit j => exact ⟨s, h1, h2, lv (by simp), h4⟩
      | goto l => exact ⟨s, h1, h2, lv (by simp), h4⟩
      | ret => exact ⟨s, h1, h2, lv (by simp), h4⟩
      | panic ch => exact ⟨s, h1, h2, lv (by simp), h4⟩
      | outgrown => exact ⟨s, h1, h2, lv (by simp), h4⟩
    · rename_i ws hws
      split at hv
      · exact hv.elim
      · rename_i slots hslots
        split at hv
        · exact hv.elim
        · rename_i vs0 hvs0
          obtain ⟨I, M, hv⟩ := hv
          obtain ⟨B, hI0, hall⟩ := withB_out hv
          rw [opens_iff] at hall
          obtain ⟨hop0, hall⟩ := hall
          obtain ⟨st0, hst0, hag0, hge0, hf0, hds0⟩ := head_of_vals (carry_in hslots) (.refl ws st) h hvs0
          refine wpIn_loop_ghost (fun n a' w' => ∃ vs st1 ds, headSt st ws slots vs = some st1 ∧ Agree C.N { st1 with ds := ds } a' ∧ st1.ge = [] ∧ FrE ws st st1 ∧ atI I vs w' ∧ atN M vs w' = n ∧ (pushes C (hasRg b) = true → Open B ds w') ∧ (pushes C (hasRg b) = false → ds = st.ds) ∧ st1.ds = st.ds) (n := atN M vs0 w) ?_
            ⟨vs0, st0, st.ds, hst0, hag0, hge0, hf0, hI0, rfl, hop0, fun _ => rfl, hds0⟩
          rintro n a' w' ⟨vs, st1, ds, hst1, hag, hge1, hf1, hI, rfl, hop, hdse, hds1⟩
          have hb := AllL_at hall hI w' hI
          rw [hst1] at hb
          have hb' := allDs_at hb hop (ds' := ds) (fun hp => hdse hp)
          refine wpIn_mono (ih C _ { st1 with ds := ds } a' w' hge1 hag hb') ?_
          rintro ex a2 w2 ⟨s, h1, h2, h3, h4⟩
          have hx : ex ≠ .normal → FrX C (.loop b) ex st s := fun hne =>
            ⟨out ex { st1 with ds := ds } s ws (fun zs' hz => by rw [hws] at hz; cases hz; rfl) (frE_ds hf1) (fun hn => by rw [hws] at hn; cases hn) h3.e hne, fun hp => (h3.ds hp).trans (hdse hp)⟩
          cases ex with
          | normal =>
            obtain ⟨ws', hw, hf⟩ := h3.e
            have : ws' = ws := by rw [hws] at hw; cases hw; rfl
            subst this
            rw [opens_iff] at h4
            obtain ⟨hop4, h4⟩ := h4
            split at h4
            · rename_i vs' hvs'
              obtain ⟨st2, hst2, hag2, hge2, hf2, hds2⟩ := head_of_vals (carry_in hslots) ((frE_ds hf1).trans hf) h2 hvs'
              exact ⟨_, h4.2, vs', st2, s.ds, hst2, hag2, hge2, hf2, h4.1, rfl, hop4, fun hp => (h3.ds hp).trans (hdse hp), hds2⟩
            · exact h4.elim
          | exit j => exact ⟨s, h1, h2, hx (by simp), h4⟩
          | goto l => exact ⟨s, h1, h2, hx (by simp), h4⟩
          | ret => exact ⟨s, h1, h2, hx (by simp), h4⟩
          | panic ch => exact ⟨s, h1, h2, hx (by simp), h4⟩
          | outgrown => exact ⟨s, h1, h2, hx (by simp), h4⟩

/-! ### Functions -/
theorem resVC_run {N : Nat} {st : St} {a : Act} {w : World} (h : Agree N st a) : ∀ {rs : List ResultVar} {F : List SV → Prop}, resVC P st w rs F →
    ∃ xs, F xs ∧ ∀ g : ResultVar → Sem Value, (∀ t, g (.tmp t) = pure (a.tmps.getD t undef)) → (∀ d t, g (.cell d t) = do loadVar t (← asAddr (a.tmps.getD d undef))) → (rs.mapM g).run P w = .ok (dens xs) w := by
  intro rs
  induction rs with
  | nil => intro F hF; exact ⟨[], hF, fun g _ _ => by simp [dens]⟩
  | cons r rs ih =>
    intro F hF
    cases r with
    | tmp t =>
      dsimp only [resVC] at hF
      split at hF
      · rename_i x hx
        obtain ⟨xs, hF, hxs⟩ := ih hF
        refine ⟨x :: xs, hF, fun g g1 g2 => ?_⟩
        simp only [List.mapM_cons, Sem.run_bind, g1, Sem.run_pure, Result.andThen_ok, hxs g g1 g2, h.e _ _ hx, dens]
      · exact hF.elim
    | cell d t =>
      dsimp only [resVC] at hF
      split at hF
      · rename_i x ty hx hty
        obtain ⟨b, o, hp, hF⟩ := asPtr_out hF
        obtain ⟨y, hF, hy⟩ := loadT_out hty hF
        obtain ⟨xs, hF, hxs⟩ := ih hF
        refine ⟨y :: xs, hF, fun g g1 g2 => ?_⟩
        have hd := h.e _ _ hx
        rw [hp] at hd
        simp only [List.mapM_cons, Sem.run_bind, g2, Sem.run_pure, Result.andThen_ok, hd, asAddr, hy w (fun _ => rfl), hxs g g1 g2, dens]
      · exact hF.elim

theorem ofResults_den (xs : List SV) : (ofResults xs).den = (if h : (dens xs).toArray.size = 1 then (dens xs).toArray[0] else .tuple (dens xs).toArray) := by
  have hd : ∀ l : List SV, dens l = l.map SV.den := by intro l; induction l <;> simp_all [dens]
  cases xs with
  | nil => simp [ofResults, dens, SV.den]
  | cons x r =>
    cases r with
    | nil => simp [ofResults, dens]
    | cons y r => simp [ofResults, dens, SV.den, hd]

theorem initE_get : ∀ (args : List Value) (k i : Nat) (x : SV), lkE (initE args k) i = some x → k ≤ i ∧ ∃ v, args[i - k]? = some v ∧ x.den = v := by
  intro args
  induction args with
  | nil => intro k i x h; simp [initE, lkE] at h
  | cons v r ih =>
    intro k i x h
    simp only [initE, lkE] at h
    split at h
    · rename_i hb
      cases h
      have := nbeq.1 hb
      subst this
      exact ⟨Nat.le_refl _, v, by simp, rfl⟩
    · obtain ⟨h1, u, h2, h3⟩ := ih (k + 1) i x h
      refine ⟨by omega, u, ?_, h3⟩
      rw [show i - k = (i - (k + 1)) + 1 by omega]
      simpa using h2

theorem leaves_unD {fn : Func} {tmps : Array Value} {R : Ending → World → Prop} {F : World → Prop} {n : Nat} {Fe : Fence} :
    ∀ (ds : List Nat) (w : World), unD ds w F → (∀ w', F w' → ∃ v, (results fn tmps).run P w' = .ok v w' ∧ R (.returned v) w') →
      LeavesInM Fe n P fn tmps R (ds.map fun r => { target := .collected r, args := #[] }) .returning w := by
  intro ds
  induction ds with
  | nil => intro w hu hF; exact hF w hu
  | cons d r ih =>
    intro w hu hF
    refine ⟨by simp, .inl ⟨d, _, rfl, run_takeDeferred hu.1, ih _ hu.2 hF⟩⟩

theorem retQ_post {fn : Func} {R : Ending → World → Prop} {C : Cfg} {c : Code} {st0 : St} {Fe : Fence} {n : Nat} : ∀ ex a w, Post C c (retQ P fn R) st0 ex a w → bodyPostM Fe n P fn R ex a w := by
  have main : ∀ st a w, Agree C.N st a → (unD st.ds w fun w' => resVC P st w' fn.results.toList fun xs => R (.returned (ofResults xs).den) w') →
      LeavesInM Fe n P fn a.tmps R a.defers .returning w := by
    intro st a w hag hq
    rw [hag.defers]
    refine leaves_unD st.ds w hq fun w' hr => ?_
    obtain ⟨xs, hR, hrun⟩ := resVC_run hag hr
    refine ⟨_, ?_, hR⟩
    unfold results
    rw [Sem.run_bind, Array.mapM_eq_mapM_toList]
    simp only [Sem.run_map]
    rw [hrun _ (fun t => rfl) (fun d t => rfl)]
    simp only [Result.andThen_ok, Sem.run_pure, ofResults_den]
  rintro ex a w ⟨st, _, hag, _, hq⟩
  cases ex with
  | normal => exact main st a w hag hq
  | ret => exact main st a w hag hq
  | _ => exact hq.elim

/-- **A FUNCTION's CONTRACT OUT OF ITS VERIFICATION CONDITION.** -/
theorem calls_of_vc {f : FuncId} {fn : Func} {args : List Value} {w : World} {R : Ending → World → Prop} (cuts : List Nat) (ords : List (Nat × List Nat)) (hm : P.follows .mixedOrders = true)
    (hf : P.funcs[f]? = some fn) (hv : vcFn P cuts ords fn args w R) : Calls P f args.toArray w R := by
  unfold vcFn at hv
  split at hv
  · exact hv.elim
  · rename_i c hb
    split at hv
    · rename_i hle
      have hle := Nat.le_of_ble_eq_true hle
      have hag : Agree (cfgOf cuts ords fn).N { e := initE args 0, ge := [], ds := [] } { tmps := args.toArray ++ Array.replicate (fn.ntmps - args.toArray.size) undef, defers := [] } := by
        refine ⟨by simp [cfgOf]; omega, rfl, ?_, fun i d hd => by simp [lkG] at hd, fun i d hd => by simp [lkG] at hd⟩
        intro i x hx
        obtain ⟨_, v, hv1, hv2⟩ := initE_get args 0 i x hx
        rw [hv2]
        simp only [Nat.sub_zero] at hv1
        have hi : i < args.length := (List.getElem?_eq_some_iff.1 hv1).1
        simp [Array.getD_eq_getD_getElem?, Array.getElem?_append, hi]
        exact (List.getElem?_eq_some_iff.1 hv1).2
      have := vc_sound hm c (cfgOf cuts ords fn) (retQ P fn R) _ _ w rfl hag hv
      exact (callsIn_wide (n := 0)).1 (callsIn_of_wp_marks (F := Fence.wide) hf hb trivial (wpIn_mono this retQ_post))
    · exact hv.elim
end

end Go.Vc

/- The seat's program by its name, and the one fact that the generator asks of it. -/
namespace Go.Proofs.YtdephmdfdgclpaaDoor
open Go Go.Vc
set_option maxRecDepth 20000
theorem Tryd.mixed : Tryd.prog.follows .mixedOrders = true := by kernel_rfl
end Go.Proofs.YtdephmdfdgclpaaDoor

namespace Go.Vc
open Go
abbrev RI (w : World) (b o : Nat) (F : Int → Prop) : Prop := ∃ n : Int, w.cell? ⟨b, o, none⟩ = some (.int .i64 n) ∧ F n
abbrev RS (w : World) (b o : Nat) (F : ByteArray → Prop) : Prop := ∃ s : ByteArray, w.cell? ⟨b, o, none⟩ = some (.string s) ∧ F s
abbrev RL (w : World) (b o : Nat) (F : Option Addr → Nat → Nat → Prop) : Prop := ∃ (p : Option Addr) (n c : Nat), w.cell? ⟨b, o, none⟩ = some (.slice p n c) ∧ F p n c
abbrev CW (w : World) (b o : Nat) (F : Unit → Prop) : Prop := (∃ u : Value, w.cell? ⟨b, o, none⟩ = some u) ∧ w.frozen? ⟨b, o, none⟩ = false ∧ F ()
end Go.Vc

/- The verification conditions of the functions, evaluated: printed by program. -/
namespace Go.Proofs.YtdephmdfdgclpaaDoor
open Go Go.Vc
set_option maxRecDepth 20000

set_option maxRecDepth 100000 in
def xUses_T (x0 : Int) (x1 : ByteArray) (x2 : Int) (x3 : Int) (x4 : ByteArray) (x5_p : Option Addr) (x5_n : Nat) (x5_c : Nat) (w : World) (R : Ending → World → Prop) : Prop :=
  ∀ b1 w'2, New w (Obj.cells #[.int .i64 x0, .string x1, .int .i64 x2, .int .i64 x3, .string x4, .slice x5_p x5_n x5_c] 29) b1
 w'2 → ∃ n4, w'2.cell? ⟨b1, 0, none⟩ = some (.int .i64 n4) ∧ ∃ s5, w'2.cell? ⟨b1, 1, none⟩ = some (.string s5) ∧ ∃ n6, w'2.cell? ⟨b1, 2, none⟩ = some (.int .i64 n6) ∧ ∃ n7, w'2.cell? ⟨b1, 3, none⟩ = some (.int .i64 n7) ∧ ∃ s8, w'2.cell? ⟨b1, 4, none⟩ = some (.string s8) ∧ ∃ p9 n10 c11, w'2.cell? ⟨b1, 5, none⟩ = some (.slice p9 n10 c11) ∧ Calls Tryd.prog 27 #[.agg #[.int .i64 n4, .string s5, .int .i64 n6, .int .i64 n7, .string s8, .slice p9 n10 c11]]
 w'2 fun e12 w13 ↦
 ∃ b14, e12 = .returned (.bool b14) ∧ (b14 = false → R (.returned (.slice none 0 0)) w13) ∧ (b14 = true → ∀ b17 w'18, New w13 (Obj.cells #[.slice none 0 0] 35) b17 w'18 → ∃ n20, w'18.cell? ⟨b1, 0, none⟩ = some (.int .i64 n20) ∧ ∃ s21, w'18.cell? ⟨b1, 1, none⟩ = some (.string s21) ∧ ∃ n22, w'18.cell? ⟨b1, 2, none⟩ = some (.int .i64 n22) ∧ ∃ n23, w'18.cell? ⟨b1, 3, none⟩ = some (.int .i64 n23) ∧ ∃ s24, w'18.cell? ⟨b1, 4, none⟩ = some (.string s24) ∧ ∃ p25 n26 c27, w'18.cell? ⟨b1, 5, none⟩ = some (.slice p25 n26 c27) ∧ Calls Tryd.prog 31
 #[.agg #[.int .i64 n20, .string s21, .int .i64 n22, .int .i64 n23, .string s24, .slice p25 n26 c27], .int .i64 1]
 w'18 fun e28 w29 ↦
 ∃ v30, e28 = .returned v30 ∧ ∃ (g31 : FuncId), ∃ (lb32 : Array Value), v30 = .func (Fn.func g31) #[] lb32 ∧ enterable Tryd.prog g31 = true ∧ ∀ (r33 : Nat → Loop) (d34 l35 : Nat) (w136 : World), Began w29 r33 d34 l35 w136 → (∀ (v38 : Value) (n39 : Int) (s40 : ByteArray) (n41 n42 : Int) (s43 : ByteArray) (p44 : Option Addr) (n45 c46 : Nat) (W47 : World) (R48 : Bool → World → Prop), Rec r33 l35 0 W47 → (∀ b50 w'51, New W47
 (Obj.cells
 #[.int .i64 0, .string ⟨#[]⟩, .int .i64 0, .int .i64 0, .string ⟨#[]⟩, .slice none 0 0] 29)
 b50 w'51 → (∃ u53, w'51.cell? ⟨b50, 0, none⟩ = some u53) ∧ w'51.frozen? ⟨b50, 0, none⟩ = false ∧ (∃ u54, w'51.cell? ⟨b50, 1, none⟩ = some u54) ∧ w'51.frozen? ⟨b50, 1, none⟩ = false ∧ (∃ u55, w'51.cell? ⟨b50, 2, none⟩ = some u55) ∧ w'51.frozen? ⟨b50, 2, none⟩ = false ∧ (∃ u56, w'51.cell? ⟨b50, 3, none⟩ = some u56) ∧ w'51.frozen? ⟨b50, 3, none⟩ = false ∧ (∃ u57, w'51.cell? ⟨b50, 4, none⟩ = some u57) ∧ w'51.frozen? ⟨b50, 4, none⟩ = false ∧ (∃ u58, w'51.cell? ⟨b50, 5, none⟩ = some u58) ∧ w'51.frozen? ⟨b50, 5, none⟩ = false ∧ ∀ w'59, Put w'51 b50 0 [.int .i64 n39, .string s40, .int .i64 n41, .int .i64 n42, .string s43, .slice p44 n45 c46] w'59 → Rec r33 l35 0 w'59 ∧ ∀ (Wb61 : World), Wb61 = turn r33 l35 1 w'59 → ∃ n63, Wb61.cell? ⟨b50, 0, none⟩ = some (.int .i64 n63) ∧ (n63 = 1 → ∃ p65 n66 c67, Wb61.cell? ⟨b17, 0, none⟩ = some (.slice p65 n66 c67) ∧ ∃ s68, Wb61.cell? ⟨b50, 1, none⟩ = some (.string s68) ∧ ∀ b69 w'70, New Wb61 (Obj.cells #[.string s68] 9) b69 w'70 → ∃ p72 n73 c74, ∃ (w'75 : World), Sem.run Tryd.prog (Builtin.append_ #[35, 35] 35 #[.slice p65 n66 c67, .slice (some ⟨b69, 0, none⟩) 1 1]) w'70 = Result.ok (.slice p72 n73 c74) w'75 ∧ (∃ u76, w'75.cell? ⟨b17, 0, none⟩ = some u76) ∧ w'75.frozen? ⟨b17, 0, none⟩ = false ∧ ∀ w'77, Put w'75 b17 0 [.slice p72 n73 c74] w'77 → Rec r33 l35 1 w'77 ∧ R48 true (turn r33 l35 0 w'77)) ∧ (n63 ≠ 1 → Rec r33 l35 1 Wb61 ∧ R48 true (turn r33 l35 0 Wb61))) → Yield Tryd.prog l35
 #[v38, .agg #[.int .i64 n39, .string s40, .int .i64 n41, .int .i64 n42, .string s43, .slice p44 n45 c46]] W47
 fun (b81 : Bool) (w82 : World) ↦ R48 b81 w82) → Calls Tryd.prog g31 (.func (Fn.yield l35) #[] #[] :: lb32.1).toArray w136 fun e84 w85 ↦
 (∃ v86, e84 = .returned v86) ∧ ((Rec r33 l35 0 w85 ∧ ∃ p87 n88 c89, (turn r33 l35 2 w85).cell? ⟨b17, 0, none⟩ = some (.slice p87 n88 c89) ∧ Calls Tryd.prog 32 #[.slice p87 n88 c89] (turn r33 l35 2 w85) fun e90 w91 ↦
 e90 = .returned (.tuple #[]) ∧ ∃ p92 n93 c94, w91.cell? ⟨b17, 0, none⟩ = some (.slice p92 n93 c94) ∧ Calls Tryd.prog 33 #[.slice p92 n93 c94] w91 fun e95 w96 ↦
 ∃ p97 n98 c99, e95 = .returned (.slice p97 n98 c99) ∧ w96.heap[d34]? = some (Obj.deferred (some [])) ∧ R (.returned (.slice p97 n98 c99)) (w96.putObj d34 (Obj.deferred none))) ∨
 False))

set_option maxRecDepth 100000 in
theorem xUses_eq (x0 : Int) (x1 : ByteArray) (x2 : Int) (x3 : Int) (x4 : ByteArray) (x5_p : Option Addr) (x5_n : Nat) (x5_c : Nat) (w : World) (R : Ending → World → Prop) : xUses_T x0 x1 x2 x3 x4 x5_p x5_n x5_c w R = vcFn Tryd.prog [] [] Tryd.f14 [Value.agg
 #[.int .i64 x0, .string x1, .int .i64 x2, .int .i64 x3, .string x4, .slice x5_p x5_n x5_c]] w R := by kernel_rfl

set_option maxRecDepth 100000 in
theorem xUses_vc (x0 : Int) (x1 : ByteArray) (x2 : Int) (x3 : Int) (x4 : ByteArray) (x5_p : Option Addr) (x5_n : Nat) (x5_c : Nat) (w : World) (R : Ending → World → Prop) (hvc : xUses_T x0 x1 x2 x3 x4 x5_p x5_n x5_c w R) : Calls Tryd.prog 14 #[Value.agg
 #[.int .i64 x0, .string x1, .int .i64 x2, .int .i64 x3, .string x4, .slice x5_p x5_n x5_c]] w R :=
  calls_of_vc (args := [Value.agg
 #[.int .i64 x0, .string x1, .int .i64 x2, .int .i64 x3, .string x4, .slice x5_p x5_n x5_c]]) [] [] Tryd.mixed Tryd.func14 (cast (xUses_eq _ _ _ _ _ _ _ _ w R) hvc)

set_option maxRecDepth 100000 in
def xSame_T (a0 : Int) (a1 : ByteArray) (a2 : Int) (a3 : Int) (a4 : ByteArray) (a5_p : Option Addr) (a5_n : Nat) (a5_c : Nat) (b0 : Int) (b1 : ByteArray) (b2 : Int) (b3 : Int) (b4 : ByteArray) (b5_p : Option Addr) (b5_n : Nat) (b5_c : Nat) (w : World) (R : Ending → World → Prop) : Prop :=
  ∀ b1_1 w'2, New w (Obj.cells #[.int .i64 a0, .string a1, .int .i64 a2, .int .i64 a3, .string a4, .slice a5_p a5_n a5_c] 29) b1_1
 w'2 → ∀ b4_1 w'5, New w'2 (Obj.cells #[.int .i64 b0, .string b1, .int .i64 b2, .int .i64 b3, .string b4, .slice b5_p b5_n b5_c] 29) b4_1
 w'5 → ∃ n7, w'5.cell? ⟨b1_1, 0, none⟩ = some (.int .i64 n7) ∧ ∃ s8, w'5.cell? ⟨b1_1, 1, none⟩ = some (.string s8) ∧ ∃ n9, w'5.cell? ⟨b1_1, 2, none⟩ = some (.int .i64 n9) ∧ ∃ n10, w'5.cell? ⟨b1_1, 3, none⟩ = some (.int .i64 n10) ∧ ∃ s11, w'5.cell? ⟨b1_1, 4, none⟩ = some (.string s11) ∧ ∃ p12 n13 c14, w'5.cell? ⟨b1_1, 5, none⟩ = some (.slice p12 n13 c14) ∧ Calls Tryd.prog 27
 #[.agg #[.int .i64 n7, .string s8, .int .i64 n9, .int .i64 n10, .string s11, .slice p12 n13 c14]] w'5
 fun e15 w16 ↦
 ∃ b17, e15 = .returned (.bool b17) ∧ (b17 = true → ∃ n19, w16.cell? ⟨b4_1, 0, none⟩ = some (.int .i64 n19) ∧ ∃ s20, w16.cell? ⟨b4_1, 1, none⟩ = some (.string s20) ∧ ∃ n21, w16.cell? ⟨b4_1, 2, none⟩ = some (.int .i64 n21) ∧ ∃ n22, w16.cell? ⟨b4_1, 3, none⟩ = some (.int .i64 n22) ∧ ∃ s23, w16.cell? ⟨b4_1, 4, none⟩ = some (.string s23) ∧ ∃ p24 n25 c26, w16.cell? ⟨b4_1, 5, none⟩ = some (.slice p24 n25 c26) ∧ Calls Tryd.prog 27
 #[.agg #[.int .i64 n19, .string s20, .int .i64 n21, .int .i64 n22, .string s23, .slice p24 n25 c26]] w16
 fun e27 w28 ↦
 ∃ b29, e27 = .returned (.bool b29) ∧ (b29 = true → ∃ n31, w28.cell? ⟨b1_1, 0, none⟩ = some (.int .i64 n31) ∧ ∃ s32, w28.cell? ⟨b1_1, 1, none⟩ = some (.string s32) ∧ ∃ n33, w28.cell? ⟨b1_1, 2, none⟩ = some (.int .i64 n33) ∧ ∃ n34, w28.cell? ⟨b1_1, 3, none⟩ = some (.int .i64 n34) ∧ ∃ s35, w28.cell? ⟨b1_1, 4, none⟩ = some (.string s35) ∧ ∃ p36 n37 c38, w28.cell? ⟨b1_1, 5, none⟩ = some (.slice p36 n37 c38) ∧ ∃ n39, w28.cell? ⟨b4_1, 0, none⟩ = some (.int .i64 n39) ∧ ∃ s40, w28.cell? ⟨b4_1, 1, none⟩ = some (.string s40) ∧ ∃ n41, w28.cell? ⟨b4_1, 2, none⟩ = some (.int .i64 n41) ∧ ∃ n42, w28.cell? ⟨b4_1, 3, none⟩ = some (.int .i64 n42) ∧ ∃ s43, w28.cell? ⟨b4_1, 4, none⟩ = some (.string s43) ∧ ∃ p44 n45 c46, w28.cell? ⟨b4_1, 5, none⟩ = some (.slice p44 n45 c46) ∧ Calls Tryd.prog 38
 #[.agg #[.int .i64 n31, .string s32, .int .i64 n33, .int .i64 n34, .string s35, .slice p36 n37 c38], .agg #[.int .i64 n39, .string s40, .int .i64 n41, .int .i64 n42, .string s43, .slice p44 n45 c46]]
 w28 fun e47 w48 ↦ ∃ b49, e47 = .returned (.bool b49) ∧ R (.returned (.bool b49)) w48) ∧ (b29 = false → R (.returned (.bool false)) w28)) ∧ (b17 = false → R (.returned (.bool false)) w16)

set_option maxRecDepth 100000 in
theorem xSame_eq (a0 : Int) (a1 : ByteArray) (a2 : Int) (a3 : Int) (a4 : ByteArray) (a5_p : Option Addr) (a5_n : Nat) (a5_c : Nat) (b0 : Int) (b1 : ByteArray) (b2 : Int) (b3 : Int) (b4 : ByteArray) (b5_p : Option Addr) (b5_n : Nat) (b5_c : Nat) (w : World) (R : Ending → World → Prop) : xSame_T a0 a1 a2 a3 a4 a5_p a5_n a5_c b0 b1 b2 b3 b4 b5_p b5_n b5_c w R = vcFn Tryd.prog [] [] Tryd.f19 [Value.agg
 #[.int .i64 a0, .string a1, .int .i64 a2, .int .i64 a3, .string a4, .slice a5_p a5_n a5_c], Value.agg
 #[.int .i64 b0, .string b1, .int .i64 b2, .int .i64 b3, .string b4, .slice b5_p b5_n b5_c]] w R := by kernel_rfl

set_option maxRecDepth 100000 in
theorem xSame_vc (a0 : Int) (a1 : ByteArray) (a2 : Int) (a3 : Int) (a4 : ByteArray) (a5_p : Option Addr) (a5_n : Nat) (a5_c : Nat) (b0 : Int) (b1 : ByteArray) (b2 : Int) (b3 : Int) (b4 : ByteArray) (b5_p : Option Addr) (b5_n : Nat) (b5_c : Nat) (w : World) (R : Ending → World → Prop) (hvc : xSame_T a0 a1 a2 a3 a4 a5_p a5_n a5_c b0 b1 b2 b3 b4 b5_p b5_n b5_c w R) : Calls Tryd.prog 19 #[Value.agg
 #[.int .i64 a0, .string a1, .int .i64 a2, .int .i64 a3, .string a4, .slice a5_p a5_n a5_c], Value.agg
 #[.int .i64 b0, .string b1, .int .i64 b2, .int .i64 b3, .string b4, .slice b5_p b5_n b5_c]] w R :=
  calls_of_vc (args := [Value.agg
 #[.int .i64 a0, .string a1, .int .i64 a2, .int .i64 a3, .string a4, .slice a5_p a5_n a5_c], Value.agg
 #[.int .i64 b0, .string b1, .int .i64 b2, .int .i64 b3, .string b4, .slice b5_p b5_n b5_c]]) [] [] Tryd.mixed Tryd.func19 (cast (xSame_eq _ _ _ _ _ _ _ _ _ _ _ _ _ _ _ _ w R) hvc)

set_option maxRecDepth 100000 in
def xsame_T (a0 : Int) (a1 : ByteArray) (a2 : Int) (a3 : Int) (a4 : ByteArray) (a5_p : Option Addr) (a5_n : Nat) (a5_c : Nat) (b0 : Int) (b1 : ByteArray) (b2 : Int) (b3 : Int) (b4 : ByteArray) (b5_p : Option Addr) (b5_n : Nat) (b5_c : Nat) (w : World) (R : Ending → World → Prop) : Prop :=
  ∀ b1_1 w'2, New w (Obj.cells #[.int .i64 a0, .string a1, .int .i64 a2, .int .i64 a3, .string a4, .slice a5_p a5_n a5_c] 29) b1_1
 w'2 → ∀ b4_1 w'5, New w'2 (Obj.cells #[.int .i64 b0, .string b1, .int .i64 b2, .int .i64 b3, .string b4, .slice b5_p b5_n b5_c] 29) b4_1
 w'5 → ∃ n7, w'5.cell? ⟨b1_1, 0, none⟩ = some (.int .i64 n7) ∧ ∃ n8, w'5.cell? ⟨b4_1, 0, none⟩ = some (.int .i64 n8) ∧ (n7 = n8 → ∃ s10, w'5.cell? ⟨b1_1, 1, none⟩ = some (.string s10) ∧ ∃ s11, w'5.cell? ⟨b4_1, 1, none⟩ = some (.string s11) ∧ (s10 = s11 → ∃ n13, w'5.cell? ⟨b1_1, 2, none⟩ = some (.int .i64 n13) ∧ ∃ n14, w'5.cell? ⟨b1_1, 3, none⟩ = some (.int .i64 n14) ∧ ∃ s15, w'5.cell? ⟨b1_1, 4, none⟩ = some (.string s15) ∧ ∃ n16, w'5.cell? ⟨b4_1, 2, none⟩ = some (.int .i64 n16) ∧ ∃ n17, w'5.cell? ⟨b4_1, 3, none⟩ = some (.int .i64 n17) ∧ ∃ s18, w'5.cell? ⟨b4_1, 4, none⟩ = some (.string s18) ∧ (n13 = n16 ∧ n14 = n17 ∧ s15 = s18 → ∃ p20 n21 c22, w'5.cell? ⟨b1_1, 5, none⟩ = some (.slice p20 n21 c22) ∧ ∃ p23 n24 c25, w'5.cell? ⟨b4_1, 5, none⟩ = some (.slice p23 n24 c25) ∧ Calls Tryd.prog 54 #[.slice p20 n21 c22, .slice p23 n24 c25, .func (Fn.func 38) #[] #[]] w'5 fun e26 w27 ↦
 ∃ b28, e26 = .returned (.bool b28) ∧ R (.returned (.bool b28)) w27) ∧ (n13 ≠ n16 ∨ n14 ≠ n17 ∨ s15 ≠ s18 → R (.returned (.bool false)) w'5)) ∧ (s10 ≠ s11 → R (.returned (.bool false)) w'5)) ∧ (n7 ≠ n8 → R (.returned (.bool false)) w'5)

set_option maxRecDepth 100000 in
theorem xsame_eq (a0 : Int) (a1 : ByteArray) (a2 : Int) (a3 : Int) (a4 : ByteArray) (a5_p : Option Addr) (a5_n : Nat) (a5_c : Nat) (b0 : Int) (b1 : ByteArray) (b2 : Int) (b3 : Int) (b4 : ByteArray) (b5_p : Option Addr) (b5_n : Nat) (b5_c : Nat) (w : World) (R : Ending → World → Prop) : xsame_T a0 a1 a2 a3 a4 a5_p a5_n a5_c b0 b1 b2 b3 b4 b5_p b5_n b5_c w R = vcFn Tryd.prog [] [] Tryd.f38 [Value.agg
 #[.int .i64 a0, .string a1, .int .i64 a2, .int .i64 a3, .string a4, .slice a5_p a5_n a5_c], Value.agg
 #[.int .i64 b0, .string b1, .int .i64 b2, .int .i64 b3, .string b4, .slice b5_p b5_n b5_c]] w R := by kernel_rfl

set_option maxRecDepth 100000 in
theorem xsame_vc (a0 : Int) (a1 : ByteArray) (a2 : Int) (a3 : Int) (a4 : ByteArray) (a5_p : Option Addr) (a5_n : Nat) (a5_c : Nat) (b0 : Int) (b1 : ByteArray) (b2 : Int) (b3 : Int) (b4 : ByteArray) (b5_p : Option Addr) (b5_n : Nat) (b5_c : Nat) (w : World) (R : Ending → World → Prop) (hvc : xsame_T a0 a1 a2 a3 a4 a5_p a5_n a5_c b0 b1 b2 b3 b4 b5_p b5_n b5_c w R) : Calls Tryd.prog 38 #[Value.agg
 #[.int .i64 a0, .string a1, .int .i64 a2, .int .i64 a3, .string a4, .slice a5_p a5_n a5_c], Value.agg
 #[.int .i64 b0, .string b1, .int .i64 b2, .int .i64 b3, .string b4, .slice b5_p b5_n b5_c]] w R :=
  calls_of_vc (args := [Value.agg
 #[.int .i64 a0, .string a1, .int .i64 a2, .int .i64 a3, .string a4, .slice a5_p a5_n a5_c], Value.agg
 #[.int .i64 b0, .string b1, .int .i64 b2, .int .i64 b3, .string b4, .slice b5_p b5_n b5_c]]) [] [] Tryd.mixed Tryd.func38 (cast (xsame_eq _ _ _ _ _ _ _ _ _ _ _ _ _ _ _ _ w R) hvc)

set_option maxRecDepth 100000 in
def eqfunc_T (s1_p : Option Addr) (s1_n : Nat) (s1_c : Nat) (s2_p : Option Addr) (s2_n : Nat) (s2_c : Nat) (w : World) (R : Ending → World → Prop) : Prop :=
  ((↑s1_n : Int) ≠ (↑s2_n : Int) → R (.returned (.bool false)) w) ∧ ((↑s1_n : Int) = (↑s2_n : Int) → ∃ (I3 : Int → World → Prop), ∃ (M4 : Int → World → Nat), I3 0 w ∧ ∀ (n5 : Int) (w'6 : World), I3 n5 w'6 → (n5 < (↑s1_n : Int) → ∃ b9, ∃ o10, s1_p = some ⟨b9, o10, none⟩ ∧ 0 ≤ n5 ∧ n5 < (↑s1_n : Int) ∧ ∃ n11, w'6.cell? ⟨b9, (o10 + n5.toNat * 6), none⟩ = some (.int .i64 n11) ∧ ∃ s12, w'6.cell? ⟨b9, (o10 + n5.toNat * 6 + 1), none⟩ = some (.string s12) ∧ ∃ n13, w'6.cell? ⟨b9, (o10 + n5.toNat * 6 + 2), none⟩ = some (.int .i64 n13) ∧ ∃ n14, w'6.cell? ⟨b9, (o10 + n5.toNat * 6 + 3), none⟩ = some (.int .i64 n14) ∧ ∃ s15, w'6.cell? ⟨b9, (o10 + n5.toNat * 6 + 4), none⟩ = some (.string s15) ∧ ∃ p16 n17 c18, w'6.cell? ⟨b9, (o10 + n5.toNat * 6 + 5), none⟩ = some (.slice p16 n17 c18) ∧ ∀ b19 w'20, New w'6
 (Obj.cells
 #[.int .i64 0, .string ⟨#[]⟩, .int .i64 0, .int .i64 0, .string ⟨#[]⟩, .slice none 0 0] 29)
 b19 w'20 → (∃ u22, w'20.cell? ⟨b19, 0, none⟩ = some u22) ∧ w'20.frozen? ⟨b19, 0, none⟩ = false ∧ (∃ u23, w'20.cell? ⟨b19, 1, none⟩ = some u23) ∧ w'20.frozen? ⟨b19, 1, none⟩ = false ∧ (∃ u24, w'20.cell? ⟨b19, 2, none⟩ = some u24) ∧ w'20.frozen? ⟨b19, 2, none⟩ = false ∧ (∃ u25, w'20.cell? ⟨b19, 3, none⟩ = some u25) ∧ w'20.frozen? ⟨b19, 3, none⟩ = false ∧ (∃ u26, w'20.cell? ⟨b19, 4, none⟩ = some u26) ∧ w'20.frozen? ⟨b19, 4, none⟩ = false ∧ (∃ u27, w'20.cell? ⟨b19, 5, none⟩ = some u27) ∧ w'20.frozen? ⟨b19, 5, none⟩ = false ∧ ∀ w'28, Put w'20 b19 0 [.int .i64 n11, .string s12, .int .i64 n13, .int .i64 n14, .string s15, .slice p16 n17 c18] w'28 → ∃ b30, ∃ o31, s2_p = some ⟨b30, o31, none⟩ ∧ 0 ≤ n5 ∧ n5 < (↑s2_n : Int) ∧ ∃ n32, w'28.cell? ⟨b30, (o31 + n5.toNat * 6), none⟩ = some (.int .i64 n32) ∧ ∃ s33, w'28.cell? ⟨b30, (o31 + n5.toNat * 6 + 1), none⟩ = some (.string s33) ∧ ∃ n34, w'28.cell? ⟨b30, (o31 + n5.toNat * 6 + 2), none⟩ = some (.int .i64 n34) ∧ ∃ n35, w'28.cell? ⟨b30, (o31 + n5.toNat * 6 + 3), none⟩ = some (.int .i64 n35) ∧ ∃ s36, w'28.cell? ⟨b30, (o31 + n5.toNat * 6 + 4), none⟩ = some (.string s36) ∧ ∃ p37 n38 c39, w'28.cell? ⟨b30, (o31 + n5.toNat * 6 + 5), none⟩ = some (.slice p37 n38 c39) ∧ ∀ b40 w'41, New w'28
 (Obj.cells
 #[.int .i64 0, .string ⟨#[]⟩, .int .i64 0, .int .i64 0, .string ⟨#[]⟩, .slice none 0 0] 29)
 b40 w'41 → (∃ u43, w'41.cell? ⟨b40, 0, none⟩ = some u43) ∧ w'41.frozen? ⟨b40, 0, none⟩ = false ∧ (∃ u44, w'41.cell? ⟨b40, 1, none⟩ = some u44) ∧ w'41.frozen? ⟨b40, 1, none⟩ = false ∧ (∃ u45, w'41.cell? ⟨b40, 2, none⟩ = some u45) ∧ w'41.frozen? ⟨b40, 2, none⟩ = false ∧ (∃ u46, w'41.cell? ⟨b40, 3, none⟩ = some u46) ∧ w'41.frozen? ⟨b40, 3, none⟩ = false ∧ (∃ u47, w'41.cell? ⟨b40, 4, none⟩ = some u47) ∧ w'41.frozen? ⟨b40, 4, none⟩ = false ∧ (∃ u48, w'41.cell? ⟨b40, 5, none⟩ = some u48) ∧ w'41.frozen? ⟨b40, 5, none⟩ = false ∧ ∀ w'49, Put w'41 b40 0 [.int .i64 n32, .string s33, .int .i64 n34, .int .i64 n35, .string s36, .slice p37 n38 c39] w'49 → ∃ n51, w'49.cell? ⟨b19, 0, none⟩ = some (.int .i64 n51) ∧ ∃ s52, w'49.cell? ⟨b19, 1, none⟩ = some (.string s52) ∧ ∃ n53, w'49.cell? ⟨b19, 2, none⟩ = some (.int .i64 n53) ∧ ∃ n54, w'49.cell? ⟨b19, 3, none⟩ = some (.int .i64 n54) ∧ ∃ s55, w'49.cell? ⟨b19, 4, none⟩ = some (.string s55) ∧ ∃ p56 n57 c58, w'49.cell? ⟨b19, 5, none⟩ = some (.slice p56 n57 c58) ∧ ∃ n59, w'49.cell? ⟨b40, 0, none⟩ = some (.int .i64 n59) ∧ ∃ s60, w'49.cell? ⟨b40, 1, none⟩ = some (.string s60) ∧ ∃ n61, w'49.cell? ⟨b40, 2, none⟩ = some (.int .i64 n61) ∧ ∃ n62, w'49.cell? ⟨b40, 3, none⟩ = some (.int .i64 n62) ∧ ∃ s63, w'49.cell? ⟨b40, 4, none⟩ = some (.string s63) ∧ ∃ p64 n65 c66, w'49.cell? ⟨b40, 5, none⟩ = some (.slice p64 n65 c66) ∧ Calls Tryd.prog 38
 #[.agg #[.int .i64 n51, .string s52, .int .i64 n53, .int .i64 n54, .string s55, .slice p56 n57 c58], .agg #[.int .i64 n59, .string s60, .int .i64 n61, .int .i64 n62, .string s63, .slice p64 n65 c66]]
 w'49 fun e67 w68 ↦
 ∃ b69, e67 = .returned (.bool b69) ∧ (b69 = false → R (.returned (.bool false)) w68) ∧ (b69 = true → I3 (IntKind.i64.wrap (n5 + 1)) w68 ∧ M4 (IntKind.i64.wrap (n5 + 1)) w68 < M4 n5 w'6)) ∧ ((↑s1_n : Int) ≤ n5 → R (.returned (.bool true)) w'6))

set_option maxRecDepth 100000 in
theorem eqfunc_eq (s1_p : Option Addr) (s1_n : Nat) (s1_c : Nat) (s2_p : Option Addr) (s2_n : Nat) (s2_c : Nat) (w : World) (R : Ending → World → Prop) : eqfunc_T s1_p s1_n s1_c s2_p s2_n s2_c w R = vcFn Tryd.prog [] [] Tryd.f54 [.slice s1_p s1_n s1_c, .slice s2_p s2_n s2_c, .func (Fn.func 38) #[] #[]] w R := by kernel_rfl

set_option maxRecDepth 100000 in
theorem eqfunc_vc (s1_p : Option Addr) (s1_n : Nat) (s1_c : Nat) (s2_p : Option Addr) (s2_n : Nat) (s2_c : Nat) (w : World) (R : Ending → World → Prop) (hvc : eqfunc_T s1_p s1_n s1_c s2_p s2_n s2_c w R) : Calls Tryd.prog 54 #[.slice s1_p s1_n s1_c, .slice s2_p s2_n s2_c, .func (Fn.func 38) #[] #[]] w R :=
  calls_of_vc (args := [.slice s1_p s1_n s1_c, .slice s2_p s2_n s2_c, .func (Fn.func 38) #[] #[]]) [] [] Tryd.mixed Tryd.func54 (cast (eqfunc_eq _ _ _ _ _ _ w R) hvc)

set_option maxRecDepth 100000 in
def rnames_T (out_p : Option Addr) (out_n : Nat) (out_c : Nat) (x0 : Int) (x1 : ByteArray) (x2 : Int) (x3 : Int) (x4 : ByteArray) (x5_p : Option Addr) (x5_n : Nat) (x5_c : Nat) (w : World) (R : Ending → World → Prop) : Prop :=
  ∀ b1 w'2, New w (Obj.cells #[.int .i64 x0, .string x1, .int .i64 x2, .int .i64 x3, .string x4, .slice x5_p x5_n x5_c] 29) b1
 w'2 → ∃ n4, w'2.cell? ⟨b1, 0, none⟩ = some (.int .i64 n4) ∧ (n4 = 1 → ∃ (J6 : Int → World → Prop), (∃ (I7 : Int → World → Prop), ∃ (M8 : Int → World → Nat), I7 0 w'2 ∧ ∀ (n9 : Int) (w'10 : World), I7 n9 w'10 → ∀ w'12, Drew w'10 w'12 → (n9 < (↑out_n : Int) → ∃ b15, ∃ o16, out_p = some ⟨b15, o16, none⟩ ∧ 0 ≤ n9 ∧ n9 < (↑out_n : Int) ∧ ∃ s17, w'12.cell? ⟨b15, (o16 + n9.toNat), none⟩ = some (.string s17) ∧ ∃ s18, w'12.cell? ⟨b1, 1, none⟩ = some (.string s18) ∧ (sLt s17 s18 = true → I7 (IntKind.i64.wrap (n9 + 1)) w'12 ∧ M8 (IntKind.i64.wrap (n9 + 1)) w'12 < M8 n9 w'10) ∧ (sLt s17 s18 = false → J6 n9 w'12)) ∧ ((↑out_n : Int) ≤ n9 → J6 n9 w'12)) ∧ ∀ (n22 : Int) (w'23 : World), J6 n22 w'23 → ∀ w'25, Drew w'23 w'25 → (n22 = (↑out_n : Int) → ∀ w'28, Drew w'25 w'28 → 0 ≤ n22 ∧ n22 ≤ (↑out_c : Int) ∧ (0 : Int) ≤ 0 ∧ 0 ≤ IntKind.i64.wrap ((↑out_n : Int) + 1) ∧ 16 * IntKind.i64.wrap ((↑out_n : Int) + 1) ≤ 281474976710656 ∧ IntKind.i64.wrap ((↑out_n : Int) + 1) ≤ 9223372036854775807 ∧ ∀ b30 w'31, New w'28 (Obj.cells (madeCells #[.string ⟨#[]⟩] (IntKind.i64.wrap ((↑out_n : Int) + 1)).toNat) 9) b30 w'31 → ∃ p33 n34 c35, ∃ (w'36 : World), Sem.run Tryd.prog
 (Builtin.append_ #[35, 35] 35 #[.slice (some ⟨b30, 0, none⟩) 0 (IntKind.i64.wrap ((↑out_n : Int) + 1)).toNat, .slice out_p n22.toNat out_c]) w'31 =
 Result.ok (.slice p33 n34 c35) w'36 ∧ ∃ s37, w'36.cell? ⟨b1, 1, none⟩ = some (.string s37) ∧ ∀ b38 w'39, New w'36 (Obj.cells #[.string s37] 9) b38 w'39 → ∃ p41 n42 c43, ∃ (w'44 : World), Sem.run Tryd.prog (Builtin.append_ #[35, 35] 35 #[.slice p33 n34 c35, .slice (some ⟨b38, 0, none⟩) 1 1]) w'39 = Result.ok (.slice p41 n42 c43) w'44 ∧ 0 ≤ n22 ∧ n22 ≤ (↑out_n : Int) ∧ ∃ p45 n46 c47, ∃ (w'48 : World), Sem.run Tryd.prog (Builtin.append_ #[35, 35] 35 #[.slice p41 n42 c43, .slice (slBase out_p n22.toNat out_c 1) (out_n - n22.toNat) (out_c - n22.toNat)]) w'44 =
 Result.ok (.slice p45 n46 c47) w'48 ∧ ∃ (I49 : Option Addr → Nat → Nat → Int → World → Prop), ∃ (M50 : Option Addr → Nat → Nat → Int → World → Nat), I49 p45 n46 c47 0 w'48 ∧ ∀ (p51 : Option Addr) (n52 c53 : Nat) (n54 : Int) (w'55 : World), I49 p51 n52 c53 n54 w'55 → ∃ p57 n58 c59, w'55.cell? ⟨b1, 5, none⟩ = some (.slice p57 n58 c59) ∧ (n54 < (↑n58 : Int) → ∃ p61 n62 c63, w'55.cell? ⟨b1, 5, none⟩ = some (.slice p61 n62 c63) ∧ ∃ b64, ∃ o65, p61 = some ⟨b64, o65, none⟩ ∧ 0 ≤ n54 ∧ n54 < (↑n62 : Int) ∧ ∃ n66, w'55.cell? ⟨b64, (o65 + n54.toNat * 6), none⟩ = some (.int .i64 n66) ∧ ∃ s67, w'55.cell? ⟨b64, (o65 + n54.toNat * 6 + 1), none⟩ = some (.string s67) ∧ ∃ n68, w'55.cell? ⟨b64, (o65 + n54.toNat * 6 + 2), none⟩ = some (.int .i64 n68) ∧ ∃ n69, w'55.cell? ⟨b64, (o65 + n54.toNat * 6 + 3), none⟩ = some (.int .i64 n69) ∧ ∃ s70, w'55.cell? ⟨b64, (o65 + n54.toNat * 6 + 4), none⟩ = some (.string s70) ∧ ∃ p71 n72 c73, w'55.cell? ⟨b64, (o65 + n54.toNat * 6 + 5), none⟩ = some (.slice p71 n72 c73) ∧ Calls Tryd.prog 37
 #[.slice p51 n52 c53, .agg #[.int .i64 n66, .string s67, .int .i64 n68, .int .i64 n69, .string s70, .slice p71 n72 c73]]
 w'55 fun e74 w75 ↦
 ∃ p76 n77 c78, e74 = .returned (.slice p76 n77 c78) ∧ I49 p76 n77 c78 (IntKind.i64.wrap (n54 + 1)) w75 ∧ M50 p76 n77 c78 (IntKind.i64.wrap (n54 + 1)) w75 < M50 p51 n52 c53 n54 w'55) ∧ ((↑n58 : Int) ≤ n54 → R (.returned (.slice p51 n52 c53)) w'55)) ∧ (n22 ≠ (↑out_n : Int) → ∃ b81, ∃ o82, out_p = some ⟨b81, o82, none⟩ ∧ 0 ≤ n22 ∧ n22 < (↑out_n : Int) ∧ ∃ s83, w'25.cell? ⟨b81, (o82 + n22.toNat), none⟩ = some (.string s83) ∧ ∃ s84, w'25.cell? ⟨b1, 1, none⟩ = some (.string s84) ∧ (s83 ≠ s84 → ∀ w'86, Drew w'25 w'86 → 0 ≤ n22 ∧ n22 ≤ (↑out_c : Int) ∧ (0 : Int) ≤ 0 ∧ 0 ≤ IntKind.i64.wrap ((↑out_n : Int) + 1) ∧ 16 * IntKind.i64.wrap ((↑out_n : Int) + 1) ≤ 281474976710656 ∧ IntKind.i64.wrap ((↑out_n : Int) + 1) ≤ 9223372036854775807 ∧ ∀ b88 w'89, New w'86 (Obj.cells (madeCells #[.string ⟨#[]⟩] (IntKind.i64.wrap ((↑out_n : Int) + 1)).toNat) 9) b88 w'89 → ∃ p91 n92 c93, ∃ (w'94 : World), Sem.run Tryd.prog
 (Builtin.append_ #[35, 35] 35 #[.slice (some ⟨b88, 0, none⟩) 0 (IntKind.i64.wrap ((↑out_n : Int) + 1)).toNat, .slice out_p n22.toNat out_c]) w'89 =
 Result.ok (.slice p91 n92 c93) w'94 ∧ ∃ s95, w'94.cell? ⟨b1, 1, none⟩ = some (.string s95) ∧ ∀ b96 w'97, New w'94 (Obj.cells #[.string s95] 9) b96 w'97 → ∃ p99 n100 c101, ∃ (w'102 : World), Sem.run Tryd.prog (Builtin.append_ #[35, 35] 35 #[.slice p91 n92 c93, .slice (some ⟨b96, 0, none⟩) 1 1]) w'97 =
 Result.ok (.slice p99 n100 c101) w'102 ∧ 0 ≤ n22 ∧ n22 ≤ (↑out_n : Int) ∧ ∃ p103 n104 c105, ∃ (w'106 : World), Sem.run Tryd.prog (Builtin.append_ #[35, 35] 35 #[.slice p99 n100 c101, .slice (slBase out_p n22.toNat out_c 1) (out_n - n22.toNat) (out_c - n22.toNat)])
 w'102 =
 Result.ok (.slice p103 n104 c105) w'106 ∧ ∃ (I107 : Option Addr → Nat → Nat → Int → World → Prop), ∃ (M108 : Option Addr → Nat → Nat → Int → World → Nat), I107 p103 n104 c105 0 w'106 ∧ ∀ (p109 : Option Addr) (n110 c111 : Nat) (n112 : Int) (w'113 : World), I107 p109 n110 c111 n112 w'113 → ∃ p115 n116 c117, w'113.cell? ⟨b1, 5, none⟩ = some (.slice p115 n116 c117) ∧ (n112 < (↑n116 : Int) → ∃ p119 n120 c121, w'113.cell? ⟨b1, 5, none⟩ = some (.slice p119 n120 c121) ∧ ∃ b122, ∃ o123, p119 = some ⟨b122, o123, none⟩ ∧ 0 ≤ n112 ∧ n112 < (↑n120 : Int) ∧ ∃ n124, w'113.cell? ⟨b122, (o123 + n112.toNat * 6), none⟩ = some (.int .i64 n124) ∧ ∃ s125, w'113.cell? ⟨b122, (o123 + n112.toNat * 6 + 1), none⟩ = some (.string s125) ∧ ∃ n126, w'113.cell? ⟨b122, (o123 + n112.toNat * 6 + 2), none⟩ = some (.int .i64 n126) ∧ ∃ n127, w'113.cell? ⟨b122, (o123 + n112.toNat * 6 + 3), none⟩ = some (.int .i64 n127) ∧ ∃ s128, w'113.cell? ⟨b122, (o123 + n112.toNat * 6 + 4), none⟩ = some (.string s128) ∧ ∃ p129 n130 c131, w'113.cell? ⟨b122, (o123 + n112.toNat * 6 + 5), none⟩ = some (.slice p129 n130 c131) ∧ Calls Tryd.prog 37
 #[.slice p109 n110 c111, .agg #[.int .i64 n124, .string s125, .int .i64 n126, .int .i64 n127, .string s128, .slice p129 n130 c131]]
 w'113 fun e132 w133 ↦
 ∃ p134 n135 c136, e132 = .returned (.slice p134 n135 c136) ∧ I107 p134 n135 c136 (IntKind.i64.wrap (n112 + 1)) w133 ∧ M108 p134 n135 c136 (IntKind.i64.wrap (n112 + 1)) w133 < M108 p109 n110 c111 n112 w'113) ∧ ((↑n116 : Int) ≤ n112 → R (.returned (.slice p109 n110 c111)) w'113)) ∧ (s83 = s84 → ∃ (I139 : Option Addr → Nat → Nat → Int → World → Prop), ∃ (M140 : Option Addr → Nat → Nat → Int → World → Nat), I139 out_p out_n out_c 0 w'25 ∧ ∀ (p141 : Option Addr) (n142 c143 : Nat) (n144 : Int) (w'145 : World), I139 p141 n142 c143 n144 w'145 → ∃ p147 n148 c149, w'145.cell? ⟨b1, 5, none⟩ = some (.slice p147 n148 c149) ∧ (n144 < (↑n148 : Int) → ∃ p151 n152 c153, w'145.cell? ⟨b1, 5, none⟩ = some (.slice p151 n152 c153) ∧ ∃ b154, ∃ o155, p151 = some ⟨b154, o155, none⟩ ∧ 0 ≤ n144 ∧ n144 < (↑n152 : Int) ∧ ∃ n156, w'145.cell? ⟨b154, (o155 + n144.toNat * 6), none⟩ = some (.int .i64 n156) ∧ ∃ s157, w'145.cell? ⟨b154, (o155 + n144.toNat * 6 + 1), none⟩ = some (.string s157) ∧ ∃ n158, w'145.cell? ⟨b154, (o155 + n144.toNat * 6 + 2), none⟩ = some (.int .i64 n158) ∧ ∃ n159, w'145.cell? ⟨b154, (o155 + n144.toNat * 6 + 3), none⟩ = some (.int .i64 n159) ∧ ∃ s160, w'145.cell? ⟨b154, (o155 + n144.toNat * 6 + 4), none⟩ = some (.string s160) ∧ ∃ p161 n162 c163, w'145.cell? ⟨b154, (o155 + n144.toNat * 6 + 5), none⟩ = some (.slice p161 n162 c163) ∧ Calls Tryd.prog 37
 #[.slice p141 n142 c143, .agg #[.int .i64 n156, .string s157, .int .i64 n158, .int .i64 n159, .string s160, .slice p161 n162 c163]]
 w'145 fun e164 w165 ↦
 ∃ p166 n167 c168, e164 = .returned (.slice p166 n167 c168) ∧ I139 p166 n167 c168 (IntKind.i64.wrap (n144 + 1)) w165 ∧ M140 p166 n167 c168 (IntKind.i64.wrap (n144 + 1)) w165 < M140 p141 n142 c143 n144 w'145) ∧ ((↑n148 : Int) ≤ n144 → R (.returned (.slice p141 n142 c143)) w'145)))) ∧ (n4 ≠ 1 → ∃ (I171 : Option Addr → Nat → Nat → Int → World → Prop), ∃ (M172 : Option Addr → Nat → Nat → Int → World → Nat), I171 out_p out_n out_c 0 w'2 ∧ ∀ (p173 : Option Addr) (n174 c175 : Nat) (n176 : Int) (w'177 : World), I171 p173 n174 c175 n176 w'177 → ∃ p179 n180 c181, w'177.cell? ⟨b1, 5, none⟩ = some (.slice p179 n180 c181) ∧ (n176 < (↑n180 : Int) → ∃ p183 n184 c185, w'177.cell? ⟨b1, 5, none⟩ = some (.slice p183 n184 c185) ∧ ∃ b186, ∃ o187, p183 = some ⟨b186, o187, none⟩ ∧ 0 ≤ n176 ∧ n176 < (↑n184 : Int) ∧ ∃ n188, w'177.cell? ⟨b186, (o187 + n176.toNat * 6), none⟩ = some (.int .i64 n188) ∧ ∃ s189, w'177.cell? ⟨b186, (o187 + n176.toNat * 6 + 1), none⟩ = some (.string s189) ∧ ∃ n190, w'177.cell? ⟨b186, (o187 + n176.toNat * 6 + 2), none⟩ = some (.int .i64 n190) ∧ ∃ n191, w'177.cell? ⟨b186, (o187 + n176.toNat * 6 + 3), none⟩ = some (.int .i64 n191) ∧ ∃ s192, w'177.cell? ⟨b186, (o187 + n176.toNat * 6 + 4), none⟩ = some (.string s192) ∧ ∃ p193 n194 c195, w'177.cell? ⟨b186, (o187 + n176.toNat * 6 + 5), none⟩ = some (.slice p193 n194 c195) ∧ Calls Tryd.prog 37
 #[.slice p173 n174 c175, .agg #[.int .i64 n188, .string s189, .int .i64 n190, .int .i64 n191, .string s192, .slice p193 n194 c195]]
 w'177 fun e196 w197 ↦
 ∃ p198 n199 c200, e196 = .returned (.slice p198 n199 c200) ∧ I171 p198 n199 c200 (IntKind.i64.wrap (n176 + 1)) w197 ∧ M172 p198 n199 c200 (IntKind.i64.wrap (n176 + 1)) w197 < M172 p173 n174 c175 n176 w'177) ∧ ((↑n180 : Int) ≤ n176 → R (.returned (.slice p173 n174 c175)) w'177))

set_option maxRecDepth 100000 in
theorem rnames_eq (out_p : Option Addr) (out_n : Nat) (out_c : Nat) (x0 : Int) (x1 : ByteArray) (x2 : Int) (x3 : Int) (x4 : ByteArray) (x5_p : Option Addr) (x5_n : Nat) (x5_c : Nat) (w : World) (R : Ending → World → Prop) : rnames_T out_p out_n out_c x0 x1 x2 x3 x4 x5_p x5_n x5_c w R = vcFn Tryd.prog [5] [(3, [2, 4, 6, 8, 10, 12, 14, 16, 18, 20, 22, 24, 26, 0]), (5, [2, 4, 6, 8, 10, 12, 14, 16, 18, 20, 22, 24, 26, 0]), (6, [2, 4, 6, 10, 12, 14, 8, 16, 18, 0])] Tryd.f37 [.slice out_p out_n out_c, Value.agg
 #[.int .i64 x0, .string x1, .int .i64 x2, .int .i64 x3, .string x4, .slice x5_p x5_n x5_c]] w R := by kernel_rfl

set_option maxRecDepth 100000 in
theorem rnames_vc (out_p : Option Addr) (out_n : Nat) (out_c : Nat) (x0 : Int) (x1 : ByteArray) (x2 : Int) (x3 : Int) (x4 : ByteArray) (x5_p : Option Addr) (x5_n : Nat) (x5_c : Nat) (w : World) (R : Ending → World → Prop) (hvc : rnames_T out_p out_n out_c x0 x1 x2 x3 x4 x5_p x5_n x5_c w R) : Calls Tryd.prog 37 #[.slice out_p out_n out_c, Value.agg
 #[.int .i64 x0, .string x1, .int .i64 x2, .int .i64 x3, .string x4, .slice x5_p x5_n x5_c]] w R :=
  calls_of_vc (args := [.slice out_p out_n out_c, Value.agg
 #[.int .i64 x0, .string x1, .int .i64 x2, .int .i64 x3, .string x4, .slice x5_p x5_n x5_c]]) [5] [(3, [2, 4, 6, 8, 10, 12, 14, 16, 18, 20, 22, 24, 26, 0]), (5, [2, 4, 6, 8, 10, 12, 14, 16, 18, 20, 22, 24, 26, 0]), (6, [2, 4, 6, 10, 12, 14, 8, 16, 18, 0])] Tryd.mixed Tryd.func37 (cast (rnames_eq _ _ _ _ _ _ _ _ _ _ _ w R) hvc)

set_option maxRecDepth 100000 in
def rUses_T (x0 : Int) (x1 : ByteArray) (x2 : Int) (x3 : Int) (x4 : ByteArray) (x5_p : Option Addr) (x5_n : Nat) (x5_c : Nat) (w : World) (R : Ending → World → Prop) : Prop :=
  ∀ b1 w'2, New w (Obj.cells #[.int .i64 x0, .string x1, .int .i64 x2, .int .i64 x3, .string x4, .slice x5_p x5_n x5_c] 29) b1
 w'2 → ∃ n4, w'2.cell? ⟨b1, 0, none⟩ = some (.int .i64 n4) ∧ ∃ s5, w'2.cell? ⟨b1, 1, none⟩ = some (.string s5) ∧ ∃ n6, w'2.cell? ⟨b1, 2, none⟩ = some (.int .i64 n6) ∧ ∃ n7, w'2.cell? ⟨b1, 3, none⟩ = some (.int .i64 n7) ∧ ∃ s8, w'2.cell? ⟨b1, 4, none⟩ = some (.string s8) ∧ ∃ p9 n10 c11, w'2.cell? ⟨b1, 5, none⟩ = some (.slice p9 n10 c11) ∧ Calls Tryd.prog 36 #[.agg #[.int .i64 n4, .string s5, .int .i64 n6, .int .i64 n7, .string s8, .slice p9 n10 c11]]
 w'2 fun e12 w13 ↦
 ∃ b14, e12 = .returned (.bool b14) ∧ (b14 = false → R (.returned (.slice none 0 0)) w13) ∧ (b14 = true → ∃ n17, w13.cell? ⟨b1, 0, none⟩ = some (.int .i64 n17) ∧ ∃ s18, w13.cell? ⟨b1, 1, none⟩ = some (.string s18) ∧ ∃ n19, w13.cell? ⟨b1, 2, none⟩ = some (.int .i64 n19) ∧ ∃ n20, w13.cell? ⟨b1, 3, none⟩ = some (.int .i64 n20) ∧ ∃ s21, w13.cell? ⟨b1, 4, none⟩ = some (.string s21) ∧ ∃ p22 n23 c24, w13.cell? ⟨b1, 5, none⟩ = some (.slice p22 n23 c24) ∧ Calls Tryd.prog 37
 #[.slice none 0 0, .agg #[.int .i64 n17, .string s18, .int .i64 n19, .int .i64 n20, .string s21, .slice p22 n23 c24]]
 w13 fun e25 w26 ↦
 ∃ p27 n28 c29, e25 = .returned (.slice p27 n28 c29) ∧ R (.returned (.slice p27 n28 c29)) w26)

set_option maxRecDepth 100000 in
theorem rUses_eq (x0 : Int) (x1 : ByteArray) (x2 : Int) (x3 : Int) (x4 : ByteArray) (x5_p : Option Addr) (x5_n : Nat) (x5_c : Nat) (w : World) (R : Ending → World → Prop) : rUses_T x0 x1 x2 x3 x4 x5_p x5_n x5_c w R = vcFn Tryd.prog [] [] Tryd.f18 [Value.agg
 #[.int .i64 x0, .string x1, .int .i64 x2, .int .i64 x3, .string x4, .slice x5_p x5_n x5_c]] w R := by kernel_rfl

set_option maxRecDepth 100000 in
theorem rUses_vc (x0 : Int) (x1 : ByteArray) (x2 : Int) (x3 : Int) (x4 : ByteArray) (x5_p : Option Addr) (x5_n : Nat) (x5_c : Nat) (w : World) (R : Ending → World → Prop) (hvc : rUses_T x0 x1 x2 x3 x4 x5_p x5_n x5_c w R) : Calls Tryd.prog 18 #[Value.agg
 #[.int .i64 x0, .string x1, .int .i64 x2, .int .i64 x3, .string x4, .slice x5_p x5_n x5_c]] w R :=
  calls_of_vc (args := [Value.agg
 #[.int .i64 x0, .string x1, .int .i64 x2, .int .i64 x3, .string x4, .slice x5_p x5_n x5_c]]) [] [] Tryd.mixed Tryd.func18 (cast (rUses_eq _ _ _ _ _ _ _ _ w R) hvc)

set_option maxRecDepth 100000 in
def rAlike_T (a0 : Int) (a1 : ByteArray) (a2 : Int) (a3 : Int) (a4 : ByteArray) (a5_p : Option Addr) (a5_n : Nat) (a5_c : Nat) (b0 : Int) (b1 : ByteArray) (b2 : Int) (b3 : Int) (b4 : ByteArray) (b5_p : Option Addr) (b5_n : Nat) (b5_c : Nat) (w : World) (R : Ending → World → Prop) : Prop :=
  ∀ b1_1 w'2, New w (Obj.cells #[.int .i64 a0, .string a1, .int .i64 a2, .int .i64 a3, .string a4, .slice a5_p a5_n a5_c] 29) b1_1
 w'2 → ∀ b4_1 w'5, New w'2 (Obj.cells #[.int .i64 b0, .string b1, .int .i64 b2, .int .i64 b3, .string b4, .slice b5_p b5_n b5_c] 29) b4_1
 w'5 → ∃ n7, w'5.cell? ⟨b1_1, 0, none⟩ = some (.int .i64 n7) ∧ ∃ n8, w'5.cell? ⟨b4_1, 0, none⟩ = some (.int .i64 n8) ∧ (n7 ≠ n8 → R (.returned (.bool false)) w'5) ∧ (n7 = n8 → ∃ s11, w'5.cell? ⟨b1_1, 1, none⟩ = some (.string s11) ∧ ∃ s12, w'5.cell? ⟨b4_1, 1, none⟩ = some (.string s12) ∧ (s11 ≠ s12 → R (.returned (.bool false)) w'5) ∧ (s11 = s12 → ∃ n15, w'5.cell? ⟨b1_1, 2, none⟩ = some (.int .i64 n15) ∧ ∃ n16, w'5.cell? ⟨b1_1, 3, none⟩ = some (.int .i64 n16) ∧ ∃ s17, w'5.cell? ⟨b1_1, 4, none⟩ = some (.string s17) ∧ ∃ n18, w'5.cell? ⟨b4_1, 2, none⟩ = some (.int .i64 n18) ∧ ∃ n19, w'5.cell? ⟨b4_1, 3, none⟩ = some (.int .i64 n19) ∧ ∃ s20, w'5.cell? ⟨b4_1, 4, none⟩ = some (.string s20) ∧ (n15 ≠ n18 ∨ n16 ≠ n19 ∨ s17 ≠ s20 → R (.returned (.bool false)) w'5) ∧ (n15 = n18 ∧ n16 = n19 ∧ s17 = s20 → ∃ p23 n24 c25, w'5.cell? ⟨b1_1, 5, none⟩ = some (.slice p23 n24 c25) ∧ ∃ p26 n27 c28, w'5.cell? ⟨b4_1, 5, none⟩ = some (.slice p26 n27 c28) ∧ ((↑n24 : Int) ≠ (↑n27 : Int) → R (.returned (.bool false)) w'5) ∧ ((↑n24 : Int) = (↑n27 : Int) → ∃ (I31 : Int → World → Prop), ∃ (M32 : Int → World → Nat), I31 0 w'5 ∧ ∀ (n33 : Int) (w'34 : World), I31 n33 w'34 → ∃ p36 n37 c38, w'34.cell? ⟨b1_1, 5, none⟩ = some (.slice p36 n37 c38) ∧ (n33 < (↑n37 : Int) → ∀ w'40, Drew w'34 w'40 → ∃ p42 n43 c44, w'40.cell? ⟨b1_1, 5, none⟩ = some (.slice p42 n43 c44) ∧ ∃ b45, ∃ o46, p42 = some ⟨b45, o46, none⟩ ∧ 0 ≤ n33 ∧ n33 < (↑n43 : Int) ∧ ∃ n47, w'40.cell? ⟨b45, (o46 + n33.toNat * 6), none⟩ = some (.int .i64 n47) ∧ ∃ s48, w'40.cell? ⟨b45, (o46 + n33.toNat * 6 + 1), none⟩ = some (.string s48) ∧ ∃ n49, w'40.cell? ⟨b45, (o46 + n33.toNat * 6 + 2), none⟩ = some (.int .i64 n49) ∧ ∃ n50, w'40.cell? ⟨b45, (o46 + n33.toNat * 6 + 3), none⟩ = some (.int .i64 n50) ∧ ∃ s51, w'40.cell? ⟨b45, (o46 + n33.toNat * 6 + 4), none⟩ = some (.string s51) ∧ ∃ p52 n53 c54, w'40.cell? ⟨b45, (o46 + n33.toNat * 6 + 5), none⟩ = some (.slice p52 n53 c54) ∧ ∃ p55 n56 c57, w'40.cell? ⟨b4_1, 5, none⟩ = some (.slice p55 n56 c57) ∧ ∃ b58, ∃ o59, p55 = some ⟨b58, o59, none⟩ ∧ 0 ≤ n33 ∧ n33 < (↑n56 : Int) ∧ ∃ n60, w'40.cell? ⟨b58, (o59 + n33.toNat * 6), none⟩ = some (.int .i64 n60) ∧ ∃ s61, w'40.cell? ⟨b58, (o59 + n33.toNat * 6 + 1), none⟩ = some (.string s61) ∧ ∃ n62, w'40.cell? ⟨b58, (o59 + n33.toNat * 6 + 2), none⟩ = some (.int .i64 n62) ∧ ∃ n63, w'40.cell? ⟨b58, (o59 + n33.toNat * 6 + 3), none⟩ = some (.int .i64 n63) ∧ ∃ s64, w'40.cell? ⟨b58, (o59 + n33.toNat * 6 + 4), none⟩ = some (.string s64) ∧ ∃ p65 n66 c67, w'40.cell? ⟨b58, (o59 + n33.toNat * 6 + 5), none⟩ = some (.slice p65 n66 c67) ∧ Calls Tryd.prog 39
 #[.agg #[.int .i64 n47, .string s48, .int .i64 n49, .int .i64 n50, .string s51, .slice p52 n53 c54], .agg #[.int .i64 n60, .string s61, .int .i64 n62, .int .i64 n63, .string s64, .slice p65 n66 c67]]
 w'40 fun e68 w69 ↦
 ∃ b70, e68 = .returned (.bool b70) ∧ (b70 = false → R (.returned (.bool false)) w69) ∧ (b70 = true → I31 (IntKind.i64.wrap (n33 + 1)) w69 ∧ M32 (IntKind.i64.wrap (n33 + 1)) w69 < M32 n33 w'34)) ∧ ((↑n37 : Int) ≤ n33 → R (.returned (.bool true)) w'34)))))

set_option maxRecDepth 100000 in
theorem rAlike_eq (a0 : Int) (a1 : ByteArray) (a2 : Int) (a3 : Int) (a4 : ByteArray) (a5_p : Option Addr) (a5_n : Nat) (a5_c : Nat) (b0 : Int) (b1 : ByteArray) (b2 : Int) (b3 : Int) (b4 : ByteArray) (b5_p : Option Addr) (b5_n : Nat) (b5_c : Nat) (w : World) (R : Ending → World → Prop) : rAlike_T a0 a1 a2 a3 a4 a5_p a5_n a5_c b0 b1 b2 b3 b4 b5_p b5_n b5_c w R = vcFn Tryd.prog [] [(6, [2, 4, 6, 8, 10, 12, 14, 16, 18, 20, 22, 24, 0])] Tryd.f39 [Value.agg
 #[.int .i64 a0, .string a1, .int .i64 a2, .int .i64 a3, .string a4, .slice a5_p a5_n a5_c], Value.agg
 #[.int .i64 b0, .string b1, .int .i64 b2, .int .i64 b3, .string b4, .slice b5_p b5_n b5_c]] w R := by kernel_rfl

set_option maxRecDepth 100000 in
theorem rAlike_vc (a0 : Int) (a1 : ByteArray) (a2 : Int) (a3 : Int) (a4 : ByteArray) (a5_p : Option Addr) (a5_n : Nat) (a5_c : Nat) (b0 : Int) (b1 : ByteArray) (b2 : Int) (b3 : Int) (b4 : ByteArray) (b5_p : Option Addr) (b5_n : Nat) (b5_c : Nat) (w : World) (R : Ending → World → Prop) (hvc : rAlike_T a0 a1 a2 a3 a4 a5_p a5_n a5_c b0 b1 b2 b3 b4 b5_p b5_n b5_c w R) : Calls Tryd.prog 39 #[Value.agg
 #[.int .i64 a0, .string a1, .int .i64 a2, .int .i64 a3, .string a4, .slice a5_p a5_n a5_c], Value.agg
 #[.int .i64 b0, .string b1, .int .i64 b2, .int .i64 b3, .string b4, .slice b5_p b5_n b5_c]] w R :=
  calls_of_vc (args := [Value.agg
 #[.int .i64 a0, .string a1, .int .i64 a2, .int .i64 a3, .string a4, .slice a5_p a5_n a5_c], Value.agg
 #[.int .i64 b0, .string b1, .int .i64 b2, .int .i64 b3, .string b4, .slice b5_p b5_n b5_c]]) [] [(6, [2, 4, 6, 8, 10, 12, 14, 16, 18, 20, 22, 24, 0])] Tryd.mixed Tryd.func39 (cast (rAlike_eq _ _ _ _ _ _ _ _ _ _ _ _ _ _ _ _ w R) hvc)

set_option maxRecDepth 100000 in
def rSame_T (a0 : Int) (a1 : ByteArray) (a2 : Int) (a3 : Int) (a4 : ByteArray) (a5_p : Option Addr) (a5_n : Nat) (a5_c : Nat) (b0 : Int) (b1 : ByteArray) (b2 : Int) (b3 : Int) (b4 : ByteArray) (b5_p : Option Addr) (b5_n : Nat) (b5_c : Nat) (w : World) (R : Ending → World → Prop) : Prop :=
  ∀ b1_1 w'2, New w (Obj.cells #[.int .i64 a0, .string a1, .int .i64 a2, .int .i64 a3, .string a4, .slice a5_p a5_n a5_c] 29) b1_1
 w'2 → ∀ b4_1 w'5, New w'2 (Obj.cells #[.int .i64 b0, .string b1, .int .i64 b2, .int .i64 b3, .string b4, .slice b5_p b5_n b5_c] 29) b4_1
 w'5 → ∃ n7, w'5.cell? ⟨b1_1, 0, none⟩ = some (.int .i64 n7) ∧ ∃ s8, w'5.cell? ⟨b1_1, 1, none⟩ = some (.string s8) ∧ ∃ n9, w'5.cell? ⟨b1_1, 2, none⟩ = some (.int .i64 n9) ∧ ∃ n10, w'5.cell? ⟨b1_1, 3, none⟩ = some (.int .i64 n10) ∧ ∃ s11, w'5.cell? ⟨b1_1, 4, none⟩ = some (.string s11) ∧ ∃ p12 n13 c14, w'5.cell? ⟨b1_1, 5, none⟩ = some (.slice p12 n13 c14) ∧ Calls Tryd.prog 36
 #[.agg #[.int .i64 n7, .string s8, .int .i64 n9, .int .i64 n10, .string s11, .slice p12 n13 c14]] w'5
 fun e15 w16 ↦
 ∃ b17, e15 = .returned (.bool b17) ∧ ∃ n18, w16.cell? ⟨b4_1, 0, none⟩ = some (.int .i64 n18) ∧ ∃ s19, w16.cell? ⟨b4_1, 1, none⟩ = some (.string s19) ∧ ∃ n20, w16.cell? ⟨b4_1, 2, none⟩ = some (.int .i64 n20) ∧ ∃ n21, w16.cell? ⟨b4_1, 3, none⟩ = some (.int .i64 n21) ∧ ∃ s22, w16.cell? ⟨b4_1, 4, none⟩ = some (.string s22) ∧ ∃ p23 n24 c25, w16.cell? ⟨b4_1, 5, none⟩ = some (.slice p23 n24 c25) ∧ Calls Tryd.prog 36
 #[.agg #[.int .i64 n18, .string s19, .int .i64 n20, .int .i64 n21, .string s22, .slice p23 n24 c25]] w16
 fun e26 w27 ↦
 ∃ b28, e26 = .returned (.bool b28) ∧ (b17 = true ∧ b28 = true → ∃ n30, w27.cell? ⟨b1_1, 0, none⟩ = some (.int .i64 n30) ∧ ∃ s31, w27.cell? ⟨b1_1, 1, none⟩ = some (.string s31) ∧ ∃ n32, w27.cell? ⟨b1_1, 2, none⟩ = some (.int .i64 n32) ∧ ∃ n33, w27.cell? ⟨b1_1, 3, none⟩ = some (.int .i64 n33) ∧ ∃ s34, w27.cell? ⟨b1_1, 4, none⟩ = some (.string s34) ∧ ∃ p35 n36 c37, w27.cell? ⟨b1_1, 5, none⟩ = some (.slice p35 n36 c37) ∧ ∃ n38, w27.cell? ⟨b4_1, 0, none⟩ = some (.int .i64 n38) ∧ ∃ s39, w27.cell? ⟨b4_1, 1, none⟩ = some (.string s39) ∧ ∃ n40, w27.cell? ⟨b4_1, 2, none⟩ = some (.int .i64 n40) ∧ ∃ n41, w27.cell? ⟨b4_1, 3, none⟩ = some (.int .i64 n41) ∧ ∃ s42, w27.cell? ⟨b4_1, 4, none⟩ = some (.string s42) ∧ ∃ p43 n44 c45, w27.cell? ⟨b4_1, 5, none⟩ = some (.slice p43 n44 c45) ∧ Calls Tryd.prog 39
 #[.agg #[.int .i64 n30, .string s31, .int .i64 n32, .int .i64 n33, .string s34, .slice p35 n36 c37], .agg #[.int .i64 n38, .string s39, .int .i64 n40, .int .i64 n41, .string s42, .slice p43 n44 c45]]
 w27 fun e46 w47 ↦ ∃ b48, e46 = .returned (.bool b48) ∧ R (.returned (.bool b48)) w47) ∧ (b17 = false ∨ b28 = false → R (.returned (.bool false)) w27)

set_option maxRecDepth 100000 in
theorem rSame_eq (a0 : Int) (a1 : ByteArray) (a2 : Int) (a3 : Int) (a4 : ByteArray) (a5_p : Option Addr) (a5_n : Nat) (a5_c : Nat) (b0 : Int) (b1 : ByteArray) (b2 : Int) (b3 : Int) (b4 : ByteArray) (b5_p : Option Addr) (b5_n : Nat) (b5_c : Nat) (w : World) (R : Ending → World → Prop) : rSame_T a0 a1 a2 a3 a4 a5_p a5_n a5_c b0 b1 b2 b3 b4 b5_p b5_n b5_c w R = vcFn Tryd.prog [] [] Tryd.f20 [Value.agg
 #[.int .i64 a0, .string a1, .int .i64 a2, .int .i64 a3, .string a4, .slice a5_p a5_n a5_c], Value.agg
 #[.int .i64 b0, .string b1, .int .i64 b2, .int .i64 b3, .string b4, .slice b5_p b5_n b5_c]] w R := by kernel_rfl

set_option maxRecDepth 100000 in
theorem rSame_vc (a0 : Int) (a1 : ByteArray) (a2 : Int) (a3 : Int) (a4 : ByteArray) (a5_p : Option Addr) (a5_n : Nat) (a5_c : Nat) (b0 : Int) (b1 : ByteArray) (b2 : Int) (b3 : Int) (b4 : ByteArray) (b5_p : Option Addr) (b5_n : Nat) (b5_c : Nat) (w : World) (R : Ending → World → Prop) (hvc : rSame_T a0 a1 a2 a3 a4 a5_p a5_n a5_c b0 b1 b2 b3 b4 b5_p b5_n b5_c w R) : Calls Tryd.prog 20 #[Value.agg
 #[.int .i64 a0, .string a1, .int .i64 a2, .int .i64 a3, .string a4, .slice a5_p a5_n a5_c], Value.agg
 #[.int .i64 b0, .string b1, .int .i64 b2, .int .i64 b3, .string b4, .slice b5_p b5_n b5_c]] w R :=
  calls_of_vc (args := [Value.agg
 #[.int .i64 a0, .string a1, .int .i64 a2, .int .i64 a3, .string a4, .slice a5_p a5_n a5_c], Value.agg
 #[.int .i64 b0, .string b1, .int .i64 b2, .int .i64 b3, .string b4, .slice b5_p b5_n b5_c]]) [] [] Tryd.mixed Tryd.func20 (cast (rSame_eq _ _ _ _ _ _ _ _ _ _ _ _ _ _ _ _ w R) hvc)

set_option maxRecDepth 100000 in
def sametexts_T (a_p : Option Addr) (a_n : Nat) (a_c : Nat) (b_p : Option Addr) (b_n : Nat) (b_c : Nat) (w : World) (R : Ending → World → Prop) : Prop :=
  ((↑a_n : Int) ≠ (↑b_n : Int) → R (.returned (.bool false)) w) ∧ ((↑a_n : Int) = (↑b_n : Int) → ∃ (I3 : Int → World → Prop), ∃ (M4 : Int → World → Nat), I3 0 w ∧ ∀ (n5 : Int) (w'6 : World), I3 n5 w'6 → (n5 < (↑a_n : Int) → ∀ w'9, Drew w'6 w'9 → ∃ b11, ∃ o12, a_p = some ⟨b11, o12, none⟩ ∧ 0 ≤ n5 ∧ n5 < (↑a_n : Int) ∧ ∃ s13, w'9.cell? ⟨b11, (o12 + n5.toNat), none⟩ = some (.string s13) ∧ ∃ b14, ∃ o15, b_p = some ⟨b14, o15, none⟩ ∧ 0 ≤ n5 ∧ n5 < (↑b_n : Int) ∧ ∃ s16, w'9.cell? ⟨b14, (o15 + n5.toNat), none⟩ = some (.string s16) ∧ (s13 ≠ s16 → R (.returned (.bool false)) w'9) ∧ (s13 = s16 → I3 (IntKind.i64.wrap (n5 + 1)) w'9 ∧ M4 (IntKind.i64.wrap (n5 + 1)) w'9 < M4 n5 w'6)) ∧ ((↑a_n : Int) ≤ n5 → R (.returned (.bool true)) w'6))

set_option maxRecDepth 100000 in
theorem sametexts_eq (a_p : Option Addr) (a_n : Nat) (a_c : Nat) (b_p : Option Addr) (b_n : Nat) (b_c : Nat) (w : World) (R : Ending → World → Prop) : sametexts_T a_p a_n a_c b_p b_n b_c w R = vcFn Tryd.prog [] [(6, [2, 4, 6, 8, 10, 12, 14, 16, 18, 0])] Tryd.f17 [.slice a_p a_n a_c, .slice b_p b_n b_c] w R := by kernel_rfl

set_option maxRecDepth 100000 in
theorem sametexts_vc (a_p : Option Addr) (a_n : Nat) (a_c : Nat) (b_p : Option Addr) (b_n : Nat) (b_c : Nat) (w : World) (R : Ending → World → Prop) (hvc : sametexts_T a_p a_n a_c b_p b_n b_c w R) : Calls Tryd.prog 17 #[.slice a_p a_n a_c, .slice b_p b_n b_c] w R :=
  calls_of_vc (args := [.slice a_p a_n a_c, .slice b_p b_n b_c]) [] [(6, [2, 4, 6, 8, 10, 12, 14, 16, 18, 0])] Tryd.mixed Tryd.func17 (cast (sametexts_eq _ _ _ _ _ _ w R) hvc)

set_option maxRecDepth 100000 in
def lawUses_T (a0 : Int) (a1 : ByteArray) (a2 : Int) (a3 : Int) (a4 : ByteArray) (a5_p : Option Addr) (a5_n : Nat) (a5_c : Nat) (b0 : Int) (b1 : ByteArray) (b2 : Int) (b3 : Int) (b4 : ByteArray) (b5_p : Option Addr) (b5_n : Nat) (b5_c : Nat) (w : World) (R : Ending → World → Prop) : Prop :=
  ∀ b1_1 w'2, New w (Obj.cells #[.int .i64 a0, .string a1, .int .i64 a2, .int .i64 a3, .string a4, .slice a5_p a5_n a5_c] 29) b1_1
 w'2 → ∀ b4_1 w'5, New w'2 (Obj.cells #[.int .i64 b0, .string b1, .int .i64 b2, .int .i64 b3, .string b4, .slice b5_p b5_n b5_c] 29) b4_1
 w'5 → Calls Tryd.prog 11 #[] w'5 fun e7 w8 ↦
 ∃ b9, e7 = .returned (.bool b9) ∧ ∀ w'10, Drew w8 w'10 → (b9 = true → ∃ n13, w'10.cell? ⟨b1_1, 0, none⟩ = some (.int .i64 n13) ∧ ∃ s14, w'10.cell? ⟨b1_1, 1, none⟩ = some (.string s14) ∧ ∃ n15, w'10.cell? ⟨b1_1, 2, none⟩ = some (.int .i64 n15) ∧ ∃ n16, w'10.cell? ⟨b1_1, 3, none⟩ = some (.int .i64 n16) ∧ ∃ s17, w'10.cell? ⟨b1_1, 4, none⟩ = some (.string s17) ∧ ∃ p18 n19 c20, w'10.cell? ⟨b1_1, 5, none⟩ = some (.slice p18 n19 c20) ∧ ∃ n21, w'10.cell? ⟨b1_1, 0, none⟩ = some (.int .i64 n21) ∧ ∃ s22, w'10.cell? ⟨b1_1, 1, none⟩ = some (.string s22) ∧ ∃ n23, w'10.cell? ⟨b1_1, 2, none⟩ = some (.int .i64 n23) ∧ ∃ n24, w'10.cell? ⟨b1_1, 3, none⟩ = some (.int .i64 n24) ∧ ∃ s25, w'10.cell? ⟨b1_1, 4, none⟩ = some (.string s25) ∧ ∃ p26 n27 c28, w'10.cell? ⟨b1_1, 5, none⟩ = some (.slice p26 n27 c28) ∧ Calls Tryd.prog 14
 #[.agg #[.int .i64 n13, .string s14, .int .i64 n15, .int .i64 n16, .string s17, .slice p18 n19 c20]] w'10
 fun e29 w30 ↦
 ∃ p31 n32 c33, e29 = .returned (.slice p31 n32 c33) ∧ SameTo none w'10 w'10 w30 ∧ Calls Tryd.prog 18
 #[.agg #[.int .i64 n21, .string s22, .int .i64 n23, .int .i64 n24, .string s25, .slice p26 n27 c28]] w30
 fun e34 w35 ↦
 ∃ p36 n37 c38, e34 = .returned (.slice p36 n37 c38) ∧ Calls Tryd.prog 17 #[.slice p31 n32 c33, .slice p36 n37 c38] w35 fun e39 w40 ↦
 ∃ b41, e39 = .returned (.bool b41) ∧ (b41 = true → ∃ n43, w40.cell? ⟨b1_1, 0, none⟩ = some (.int .i64 n43) ∧ ∃ s44, w40.cell? ⟨b1_1, 1, none⟩ = some (.string s44) ∧ ∃ n45, w40.cell? ⟨b1_1, 2, none⟩ = some (.int .i64 n45) ∧ ∃ n46, w40.cell? ⟨b1_1, 3, none⟩ = some (.int .i64 n46) ∧ ∃ s47, w40.cell? ⟨b1_1, 4, none⟩ = some (.string s47) ∧ ∃ p48 n49 c50, w40.cell? ⟨b1_1, 5, none⟩ = some (.slice p48 n49 c50) ∧ ∃ n51, w40.cell? ⟨b4_1, 0, none⟩ = some (.int .i64 n51) ∧ ∃ s52, w40.cell? ⟨b4_1, 1, none⟩ = some (.string s52) ∧ ∃ n53, w40.cell? ⟨b4_1, 2, none⟩ = some (.int .i64 n53) ∧ ∃ n54, w40.cell? ⟨b4_1, 3, none⟩ = some (.int .i64 n54) ∧ ∃ s55, w40.cell? ⟨b4_1, 4, none⟩ = some (.string s55) ∧ ∃ p56 n57 c58, w40.cell? ⟨b4_1, 5, none⟩ = some (.slice p56 n57 c58) ∧ ∃ n59, w40.cell? ⟨b1_1, 0, none⟩ = some (.int .i64 n59) ∧ ∃ s60, w40.cell? ⟨b1_1, 1, none⟩ = some (.string s60) ∧ ∃ n61, w40.cell? ⟨b1_1, 2, none⟩ = some (.int .i64 n61) ∧ ∃ n62, w40.cell? ⟨b1_1, 3, none⟩ = some (.int .i64 n62) ∧ ∃ s63, w40.cell? ⟨b1_1, 4, none⟩ = some (.string s63) ∧ ∃ p64 n65 c66, w40.cell? ⟨b1_1, 5, none⟩ = some (.slice p64 n65 c66) ∧ ∃ n67, w40.cell? ⟨b4_1, 0, none⟩ = some (.int .i64 n67) ∧ ∃ s68, w40.cell? ⟨b4_1, 1, none⟩ = some (.string s68) ∧ ∃ n69, w40.cell? ⟨b4_1, 2, none⟩ = some (.int .i64 n69) ∧ ∃ n70, w40.cell? ⟨b4_1, 3, none⟩ = some (.int .i64 n70) ∧ ∃ s71, w40.cell? ⟨b4_1, 4, none⟩ = some (.string s71) ∧ ∃ p72 n73 c74, w40.cell? ⟨b4_1, 5, none⟩ = some (.slice p72 n73 c74) ∧ Calls Tryd.prog 19
 #[.agg #[.int .i64 n43, .string s44, .int .i64 n45, .int .i64 n46, .string s47, .slice p48 n49 c50], .agg #[.int .i64 n51, .string s52, .int .i64 n53, .int .i64 n54, .string s55, .slice p56 n57 c58]]
 w40 fun e75 w76 ↦
 ∃ b77, e75 = .returned (.bool b77) ∧ SameTo none w40 w40 w76 ∧ Calls Tryd.prog 20
 #[.agg #[.int .i64 n59, .string s60, .int .i64 n61, .int .i64 n62, .string s63, .slice p64 n65 c66], .agg #[.int .i64 n67, .string s68, .int .i64 n69, .int .i64 n70, .string s71, .slice p72 n73 c74]]
 w76 fun e78 w79 ↦ ∃ b80, e78 = .returned (.bool b80) ∧ R (.returned (.bool (b77 == b80))) w79) ∧ (b41 = false → SameTo none w40 w40 w40 ∧ R (.returned (.bool false)) w40)) ∧ (b9 = false → SameTo none w'10 w'10 w'10 ∧ SameTo none w'10 w'10 w'10 ∧ R (.returned (.bool false)) w'10)

set_option maxRecDepth 100000 in
theorem lawUses_eq (a0 : Int) (a1 : ByteArray) (a2 : Int) (a3 : Int) (a4 : ByteArray) (a5_p : Option Addr) (a5_n : Nat) (a5_c : Nat) (b0 : Int) (b1 : ByteArray) (b2 : Int) (b3 : Int) (b4 : ByteArray) (b5_p : Option Addr) (b5_n : Nat) (b5_c : Nat) (w : World) (R : Ending → World → Prop) : lawUses_T a0 a1 a2 a3 a4 a5_p a5_n a5_c b0 b1 b2 b3 b4 b5_p b5_n b5_c w R = vcFn Tryd.prog [] [(2, [2, 4, 6, 10, 9, 12, 14, 16, 18, 20, 22, 26, 28, 25, 30, 32, 34, 36, 0])] Tryd.f4 [Value.agg
 #[.int .i64 a0, .string a1, .int .i64 a2, .int .i64 a3, .string a4, .slice a5_p a5_n a5_c], Value.agg
 #[.int .i64 b0, .string b1, .int .i64 b2, .int .i64 b3, .string b4, .slice b5_p b5_n b5_c]] w R := by kernel_rfl

set_option maxRecDepth 100000 in
theorem lawUses_vc (a0 : Int) (a1 : ByteArray) (a2 : Int) (a3 : Int) (a4 : ByteArray) (a5_p : Option Addr) (a5_n : Nat) (a5_c : Nat) (b0 : Int) (b1 : ByteArray) (b2 : Int) (b3 : Int) (b4 : ByteArray) (b5_p : Option Addr) (b5_n : Nat) (b5_c : Nat) (w : World) (R : Ending → World → Prop) (hvc : lawUses_T a0 a1 a2 a3 a4 a5_p a5_n a5_c b0 b1 b2 b3 b4 b5_p b5_n b5_c w R) : Calls Tryd.prog 4 #[Value.agg
 #[.int .i64 a0, .string a1, .int .i64 a2, .int .i64 a3, .string a4, .slice a5_p a5_n a5_c], Value.agg
 #[.int .i64 b0, .string b1, .int .i64 b2, .int .i64 b3, .string b4, .slice b5_p b5_n b5_c]] w R :=
  calls_of_vc (args := [Value.agg
 #[.int .i64 a0, .string a1, .int .i64 a2, .int .i64 a3, .string a4, .slice a5_p a5_n a5_c], Value.agg
 #[.int .i64 b0, .string b1, .int .i64 b2, .int .i64 b3, .string b4, .slice b5_p b5_n b5_c]]) [] [(2, [2, 4, 6, 10, 9, 12, 14, 16, 18, 20, 22, 26, 28, 25, 30, 32, 34, 36, 0])] Tryd.mixed Tryd.func4 (cast (lawUses_eq _ _ _ _ _ _ _ _ _ _ _ _ _ _ _ _ w R) hvc)

end Go.Proofs.YtdephmdfdgclpaaDoor

/- Stable sorts, as plain laws of lists: a list that is in order, and in which those that stand alike come as they came, is one alone. -/
namespace Go.Vc

/-- A comparator: turned round its sign turns; it is transitive. -/
structure Cmp {α : Type} (c : α → α → Int) : Prop where
  anti : ∀ x y, c y x = - c x y
  trans : ∀ x y z, c x y ≤ 0 → c y z ≤ 0 → c x z ≤ 0

section
variable {α : Type} {c : α → α → Int}

theorem Cmp.self (h : Cmp c) (x : α) : c x x = 0 := by have := h.anti x x; omega
theorem Cmp.eq_trans (h : Cmp c) {x y z : α} (a : c x y = 0) (b : c y z = 0) : c x z = 0 := by
  have h1 := h.trans x y z (by omega) (by omega)
  have h2 := h.anti x y
  have h3 := h.anti y z
  have h4 := h.trans z y x (by omega) (by omega)
  have h5 := h.anti x z
  omega
theorem Cmp.eq_symm (h : Cmp c) {x y : α} (a : c x y = 0) : c y x = 0 := by have := h.anti x y; omega

def Ord (c : α → α → Int) (l : List α) : Prop := l.Pairwise fun x y => c x y ≤ 0
/-- Those of a list that stand as z does. -/
def cls (c : α → α → Int) (z : α) (l : List α) : List α := l.filter fun x => decide (c z x = 0)
def SameF (c : α → α → Int) (xs ys : List α) : Prop := ∀ z, cls c z xs = cls c z ys
/-- ys is xs in order, and stable. -/
structure Stab (c : α → α → Int) (xs ys : List α) : Prop where
  ord : Ord c ys
  same : SameF c xs ys

theorem cls_append (z : α) (a b : List α) : cls c z (a ++ b) = cls c z a ++ cls c z b := by simp [cls]
theorem SameF.rfl {a : List α} : SameF c a a := fun _ => Eq.refl _
theorem SameF.symm {a b : List α} (h : SameF c a b) : SameF c b a := fun z => (h z).symm
theorem SameF.trans {a b d : List α} (h : SameF c a b) (k : SameF c b d) : SameF c a d := fun z => (h z).trans (k z)
theorem SameF.app {a b d e : List α} (h : SameF c a b) (k : SameF c d e) : SameF c (a ++ d) (b ++ e) := fun z => by rw [cls_append, cls_append, h z, k z]
/-- Two blocks, no two of which stand alike, change places. -/
theorem SameF.swap (hc : Cmp c) {u v : List α} (h : ∀ x ∈ u, ∀ y ∈ v, c x y ≠ 0) : SameF c (u ++ v) (v ++ u) := by
  intro z
  rw [cls_append, cls_append]
  by_cases hu : cls c z u = []
  · rw [hu]; simp
  · by_cases hv : cls c z v = []
    · rw [hv]; simp
    · exfalso
      obtain ⟨x, hx⟩ := List.exists_mem_of_ne_nil _ hu
      obtain ⟨y, hy⟩ := List.exists_mem_of_ne_nil _ hv
      simp only [cls, List.mem_filter, decide_eq_true_eq] at hx hy
      exact h x hx.1 y hy.1 (hc.eq_trans (hc.eq_symm hx.2) hy.2)
theorem SameF.mem (hc : Cmp c) {a b : List α} (h : SameF c a b) {x : α} : x ∈ a ↔ x ∈ b := by
  have key : ∀ l : List α, x ∈ l ↔ x ∈ cls c x l := fun l => by simp [cls, hc.self]
  rw [key a, key b, h x]
theorem cls_split {z x : α} : ∀ {b r : List α}, cls c z b = x :: r → ∃ s t, b = s ++ x :: t ∧ cls c z s = []
  | [], r, h => by simp [cls] at h
  | y :: b, r, h => by
    by_cases hy : c z y = 0
    · have e1 : cls c z (y :: b) = y :: cls c z b := by simp [cls, hy]
      rw [e1] at h
      cases h
      exact ⟨[], b, rfl, rfl⟩
    · have e1 : ∀ l : List α, cls c z (y :: l) = cls c z l := fun l => by simp [cls, hy]
      rw [e1] at h
      obtain ⟨s, t, rfl, hs⟩ := cls_split h
      exact ⟨y :: s, t, rfl, by rw [e1, hs]⟩
theorem SameF.length (hc : Cmp c) : ∀ {a b : List α}, SameF c a b → a.length = b.length
  | [], b, h => by
    cases b with
    | nil => rfl
    | cons y b => have := (SameF.mem hc h (x := y)).2 (by simp); cases this
  | x :: a, b, h => by
    have hx := h x
    have e1 : cls c x (x :: a) = x :: cls c x a := by simp [cls, hc.self]
    rw [e1] at hx
    obtain ⟨s, t, rfl, hs⟩ := cls_split hx.symm
    have h2 : SameF c (s ++ x :: t) (x :: (s ++ t)) := by
      have : SameF c (s ++ [x] ++ t) ([x] ++ s ++ t) := by
        refine SameF.app (SameF.swap hc fun p hp q hq e => ?_) .rfl
        simp at hq; subst hq
        have : p ∈ cls c q s := by simp [cls, hp, hc.eq_symm e]
        rw [hs] at this; cases this
      simpa using this
    have h3 := h.trans h2
    have h4 : SameF c a (s ++ t) := by
      intro z
      have hz := h3 z
      by_cases hzx : c z x = 0
      · have e1 : ∀ l : List α, cls c z (x :: l) = x :: cls c z l := fun l => by simp [cls, hzx]
        rw [e1, e1] at hz
        exact (List.cons.inj hz).2
      · have e1 : ∀ l : List α, cls c z (x :: l) = cls c z l := fun l => by simp [cls, hzx]
        rwa [e1, e1] at hz
    have := SameF.length hc h4
    simp only [List.length_append, List.length_cons] at this ⊢
    omega

/-- There is one such list alone. -/
theorem Ord.unique (hc : Cmp c) : ∀ {a b : List α}, Ord c a → Ord c b → SameF c a b → a = b
  | [], b, _, _, h => by
    cases b with
    | nil => rfl
    | cons y b => have := (SameF.mem hc h (x := y)).2 (by simp); cases this
  | x :: a, [], _, _, h => by have := (SameF.mem hc h (x := x)).1 (by simp); cases this
  | x :: a, y :: b, ha, hb, h => by
    have hxb : x ∈ y :: b := (SameF.mem hc h).1 (by simp)
    have hya : y ∈ x :: a := (SameF.mem hc h).2 (by simp)
    have h1 : c y x ≤ 0 := by
      rcases List.mem_cons.1 hxb with rfl | hm
      · rw [hc.self]; exact Int.le_refl 0
      · exact (List.pairwise_cons.1 hb).1 x hm
    have h2 : c x y ≤ 0 := by
      rcases List.mem_cons.1 hya with rfl | hm
      · rw [hc.self]; exact Int.le_refl 0
      · exact (List.pairwise_cons.1 ha).1 y hm
    have h3 := hc.anti x y
    have h0 : c x y = 0 := by omega
    have hx := h x
    have e1 : cls c x (x :: a) = x :: cls c x a := by simp [cls, hc.self]
    have e2 : cls c x (y :: b) = y :: cls c x b := by simp [cls, h0]
    rw [e1, e2] at hx
    have hxy : x = y := (List.cons.inj hx).1
    subst hxy
    congr 1
    refine Ord.unique hc (List.pairwise_cons.1 ha).2 (List.pairwise_cons.1 hb).2 fun z => ?_
    have hz := h z
    by_cases hzx : c z x = 0
    · have e1 : ∀ l : List α, cls c z (x :: l) = x :: cls c z l := fun l => by simp [cls, hzx]
      rw [e1, e1] at hz
      exact (List.cons.inj hz).2
    · have e1 : ∀ l : List α, cls c z (x :: l) = cls c z l := fun l => by simp [cls, hzx]
      rwa [e1, e1] at hz
theorem Stab.unique (hc : Cmp c) {xs ys zs : List α} (h : Stab c xs ys) (k : Stab c xs zs) : ys = zs := Ord.unique hc h.ord k.ord (h.same.symm.trans k.same)
theorem Stab.mem (hc : Cmp c) {xs ys : List α} (h : Stab c xs ys) {x : α} : x ∈ ys ↔ x ∈ xs := (SameF.mem hc h.same).symm
theorem Stab.length (hc : Cmp c) {xs ys : List α} (h : Stab c xs ys) : ys.length = xs.length := (SameF.length hc h.same).symm
/-! ### Insertion -/
/-- In order already. -/
theorem Ord.app {a b : List α} (ha : Ord c a) (hb : Ord c b) (h : ∀ x ∈ a, ∀ y ∈ b, c x y ≤ 0) : Ord c (a ++ b) := List.pairwise_append.2 ⟨ha, hb, h⟩
theorem Ord.left {a b : List α} (h : Ord c (a ++ b)) : Ord c a := (List.pairwise_append.1 h).1
theorem Ord.right {a b : List α} (h : Ord c (a ++ b)) : Ord c b := (List.pairwise_append.1 h).2.1
theorem Ord.get (hc : Cmp c) {l : List α} (h : Ord c l) {i j : Nat} (hij : i ≤ j) {x y : α} (hx : l[i]? = some x) (hy : l[j]? = some y) : c x y ≤ 0 := by
  rcases Nat.lt_or_eq_of_le hij with hlt | rfl
  · obtain ⟨hi, rfl⟩ := List.getElem?_eq_some_iff.1 hx
    obtain ⟨hj, rfl⟩ := List.getElem?_eq_some_iff.1 hy
    exact List.pairwise_iff_getElem.1 h i j hi hj hlt
  · rw [hx] at hy; cases hy; rw [hc.self]; exact Int.le_refl 0
end
end Go.Vc

/- What lies in memory, in the words of the contracts: values in a row, blocks and rows of one's own, what each step leaves as it was. -/
namespace Go.Vc
open Go Go.RowKit

/-! ### Steps -/
/-- All that was there is as it was. -/
def Ext (w w' : World) : Prop := Below w.heap.size w w'

theorem Ext.below {w w' : World} (h : Ext w w') : Below w.heap.size w w' := h
theorem Ext.size {w w' : World} (h : Ext w w') : w.heap.size ≤ w'.heap.size := h.below.size
theorem Ext.block {w w' : World} (h : Ext w w') (k : Nat) (hk : k < w.heap.size) : w'.heap[k]? = w.heap[k]? := h.below.block k hk
theorem Ext.rfl {w : World} : Ext w w := Below.refl _ _
theorem Ext.trans {a b c : World} (h : Ext a b) (k : Ext b c) : Ext a c := h.below.trans (k.below.mono h.size)
theorem Ext.same {bs : Option (List Nat)} {wr w w' : World} (h : Ext w w') : SameTo bs wr w w' := fun k _ hk => h.block k hk
theorem _root_.Go.RowKit.Below.ext {B : Nat} {a w w' : World} (h : Below B a w) (k : Ext w w') (hB : B ≤ w.heap.size) : Below B a w' := h.trans (k.below.mono hB)
theorem _root_.Go.RowKit.Below.cast {B B' : Nat} {a w : World} (h : Below B a w) (e : B = B') : Below B' a w := e ▸ h

/-- All is as it was but for block b. -/
structure But (b : Nat) (w w' : World) : Prop where
  os : w'.os = w.os
  tape : w'.tape = w.tape
  output : w'.output = w.output
  size : w.heap.size ≤ w'.heap.size
  block : ∀ k, k < w.heap.size → k ≠ b → w'.heap[k]? = w.heap[k]?

theorem Ext.but {w w' : World} (h : Ext w w') (b : Nat) : But b w w' := ⟨h.below.os, h.below.tape, h.below.output, h.size, fun k hk _ => h.block k hk⟩
theorem But.trans {b : Nat} {x y z : World} (h : But b x y) (k : But b y z) : But b x z :=
  ⟨k.os.trans h.os, k.tape.trans h.tape, k.output.trans h.output, Nat.le_trans h.size k.size, fun i hi hne => (k.block i (Nat.lt_of_lt_of_le hi h.size) hne).trans (h.block i hi hne)⟩
theorem _root_.Go.RowKit.Below.but {B b : Nat} {a w w' : World} (h : Below B a w) (k : But b w w') (hb : B ≤ b) (hB : B ≤ w.heap.size) : Below B a w' :=
  h.trans ⟨k.os, k.tape, k.output, k.size, fun i hi => k.block i (by omega) (by omega)⟩

theorem New.ext {w w' : World} {o : Obj} {b : Nat} (h : New w o b w') : Ext w w' := by rw [h.2]; exact (Below.refl _ w).alloc (Nat.le_refl _) o
theorem New.size {w w' : World} {o : Obj} {b : Nat} (h : New w o b w') : b = w.heap.size ∧ w'.heap.size = w.heap.size + 1 := ⟨h.1, by rw [h.2]; simp⟩
theorem New.obj {w w' : World} {o : Obj} {b : Nat} (h : New w o b w') : w'.heap[b]? = some o := by rw [h.2, h.1]; exact World.alloc_heap_new w o
theorem Drew.ext {w w' : World} (h : Drew w w') : Ext w w' := by rw [h]; exact (Below.refl _ w).drew
theorem Drew.size {w w' : World} (h : Drew w w') : w'.heap.size = w.heap.size := by rw [h]; rfl
theorem setL_but : ∀ (vs : List Value) (b o j : Nat) (w : World), But b w (setL vs b o j w) ∧ (setL vs b o j w).heap.size = w.heap.size
  | [], _, _, _, w => ⟨⟨rfl, rfl, rfl, Nat.le_refl _, fun _ _ _ => rfl⟩, rfl⟩
  | v :: vs, b, o, j, w => by
    obtain ⟨h, hs⟩ := setL_but vs b o (j + 1) (w.setCell ⟨b, off o j, none⟩ v)
    have h1 : But b w (w.setCell ⟨b, off o j, none⟩ v) := ⟨rfl, rfl, rfl, by simp [World.setCell], fun k _ hne => Below.heap_setCell w _ v k hne⟩
    exact ⟨h1.trans h, by rw [setL, hs]; simp [World.setCell]⟩
theorem Put.but {w w' : World} {b o : Nat} {vs : List Value} (h : Put w b o vs w') : But b w w' := by rw [h]; exact (setL_but vs b o 0 w).1
theorem Put.size {w w' : World} {b o : Nat} {vs : List Value} (h : Put w b o vs w') : w'.heap.size = w.heap.size := by rw [h]; exact (setL_but vs b o 0 w).2
theorem grown_but {w w' : World} {b o n c : Nat} (h : w.grownBy w' (Value.slice (some ⟨b, o, none⟩) n c).ownBlock) : But b w w' := ⟨h.os, h.tape, h.output, h.size, fun k hk hne => h.block k hk (by intro e; cases e; exact hne rfl)⟩
theorem grown_nil {w w' : World} {n c : Nat} (h : w.grownBy w' (Value.slice none n c).ownBlock) : Ext w w' := ⟨h.os, h.tape, h.output, h.size, fun k hk => h.block k hk (by intro e; cases e)⟩

theorem turn_but {r : Nat → Loop} {l k : Nat} {w : World} : But l w (turn r l k w) ∧ (turn r l k w).heap.size = w.heap.size :=
  ⟨⟨rfl, rfl, rfl, by simp [turn], fun i _ hne => World.putObj_heap_other hne⟩, by simp [turn]⟩
theorem Rec.lt {r : Nat → Loop} {l k : Nat} {w : World} (h : Rec r l k w) : l < w.heap.size := (Array.getElem?_eq_some_iff.1 h).1
theorem Rec.turn {r : Nat → Loop} {l k : Nat} {w : World} (h : Rec r l k w) (k' : Nat) : Rec r l k' (turn r l k' w) := World.putObj_heap_same h.lt
theorem Rec.ext {r : Nat → Loop} {l k : Nat} {w w' : World} (h : Rec r l k w) (e : Ext w w') : Rec r l k w' := (e.block l h.lt).trans h
theorem Rec.but {r : Nat → Loop} {l k b : Nat} {w w' : World} (h : Rec r l k w) (e : But b w w') (hne : l ≠ b) : Rec r l k w' := (e.block l h.lt hne).trans h

theorem Began.ext {w w1 : World} {r : Nat → Loop} {d l : Nat} (h : Began w r d l w1) : Ext w w1 := by
  rw [h.2.2]; exact ((Below.refl _ w).alloc (Nat.le_refl _) _).alloc (by simp) _
theorem Began.sizes {w w1 : World} {r : Nat → Loop} {d l : Nat} (h : Began w r d l w1) : d = w.heap.size ∧ l = w.heap.size + 1 ∧ w1.heap.size = w.heap.size + 2 := ⟨h.1, h.2.1, by rw [h.2.2]; simp⟩
/-- The block for deferred calls is open. -/
def Dfr (d : Nat) (w : World) : Prop := w.heap[d]? = some (.deferred (some []))
theorem Began.dfr {w w1 : World} {r : Nat → Loop} {d l : Nat} (h : Began w r d l w1) : Dfr d w1 := by
  unfold Dfr
  rw [h.2.2, h.1]
  rw [Below.heap_alloc _ _ _ (by simp)]
  exact World.alloc_heap_new w _
theorem Dfr.lt {d : Nat} {w : World} (h : Dfr d w) : d < w.heap.size := (Array.getElem?_eq_some_iff.1 h).1
theorem Dfr.ext {d : Nat} {w w' : World} (h : Dfr d w) (e : Ext w w') : Dfr d w' := (e.block d h.lt).trans h
theorem Dfr.but {d b : Nat} {w w' : World} (h : Dfr d w) (e : But b w w') (hne : d ≠ b) : Dfr d w' := (e.block d h.lt hne).trans h
theorem shut_but {d : Nat} {w : World} : But d w (w.putObj d (.deferred none)) ∧ (w.putObj d (.deferred none)).heap.size = w.heap.size :=
  ⟨⟨rfl, rfl, rfl, by simp, fun i _ hne => World.putObj_heap_other hne⟩, by simp⟩

/-! ### Blocks -/
/-- Block b holds the cells cs, and none of them is frozen. -/
def Blk (w : World) (b : Nat) (t : TypeId) (cs : Array Value) : Prop := w.heap[b]? = some (.cells cs t (0, 0))

theorem Blk.new {w w' : World} {b : Nat} {t : TypeId} {cs : Array Value} (h : New w (.cells cs t) b w') : Blk w' b t cs := h.obj
theorem Blk.lt {w : World} {b : Nat} {t : TypeId} {cs : Array Value} (h : Blk w b t cs) : b < w.heap.size := (Array.getElem?_eq_some_iff.1 h).1
theorem Blk.ext {w w' : World} {b : Nat} {t : TypeId} {cs : Array Value} (h : Blk w b t cs) (e : Ext w w') : Blk w' b t cs := (e.block b h.lt).trans h
theorem Blk.but {w w' : World} {b b' : Nat} {t : TypeId} {cs : Array Value} (h : Blk w b t cs) (e : But b' w w') (hne : b ≠ b') : Blk w' b t cs := (e.block b h.lt hne).trans h
theorem Blk.cell {w : World} {b : Nat} {t : TypeId} {cs : Array Value} (h : Blk w b t cs) (i : Nat) : w.cell? ⟨b, i, none⟩ = cs[i]? := by
  unfold World.cell?
  rw [show w.heap[b]? = _ from h]
  simp
/-- The one cell of a box. -/
theorem Blk.one {w : World} {b : Nat} {t : TypeId} {v : Value} (h : Blk w b t #[v]) : w.cell? ⟨b, 0, none⟩ = some v := by rw [h.cell]; rfl
theorem Blk.frozen {w : World} {b : Nat} {t : TypeId} {cs : Array Value} (h : Blk w b t cs) (i : Nat) : w.frozen? ⟨b, i, none⟩ = false := by
  unfold World.frozen?
  rw [show w.heap[b]? = _ from h]
  simp
theorem Blk.set {w : World} {b : Nat} {t : TypeId} {cs : Array Value} (h : Blk w b t cs) (i : Nat) (v : Value) : Blk (w.setCell ⟨b, i, none⟩ v) b t (cs.setIfInBounds i v) := by
  unfold Blk World.setCell
  rw [Array.getElem?_modify, if_pos rfl, show w.heap[b]? = _ from h]
  simp
def setA : Array Value → Nat → List Value → Array Value
  | cs, _, [] => cs
  | cs, i, v :: vs => setA (cs.setIfInBounds i v) (i + 1) vs
theorem off_succ (o j : Nat) : off o (j + 1) = off o j + 1 := by cases j <;> rfl
theorem Blk.setL : ∀ (vs : List Value) {w : World} {b : Nat} {t : TypeId} {cs : Array Value} (o j : Nat), Blk w b t cs → Blk (setL vs b o j w) b t (setA cs (off o j) vs)
  | [], _, _, _, _, _, _, h => h
  | v :: vs, w, b, t, cs, o, j, h => by
    have := Blk.setL vs o (j + 1) (h.set (off o j) v)
    rw [off_succ] at this
    exact this
theorem Blk.put {w w' : World} {b : Nat} {t : TypeId} {cs : Array Value} {o : Nat} {vs : List Value} (h : Blk w b t cs) (p : Put w b o vs w') : Blk w' b t (setA cs o vs) := by
  rw [p]; exact Blk.setL vs o 0 h
theorem Blk.box {w w' : World} {b : Nat} {t : TypeId} {u v : Value} (h : Blk w b t #[u]) (p : Put w b 0 [v] w') : Blk w' b t #[v] := h.put p
theorem Blk.ne_rec {w : World} {b l k : Nat} {t : TypeId} {cs : Array Value} {r : Nat → Loop} (h : Blk w b t cs) (k' : Rec r l k w) : b ≠ l := by
  intro e; subst e; unfold Blk at h; unfold Rec at k'; rw [h] at k'; cases k'
theorem Blk.ne_dfr {w : World} {b d : Nat} {t : TypeId} {cs : Array Value} (h : Blk w b t cs) (k' : Dfr d w) : b ≠ d := by
  intro e; subst e; unfold Blk at h; unfold Dfr at k'; rw [h] at k'; cases k'
theorem Rec.ne_dfr {w : World} {l k d : Nat} {r : Nat → Loop} (h : Rec r l k w) (k' : Dfr d w) : l ≠ d := by
  intro e; subst e; unfold Rec at h; unfold Dfr at k'; rw [h] at k'; cases k'

/-! ### Values in a row -/
/-- The values vs lie at p, one behind the other. -/
def At (w : World) (p : Option Addr) (vs : List Value) : Prop :=
  vs = [] ∨ ∃ b o, p = some ⟨b, o, none⟩ ∧ ∀ i v, vs[i]? = some v → w.cell? ⟨b, o + i, none⟩ = some v

/-- Bytes as values. -/
def vB (l : List UInt8) : List Value := l.map fun x => .int .u8 ((x.toNat : Nat) : Int)
/-- Integers of a kind as values. -/
def vI (k : IntKind) (l : List Int) : List Value := l.map fun x => .int k x

theorem vI_length (k : IntKind) (l : List Int) : (vI k l).length = l.length := by simp [vI]
theorem cell_lt {w : World} {b o : Nat} {v : Value} (h : w.cell? ⟨b, o, none⟩ = some v) : b < w.heap.size := World.block_lt_of_cell? w _ h
theorem cell_of {w w' : World} {b o : Nat} {v : Value} (h : w.cell? ⟨b, o, none⟩ = some v) (hb : w'.heap[b]? = w.heap[b]?) : w'.cell? ⟨b, o, none⟩ = some v := by
  rw [← h]; simp [World.cell?, hb]
theorem cell_ext {w w' : World} {b o : Nat} {v : Value} (h : w.cell? ⟨b, o, none⟩ = some v) (e : Ext w w') : w'.cell? ⟨b, o, none⟩ = some v := cell_of h (e.block b (cell_lt h))

theorem At.nil (w : World) (p : Option Addr) : At w p [] := .inl rfl

theorem At.get {w : World} {p : Option Addr} {vs : List Value} (h : At w p vs) {i : Nat} (hi : i < vs.length) : ∃ b o, p = some ⟨b, o, none⟩ ∧ w.cell? ⟨b, o + i, none⟩ = some vs[i] := by
  rcases h with rfl | ⟨b, o, hp, hc⟩
  · simp at hi
  · exact ⟨b, o, hp, hc i _ (List.getElem?_eq_getElem hi)⟩
theorem At.getI {w : World} {p : Option Addr} {k : IntKind} {l : List Int} (h : At w p (vI k l)) {i : Nat} (hi : i < l.length) : ∃ b o, p = some ⟨b, o, none⟩ ∧ w.cell? ⟨b, o + i, none⟩ = some (.int k l[i]) := by
  obtain ⟨b, o, hp, hc⟩ := h.get (i := i) (by rw [vI_length]; exact hi)
  exact ⟨b, o, hp, by simpa [vI] using hc⟩

/-- A world in which p's block lies as it lay. -/
theorem At.kept {w w' : World} {p : Option Addr} {vs : List Value} (h : At w p vs) (hk : ∀ b o, p = some ⟨b, o, none⟩ → b < w.heap.size → w'.heap[b]? = w.heap[b]?) : At w' p vs := by
  rcases h with rfl | ⟨b, o, rfl, hc⟩
  · exact .inl rfl
  · refine .inr ⟨b, o, rfl, fun i v hv => ?_⟩
    have := hc i v hv
    exact cell_of this (hk b o rfl (cell_lt this))
theorem At.ext {w w' : World} {p : Option Addr} {vs : List Value} (h : At w p vs) (e : Ext w w') : At w' p vs := h.kept fun b _ _ hlt => e.block b hlt
theorem At.but {w w' : World} {b : Nat} {p : Option Addr} {vs : List Value} (h : At w p vs) (e : But b w w') (hne : ∀ b' o, p = some ⟨b', o, none⟩ → b' ≠ b) : At w' p vs := h.kept fun b' o hp hlt => e.block b' hlt (hne b' o hp)
theorem Blk.at {w : World} {b : Nat} {t : TypeId} {cs : Array Value} (h : Blk w b t cs) : At w (some ⟨b, 0, none⟩) cs.toList :=
  .inr ⟨b, 0, rfl, fun i v hv => by rw [h.cell, Nat.zero_add]; simpa using hv⟩
theorem New.at {w w' : World} {b : Nat} {t : TypeId} {cs : Array Value} {f : Nat × Nat} (h : New w (.cells cs t f) b w') : At w' (some ⟨b, 0, none⟩) cs.toList := by
  refine .inr ⟨b, 0, rfl, fun i v hv => ?_⟩
  rw [cell_of_row w' b (0 + i) cs t f h.obj]
  simpa using hv

theorem At.take {w : World} {p : Option Addr} {vs : List Value} (h : At w p vs) (n : Nat) : At w p (vs.take n) := by
  rcases h with rfl | ⟨b, o, rfl, hc⟩
  · exact .inl (by simp)
  · refine .inr ⟨b, o, rfl, fun i v hv => hc i v ?_⟩
    rw [List.getElem?_take] at hv
    split at hv
    · exact hv
    · cases hv

/-- s[l:k], of cells of size s. -/
theorem At.slice {w : World} {p : Option Addr} {vs : List Value} (h : At w p vs) (l k m s : Nat) (hk : k ≤ m) : At w (slBase p l m s) ((vs.take (k * s)).drop (l * s)) := by
  unfold slBase
  split
  · rename_i hm
    subst hm
    refine .inl ?_
    rw [List.drop_eq_nil_iff, List.length_take]
    have := Nat.mul_le_mul_right s hk
    omega
  · rcases h with rfl | ⟨b, o, rfl, hc⟩
    · exact .inl (by simp)
    · refine .inr ⟨b, o + l * s, ?_, fun i v hv => ?_⟩
      · simp only [Option.map, Addr.add_lit]
      · rw [List.getElem?_drop, List.getElem?_take] at hv
        split at hv
        · have := hc _ _ hv; rwa [← Nat.add_assoc] at this
        · cases hv
theorem slBase_none {p : Option Addr} {l m s : Nat} (h : slBase p l m s = none) : p = none := by
  unfold slBase at h
  split at h
  · exact h
  · cases p with
    | none => rfl
    | some y => cases h

theorem At.bytes {w : World} {p : Option Addr} {l : List UInt8} (h : At w p (vB l)) : BytesAt w p l.length l := by
  refine ⟨rfl, fun hpos => ?_⟩
  rcases h with h | ⟨b, o, rfl, hc⟩
  · have := congrArg List.length h; simp [vB] at this; subst this; simp at hpos
  · refine ⟨b, o, rfl, fun i hi => hc i _ ?_⟩
    simp [vB, hi]
theorem At.bytes' {w : World} {p : Option Addr} {l : List UInt8} {n : Nat} (h : At w p (vB l)) (hn : l.length = n) : BytesAt w p n l := hn ▸ h.bytes

/-! ### Rows of one's own -/
/-- The slice (p, n, c) of elements of s cells leads to a row of our own that holds vs, or is nil. -/
def Mine (B : Nat) (t : TypeId) (s : Nat) (w : World) (p : Option Addr) (n c : Nat) (vs : List Value) : Prop := w.ownsRow B t s (.slice p n c) n vs

section
variable {B : Nat} {t : TypeId} {s : Nat} {w w' : World} {p : Option Addr} {n c : Nat} {vs : List Value}
theorem Mine.nil (B : Nat) (t : TypeId) (s : Nat) (w : World) : Mine B t s w none 0 0 [] := World.ownsRow_nil w B t s
theorem Mine.len (h : Mine B t s w p n c vs) : vs.length = n * s := h.1
theorem Mine.at (h : Mine B t s w p n c vs) : At w p vs := by
  rcases h.2 with ⟨e, hn⟩ | ⟨g, cap, cur, e, hb, hg, h1, h2, h3, h4⟩
  · cases e; left; have := h.1; cases vs with | nil => rfl | cons _ _ => simp at this
  · cases e
    refine .inr ⟨g, 0, rfl, fun i v hv => ?_⟩
    rw [cell_of_row w g (0 + i) cur t (0, 0) hg, Nat.zero_add]
    rw [← h4, List.getElem?_take] at hv
    split at hv
    · simpa using hv
    · cases hv
theorem Mine.ge (h : Mine B t s w p n c vs) : ∀ b o, p = some ⟨b, o, none⟩ → B ≤ b ∧ b < w.heap.size := by
  intro b o hp; subst hp; exact World.ownsRow.lt h b rfl
theorem Mine.shape (h : Mine B t s w p n c vs) : (p = none ∧ n = 0 ∧ c = 0 ∧ vs = []) ∨ ∃ b, p = some ⟨b, 0, none⟩ ∧ B ≤ b ∧ b < w.heap.size := by
  rcases h.2 with ⟨e, hn⟩ | ⟨g, cap, cur, e, hb, hg, _⟩
  · cases e; left; have := h.1; exact ⟨rfl, rfl, rfl, by cases vs with | nil => rfl | cons _ _ => simp at this⟩
  · cases e; exact .inr ⟨g, rfl, hb, (Array.getElem?_eq_some_iff.1 hg).1⟩
theorem Mine.kept (h : Mine B t s w p n c vs) (hk : ∀ b o, p = some ⟨b, o, none⟩ → b < w.heap.size → w'.heap[b]? = w.heap[b]?) : Mine B t s w' p n c vs := by
  refine ⟨h.1, ?_⟩
  rcases h.2 with hn | ⟨g, cap, cur, e, hb, hg, rest⟩
  · exact .inl hn
  · cases e
    exact .inr ⟨g, c, cur, rfl, hb, (hk g 0 rfl (Array.getElem?_eq_some_iff.1 hg).1).trans hg, rest⟩
theorem Mine.ext (h : Mine B t s w p n c vs) (e : Ext w w') : Mine B t s w' p n c vs := h.kept fun b _ _ hlt => e.block b hlt
theorem Mine.but {b : Nat} (h : Mine B t s w p n c vs) (e : But b w w') (hne : ∀ b' o, p = some ⟨b', o, none⟩ → b' ≠ b) : Mine B t s w' p n c vs := h.kept fun b' o hp hlt => e.block b' hlt (hne b' o hp)
theorem Mine.mono {B' : Nat} (h : Mine B t s w p n c vs) (hB : B' ≤ B) : Mine B' t s w p n c vs := by
  refine ⟨h.1, ?_⟩
  rcases h.2 with hn | ⟨g, cap, cur, e, hb, rest⟩
  · exact .inl hn
  · exact .inr ⟨g, cap, cur, e, by omega, rest⟩
theorem Mine.cap (h : Mine B t s w p n c vs) : n ≤ c ∧ c ≤ maxLen := by
  rcases h.2 with ⟨e, hn⟩ | ⟨g, cap, cur, e, hb, _, h1, h2, _⟩
  · cases e; simp [hn]
  · cases e; exact ⟨h1, h2⟩
theorem Mine.isNil (h : Mine B t s w p n c vs) (hp : p = none) : n = 0 ∧ c = 0 := by
  rcases h.2 with ⟨e, hn⟩ | ⟨g, cap, cur, e, _⟩
  · exact ⟨(Value.slice.inj e).2.1, (Value.slice.inj e).2.2⟩
  · subst hp; have := (Value.slice.inj e).1; cases this
/-- A row just made, of which nothing is in use. -/
theorem Mine.made {b : Nat} {cur : Array Value} {cap : Nat} (h : New w (.cells cur t) b w') (hB : B ≤ w.heap.size) (hm : cap ≤ maxLen) (hs : cur.size = cap * s) : Mine B t s w' (some ⟨b, 0, none⟩) 0 cap [] := by
  obtain ⟨rfl, rfl⟩ := h
  exact World.ownsRow_made w cur cap hB hm hs
/-- A row just laid, all of it in use. -/
theorem Mine.lit {b : Nat} {cur : Array Value} {cap : Nat} (h : New w (.cells cur t) b w') (hB : B ≤ w.heap.size) (hm : cap ≤ maxLen) (hs : cur.size = cap * s) : Mine B t s w' (some ⟨b, 0, none⟩) cap cap cur.toList := by
  obtain ⟨rfl, rfl⟩ := h
  exact World.ownsRow_lit w cur cap hB hm hs
theorem Mine.ne_rec {b o l k : Nat} {r : Nat → Loop} (h : Mine B t s w p n c vs) (hp : p = some ⟨b, o, none⟩) (k' : Rec r l k w) : b ≠ l := by
  rcases h.2 with ⟨e, hn⟩ | ⟨g, cap, cur, e, hb, hg, _⟩
  · subst hp; cases e
  · subst hp; cases e; intro e; subst e; unfold Rec at k'; rw [hg] at k'; cases k'
theorem Mine.ne_dfr {b o d : Nat} (h : Mine B t s w p n c vs) (hp : p = some ⟨b, o, none⟩) (k' : Dfr d w) : b ≠ d := by
  rcases h.2 with ⟨e, hn⟩ | ⟨g, cap, cur, e, hb, hg, _⟩
  · subst hp; cases e
  · subst hp; cases e; intro e; subst e; unfold Dfr at k'; rw [hg] at k'; cases k'
/-- The row's block by itself. -/
theorem Mine.blk (h : Mine B t s w p n c vs) (hn : 0 < n ∨ p ≠ none) : ∃ b cur, p = some ⟨b, 0, none⟩ ∧ B ≤ b ∧ Blk w b t cur ∧ cur.size = c * s ∧ cur.toList.take (n * s) = vs := by
  rcases h.2 with ⟨e, hn'⟩ | ⟨g, cap, cur, e, hb, hg, h1, h2, h3, h4⟩
  · cases e; rcases hn with hn | hn
    · omega
    · exact absurd rfl hn
  · cases e; exact ⟨g, cur, rfl, hb, hg, h3, h4⟩
/-- What was written into a row of one's own. -/
theorem setA_spec : ∀ (vs : List Value) (cs : Array Value) (o : Nat), (setA cs o vs).size = cs.size ∧ ∀ i, (setA cs o vs)[i]? = if o ≤ i ∧ i < o + vs.length ∧ i < cs.size then vs[i - o]? else cs[i]?
  | [], cs, o => ⟨rfl, fun i => by rw [if_neg (by simp; omega)]; rfl⟩
  | v :: vs, cs, o => by
    obtain ⟨h1, h2⟩ := setA_spec vs (cs.setIfInBounds o v) (o + 1)
    refine ⟨by simp only [setA, h1]; simp, fun i => ?_⟩
    simp only [setA, h2, Array.size_setIfInBounds, List.length_cons, Array.getElem?_setIfInBounds]
    by_cases ho : o = i
    · subst ho
      rw [if_neg (by omega)]
      by_cases hs : o < cs.size
      · rw [if_pos rfl, if_pos hs, if_pos (by omega)]; simp
      · rw [if_pos rfl, if_neg hs, if_neg (by omega)]; rw [Array.getElem?_eq_none (by omega)]
    · by_cases hc : o + 1 ≤ i ∧ i < o + 1 + vs.length ∧ i < cs.size
      · rw [if_pos hc, if_pos (by omega), show i - o = (i - (o + 1)) + 1 by omega]; simp
      · rw [if_neg hc, if_neg ho, if_neg (by omega)]
/-- A store into a row of one's own: element i becomes us. -/
theorem Mine.put {i : Nat} {us : List Value} (h : Mine B t s w p n c vs) (hi : i < n) (hu : us.length = s) :
    ∃ b, p = some ⟨b, 0, none⟩ ∧ B ≤ b ∧ b < w.heap.size ∧ (∀ j, j < s → (∃ u, w.cell? ⟨b, i * s + j, none⟩ = some u) ∧ w.frozen? ⟨b, i * s + j, none⟩ = false) ∧
      ∀ w', Put w b (i * s) us w' → Mine B t s w' p n c (vs.take (i * s) ++ us ++ vs.drop (i * s + s)) := by
  obtain ⟨b, cur, hp, hB, hblk, hsz, htk⟩ := h.blk (.inl (by omega))
  have hcap := h.cap
  have hlen := h.len
  have h1 : i * s + s ≤ n * s := by rw [← Nat.succ_mul]; exact Nat.mul_le_mul_right s hi
  have h2 : n * s ≤ c * s := Nat.mul_le_mul_right s hcap.1
  refine ⟨b, hp, hB, hblk.lt, fun j hj => ⟨?_, hblk.frozen _⟩, fun w' hput => ?_⟩
  · rw [hblk.cell]; exact ⟨cur[i * s + j]'(by omega), by simp⟩
  · have hb' := hblk.put hput
    obtain ⟨s1, s2⟩ := setA_spec us cur (i * s)
    refine ⟨by simp only [List.length_append, List.length_take, List.length_drop, hu]; omega, .inr ⟨b, c, _, by rw [hp], hB, hb', hcap.1, hcap.2, by rw [s1, hsz], ?_⟩⟩
    apply List.ext_getElem?
    intro k
    rw [List.getElem?_take]
    have hk2 : (setA cur (i * s) us).toList[k]? = (setA cur (i * s) us)[k]? := by simp
    rw [hk2, s2]
    have hvs : ∀ k, k < n * s → vs[k]? = cur[k]? := fun k hk => by rw [← htk, List.getElem?_take, if_pos hk]; simp
    by_cases hk : k < n * s
    · rw [if_pos hk]
      by_cases hc : i * s ≤ k ∧ k < i * s + us.length ∧ k < cur.size
      · rw [if_pos hc, List.append_assoc, List.getElem?_append_right (by simp; omega), List.getElem?_append_left (by simp; omega)]
        congr 1; simp; omega
      · rw [if_neg hc, ← hvs k hk]
        rcases Nat.lt_or_ge k (i * s) with hlt | hge
        · rw [List.append_assoc, List.getElem?_append_left (by simp; omega), List.getElem?_take, if_pos hlt]
        · rw [List.getElem?_append_right (by simp; omega), List.getElem?_drop]
          congr 1; simp; omega
    · rw [if_neg hk, List.getElem?_eq_none]
      simp only [List.length_append, List.length_take, List.length_drop, hu]; omega
end

/-! ### append -/
/-- What append leaves: a row of our own with the new values behind the old ones; no other block has turned. -/
theorem append_own {P : Program} {t ty u : TypeId} {z : Ty} {B s : Nat} {w : World} {p q : Option Addr} {n c m d : Nat} {xs news : List Value} (ht : P.underlying t = some (.slice u)) (hz : tyOf P u = some z)
    (h1 : z.ls.length = s) (h0 : 0 < s) (hown : Mine B u s w p n c xs) (hat : At w q news) (hm : news.length = m * s) (hq : q = none → m = 0 ∧ d = 0) (hone : ∀ x ∈ news, x.oneCell' = true) (hB : B ≤ w.heap.size)
    (hroom : ((n + m) + (n + m) / 4 + 192) * z.bytes ≤ 281474976710656) (hlen : n + m ≤ maxLen) :
    ∃ p' c' w', (Builtin.append_ #[t, t] ty #[.slice p n c, .slice q m d]).run P w = .ok (.slice p' (n + m) c') w' ∧ Mine B u s w' p' (n + m) c' (xs ++ news) ∧ w.grownBy w' (Value.slice p n c).ownBlock := by
  obtain ⟨i, d', hi, hzz, hd, hsz, hls, hag, hby⟩ := tyOf_spec hz
  have hsize : i.size = s := by rw [hsz]; have := h1; rw [hls, length_leavesOf] at this; simpa using this
  cases q with
  | none =>
    obtain ⟨rfl, rfl⟩ := hq rfl
    have hn : news = [] := by cases news with | nil => rfl | cons _ _ => simp at hm
    subst hn
    refine ⟨p, c, w, ?_, by simpa using hown, ⟨rfl, rfl, rfl, Nat.le_refl _, fun _ _ _ => rfl⟩⟩
    have hcap := hown.cap.1
    cases p with
    | none => simp [Builtin.append_, run_underlying ht, sizeOf, typeInfo, hi, Builtin.lenOf, hcap, Builtin.firstCells]
    | some a => simp [Builtin.append_, run_underlying ht, sizeOf, typeInfo, hi, Builtin.lenOf, hcap, Builtin.firstCells, storeCells]
  | some a =>
    have hnews : ∀ j x, news[j]? = some x → w.cell? (a.add j) = some x := by
      intro j x hx
      rcases hat with rfl | ⟨b, o, hp, hc⟩
      · simp at hx
      · cases hp; rw [Addr.add_lit]; exact hc j x hx
    obtain ⟨v', w', hrun, hown', hg, _⟩ := run_append_own_wide (P := P) w B t ty u i z.zero s z.bytes ht hi hzz hsize hby.symm (by rw [← hsz]; exact hsize) h0 (.slice p n c) n xs hown a m d news hm
      hnews hone hlen hroom hB
    rcases hown'.2 with ⟨rfl, hn0⟩ | ⟨g, cap, cur, rfl, rest⟩
    · exact ⟨none, 0, w', by rw [hrun, hn0], by rw [hn0] at hown' ⊢; exact hown', hg⟩
    · exact ⟨some ⟨g, 0, none⟩, cap, w', hrun, hown', hg⟩

/-- Behind an append onto a row of one's own. -/
theorem Mine.grown {B : Nat} {t : TypeId} {s : Nat} {w w' : World} {p : Option Addr} {n c : Nat} {vs : List Value} (h : Mine B t s w p n c vs) (hg : w.grownBy w' (Value.slice p n c).ownBlock) :
    (p = none ∧ Ext w w') ∨ ∃ b, p = some ⟨b, 0, none⟩ ∧ B ≤ b ∧ But b w w' := by
  rcases h.shape with ⟨rfl, _⟩ | ⟨b, rfl, hb, _⟩
  · exact .inl ⟨rfl, grown_nil hg⟩
  · exact .inr ⟨b, rfl, hb, grown_but hg⟩
theorem Mine.below {B B0 : Nat} {t : TypeId} {s : Nat} {a w w' : World} {p : Option Addr} {n c : Nat} {vs : List Value} (h : Mine B t s w p n c vs) (hg : w.grownBy w' (Value.slice p n c).ownBlock) (hb : Below B0 a w) (hB : B0 ≤ B) (hs : B0 ≤ w.heap.size) : Below B0 a w' := by
  rcases h.grown hg with ⟨_, e⟩ | ⟨b, _, hle, e⟩
  · exact hb.ext e hs
  · exact hb.but e (by omega) hs
theorem At.grown {B : Nat} {t : TypeId} {s : Nat} {w w' : World} {p q : Option Addr} {n c : Nat} {vs us : List Value} (h : Mine B t s w p n c vs) (hg : w.grownBy w' (Value.slice p n c).ownBlock) (hq : At w q us)
    (hne : ∀ b o b' o', q = some ⟨b, o, none⟩ → p = some ⟨b', o', none⟩ → b ≠ b') : At w' q us := by
  rcases h.grown hg with ⟨_, e⟩ | ⟨b, hp, hle, e⟩
  · exact hq.ext e
  · exact hq.but e fun b' o hq' => hne b' o b 0 hq' hp

/-! ### Freezing -/
theorem cell_freeze (w : World) (a : Addr) (n : Nat) (b : Addr) : (w.freeze a n).cell? b = w.cell? b := by
  unfold World.freeze
  split
  · rfl
  · simp only [World.cell?, Array.getElem?_modify]
    by_cases h : a.block = b.block
    · rw [if_pos h]
      cases w.heap[b.block]? with
      | none => rfl
      | some o => cases o <;> rfl
    · rw [if_neg h]

theorem At.freeze {w : World} {p : Option Addr} {vs : List Value} (h : At w p vs) (a : Addr) (n : Nat) : At (w.freeze a n) p vs := by
  rcases h with rfl | ⟨b, o, rfl, hc⟩
  · exact .inl rfl
  · exact .inr ⟨b, o, rfl, fun i v hv => by rw [cell_freeze]; exact hc i v hv⟩

/-! ### Numbers -/
theorem i64_fit {n : Int} (h0 : -9223372036854775808 ≤ n) (h1 : n ≤ 9223372036854775807) : IntKind.i64.wrap n = n := by rw [IntKind.wrap_i64]; omega
theorem u64_fit {n : Int} (h0 : 0 ≤ n) (h1 : n < 18446744073709551616) : IntKind.u64.wrap n = n := by simp [IntKind.wrap, IntKind.bits, IntKind.signed]; omega
/-! ### Arguments -/
theorem wf_i64 {n : Int} (h : (Lit.int .i64 n).wf = true) : -9223372036854775808 ≤ n ∧ n ≤ 9223372036854775807 := by
  simp only [Lit.wf, Bool.and_eq_true, decide_eq_true_eq] at h
  exact h
end Go.Vc

/- Numbers: bits, shifts, signed numbers as unsigned ones and back. -/
namespace Go.Vc
open Go

theorem u64_wrap (n : Int) : IntKind.u64.wrap n = n % 18446744073709551616 := by simp [IntKind.wrap, IntKind.bits, IntKind.signed]
/-! ### Signed numbers as unsigned ones -/
def zigN (x : Int) : Nat := if x < 0 then (-2 * x - 1).toNat else (2 * x).toNat
def unzig (v : Nat) : Int := if v % 2 = 1 then -((v / 2 : Nat) : Int) - 1 else ((v / 2 : Nat) : Int)

/-! ### Texts as bytes -/
def tB (s : ByteArray) : List UInt8 := s.data.toList
theorem tB_length (s : ByteArray) : (tB s).length = s.size := Array.length_toList
theorem mk_tB (s : ByteArray) : (⟨(tB s).toArray⟩ : ByteArray) = s := by cases s; simp [tB]
theorem tB_inj {s t : ByteArray} : tB s = tB t ↔ s = t := by
  constructor
  · intro h; rw [← mk_tB s, h, mk_tB]
  · rintro rfl; rfl
theorem sEq_self (s : ByteArray) : sEq s s = true := sEq_iff.2 rfl
theorem tB_extract (s : ByteArray) (i j : Nat) : tB (s.extract i j) = ((tB s).take j).drop i := by
  show (s.extract i j).data.toList = _
  rw [ByteArray.data_extract]
  simp [tB, List.extract_eq_take_drop, List.drop_take]
theorem bAt_eq (s : ByteArray) (i : Nat) (h : i < s.size) : bAt s i = (((tB s)[i]'(by rw [tB_length]; exact h)).toNat : Int) := by
  have h' : i < s.data.toList.length := by simpa using h
  simp [bAt, tB, List.getD, List.getElem?_eq_getElem h']
end Go.Vc

/- Numbers as digits of 2^s, and how one bit more turns them: plain Lean. -/
namespace Go.Vc
open Go Go.RowKit

/-- The n digits of N, of s bits each, the least one first. -/
def digits (s n N : Nat) : List Nat := (List.range n).map fun i => N / 2 ^ (s * i) % 2 ^ s
/-- The number that digits of s bits are. -/
def value (s : Nat) : List Nat → Nat
  | [] => 0
  | x :: l => x + 2 ^ s * value s l
/-- Numbers as values. -/
def vN (k : IntKind) (l : List Nat) : List Value := l.map fun (x : Nat) => .int k (x : Int)

/-- n bytes of N. -/
def bytesOf (n N : Nat) : List UInt8 := (digits 8 n N).map UInt8.ofNat
/-- The number that bytes are. -/
def ofBytes (l : List UInt8) : Nat := value 8 (l.map UInt8.toNat)
/-! ### The machine's operations -/
theorem i64_next {n : Nat} (h : n < 9223372036854775807) : IntKind.i64.wrap ((n : Int) + 1) = ((n + 1 : Nat) : Int) := i64_fit (by omega) (by omega)
theorem take_snoc {α : Type} {l : List α} {k : Nat} {x : α} (h : l[k]? = some x) : l.take (k + 1) = l.take k ++ [x] := by rw [List.take_add_one, h]; rfl

/-! ### How many bits a number needs -/
def bl (v : Nat) : Nat := if v = 0 then 0 else v.log2 + 1
/-- All numbers' bits together. -/
def orL (l : List Nat) : Nat := l.foldl (· ||| ·) 0
/-- The least width of numbers. -/
def widthN (l : List Nat) : Nat := bl (orL l)
/-! ### Numbers that lie in a row -/
/-- A slice of 64-bit numbers that came in. -/
structure Us (w : World) (p : Option Addr) (n c : Nat) (l : List Nat) : Prop where
  len : l.length = n
  cap : n ≤ c ∧ c ≤ maxLen
  lies : At w p (vN .u64 l)
  nil : p = none → n = 0 ∧ c = 0
  lt : ∀ x ∈ l, x < 18446744073709551616
theorem Us.ext {w w' : World} {p : Option Addr} {n c : Nat} {l : List Nat} (h : Us w p n c l) (e : Ext w w') : Us w' p n c l := ⟨h.len, h.cap, h.lies.ext e, h.nil, h.lt⟩
theorem Us.le {w : World} {p : Option Addr} {n c : Nat} {l : List Nat} (h : Us w p n c l) : n ≤ maxLen := Nat.le_trans h.cap.1 h.cap.2
theorem Us.nothing (w : World) : Us w none 0 0 [] := ⟨rfl, ⟨Nat.le_refl _, Nat.zero_le _⟩, .inl rfl, fun _ => ⟨rfl, rfl⟩, by simp⟩
/-- Bytes of our own; numbers of our own. -/
def OutB (B : Nat) (t : TypeId) (w : World) (p : Option Addr) (n c : Nat) (l : List UInt8) : Prop := l.length = n ∧ Mine B t 1 w p n c (vB l)
def OutU (B : Nat) (t : TypeId) (w : World) (p : Option Addr) (n c : Nat) (l : List Nat) : Prop := l.length = n ∧ (∀ x ∈ l, x < 18446744073709551616) ∧ Mine B t 1 w p n c (vN .u64 l)
/-- Bytes that came in. -/
structure InB (w : World) (p : Option Addr) (n c : Nat) (l : List UInt8) : Prop where
  len : l.length = n
  cap : n ≤ c ∧ c ≤ maxLen
  lies : At w p (vB l)
  nil : p = none → n = 0 ∧ c = 0
theorem InB.ext {w w' : World} {p : Option Addr} {n c : Nat} {l : List UInt8} (h : InB w p n c l) (e : Ext w w') : InB w' p n c l := ⟨h.len, h.cap, h.lies.ext e, h.nil⟩
theorem InB.bytes {w : World} {p : Option Addr} {n c : Nat} {l : List UInt8} (h : InB w p n c l) : BytesAt w p n l := h.lies.bytes' h.len
theorem InB.le {w : World} {p : Option Addr} {n c : Nat} {l : List UInt8} (h : InB w p n c l) : n ≤ maxLen := Nat.le_trans h.cap.1 h.cap.2
theorem OutB.ext {B : Nat} {t : TypeId} {w w' : World} {p : Option Addr} {n c : Nat} {l : List UInt8} (h : OutB B t w p n c l) (e : Ext w w') : OutB B t w' p n c l := ⟨h.1, h.2.ext e⟩
theorem OutB.bytes {B : Nat} {t : TypeId} {w : World} {p : Option Addr} {n c : Nat} {l : List UInt8} (h : OutB B t w p n c l) : BytesAt w p n l := h.2.at.bytes' h.1
theorem OutU.ext {B : Nat} {t : TypeId} {w w' : World} {p : Option Addr} {n c : Nat} {l : List Nat} (h : OutU B t w p n c l) (e : Ext w w') : OutU B t w' p n c l := ⟨h.1, h.2.1, h.2.2.ext e⟩
theorem OutU.us {B : Nat} {t : TypeId} {w : World} {p : Option Addr} {n c : Nat} {l : List Nat} (h : OutU B t w p n c l) : Us w p n c l := ⟨h.1, h.2.2.cap, h.2.2.at, h.2.2.isNil, h.2.1⟩
end Go.Vc

/- The frame: what a walk holds in memory of its own, boxes and rows, and how each step turns it. -/
namespace Go.Vc
open Go Go.RowKit

/-! ### append, and where the row then lies -/
theorem ok_inj {v v' : Value} {w w' : World} {r : Result Value} (h : r = .ok v w) (h' : r = .ok v' w') : v = v' ∧ w = w' := by
  rw [h] at h'; cases h'; exact ⟨rfl, rfl⟩

/-- As append_own; the row lies where it lay, or is new. -/
theorem append_at {P : Program} {t ty u : TypeId} {z : Ty} {B s : Nat} {w : World} {p q : Option Addr} {n c m d : Nat} {xs news : List Value} (ht : P.underlying t = some (.slice u)) (hz : tyOf P u = some z)
    (h1 : z.ls.length = s) (h0 : 0 < s) (hown : Mine B u s w p n c xs) (hat : At w q news) (hm : news.length = m * s) (hq : q = none → m = 0 ∧ d = 0) (hone : ∀ x ∈ news, x.oneCell' = true) (hB : B ≤ w.heap.size)
    (hroom : ((n + m) + (n + m) / 4 + 192) * z.bytes ≤ 281474976710656) (hlen : n + m ≤ maxLen) :
    ∃ p' c' w', (Builtin.append_ #[t, t] ty #[.slice p n c, .slice q m d]).run P w = .ok (.slice p' (n + m) c') w' ∧ Mine B u s w' p' (n + m) c' (xs ++ news) ∧ w.grownBy w' (Value.slice p n c).ownBlock ∧
      (∀ b o, p' = some ⟨b, o, none⟩ → w.heap.size ≤ b ∨ p = some ⟨b, 0, none⟩) := by
  obtain ⟨p', c', w', hrun, hmine, hg⟩ := append_own (ty := ty) ht hz h1 h0 hown hat hm hq hone hB hroom hlen
  refine ⟨p', c', w', hrun, hmine, hg, ?_⟩
  rcases hown.shape with ⟨rfl, rfl, rfl, rfl⟩ | ⟨g, rfl, hg1, hg2⟩
  · obtain ⟨p2, c2, w2, hrun2, hmine2, _⟩ := append_own (ty := ty) ht hz h1 h0 (Mine.nil w.heap.size u s w) hat hm hq hone (Nat.le_refl _) hroom hlen
    obtain ⟨e, _⟩ := ok_inj hrun hrun2
    cases e
    exact fun b o hb => .inl (hmine2.ge b o hb).1
  · obtain ⟨g', cur, hp, _, hblk, hcs, htake⟩ := hown.blk (.inr (by simp))
    cases hp
    obtain ⟨i, d', hi, hzz, hd, hsz, hls, hag, hby⟩ := tyOf_spec hz
    have hsize : i.size = s := by rw [hsz]; have := h1; rw [hls, length_leavesOf] at this; simpa using this
    subst hsize
    cases q with
    | none =>
      obtain ⟨rfl, rfl⟩ := hq rfl
      have hcap := hown.cap.1
      have hr : (Builtin.append_ #[t, t] ty #[.slice (some ⟨g, 0, none⟩) n c, .slice none 0 0]).run P w = .ok (.slice (some ⟨g, 0, none⟩) n c) w := by
        simp [Builtin.append_, run_underlying ht, sizeOf, typeInfo, hi, Builtin.lenOf, hcap, Builtin.firstCells, storeCells]
      obtain ⟨e, _⟩ := ok_inj hrun hr
      cases e
      exact fun b o hb => .inr (by cases hb; rfl)
    | some a =>
      have hnews : ∀ j x, news[j]? = some x → w.cell? (a.add j) = some x := by
        intro j x hx
        rcases hat with rfl | ⟨b, o, hp, hc⟩
        · simp at hx
        · cases hp; rw [Addr.add_lit]; exact hc j x hx
      by_cases hfit : n + m ≤ c
      · have hr := run_append_room (P := P) w t ty u i ht hi g n c cur hblk a m d news hm hnews hone hfit (by rw [hm, hcs, ← Nat.add_mul]; exact Nat.mul_le_mul_right _ hfit)
        obtain ⟨e, _⟩ := ok_inj hrun hr
        cases e
        exact fun b o hb => .inr (by cases hb; rfl)
      · have holds : ∀ j x, xs[j]? = some x → w.cell? ((⟨g, 0, none⟩ : Addr).add j) = some x := by
          intro j x hj
          rw [Addr.add_lit, hblk.cell, Nat.zero_add]
          rw [← htake, List.getElem?_take] at hj
          split at hj
          · simpa using hj
          · cases hj
        simp only [maxLen] at hlen
        have hr := run_append_grow (P := P) w t ty u i _ ht hi hzz ⟨g, 0, none⟩ n c xs hown.len holds a m d news hm hnews (by omega) (by omega) (growslice_fits_wide (by omega) (by rw [← hby]; exact hroom))
        obtain ⟨e, _⟩ := ok_inj hrun hr
        cases e
        exact fun b o hb => .inl (by cases hb; exact Nat.le_refl _)

/-! ### The frame -/
/-- A growable row of our own: its elements' type, their cells, the slice, and what it holds. -/
structure Row where
  t : TypeId
  s : Nat
  p : Option Addr
  n : Nat
  c : Nat
  vs : List Value

/-- Since w0 we have laid the blocks fs and the rows ms, all unlike; all that was there is as it was. -/
structure Hold (w0 W : World) (fs : List (Nat × Obj)) (ms : List Row) : Prop where
  ext : Ext w0 W
  ge : ∀ x ∈ fs, w0.heap.size ≤ x.1
  holds : ∀ (i : Nat) x, fs[i]? = some x → W.heap[x.1]? = some x.2
  keys : ∀ (i j : Nat) x y, fs[i]? = some x → fs[j]? = some y → i ≠ j → x.1 ≠ y.1
  own : ∀ (i : Nat) m, ms[i]? = some m → Mine w0.heap.size m.t m.s W m.p m.n m.c m.vs
  apart : ∀ (i j : Nat) x m, fs[i]? = some x → ms[j]? = some m → ∀ b o, m.p = some ⟨b, o, none⟩ → x.1 ≠ b
  rows : ∀ (i j : Nat) m m', ms[i]? = some m → ms[j]? = some m' → i ≠ j → ∀ b o b' o', m.p = some ⟨b, o, none⟩ → m'.p = some ⟨b', o', none⟩ → b ≠ b'

section
variable {w0 W W' : World} {fs : List (Nat × Obj)} {ms : List Row} {b d l k : Nat} {o : Obj} {r : Nat → Loop} {t u : TypeId} {s n c : Nat} {p : Option Addr} {vs : List Value} {cs : Array Value}

theorem Hold.start (h : Ext w0 W) : Hold w0 W [] [] := ⟨h, by simp, by simp, by simp, by simp, by simp, by simp⟩
theorem Hold.size (h : Hold w0 W fs ms) : w0.heap.size ≤ W.heap.size := h.ext.size
theorem Hold.lt (h : Hold w0 W fs ms) (i : Nat) {x : Nat × Obj} (hi : fs[i]? = some x) : x.1 < W.heap.size := (Array.getElem?_eq_some_iff.1 (h.holds i x hi)).1

/-- All of ours is as it was. -/
theorem Hold.step (h : Hold w0 W fs ms) (e : Ext W W') : Hold w0 W' fs ms :=
  ⟨h.ext.trans e, h.ge, fun i x hx => (e.block _ (h.lt i hx)).trans (h.holds i x hx), h.keys, fun i m hm => (h.own i m hm).ext e, h.apart, h.rows⟩

/-- A new block. -/
theorem Hold.new (h : Hold w0 W fs ms) (e : New W o b W') : Hold w0 W' ((b, o) :: fs) ms := by
  have h' := h.step e.ext
  obtain ⟨hb, hs⟩ := e.size
  refine ⟨h'.ext, ?_, ?_, ?_, h'.own, ?_, h'.rows⟩
  · intro x hx
    rcases List.mem_cons.1 hx with rfl | hx
    · rw [hb]; exact h.size
    · exact h.ge x hx
  · intro i x hx
    cases i with
    | zero => cases hx; exact e.obj
    | succ i => exact h'.holds i x (by simpa using hx)
  · intro i j x y hx hy hij
    cases i with
    | zero =>
      cases hx
      cases j with
      | zero => omega
      | succ j => have := h.lt j (by simpa using hy); simp only; omega
    | succ i =>
      have h1 := h.lt i (by simpa using hx)
      cases j with
      | zero => cases hy; simp only; omega
      | succ j => exact h.keys i j x y (by simpa using hx) (by simpa using hy) (by omega)
  · intro i j x m hx hm b' o' hp
    cases i with
    | zero => cases hx; have := (h.own j m hm).ge b' o' hp; simp only; omega
    | succ i => exact h.apart i j x m (by simpa using hx) hm b' o' hp

/-- Block i has turned. -/
theorem Hold.upd (h : Hold w0 W fs ms) (i : Nat) {o o' : Obj} (hi : fs[i]? = some (b, o)) (e : But b W W') (ho : W'.heap[b]? = some o') : Hold w0 W' (fs.set i (b, o')) ms := by
  have hge := h.ge _ (List.mem_of_getElem? hi)
  have key : ∀ (j : Nat) x, (fs.set i (b, o'))[j]? = some x → ∃ y, fs[j]? = some y ∧ y.1 = x.1 ∧ (j ≠ i → y = x) := by
    intro j x hx
    rw [List.getElem?_set] at hx
    split at hx
    · rename_i hij
      subst hij
      split at hx
      · cases hx; exact ⟨_, hi, rfl, fun hne => absurd rfl hne⟩
      · cases hx
    · exact ⟨x, hx, rfl, fun _ => rfl⟩
  refine ⟨h.ext.below.but e hge h.size, ?_, ?_, ?_, ?_, ?_, h.rows⟩
  · intro x hx
    obtain ⟨j, hj⟩ := List.mem_iff_getElem?.1 hx
    obtain ⟨y, hy, hyx, _⟩ := key j x hj
    rw [← hyx]; exact h.ge _ (List.mem_of_getElem? hy)
  · intro j x hx
    by_cases hij : j = i
    · subst hij
      rw [List.getElem?_set, if_pos rfl] at hx
      split at hx
      · cases hx; exact ho
      · cases hx
    · obtain ⟨y, hy, _, hyx⟩ := key j x hx
      have := hyx hij
      subst this
      rw [e.block _ (h.lt j hy) (h.keys j i _ _ hy hi hij)]
      exact h.holds j _ hy
  · intro j k x y hx hy hjk
    obtain ⟨x', hx', e1, _⟩ := key j x hx
    obtain ⟨y', hy', e2, _⟩ := key k y hy
    rw [← e1, ← e2]; exact h.keys j k _ _ hx' hy' hjk
  · intro j m hm
    exact (h.own j m hm).but e fun b' o' hp hb => h.apart i j _ m hi hm b' o' hp hb.symm
  · intro j k x m hx hm b' o' hp
    obtain ⟨x', hx', e1, _⟩ := key j x hx
    rw [← e1]; exact h.apart j k _ m hx' hm b' o' hp

theorem Hold.base (h : Hold w0 W fs ms) (i : Nat) (hi : fs[i]? = some (b, o)) : w0.heap.size ≤ b := h.ge _ (List.mem_of_getElem? hi)
theorem Hold.blk (h : Hold w0 W fs ms) (i : Nat) (hi : fs[i]? = some (b, .cells cs t (0, 0))) : Blk W b t cs := h.holds i _ hi
theorem Hold.put (h : Hold w0 W fs ms) (i : Nat) {q : Nat} (hi : fs[i]? = some (b, .cells cs t (0, 0))) (e : Put W b q vs W') : Hold w0 W' (fs.set i (b, .cells (setA cs q vs) t (0, 0))) ms :=
  h.upd i hi e.but ((h.blk i hi).put e)
theorem Hold.box (h : Hold w0 W fs ms) (i : Nat) {v v' : Value} (hi : fs[i]? = some (b, .cells #[v] t (0, 0))) (e : Put W b 0 [v'] W') : Hold w0 W' (fs.set i (b, .cells #[v'] t (0, 0))) ms := h.put i hi e
theorem Hold.loop (h : Hold w0 W fs ms) (i : Nat) (hi : fs[i]? = some (l, .loop (r k))) : Rec r l k W := h.holds i _ hi
theorem Hold.dfr (h : Hold w0 W fs ms) (i : Nat) (hi : fs[i]? = some (d, .deferred (some []))) : Dfr d W := h.holds i _ hi
theorem Hold.turn (h : Hold w0 W fs ms) (i k' : Nat) (hi : fs[i]? = some (l, .loop (r k))) : Hold w0 (Go.Vc.turn r l k' W) (fs.set i (l, .loop (r k'))) ms :=
  h.upd i hi turn_but.1 ((h.loop i hi).turn k')
theorem Hold.shut (h : Hold w0 W fs ms) (i : Nat) (hi : fs[i]? = some (d, .deferred (some []))) : Hold w0 (W.putObj d (.deferred none)) (fs.set i (d, .deferred none)) ms :=
  h.upd i hi shut_but.1 (World.putObj_heap_same (h.dfr i hi).lt)
theorem Hold.began (h : Hold w0 W fs ms) (e : Began W r d l W') : Hold w0 W' ((l, .loop (r 0)) :: (d, .deferred (some [])) :: fs) ms := by
  obtain ⟨rfl, rfl, rfl⟩ := e
  exact (h.new ⟨rfl, rfl⟩).new ⟨by simp, rfl⟩

/-- Fewer are held. -/
theorem Hold.drop (h : Hold w0 W fs ms) (fs' : List (Nat × Obj)) (f : Nat → Nat) (hf : ∀ (i : Nat) x, fs'[i]? = some x → fs[f i]? = some x) (hj : ∀ i j, f i = f j → i = j) : Hold w0 W fs' ms :=
  ⟨h.ext, fun x hx => by obtain ⟨j, hj⟩ := List.mem_iff_getElem?.1 hx; exact h.ge x (List.mem_of_getElem? (hf j x hj)), fun i x hx => h.holds _ x (hf i x hx),
    fun i j x y hx hy hij => h.keys _ _ x y (hf i x hx) (hf j y hy) fun e => hij (hj _ _ e), h.own, fun i j x m hx => h.apart _ j x m (hf i x hx), h.rows⟩
theorem Hold.tail {x : Nat × Obj} (h : Hold w0 W (x :: fs) ms) : Hold w0 W fs ms := h.drop fs (· + 1) (fun i x hx => by simpa using hx) (fun i j e => by omega)

/-- Fewer rows are held. -/
theorem Hold.dropRows (h : Hold w0 W fs ms) (ms' : List Row) (f : Nat → Nat) (hf : ∀ (i : Nat) x, ms'[i]? = some x → ms[f i]? = some x) (hj : ∀ i j, f i = f j → i = j) : Hold w0 W fs ms' :=
  ⟨h.ext, h.ge, h.holds, h.keys, fun i m hm => h.own _ m (hf i m hm), fun i j x m hx hm => h.apart i _ x m hx (hf j m hm), fun i j m m' hm hm' hij => h.rows _ _ m m' (hf i m hm) (hf j m' hm') fun e => hij (hj _ _ e)⟩
theorem Hold.noRow (h : Hold w0 W fs ms) : Hold w0 W fs [] := h.dropRows [] (fun i => i) (fun i x hx => by simp at hx) fun _ _ e => e

/-- A row of ours, nil. -/
theorem Hold.nilRow (h : Hold w0 W fs ms) (t : TypeId) (s : Nat) : Hold w0 W fs (⟨t, s, none, 0, 0, []⟩ :: ms) := by
  refine ⟨h.ext, h.ge, h.holds, h.keys, ?_, ?_, ?_⟩
  · intro i m hm
    cases i with
    | zero => cases hm; exact Mine.nil _ _ _ _
    | succ i => exact h.own i m (by simpa using hm)
  · intro i j x m hx hm b o hp
    cases j with
    | zero => cases hm; cases hp
    | succ j => exact h.apart i j x m hx (by simpa using hm) b o hp
  · intro i j m m' hm hm' hij b o b' o' hp hp'
    cases i with
    | zero => cases hm; cases hp
    | succ i =>
      cases j with
      | zero => cases hm'; cases hp'
      | succ j => exact h.rows i j m m' (by simpa using hm) (by simpa using hm') (by omega) b o b' o' hp hp'

/-- A row of ours, laid by a step that left all else. -/
theorem Hold.addRow (h : Hold w0 W fs ms) (e : Ext W W') (hm : Mine W.heap.size t s W' p n c vs) : Hold w0 W' fs (⟨t, s, p, n, c, vs⟩ :: ms) := by
  have h' := h.step e
  refine ⟨h'.ext, h'.ge, h'.holds, h'.keys, ?_, ?_, ?_⟩
  · intro i m hm'
    cases i with
    | zero => cases hm'; exact hm.mono h.size
    | succ i => exact h'.own i m (by simpa using hm')
  · intro i j x m hx hm' b o hp
    cases j with
    | zero => cases hm'; have := h.lt i hx; have := hm.ge b o hp; omega
    | succ j => exact h.apart i j x m hx (by simpa using hm') b o hp
  · intro i j m m' hm1 hm2 hij b o b' o' hp hp'
    cases i with
    | zero =>
      cases hm1
      cases j with
      | zero => omega
      | succ j => have := (h.own j m' (by simpa using hm2)).ge b' o' hp'; have := hm.ge b o hp; omega
    | succ i =>
      cases j with
      | zero => cases hm2; have := (h.own i m (by simpa using hm1)).ge b o hp; have := hm.ge b' o' hp'; omega
      | succ j => exact h.rows i j m m' (by simpa using hm1) (by simpa using hm2) (by omega) b o b' o' hp hp'
theorem Hold.madeRow (h : Hold w0 W fs ms) {cap : Nat} (e : New W (.cells cs t) b W') (hm : cap ≤ maxLen) (hs : cs.size = cap * s) : Hold w0 W' fs (⟨t, s, some ⟨b, 0, none⟩, 0, cap, []⟩ :: ms) := h.addRow e.ext (Mine.made e (Nat.le_refl _) hm hs)
theorem Hold.row (h : Hold w0 W fs ms) (i : Nat) (hi : ms[i]? = some ⟨t, s, p, n, c, vs⟩) : Mine w0.heap.size t s W p n c vs := h.own i _ hi

/-- Row i has turned. -/
theorem Hold.updRow (h : Hold w0 W fs ms) (i : Nat) {p' : Option Addr} {n' c' : Nat} {vs' : List Value} (hi : ms[i]? = some ⟨t, s, p, n, c, vs⟩) (hg : (p = none ∧ Ext W W') ∨ ∃ b, p = some ⟨b, 0, none⟩ ∧ w0.heap.size ≤ b ∧ But b W W')
    (hm : Mine w0.heap.size t s W' p' n' c' vs') (hp : ∀ b o, p' = some ⟨b, o, none⟩ → W.heap.size ≤ b ∨ p = some ⟨b, 0, none⟩) : Hold w0 W' fs (ms.set i ⟨t, s, p', n', c', vs'⟩) := by
  have key : ∀ (j : Nat) m, (ms.set i ⟨t, s, p', n', c', vs'⟩)[j]? = some m → (j = i ∧ m = ⟨t, s, p', n', c', vs'⟩) ∨ (j ≠ i ∧ ms[j]? = some m) := by
    intro j m hm
    rw [List.getElem?_set] at hm
    split at hm
    · rename_i hij
      split at hm
      · cases hm; exact .inl ⟨hij.symm, rfl⟩
      · cases hm
    · rename_i hij; exact .inr ⟨fun e => hij e.symm, hm⟩
  have base : Ext w0 W' ∧ (∀ (i : Nat) x, fs[i]? = some x → W'.heap[x.1]? = some x.2) ∧ ∀ (j : Nat) m, j ≠ i → ms[j]? = some m → Mine w0.heap.size m.t m.s W' m.p m.n m.c m.vs := by
    rcases hg with ⟨_, e⟩ | ⟨b, hb, _, e⟩
    · have h' := h.step e
      exact ⟨h'.ext, h'.holds, fun j m _ hm => h'.own j m hm⟩
    · have hge := ((h.row i hi).ge b 0 hb).1
      refine ⟨h.ext.below.but e hge h.size, fun j x hx => ?_, fun j m hj hm => ?_⟩
      · rw [e.block _ (h.lt j hx) (h.apart j i x _ hx hi b 0 hb)]; exact h.holds j x hx
      · exact (h.own j m hm).but e fun b' o' hp' hbb => h.rows i j _ m hi hm (fun e => hj e.symm) b 0 b' o' hb hp' hbb.symm
  refine ⟨base.1, h.ge, base.2.1, h.keys, ?_, ?_, ?_⟩
  · intro j m hm'
    rcases key j m hm' with ⟨_, rfl⟩ | ⟨hj, hm''⟩
    · exact hm
    · exact base.2.2 j m hj hm''
  · intro j k x m hx hm' b o hb
    rcases key k m hm' with ⟨_, rfl⟩ | ⟨hj, hm''⟩
    · rcases hp b o hb with hlt | hold
      · have := h.lt j hx; omega
      · exact h.apart j i x _ hx hi b 0 hold
    · exact h.apart j k x m hx hm'' b o hb
  · intro j k m m' hm1 hm2 hjk b o b' o' hb hb'
    rcases key j m hm1 with ⟨rfl, rfl⟩ | ⟨hj, hm1'⟩
    · rcases key k m' hm2 with ⟨rfl, _⟩ | ⟨hk, hm2'⟩
      · exact absurd rfl hjk
      · rcases hp b o hb with hlt | hold
        · have := (h.own k m' hm2').ge b' o' hb'; omega
        · exact h.rows j k _ m' hi hm2' (fun e => hk e.symm) b 0 b' o' hold hb'
    · rcases key k m' hm2 with ⟨rfl, rfl⟩ | ⟨hk, hm2'⟩
      · rcases hp b' o' hb' with hlt | hold
        · have := (h.own j m hm1').ge b o hb; omega
        · exact h.rows j k m _ hm1' hi hj b o b' 0 hb hold
      · exact h.rows j k m m' hm1' hm2' hjk b o b' o' hb hb'

/-- A store into row i. -/
theorem Hold.putRow (h : Hold w0 W fs ms) (i : Nat) {j : Nat} {us : List Value} (hi : ms[i]? = some ⟨t, s, p, n, c, vs⟩) (hj : j < n) (hu : us.length = s) :
    ∃ b, p = some ⟨b, 0, none⟩ ∧ (∀ q, q < s → (∃ v, W.cell? ⟨b, j * s + q, none⟩ = some v) ∧ W.frozen? ⟨b, j * s + q, none⟩ = false) ∧
      ∀ W', Put W b (j * s) us W' → Hold w0 W' fs (ms.set i ⟨t, s, p, n, c, vs.take (j * s) ++ us ++ vs.drop (j * s + s)⟩) := by
  obtain ⟨b, hb, h1, h2, h3, h4⟩ := (h.row i hi).put hj hu
  refine ⟨b, hb, h3, fun W' hput => h.updRow i hi (.inr ⟨b, hb, h1, hput.but⟩) (h4 W' hput) fun b' o hp' => .inr ?_⟩
  rw [hb] at hp'; cases hp'; exact hb

/-- append onto row i. -/
theorem Hold.append {P : Program} {t' ty : TypeId} {z : Ty} {q : Option Addr} {m d' : Nat} {news : List Value} (h : Hold w0 W fs ms) (i : Nat) (hi : ms[i]? = some ⟨t, s, p, n, c, vs⟩) (ht : P.underlying t' = some (.slice t)) (hz : tyOf P t = some z)
    (h1 : z.ls.length = s) (h0 : 0 < s) (hat : At W q news) (hm : news.length = m * s) (hq : q = none → m = 0 ∧ d' = 0) (hone : ∀ x ∈ news, x.oneCell' = true)
    (hroom : ((n + m) + (n + m) / 4 + 192) * z.bytes ≤ 281474976710656) (hlen : n + m ≤ maxLen) :
    ∃ p' c' W', (Builtin.append_ #[t', t'] ty #[.slice p n c, .slice q m d']).run P W = .ok (.slice p' (n + m) c') W' ∧ Hold w0 W' fs (ms.set i ⟨t, s, p', n + m, c', vs ++ news⟩) := by
  obtain ⟨p', c', W', h2, h3, h4, h5⟩ := append_at (ty := ty) ht hz h1 h0 (h.row i hi) hat hm hq hone h.size hroom hlen
  exact ⟨p', c', W', h2, h.updRow i hi ((h.row i hi).grown h4) h3 h5⟩
end
end Go.Vc

/- What is handed in, opened: of whatever depth. -/
namespace Go.Vc
open Go Go.RowKit

/-- The cells cs are a value of type t that can be read, and each string and slice in it is within the platform's reach. -/
def Arg (P : Program) (w : World) (t : TypeId) (cs : List Value) : Prop :=
  ∃ (H : Type) (enc : TypeId × Value → H) (fuel : Nat) (d : DataW H) (ps : List MemPlace), DataW.trod enc P w 0 (fun _ => true) true fuel t cs = some (d, ps) ∧ ∀ n ∈ d.weights P t, n ≤ 140737488351232

theorem mapM_some {α β : Type} {f : α → Option β} : ∀ {l : List α} {ys : List β}, l.mapM f = some ys → ys.length = l.length ∧ ∀ (i : Nat) x, l[i]? = some x → ∃ y, ys[i]? = some y ∧ f x = some y := by
  intro l
  induction l with
  | nil => intro ys h; simp at h; subst h; exact ⟨rfl, fun i x hx => by simp at hx⟩
  | cons a l ih =>
    intro ys h
    rw [List.mapM_cons] at h
    cases ha : f a with
    | none => rw [ha] at h; simp at h
    | some b =>
      rw [ha] at h
      cases hl : l.mapM f with
      | none => rw [hl] at h; simp at h
      | some zs =>
        rw [hl] at h
        simp at h
        subst h
        obtain ⟨h1, h2⟩ := ih hl
        refine ⟨by simp [h1], fun i x hx => ?_⟩
        cases i with
        | zero => simp at hx; subst hx; exact ⟨b, rfl, ha⟩
        | succ i => simp at hx; obtain ⟨y, hy, hf⟩ := h2 i x hx; exact ⟨y, by simpa using hy, hf⟩

theorem cells?_some {w : World} {b n : Nat} {a : Addr} {cs : List Value} (h : w.cells? b a n = some cs) : cs.length = n ∧ ∀ (j : Nat) v, cs[j]? = some v → w.cell? (a.add j) = some v := by
  unfold World.cells? at h
  split at h
  · obtain ⟨h1, h2⟩ := mapM_some h
    simp at h1
    refine ⟨h1, fun j v hj => ?_⟩
    have hjn : j < n := by have := (List.getElem?_eq_some_iff.1 hj).1; omega
    obtain ⟨y, hy, hf⟩ := h2 j j (by simp [hjn])
    rw [hj] at hy; cases hy
    exact hf
  · cases h

theorem weightsAll_mem {H : Type} {P : Program} {e : TypeId} : ∀ {ds : List (DataW H)} {d : DataW H}, d ∈ ds → ∀ n ∈ d.weights P e, n ∈ DataW.weightsAll P e ds := by
  intro ds
  induction ds with
  | nil => intro d h; cases h
  | cons x r ih =>
    intro d h n hn
    simp only [DataW.weightsAll, List.mem_append]
    rcases List.mem_cons.1 h with rfl | h
    · exact .inl hn
    · exact .inr (ih h n hn)

section
variable {P : Program} {w : World} {t : TypeId} {cs : List Value}

theorem Arg.int {k : IntKind} (hu : P.underlying t = some (.int k)) (h : Arg P w t cs) : ∃ n, cs = [.int k n] ∧ (Lit.int k n).wf = true := by
  obtain ⟨H, enc, fuel, d, ps, h, _⟩ := h
  cases fuel with
  | zero => cases h
  | succ f =>
    simp only [DataW.trod, hu] at h
    split at h <;> simp_all

theorem Arg.bool (hu : P.underlying t = some .bool) (h : Arg P w t cs) : ∃ b, cs = [.bool b] := by
  obtain ⟨H, enc, fuel, d, ps, h, _⟩ := h
  cases fuel with
  | zero => cases h
  | succ f =>
    simp only [DataW.trod, hu] at h
    split at h <;> simp_all

theorem Arg.string (hu : P.underlying t = some .string) (h : Arg P w t cs) : ∃ s, cs = [.string s] ∧ s.size ≤ 140737488351232 := by
  obtain ⟨H, enc, fuel, d, ps, h, hw⟩ := h
  cases fuel with
  | zero => cases h
  | succ f =>
    simp only [DataW.trod, hu] at h
    split at h <;> simp_all
    rename_i s
    obtain ⟨_, rfl, rfl⟩ := h
    exact hw _ (by simp [DataW.weights])

theorem Arg.struct {fs : Array Field} (hu : P.underlying t = some (.struct fs)) (h : Arg P w t cs) : cs.length = P.cellsOf t ∧ ∀ f ∈ fs.toList, Arg P w f.type ((cs.drop f.offset).take (P.cellsOf f.type)) := by
  obtain ⟨H, enc, fuel, d, ps, h, hw⟩ := h
  cases fuel with
  | zero => cases h
  | succ n =>
    simp only [DataW.trod, hu] at h
    split at h
    · rename_i hl
      refine ⟨hl, fun f hf => ?_⟩
      cases hm : fs.toList.mapM fun f => DataW.trod enc P w 0 (fun _ => true) true n f.type ((cs.drop f.offset).take (P.cellsOf f.type)) with
      | none => rw [hm] at h; cases h
      | some xs =>
        rw [hm] at h
        cases h
        obtain ⟨i, hi⟩ := List.mem_iff_getElem?.1 hf
        obtain ⟨h1, h2⟩ := mapM_some hm
        obtain ⟨y, hy, hfy⟩ := h2 i f hi
        refine ⟨H, enc, n, y.1, y.2, hfy, fun k hk => hw k ?_⟩
        simp only [DataW.weights, hu]
        exact DataW.weights_mem_each (j := i) (by simp [hi]) (by simp [hy]) k hk
    · cases h

theorem Arg.array {n : Nat} {e : TypeId} (hu : P.underlying t = some (.array n e)) (h : Arg P w t cs) : cs.length = P.cellsOf t ∧ ∀ i, i < n → Arg P w e ((cs.drop (i * P.cellsOf e)).take (P.cellsOf e)) := by
  obtain ⟨H, enc, fuel, d, ps, h, hw⟩ := h
  cases fuel with
  | zero => cases h
  | succ m =>
    simp only [DataW.trod, hu] at h
    split at h
    · rename_i hl
      refine ⟨hl, fun i hi => ?_⟩
      cases hm : (List.range n).mapM fun i => DataW.trod enc P w 0 (fun _ => true) true m e ((cs.drop (i * P.cellsOf e)).take (P.cellsOf e)) with
      | none => rw [hm] at h; cases h
      | some xs =>
        rw [hm] at h
        cases h
        obtain ⟨h1, h2⟩ := mapM_some hm
        obtain ⟨y, hy, hfy⟩ := h2 i i (by simp [hi])
        refine ⟨H, enc, m, y.1, y.2, hfy, fun k hk => hw k ?_⟩
        simp only [DataW.weights, hu]
        exact weightsAll_mem (List.mem_map.2 ⟨y, List.mem_of_getElem? hy, rfl⟩) k hk
    · cases h

theorem flatten_get {css : List (List Value)} {s : Nat} (hs : ∀ x ∈ css, x.length = s) {i j : Nat} (hj : j < s) : css.flatten[i * s + j]? = (css[i]?).bind fun x => x[j]? := by
  induction css generalizing i with
  | nil => simp
  | cons a r ih =>
    have ha := hs a (by simp)
    cases i with
    | zero => simp only [Nat.zero_mul, Nat.zero_add, List.flatten_cons]; rw [List.getElem?_append_left (by omega)]; rfl
    | succ i =>
      simp only [List.flatten_cons]
      rw [List.getElem?_append_right (by rw [ha, Nat.add_mul]; omega), show (i + 1) * s + j - a.length = i * s + j by rw [ha, Nat.add_mul]; omega, ih fun x hx => hs x (by simp [hx])]
      rfl

theorem Arg.slice {e : TypeId} (hu : P.underlying t = some (.slice e)) (h0 : 0 < P.cellsOf e) (h : Arg P w t cs) :
    ∃ (p : Option Addr) (n c : Nat) (css : List (List Value)), cs = [.slice p n c] ∧ n ≤ c ∧ c ≤ maxLen ∧ c * P.bytesOf e ≤ 140737488351232 ∧ css.length = c ∧ (∀ x ∈ css, x.length = P.cellsOf e ∧ Arg P w e x) ∧ At w p css.flatten ∧ (p = none → n = 0 ∧ c = 0) := by
  obtain ⟨H, enc, fuel, d, ps, h, hw⟩ := h
  cases fuel with
  | zero => cases h
  | succ m =>
    have shape : (cs = [.slice none 0 0]) ∨ ∃ a n c, cs = [.slice (some a) n c] := by
      match cs, h with
      | [], h => simp [DataW.trod, hu] at h
      | [.slice none 0 0], _ => exact .inl rfl
      | [.slice none (n + 1) c], h => simp [DataW.trod, hu] at h
      | [.slice none 0 (c + 1)], h => simp [DataW.trod, hu] at h
      | [.slice (some a) n c], _ => exact .inr ⟨a, n, c, rfl⟩
      | [.bool _], h => simp [DataW.trod, hu] at h
      | [.int _ _], h => simp [DataW.trod, hu] at h
      | [.float _ _], h => simp [DataW.trod, hu] at h
      | [.complex _ _ _], h => simp [DataW.trod, hu] at h
      | [.string _], h => simp [DataW.trod, hu] at h
      | [.pointer _], h => simp [DataW.trod, hu] at h
      | [.map _], h => simp [DataW.trod, hu] at h
      | [.chan _], h => simp [DataW.trod, hu] at h
      | [.nilFunc], h => simp [DataW.trod, hu] at h
      | [.func _ _ _], h => simp [DataW.trod, hu] at h
      | [.nilIface], h => simp [DataW.trod, hu] at h
      | [.iface _ _], h => simp [DataW.trod, hu] at h
      | [.tuple _], h => simp [DataW.trod, hu] at h
      | [.agg _], h => simp [DataW.trod, hu] at h
      | _ :: _ :: _, h => simp [DataW.trod, hu] at h
    rcases shape with rfl | ⟨a, len, cap, rfl⟩
    · exact ⟨none, 0, 0, [], rfl, Nat.le_refl _, Nat.zero_le _, by simp, rfl, fun x hx => by simp at hx, At.nil _ _, fun _ => ⟨rfl, rfl⟩⟩
    · simp only [DataW.trod, hu] at h
      split at h
      · rename_i hc
        obtain ⟨_, hlc, hcm⟩ := hc
        let elemAt : Nat → Option (DataW H × List MemPlace) := fun i => (w.cells? 0 (a.add (i * P.cellsOf e)) (P.cellsOf e)).bind (DataW.trod enc P w 0 (fun _ => true) true m e)
        change ((List.range len).mapM elemAt).bind _ = _ at h
        cases hm1 : (List.range len).mapM elemAt with
        | none => rw [hm1] at h; cases h
        | some elems =>
          rw [hm1] at h
          simp only [Option.bind_some, if_true] at h
          change ((List.range (cap - len)).mapM fun j => elemAt (len + j)).map _ = _ at h
          cases hm2 : (List.range (cap - len)).mapM fun j => elemAt (len + j) with
          | none => rw [hm2] at h; cases h
          | some rest =>
            rw [hm2] at h
            simp only [Option.map_some, Option.some.injEq, Prod.mk.injEq] at h
            obtain ⟨rfl, _⟩ := h
            obtain ⟨a1, a2⟩ := mapM_some hm1
            obtain ⟨b1, b2⟩ := mapM_some hm2
            simp only [List.length_range] at a1 b1
            simp only [DataW.weights, hu, List.length_map, List.mem_cons, List.mem_append] at hw
            have all : ∀ i, i < cap → ∃ cs, w.cells? 0 (a.add (i * P.cellsOf e)) (P.cellsOf e) = some cs ∧ Arg P w e cs := by
              intro i hi
              have key : ∃ y, elemAt i = some y ∧ ((∃ j : Nat, elems[j]? = some y) ∨ ∃ j : Nat, rest[j]? = some y) := by
                rcases Nat.lt_or_ge i len with hl | hl
                · obtain ⟨y, hy, hf⟩ := a2 i i (List.getElem?_range hl)
                  exact ⟨y, hf, .inl ⟨i, hy⟩⟩
                · obtain ⟨y, hy, hf⟩ := b2 (i - len) (i - len) (List.getElem?_range (by omega))
                  rw [show len + (i - len) = i by omega] at hf
                  exact ⟨y, hf, .inr ⟨_, hy⟩⟩
              obtain ⟨y, hf, hy⟩ := key
              have hf' : (w.cells? 0 (a.add (i * P.cellsOf e)) (P.cellsOf e)).bind (DataW.trod enc P w 0 (fun _ => true) true m e) = some y := hf
              clear hf
              cases hcs : w.cells? 0 (a.add (i * P.cellsOf e)) (P.cellsOf e) with
              | none => rw [hcs] at hf'; cases hf'
              | some cs =>
                rw [hcs] at hf'
                have hf : DataW.trod enc P w 0 (fun _ => true) true m e cs = some y := hf'
                refine ⟨cs, rfl, H, enc, m, y.1, y.2, hf, fun k hk => hw k (.inr ?_)⟩
                rcases hy with ⟨j, hy⟩ | ⟨j, hy⟩
                · exact .inl (weightsAll_mem (List.mem_map.2 ⟨y, List.mem_of_getElem? hy, rfl⟩) k hk)
                · exact .inr (weightsAll_mem (List.mem_map.2 ⟨y, List.mem_of_getElem? hy, rfl⟩) k hk)
            obtain ⟨css, hcl, hcss⟩ : ∃ css : List (List Value), css.length = cap ∧ ∀ i x, css[i]? = some x → w.cells? 0 (a.add (i * P.cellsOf e)) (P.cellsOf e) = some x ∧ Arg P w e x := by
              refine ⟨(List.range cap).map fun i => (w.cells? 0 (a.add (i * P.cellsOf e)) (P.cellsOf e)).getD [], by simp, fun i x hx => ?_⟩
              rw [List.getElem?_map] at hx
              have hi : i < cap := by
                rcases Nat.lt_or_ge i cap with h' | h'
                · exact h'
                · rw [List.getElem?_eq_none (by simpa using h')] at hx; cases hx
              rw [List.getElem?_range hi] at hx
              obtain ⟨cs, h1, h2⟩ := all i hi
              simp only [Option.map_some, h1, Option.getD_some, Option.some.injEq] at hx
              subst hx
              exact ⟨h1, h2⟩
            have hlen : ∀ x ∈ css, x.length = P.cellsOf e := fun x hx => by
              obtain ⟨i, hi⟩ := List.mem_iff_getElem?.1 hx
              exact (cells?_some (hcss i x hi).1).1
            refine ⟨some a, len, cap, css, rfl, hlc, hcm, ?_, hcl, fun x hx => ?_, ?_, fun e => by cases e⟩
            · have := hw ((elems.length + rest.length) * P.bytesOf e) (.inl rfl)
              rw [a1, b1, show len + (cap - len) = cap by omega] at this
              exact this
            · obtain ⟨i, hi⟩ := List.mem_iff_getElem?.1 hx
              exact ⟨hlen x hx, (hcss i x hi).2⟩
            · cases hcz : css with
              | nil => exact .inl rfl
              | cons c0 r =>
                rw [← hcz]
                have h00 := cells?_some (hcss 0 c0 (by rw [hcz]; rfl)).1
                have hc0 : 0 < c0.length := by rw [h00.1]; exact h0
                have hcell := h00.2 0 c0[0] (by simp [hc0])
                obtain ⟨ab, ao, ag⟩ := a
                have hs : ag = none := by
                  cases ag with
                  | none => rfl
                  | some y =>
                    have e0 : ((⟨ab, ao, some y⟩ : Addr).add (0 * P.cellsOf e)).add 0 = ⟨ab, ao, some y⟩ := by rw [Nat.zero_mul, Addr.add_zero', Addr.add_zero']
                    rw [e0] at hcell
                    simp only [World.cell?, Option.isSome_some, if_true] at hcell
                    split at hcell <;> cases hcell
                subst hs
                refine .inr ⟨ab, ao, rfl, fun i v hv => ?_⟩
                have hdm : i = i / P.cellsOf e * P.cellsOf e + i % P.cellsOf e := by rw [Nat.mul_comm]; exact (Nat.div_add_mod _ _).symm
                have hj := Nat.mod_lt i h0
                rw [hdm, flatten_get hlen hj] at hv
                cases hx : css[i / P.cellsOf e]? with
                | none => rw [hx] at hv; cases hv
                | some x =>
                  rw [hx] at hv
                  have := (cells?_some (hcss _ x hx).1).2 _ v hv
                  rw [Addr.add_lit, Addr.add_lit] at this
                  rw [hdm, ← Nat.add_assoc]; exact this
      · cases h
end

/-- An argument at the top. -/
theorem Arg.of {H : Type} {enc : TypeId × Value → H} {P : Program} {w : World} {ts : List TypeId} {ds : List (DataW H)} {t : TypeId} {v : Value} {d : DataW H} {ps : List MemPlace} {j : Nat}
    (h : DataW.Trod enc P w 0 (fun _ => true) true t v d ps) (hz : (DataW.weightsEach P ts ds).all (· ≤ reachBytes) = true) (ht : ts[j]? = some t) (hd : ds[j]? = some d) : Arg P w t v.cells.toList := by
  obtain ⟨fuel, h⟩ := h
  refine ⟨H, enc, fuel, d, ps, h, fun n hn => ?_⟩
  have := List.all_eq_true.1 hz n (DataW.weights_mem_each ht hd n hn)
  exact of_decide_eq_true this

theorem agg_cells {P : Program} {w : World} {r : Reach} {base : Nat} {t : TypeId} {v : Value} (hu : isAggD (P.underlying t) = true) (h : Value.okWide P w r base t v) : ∃ cs, v = .agg cs ∧ v.cells.toList = cs.toList := by
  unfold Value.okWide at h
  split at h
  · obtain ⟨cs, rfl, _⟩ := h; exact ⟨cs, rfl, rfl⟩
  · obtain ⟨cs, rfl, _⟩ := h; exact ⟨cs, rfl, rfl⟩
  · rename_i h1 h2
    cases hh : P.underlying t with
    | none => rw [hh] at hu; cases hu
    | some d => cases d <;> simp_all [isAggD]

end Go.Vc

/- Values, rows and lists of rows as the memory bears them; how two values stand. Plain Lean, no program. -/
namespace Go.Vc
open Go Go.RowKit

/-! ### Numbers and texts, held against one another -/
def cmpI (x y : Int) : Int := if x < y then -1 else if y < x then 1 else 0
def cmpS (a b : ByteArray) : Int := Lib.compareBytes (tB a) (tB b)

theorem ba_toList (s : ByteArray) : s.toList = tB s := Lib.toList_data s
section
variable {α β : Type} {c d : α → α → Int}
def lexC (c d : α → α → Int) (x y : α) : Int := if c x y ≠ 0 then c x y else d x y
theorem Cmp.on (f : β → α) (hc : Cmp c) : Cmp fun x y => c (f x) (f y) := ⟨fun _ _ => hc.anti _ _, fun _ _ _ => hc.trans _ _ _⟩
theorem Cmp.neg (hc : Cmp c) : Cmp fun x y => - c x y := by
  refine ⟨fun x y => by rw [hc.anti x y], fun x y z h k => ?_⟩
  have h1 := hc.anti x y
  have h2 := hc.anti y z
  have h3 := hc.anti x z
  have := hc.trans z y x (by omega) (by omega)
  omega
theorem Cmp.none : Cmp (fun _ _ : α => (0 : Int)) := ⟨fun _ _ => by simp, fun _ _ _ _ _ => Int.le_refl 0⟩
end

/-! ### Values -/
structure Val where
  k : Int
  n : Int
  s : ByteArray

theorem Val.ext' {a b : Val} : a = b ↔ a.k = b.k ∧ a.n = b.n ∧ a.s = b.s := by cases a; cases b; simp
instance : DecidableEq Val := fun _ _ => decidable_of_iff _ Val.ext'.symm
instance : Inhabited Val := ⟨⟨0, 0, ⟨#[]⟩⟩⟩
def nullV : Val := ⟨0, 0, ⟨#[]⟩⟩
def numV (n : Int) : Val := ⟨1, n, ⟨#[]⟩⟩

def Val.cs (v : Val) : List Value := [.int .i64 v.k, .int .i64 v.n, .string v.s]
def Val.agg (v : Val) : Value := .agg #[.int .i64 v.k, .int .i64 v.n, .string v.s]
def i64F (x : Int) : Prop := -9223372036854775808 ≤ x ∧ x ≤ 9223372036854775807
def Val.fit (v : Val) : Prop := i64F v.k ∧ i64F v.n

theorem Val.cs_length (v : Val) : v.cs.length = 3 := rfl
theorem Val.cs_one (v : Val) : ∀ u ∈ v.cs, u.oneCell' = true := by
  intro u hu
  simp only [Val.cs, List.mem_cons, List.not_mem_nil, or_false] at hu
  rcases hu with rfl | rfl | rfl <;> rfl

/-- May a value be? -/
def Val.Ok (v : Val) : Prop := (v.k = 0 ∧ v.n = 0 ∧ v.s = ⟨#[]⟩) ∨ (v.k = 1 ∧ v.s = ⟨#[]⟩) ∨ (v.k = 2 ∧ (v.n = 0 ∨ v.n = 1) ∧ v.s = ⟨#[]⟩) ∨ (v.k = 3 ∧ v.n = 0 ∧ v.s.size ≤ 1024)
instance (v : Val) : Decidable v.Ok := by unfold Val.Ok; exact inferInstance
def Val.right (v : Val) : Bool := decide v.Ok
def rightL (l : List Val) : Bool := l.all Val.right

def cmpV : Val → Val → Int := lexC (fun a b => cmpI a.k b.k) (lexC (fun a b => cmpI a.n b.n) fun a b => cmpS a.s b.s)
theorem cmpV_def (a b : Val) : cmpV a b = if cmpI a.k b.k ≠ 0 then cmpI a.k b.k else if cmpI a.n b.n ≠ 0 then cmpI a.n b.n else cmpS a.s b.s := rfl
/-- The document's way to hold two values against one another. -/
def lessV (a b : Val) : Bool := if a.k ≠ b.k then decide (a.k < b.k) else if a.k = 3 then sLt a.s b.s else decide (a.n < b.n)
def rcmpV (a b : Val) : Int := if lessV a b then -1 else if lessV b a then 1 else 0
/-! ### Lists of things of some cells each -/
section
variable {α : Type}
structure Ls (enc : α → List Value) (w : World) (p : Option Addr) (n c : Nat) (l : List α) : Prop where
  len : l.length = n
  cap : n ≤ c ∧ c ≤ maxLen
  lies : At w p (l.flatMap enc)
  nil : p = none → n = 0 ∧ c = 0
variable {enc : α → List Value} {s : Nat} {w w' : World} {p : Option Addr} {n c : Nat} {l : List α}
theorem Ls.ext (h : Ls enc w p n c l) (e : Ext w w') : Ls enc w' p n c l := ⟨h.len, h.cap, h.lies.ext e, h.nil⟩
theorem Ls.le (h : Ls enc w p n c l) : n ≤ maxLen := Nat.le_trans h.cap.1 h.cap.2
theorem Ls.kept (h : Ls enc w p n c l) (hk : ∀ b o, p = some ⟨b, o, none⟩ → b < w.heap.size → w'.heap[b]? = w.heap[b]?) : Ls enc w' p n c l := ⟨h.len, h.cap, h.lies.kept hk, h.nil⟩
theorem Ls.nothing (enc : α → List Value) (w : World) : Ls enc w none 0 0 [] := ⟨rfl, ⟨Nat.le_refl _, Nat.zero_le _⟩, .inl rfl, fun _ => ⟨rfl, rfl⟩⟩
theorem flatMap_get {enc : α → List Value} (hs : ∀ x, (enc x).length = s) {i j : Nat} {x : α} (hi : l[i]? = some x) (hj : j < s) : (l.flatMap enc)[i * s + j]? = (enc x)[j]? := by
  rw [List.flatMap_def, flatten_get (s := s) (by intro y hy; obtain ⟨z, _, rfl⟩ := List.mem_map.1 hy; exact hs z) hj, List.getElem?_map, hi]
  rfl
/-- The cells of thing i. -/
theorem At.things (hs : ∀ x, (enc x).length = s) (h0 : 0 < s) (h : At w p (l.flatMap enc)) {i : Nat} {x : α} (hi : l[i]? = some x) :
    ∃ b o, p = some ⟨b, o, none⟩ ∧ ∀ j v, (enc x)[j]? = some v → w.cell? ⟨b, o + (i * s + j), none⟩ = some v := by
  rcases h with h | ⟨b, o, hp, hc⟩
  · have := flatMap_get (enc := enc) (s := s) hs hi h0
    rw [h] at this
    have h1 : (enc x)[0]? = some ((enc x)[0]'(by rw [hs]; exact h0)) := List.getElem?_eq_getElem _
    rw [h1] at this; simp at this
  · refine ⟨b, o, hp, fun j v hv => hc _ _ ?_⟩
    have hj : j < s := by rw [← hs x]; exact (List.getElem?_eq_some_iff.1 hv).1
    rw [flatMap_get hs hi hj, hv]
theorem flatMap_length (hs : ∀ x, (enc x).length = s) : ∀ l : List α, (l.flatMap enc).length = l.length * s
  | [] => by simp
  | x :: l => by rw [List.flatMap_cons, List.length_append, hs, flatMap_length hs l, List.length_cons, Nat.succ_mul, Nat.add_comm]
theorem flatMap_take (hs : ∀ x, (enc x).length = s) : ∀ (l : List α) (k : Nat), (l.take k).flatMap enc = (l.flatMap enc).take (k * s)
  | [], k => by simp
  | x :: l, 0 => by simp
  | x :: l, k + 1 => by
    rw [List.take_succ_cons, List.flatMap_cons, List.flatMap_cons, flatMap_take hs l k, Nat.succ_mul, Nat.add_comm, List.take_append, hs, Nat.add_sub_cancel_left, List.take_of_length_le (l := enc x) (by rw [hs]; omega)]
theorem flatMap_drop (hs : ∀ x, (enc x).length = s) : ∀ (l : List α) (k : Nat), (l.drop k).flatMap enc = (l.flatMap enc).drop (k * s)
  | [], k => by simp
  | x :: l, 0 => by simp
  | x :: l, k + 1 => by
    rw [List.drop_succ_cons, List.flatMap_cons, flatMap_drop hs l k, Nat.succ_mul, Nat.add_comm, List.drop_append, hs, Nat.add_sub_cancel_left, @List.drop_eq_nil_of_le _ (enc x) _ (by rw [hs]; omega), List.nil_append]
/-- s[lo:hi]. -/
theorem Ls.slice (hs : ∀ x, (enc x).length = s) (h : Ls enc w p n c l) {lo hi : Nat} (h1 : lo ≤ hi) (h2 : hi ≤ n) : Ls enc w (slBase p lo c s) (hi - lo) (c - lo) ((l.take hi).drop lo) := by
  have hc := h.cap
  refine ⟨by rw [List.length_drop, List.length_take, h.len]; omega, ⟨by omega, by omega⟩, ?_, fun e => ?_⟩
  · rw [flatMap_drop hs, flatMap_take hs]
    exact h.lies.slice lo hi c s (by omega)
  · have := h.nil (slBase_none e); omega
theorem Ls.take (hs : ∀ x, (enc x).length = s) (h : Ls enc w p n c l) {k : Nat} (h2 : k ≤ n) : Ls enc w p k c (l.take k) := by
  have hc := h.cap
  refine ⟨by rw [List.length_take, h.len]; omega, ⟨by omega, hc.2⟩, ?_, fun e => ?_⟩
  · rw [flatMap_take hs]; exact h.lies.take _
  · have := h.nil e; omega
/-- A row of our own that holds things. -/
theorem Mine.ls {B : Nat} {t : TypeId} (hs : ∀ x, (enc x).length = s) (h0 : 0 < s) (h : Mine B t s w p n c (l.flatMap enc)) : Ls enc w p n c l := by
  have h1 := h.len
  rw [flatMap_length hs] at h1
  exact ⟨Nat.eq_of_mul_eq_mul_right h0 h1, h.cap, h.at, h.isNil⟩
end

theorem Blk.c3 {w : World} {b : Nat} {t : TypeId} {x y z : Value} (h : Blk w b t #[x, y, z]) : w.cell? ⟨b, 0, none⟩ = some x ∧ w.cell? ⟨b, 1, none⟩ = some y ∧ w.cell? ⟨b, 2, none⟩ = some z :=
  ⟨by rw [h.cell]; rfl, by rw [h.cell]; rfl, by rw [h.cell]; rfl⟩

theorem and1_i64 (n : Int) : bits .and .i64 n 1 = n % 2 := by
  have e : bits .and .i64 n 1 = IntKind.i64.wrap (((BitVec.ofInt 64 n &&& 1#64).toNat : Nat) : Int) := rfl
  rw [e, BitVec.toNat_and, BitVec.toNat_ofInt, show (1#64).toNat = 1 from rfl, Nat.and_one_is_mod, i64_fit (by omega) (by omega)]
  omega

/-! ### Slices as things -/
structure Sl where
  p : Option Addr
  n : Nat
  c : Nat
def Sl.v (h : Sl) : Value := .slice h.p h.n h.c
def Sl.cs (h : Sl) : List Value := [.slice h.p h.n h.c]
theorem Sl.cs_length (h : Sl) : h.cs.length = 1 := rfl
theorem Sl.cs_one (h : Sl) : ∀ u ∈ h.cs, u.oneCell' = true := by intro u hu; simp [Sl.cs] at hu; subst hu; rfl

/-- Values in a row. -/
abbrev Vs := Ls Val.cs
/-- Rows: their heads hs, what they hold. -/
structure Rws (w : World) (p : Option Addr) (n c : Nat) (hs : List Sl) (L : List (List Val)) : Prop where
  heads : Ls Sl.cs w p n c hs
  rows : ∀ (i : Nat) (h : Sl) (r : List Val), hs[i]? = some h → L[i]? = some r → Vs w h.p h.n h.c r
  len : L.length = n
section
variable {w w' : World} {p : Option Addr} {n c : Nat} {hs : List Sl} {L : List (List Val)}
theorem Rws.ext (h : Rws w p n c hs L) (e : Ext w w') : Rws w' p n c hs L := ⟨h.heads.ext e, fun i x r hx hr => (h.rows i x r hx hr).ext e, h.len⟩
theorem Rws.hlen (h : Rws w p n c hs L) : hs.length = n := h.heads.len
theorem Rws.nothing (w : World) : Rws w none 0 0 [] [] := ⟨Ls.nothing _ w, by simp, rfl⟩
theorem Rws.get (h : Rws w p n c hs L) {i : Nat} {r : List Val} (hi : L[i]? = some r) : ∃ x, hs[i]? = some x ∧ Vs w x.p x.n x.c r ∧ ∃ b o, p = some ⟨b, o, none⟩ ∧ w.cell? ⟨b, o + i, none⟩ = some (.slice x.p x.n x.c) := by
  have hlt : i < hs.length := by rw [h.hlen, ← h.len]; exact (List.getElem?_eq_some_iff.1 hi).1
  obtain ⟨b, o, hp, hc⟩ := h.heads.lies.things Sl.cs_length (by decide) (List.getElem?_eq_getElem hlt)
  refine ⟨hs[i], List.getElem?_eq_getElem hlt, h.rows i _ _ (List.getElem?_eq_getElem hlt) hi, b, o, hp, ?_⟩
  have := hc 0 _ rfl
  simpa using this
theorem Ls.val {r : List Val} (h : Vs w p n c r) {i : Nat} {v : Val} (hi : r[i]? = some v) :
    ∃ b o, p = some ⟨b, o, none⟩ ∧ w.cell? ⟨b, o + i * 3, none⟩ = some (.int .i64 v.k) ∧ w.cell? ⟨b, o + i * 3 + 1, none⟩ = some (.int .i64 v.n) ∧ w.cell? ⟨b, o + i * 3 + 2, none⟩ = some (.string v.s) := by
  obtain ⟨b, o, hp, hc⟩ := h.lies.things Val.cs_length (by decide) hi
  exact ⟨b, o, hp, by have := hc 0 _ rfl; simpa [Nat.add_assoc] using this, by have := hc 1 _ rfl; rwa [← Nat.add_assoc] at this, by have := hc 2 _ rfl; rwa [← Nat.add_assoc] at this⟩
theorem Rws.take (h : Rws w p n c hs L) {k : Nat} (hk : k ≤ n) : Rws w p k c (hs.take k) (L.take k) :=
  ⟨h.heads.take Sl.cs_length hk, fun i x r hx hr => h.rows i x r (by rw [List.getElem?_take] at hx; split at hx; exact hx; cases hx) (by rw [List.getElem?_take] at hr; split at hr; exact hr; cases hr), by rw [List.length_take, h.len]; omega⟩
theorem Rws.le (h : Rws w p n c hs L) : n ≤ maxLen := h.heads.le
end

/-- The types and the places of a struct's fields. -/
def structOf (P : Program) (t : TypeId) : Option (List (TypeId × Nat)) := match P.underlying t with
  | some (.struct fs) => some (fs.toList.map fun f => (f.type, f.offset))
  | _ => none
theorem Arg.fields {P : Program} {w : World} {t : TypeId} {cs : List Value} {l : List (TypeId × Nat)} (hu : structOf P t = some l) (h : Arg P w t cs) :
    cs.length = P.cellsOf t ∧ ∀ x ∈ l, Arg P w x.1 ((cs.drop x.2).take (P.cellsOf x.1)) := by
  unfold structOf at hu
  split at hu
  · rename_i fs hfs
    cases hu
    obtain ⟨h1, h2⟩ := Arg.struct hfs h
    refine ⟨h1, fun x hx => ?_⟩
    obtain ⟨f, hf, rfl⟩ := List.mem_map.1 hx
    exact h2 f hf
  · cases hu
theorem arg_val {P : Program} {w : World} {t ti tn ts : TypeId} {cs : List Value} (hu : structOf P t = some [(ti, 0), (tn, 1), (ts, 2)]) (hc : P.cellsOf t = 3) (h1 : P.cellsOf ti = 1) (h2 : P.cellsOf tn = 1) (h3 : P.cellsOf ts = 1)
    (u1 : P.underlying ti = some (.int .i64)) (u2 : P.underlying tn = some (.int .i64)) (u3 : P.underlying ts = some .string) (h : Arg P w t cs) : ∃ v : Val, cs = v.cs ∧ v.fit := by
  obtain ⟨hl, hf⟩ := Arg.fields hu h
  rw [hc] at hl
  obtain ⟨a, b, d, rfl⟩ : ∃ a b d, cs = [a, b, d] := by
    match cs, hl with
    | [a, b, d], _ => exact ⟨a, b, d, rfl⟩
  have f1 := hf (ti, 0) (by simp)
  have f2 := hf (tn, 1) (by simp)
  have f3 := hf (ts, 2) (by simp)
  simp only [h1, h2, h3] at f1 f2 f3
  obtain ⟨k, e1, w1⟩ := Arg.int u1 f1
  obtain ⟨n, e2, w2⟩ := Arg.int u2 f2
  obtain ⟨s, e3, _⟩ := Arg.string u3 f3
  simp at e1 e2 e3
  subst e1 e2 e3
  exact ⟨⟨k, n, s⟩, rfl, wf_i64 w1, wf_i64 w2⟩
end Go.Vc

/- Maps with texts as keys: what a lookup and an update do, over a list of what the map holds. -/
namespace Go.Vc
open Go Go.RowKit

theorem ba_beq {a b : ByteArray} : (a == b) = true ↔ a = b := by
  constructor
  · intro h
    obtain ⟨a⟩ := a
    obtain ⟨b⟩ := b
    have : (a == b) = true := h
    rw [beq_iff_eq.1 this]
  · rintro rfl
    obtain ⟨a⟩ := a
    show (a == a) = true
    rw [beq_iff_eq]
instance : LawfulBEq ByteArray where
  rfl := ba_beq.2 rfl
  eq_of_beq := ba_beq.1
theorem ba_bne {a b : ByteArray} (h : ¬ a = b) : (a == b) = false := by rw [← Bool.not_eq_true, ba_beq]; exact h
/-- The entries es are those of l: texts and what they lead to. -/
def MapL (es : Array MapEntry) (l : List (ByteArray × Value)) : Prop := es.toList.map (fun e => (e.key, e.val)) = l.map fun p => (Value.string p.1, p.2)
def lookS (l : List (ByteArray × Value)) (s : ByteArray) : Option Value := match l with
  | [] => none
  | p :: r => if p.1 = s then some p.2 else lookS r s
def setS (l : List (ByteArray × Value)) (s : ByteArray) (v : Value) : List (ByteArray × Value) := match l with
  | [] => [(s, v)]
  | p :: r => if p.1 = s then (s, v) :: r else p :: setS r s v

theorem MapL.nil : MapL #[] [] := rfl
theorem lookS_setS (l : List (ByteArray × Value)) (s : ByteArray) (v : Value) (t : ByteArray) : lookS (setS l s v) t = if s = t then some v else lookS l t := by
  induction l with
  | nil => simp [setS, lookS]
  | cons p r ih =>
    unfold setS
    by_cases h : p.1 = s
    · rw [if_pos h]
      unfold lookS
      by_cases h2 : s = t
      · simp [h2]
      · have : ¬ p.1 = t := fun e => h2 (h.symm.trans e)
        simp [h2, this]
    · rw [if_neg h]
      unfold lookS
      by_cases h2 : p.1 = t
      · have : ¬ s = t := fun e => h (h2.trans e.symm)
        simp [h2, this]
      · simp only [h2, if_false]; exact ih

theorem findNow_none {s : ByteArray} : ∀ {el : List MapEntry} {l : List (ByteArray × Value)} (i : Nat), el.map (fun e => (e.key, e.val)) = l.map (fun p => (Value.string p.1, p.2)) → lookS l s = none → Instr.findNow .string (.string s) el i = some none
  | [], l, i, _, _ => rfl
  | e :: el, [], i, h, _ => by simp at h
  | e :: el, p :: l, i, h, hl => by
    simp only [List.map_cons, List.cons.injEq, Prod.mk.injEq] at h
    unfold lookS at hl
    split at hl
    · cases hl
    · rename_i hne
      unfold Instr.findNow
      rw [h.1.1]
      have : (s == p.1) = false := ba_bne fun e => hne e.symm
      simp only [Instr.sameNow, this]
      exact findNow_none (i + 1) h.2 hl
theorem findNow_some {s : ByteArray} {v : Value} : ∀ {el : List MapEntry} {l : List (ByteArray × Value)} (i : Nat), el.map (fun e => (e.key, e.val)) = l.map (fun p => (Value.string p.1, p.2)) → lookS l s = some v →
    ∃ j e, Instr.findNow .string (.string s) el i = some (some (i + j, v)) ∧ el[j]? = some e ∧ e.key = .string s ∧ ∀ v', (el.modify j fun e => { e with key := .string s, val := v' }).map (fun e => (e.key, e.val)) = (setS l s v').map fun p => (Value.string p.1, p.2)
  | [], [], i, _, h => by cases h
  | [], p :: l, i, h, _ => by simp at h
  | e :: el, [], i, h, _ => by simp at h
  | e :: el, p :: l, i, h, hl => by
    simp only [List.map_cons, List.cons.injEq, Prod.mk.injEq] at h
    unfold lookS at hl
    split at hl
    · rename_i heq
      cases hl
      refine ⟨0, e, ?_, rfl, by rw [h.1.1, heq], fun v' => ?_⟩
      · unfold Instr.findNow
        rw [h.1.1]
        have : (s == p.1) = true := ba_beq.2 heq.symm
        simp only [Instr.sameNow, this]
        rw [h.1.2]; rfl
      · unfold setS
        rw [if_pos heq]
        simp [List.modify, h.2]
    · rename_i hne
      obtain ⟨j, e', h1, h2, h3, h4⟩ := findNow_some (i + 1) h.2 hl
      refine ⟨j + 1, e', ?_, by simpa using h2, h3, fun v' => ?_⟩
      · unfold Instr.findNow
        rw [h.1.1]
        have : (s == p.1) = false := ba_bne fun e => hne e.symm
        simp only [Instr.sameNow, this]
        rw [h1, show i + 1 + j = i + (j + 1) by omega]
      · unfold setS
        rw [if_neg hne]
        simp only [List.modify_succ_cons, List.map_cons, h4 v', h.1.1, h.1.2]

section
variable {P : Program} {t kt e : TypeId} {w : World} {b : Nat} {es : Array MapEntry} {clock : Nat} {l : List (ByteArray × Value)} {s : ByteArray}
def zeroOf (P : Program) (t : TypeId) : Option Value := match P.info? t with | some i => i.zero | none => none
theorem run_zeroOf {z : Value} (h : zeroOf P e = some z) (w : World) : (zeroValue e).run P w = .ok z w := by
  unfold zeroOf at h
  split at h
  · rename_i i hi; exact run_zeroValue hi h w
  · cases h
theorem run_checkStr (hk : P.underlying kt = some .string) (em : Bool) : (Instr.checkKey em 10000 kt (.string s)).run P w = .ok () w := by
  unfold Instr.checkKey
  simp [run_underlying hk]
/-- m[s]. -/
theorem map_look (ht : P.underlying t = some (.map kt e)) (hk : P.underlying kt = some .string) {z : Value} (hz : (zeroValue e).run P w = .ok z w) (hb : w.heap[b]? = some (.map es clock)) (hl : MapL es l) :
    (Instr.lookup t (.map (some b)) (.string s) false).run P w = .ok ((lookS l s).getD z) w := by
  cases hs : lookS l s with
  | none =>
    have := findNow_none (s := s) 0 hl hs
    simp [Instr.lookup, run_underlying ht, MapKept.run_getObj_map hb, run_checkStr hk, Instr.findKey, run_underlying hk, this, hz]
  | some v =>
    obtain ⟨j, e', h1, _, _, _⟩ := findNow_some (s := s) 0 hl hs
    simp [Instr.lookup, run_underlying ht, MapKept.run_getObj_map hb, run_checkStr hk, Instr.findKey, run_underlying hk, h1]
theorem sameBits_str (s : ByteArray) : Instr.sameBits 10000 (.string s) (.string s) = true := by
  unfold Instr.sameBits
  exact ba_beq.2 rfl
/-- m[s] = v. -/
theorem map_set (ht : P.underlying t = some (.map kt e)) (hk : P.underlying kt = some .string) (hb : w.heap[b]? = some (.map es clock)) (hl : MapL es l) (v : Value) :
    ∃ w' es' clock', (Instr.mapUpdate t (.map (some b)) (.string s) v).run P w = .ok () w' ∧ w'.heap[b]? = some (.map es' clock') ∧ MapL es' (setS l s v) ∧ But b w w' ∧ w'.heap.size = w.heap.size := by
  have hlt : b < w.heap.size := (Array.getElem?_eq_some_iff.1 hb).1
  have fin : ∀ o, But b w { w with heap := w.heap.setIfInBounds b o } ∧ ({ w with heap := w.heap.setIfInBounds b o } : World).heap.size = w.heap.size ∧ ({ w with heap := w.heap.setIfInBounds b o } : World).heap[b]? = some o := fun o =>
    ⟨⟨rfl, rfl, rfl, by simp, fun k _ hne => by simp [Array.getElem?_setIfInBounds, Ne.symm hne]⟩, by simp, by simp [hlt]⟩
  cases hs : lookS l s with
  | none =>
    have h1 := findNow_none (s := s) 0 hl hs
    refine ⟨_, es.push { key := .string s, val := v, born := clock }, clock + 1, ?_, (fin _).2.2, ?_, (fin _).1, (fin _).2.1⟩
    · simp [Instr.mapUpdate, run_underlying ht, MapKept.run_getObj_map hb, run_checkStr hk, Instr.findKey, run_underlying hk, h1, MapKept.run_setObj_map _ hb]
    · have : setS l s v = l ++ [(s, v)] := by
        clear h1 hl
        induction l with
        | nil => rfl
        | cons p r ih =>
          unfold lookS at hs
          split at hs
          · cases hs
          · rename_i hne
            unfold setS
            rw [if_neg hne, ih hs]; rfl
      unfold MapL at hl ⊢
      rw [this, Array.toList_push, List.map_append, hl, List.map_append]
      rfl
  | some v0 =>
    obtain ⟨j, e', h1, h2, h3, h4⟩ := findNow_some (s := s) 0 hl hs
    rw [Nat.zero_add] at h1
    have hj : es[j]? = some e' := by simpa using h2
    refine ⟨_, es.modify j fun e => { e with key := .string s, val := v }, clock, ?_, (fin _).2.2, ?_, (fin _).1, (fin _).2.1⟩
    · simp [Instr.mapUpdate, run_underlying ht, MapKept.run_getObj_map hb, run_checkStr hk, Instr.findKey, run_underlying hk, h1, hj, h3, Instr.keyThatStays, sameBits_str, MapKept.run_setObj_map _ hb]
    · have := h4 v
      unfold MapL
      rw [Array.toList_modify]
      exact this
end
end Go.Vc

/- Schemas: names, columns, rows that fit. Plain Lean, no program. -/
namespace Go.Vc
open Go Go.RowKit

/-! ### Names -/
def letterB (c : UInt8) : Bool := decide (97 ≤ c.toNat ∧ c.toNat ≤ 122)
def otherB (c : UInt8) : Bool := letterB c || decide (48 ≤ c.toNat ∧ c.toNat ≤ 57) || decide (c.toNat = 95)
def isNameL : List UInt8 → Bool
  | [] => false
  | c :: r => letterB c && r.all otherB && decide ((c :: r).length ≤ 24)
def isName (s : ByteArray) : Bool := isNameL (tB s)

/-! ### Columns -/
structure Col where
  name : ByteArray
  kind : Int
  null : Bool
theorem Col.ext' {a b : Col} : a = b ↔ a.name = b.name ∧ a.kind = b.kind ∧ a.null = b.null := by cases a; cases b; simp
instance : DecidableEq Col := fun _ _ => decidable_of_iff _ Col.ext'.symm
def Col.cs (c : Col) : List Value := [.string c.name, .int .i64 c.kind, .bool c.null]
def Col.agg (x : Col) : Value := .agg #[.string x.name, .int .i64 x.kind, .bool x.null]
theorem Col.cs_length (c : Col) : c.cs.length = 3 := rfl
theorem Col.cs_one (v : Col) : ∀ u ∈ v.cs, u.oneCell' = true := by
  intro u hu
  simp only [Col.cs, List.mem_cons, List.not_mem_nil, or_false] at hu
  rcases hu with rfl | rfl | rfl <;> rfl
abbrev Cols := Ls Col.cs
theorem Ls.col {w : World} {p : Option Addr} {n c : Nat} {l : List Col} (h : Cols w p n c l) {i : Nat} {x : Col} (hi : l[i]? = some x) :
    ∃ b o, p = some ⟨b, o, none⟩ ∧ w.cell? ⟨b, o + i * 3, none⟩ = some (.string x.name) ∧ w.cell? ⟨b, o + i * 3 + 1, none⟩ = some (.int .i64 x.kind) ∧ w.cell? ⟨b, o + i * 3 + 2, none⟩ = some (.bool x.null) := by
  obtain ⟨b, o, hp, hc⟩ := h.lies.things Col.cs_length (by decide) hi
  exact ⟨b, o, hp, by have := hc 0 _ rfl; simpa [Nat.add_assoc] using this, by have := hc 1 _ rfl; rwa [← Nat.add_assoc] at this, by have := hc 2 _ rfl; rwa [← Nat.add_assoc] at this⟩

/-- One column, after those of the names 'met'. -/
def colOk (met : List ByteArray) (c : Col) : Bool := isName c.name && !(met.contains c.name) && decide (1 ≤ c.kind ∧ c.kind ≤ 3)
def colsOk : List ByteArray → List Col → Bool
  | _, [] => true
  | met, c :: r => colOk met c && colsOk (met ++ [c.name]) r
def rightC (cols : List Col) : Bool := decide (1 ≤ cols.length ∧ cols.length ≤ 16) && colsOk [] cols
/-- Where a column stands, or -1. -/
def findC : List Col → ByteArray → Int
  | [], _ => -1
  | c :: r, s => if c.name = s then 0 else if findC r s < 0 then -1 else findC r s + 1
theorem findC_range : ∀ (l : List Col) (s : ByteArray), -1 ≤ findC l s ∧ findC l s < (l.length : Int)
  | [], _ => by simp [findC]
  | c :: r, s => by
    have := findC_range r s
    unfold findC
    simp only [List.length_cons]
    split
    · omega
    · split <;> omega
/-- The first place that has the name. -/
theorem findC_at {l : List Col} {s : ByteArray} {k : Nat} {x : Col} (hx : l[k]? = some x) (hn : x.name = s) (hb : ∀ (j : Nat) y, j < k → l[j]? = some y → y.name ≠ s) : findC l s = (k : Int) := by
  induction l generalizing k with
  | nil => simp at hx
  | cons c r ih =>
    cases k with
    | zero => cases hx; unfold findC; rw [if_pos hn]; rfl
    | succ k =>
      have h0 := hb 0 c (by omega) rfl
      have := ih (k := k) (by simpa using hx) fun j y hj hy => hb (j + 1) y (by omega) (by simpa using hy)
      unfold findC
      rw [if_neg h0, this, if_neg (by omega)]
      omega
theorem findC_none {l : List Col} {s : ByteArray} (hb : ∀ x ∈ l, x.name ≠ s) : findC l s = -1 := by
  induction l with
  | nil => rfl
  | cons c r ih =>
    unfold findC
    rw [if_neg (hb c (by simp)), ih fun x hx => hb x (by simp [hx])]
    rfl
theorem findC_get {l : List Col} {s : ByteArray} (h : 0 ≤ findC l s) : ∃ x, l[(findC l s).toNat]? = some x ∧ x.name = s := by
  induction l with
  | nil => simp [findC] at h
  | cons c r ih =>
    unfold findC at h ⊢
    split
    · exact ⟨c, rfl, ‹_›⟩
    · rename_i hne
      rw [if_neg hne] at h
      split at h
      · omega
      · rename_i hge
        rw [if_neg hge]
        obtain ⟨x, hx, hn⟩ := ih (by omega)
        exact ⟨x, by rw [show (findC r s + 1).toNat = (findC r s).toNat + 1 by omega]; simpa using hx, hn⟩

theorem colsOk_append (met : List ByteArray) (a b : List Col) : colsOk met (a ++ b) = (colsOk met a && colsOk (met ++ a.map Col.name) b) := by
  induction a generalizing met with
  | nil => simp [colsOk]
  | cons c a ih => simp [colsOk, ih, Bool.and_assoc]
/-- The document's look at one column. -/
def colRef (cols : List Col) (i : Nat) (c : Col) : Bool := isName c.name && decide (findC cols c.name = (i : Int)) && decide (1 ≤ c.kind ∧ c.kind ≤ 3)
/-! ### Rows that fit -/
def valFits (c : Col) (v : Val) : Bool := v.right && (decide (v.k = c.kind) || (c.null && decide (v.k = 0)))
def fitsL : List Col → List Val → Bool
  | [], [] => true
  | c :: cs, v :: vs => valFits c v && fitsL cs vs
  | _, _ => false
def fitsC (cols : List Col) (row : List Val) : Bool := rightC cols && fitsL cols row
theorem fitsL_length : ∀ {a : List Col} {b : List Val}, fitsL a b = true → a.length = b.length
  | [], [], _ => rfl
  | _ :: _, _ :: _, h => by
    unfold fitsL at h
    rw [Bool.and_eq_true] at h
    simp [fitsL_length h.2]
  | [], _ :: _, h => by cases h
  | _ :: _, [], h => by cases h
theorem fitsL_drop {a : List Col} {b : List Val} {k : Nat} {c : Col} {v : Val} (hc : a[k]? = some c) (hv : b[k]? = some v) : fitsL (a.drop k) (b.drop k) = (valFits c v && fitsL (a.drop (k + 1)) (b.drop (k + 1))) := by
  obtain ⟨h1, rfl⟩ := List.getElem?_eq_some_iff.1 hc
  obtain ⟨h2, rfl⟩ := List.getElem?_eq_some_iff.1 hv
  rw [List.drop_eq_getElem_cons h1, List.drop_eq_getElem_cons h2]
  rfl
theorem fitsL_get {a : List Col} {b : List Val} (h : fitsL a b = true) {k : Nat} {c : Col} {v : Val} (hc : a[k]? = some c) (hv : b[k]? = some v) : valFits c v = true := by
  induction a generalizing b k with
  | nil => simp at hc
  | cons x a ih =>
    cases b with
    | nil => simp at hv
    | cons y b =>
      unfold fitsL at h
      rw [Bool.and_eq_true] at h
      cases k with
      | zero => cases hc; cases hv; exact h.1
      | succ k => exact ih h.2 (by simpa using hc) (by simpa using hv)
end Go.Vc

/- What is handed in, opened, with the depth that is left: for things that hold things of their own type. -/
namespace Go.Vc
open Go Go.RowKit

/-- As 'Arg', of a depth that is told. -/
def ArgF (f : Nat) (P : Program) (w : World) (t : TypeId) (cs : List Value) : Prop :=
  ∃ (H : Type) (enc : TypeId × Value → H) (d : DataW H) (ps : List MemPlace), DataW.trod enc P w 0 (fun _ => true) true f t cs = some (d, ps) ∧ ∀ n ∈ d.weights P t, n ≤ 140737488351232
theorem Arg.told {P : Program} {w : World} {t : TypeId} {cs : List Value} (h : Arg P w t cs) : ∃ f, ArgF f P w t cs := by
  obtain ⟨H, enc, f, d, ps, h, hw⟩ := h
  exact ⟨f, H, enc, d, ps, h, hw⟩
theorem ArgF.arg {f : Nat} {P : Program} {w : World} {t : TypeId} {cs : List Value} (h : ArgF f P w t cs) : Arg P w t cs := by
  obtain ⟨H, enc, d, ps, h, hw⟩ := h
  exact ⟨H, enc, f, d, ps, h, hw⟩
theorem ArgF.pos {f : Nat} {P : Program} {w : World} {t : TypeId} {cs : List Value} (h : ArgF f P w t cs) : ∃ n, f = n + 1 := by
  obtain ⟨H, enc, d, ps, h, hw⟩ := h
  cases f with
  | zero => cases h
  | succ n => exact ⟨n, rfl⟩
section
variable {P : Program} {w : World} {t : TypeId} {cs : List Value}

theorem ArgF.struct {fs : Array Field} {n : Nat} (hu : P.underlying t = some (.struct fs)) (h : ArgF (n + 1) P w t cs) : cs.length = P.cellsOf t ∧ ∀ f ∈ fs.toList, ArgF n P w f.type ((cs.drop f.offset).take (P.cellsOf f.type)) := by
  obtain ⟨H, enc, d, ps, h, hw⟩ := h
  · simp only [DataW.trod, hu] at h
    split at h
    · rename_i hl
      refine ⟨hl, fun f hf => ?_⟩
      cases hm : fs.toList.mapM fun f => DataW.trod enc P w 0 (fun _ => true) true n f.type ((cs.drop f.offset).take (P.cellsOf f.type)) with
      | none => rw [hm] at h; cases h
      | some xs =>
        rw [hm] at h
        cases h
        obtain ⟨i, hi⟩ := List.mem_iff_getElem?.1 hf
        obtain ⟨h1, h2⟩ := mapM_some hm
        obtain ⟨y, hy, hfy⟩ := h2 i f hi
        refine ⟨H, enc, y.1, y.2, hfy, fun k hk => hw k ?_⟩
        simp only [DataW.weights, hu]
        exact DataW.weights_mem_each (j := i) (by simp [hi]) (by simp [hy]) k hk
    · cases h

theorem ArgF.slice {e : TypeId} {m : Nat} (hu : P.underlying t = some (.slice e)) (h0 : 0 < P.cellsOf e) (h : ArgF (m + 1) P w t cs) :
    ∃ (p : Option Addr) (n c : Nat) (css : List (List Value)), cs = [.slice p n c] ∧ n ≤ c ∧ c ≤ maxLen ∧ c * P.bytesOf e ≤ 140737488351232 ∧ css.length = c ∧ (∀ x ∈ css, x.length = P.cellsOf e ∧ ArgF m P w e x) ∧ At w p css.flatten ∧ (p = none → n = 0 ∧ c = 0) := by
  obtain ⟨H, enc, d, ps, h, hw⟩ := h
  · have shape : (cs = [.slice none 0 0]) ∨ ∃ a n c, cs = [.slice (some a) n c] := by
      match cs, h with
      | [], h => simp [DataW.trod, hu] at h
      | [.slice none 0 0], _ => exact .inl rfl
      | [.slice none (n + 1) c], h => simp [DataW.trod, hu] at h
      | [.slice none 0 (c + 1)], h => simp [DataW.trod, hu] at h
      | [.slice (some a) n c], _ => exact .inr ⟨a, n, c, rfl⟩
      | [.bool _], h => simp [DataW.trod, hu] at h
      | [.int _ _], h => simp [DataW.trod, hu] at h
      | [.float _ _], h => simp [DataW.trod, hu] at h
      | [.complex _ _ _], h => simp [DataW.trod, hu] at h
      | [.string _], h => simp [DataW.trod, hu] at h
      | [.pointer _], h => simp [DataW.trod, hu] at h
      | [.map _], h => simp [DataW.trod, hu] at h
      | [.chan _], h => simp [DataW.trod, hu] at h
      | [.nilFunc], h => simp [DataW.trod, hu] at h
      | [.func _ _ _], h => simp [DataW.trod, hu] at h
      | [.nilIface], h => simp [DataW.trod, hu] at h
      | [.iface _ _], h => simp [DataW.trod, hu] at h
      | [.tuple _], h => simp [DataW.trod, hu] at h
      | [.agg _], h => simp [DataW.trod, hu] at h
      | _ :: _ :: _, h => simp [DataW.trod, hu] at h
    rcases shape with rfl | ⟨a, len, cap, rfl⟩
    · exact ⟨none, 0, 0, [], rfl, Nat.le_refl _, Nat.zero_le _, by simp, rfl, fun x hx => by simp at hx, At.nil _ _, fun _ => ⟨rfl, rfl⟩⟩
    · simp only [DataW.trod, hu] at h
      split at h
      · rename_i hc
        obtain ⟨_, hlc, hcm⟩ := hc
        let elemAt : Nat → Option (DataW H × List MemPlace) := fun i => (w.cells? 0 (a.add (i * P.cellsOf e)) (P.cellsOf e)).bind (DataW.trod enc P w 0 (fun _ => true) true m e)
        change ((List.range len).mapM elemAt).bind _ = _ at h
        cases hm1 : (List.range len).mapM elemAt with
        | none => rw [hm1] at h; cases h
        | some elems =>
          rw [hm1] at h
          simp only [Option.bind_some, if_true] at h
          change ((List.range (cap - len)).mapM fun j => elemAt (len + j)).map _ = _ at h
          cases hm2 : (List.range (cap - len)).mapM fun j => elemAt (len + j) with
          | none => rw [hm2] at h; cases h
          | some rest =>
            rw [hm2] at h
            simp only [Option.map_some, Option.some.injEq, Prod.mk.injEq] at h
            obtain ⟨rfl, _⟩ := h
            obtain ⟨a1, a2⟩ := mapM_some hm1
            obtain ⟨b1, b2⟩ := mapM_some hm2
            simp only [List.length_range] at a1 b1
            simp only [DataW.weights, hu, List.length_map, List.mem_cons, List.mem_append] at hw
            have all : ∀ i, i < cap → ∃ cs, w.cells? 0 (a.add (i * P.cellsOf e)) (P.cellsOf e) = some cs ∧ ArgF m P w e cs := by
              intro i hi
              have key : ∃ y, elemAt i = some y ∧ ((∃ j : Nat, elems[j]? = some y) ∨ ∃ j : Nat, rest[j]? = some y) := by
                rcases Nat.lt_or_ge i len with hl | hl
                · obtain ⟨y, hy, hf⟩ := a2 i i (List.getElem?_range hl)
                  exact ⟨y, hf, .inl ⟨i, hy⟩⟩
                · obtain ⟨y, hy, hf⟩ := b2 (i - len) (i - len) (List.getElem?_range (by omega))
                  rw [show len + (i - len) = i by omega] at hf
                  exact ⟨y, hf, .inr ⟨_, hy⟩⟩
              obtain ⟨y, hf, hy⟩ := key
              have hf' : (w.cells? 0 (a.add (i * P.cellsOf e)) (P.cellsOf e)).bind (DataW.trod enc P w 0 (fun _ => true) true m e) = some y := hf
              clear hf
              cases hcs : w.cells? 0 (a.add (i * P.cellsOf e)) (P.cellsOf e) with
              | none => rw [hcs] at hf'; cases hf'
              | some cs =>
                rw [hcs] at hf'
                have hf : DataW.trod enc P w 0 (fun _ => true) true m e cs = some y := hf'
                refine ⟨cs, rfl, H, enc, y.1, y.2, hf, fun k hk => hw k (.inr ?_)⟩
                rcases hy with ⟨j, hy⟩ | ⟨j, hy⟩
                · exact .inl (weightsAll_mem (List.mem_map.2 ⟨y, List.mem_of_getElem? hy, rfl⟩) k hk)
                · exact .inr (weightsAll_mem (List.mem_map.2 ⟨y, List.mem_of_getElem? hy, rfl⟩) k hk)
            obtain ⟨css, hcl, hcss⟩ : ∃ css : List (List Value), css.length = cap ∧ ∀ i x, css[i]? = some x → w.cells? 0 (a.add (i * P.cellsOf e)) (P.cellsOf e) = some x ∧ ArgF m P w e x := by
              refine ⟨(List.range cap).map fun i => (w.cells? 0 (a.add (i * P.cellsOf e)) (P.cellsOf e)).getD [], by simp, fun i x hx => ?_⟩
              rw [List.getElem?_map] at hx
              have hi : i < cap := by
                rcases Nat.lt_or_ge i cap with h' | h'
                · exact h'
                · rw [List.getElem?_eq_none (by simpa using h')] at hx; cases hx
              rw [List.getElem?_range hi] at hx
              obtain ⟨cs, h1, h2⟩ := all i hi
              simp only [Option.map_some, h1, Option.getD_some, Option.some.injEq] at hx
              subst hx
              exact ⟨h1, h2⟩
            have hlen : ∀ x ∈ css, x.length = P.cellsOf e := fun x hx => by
              obtain ⟨i, hi⟩ := List.mem_iff_getElem?.1 hx
              exact (cells?_some (hcss i x hi).1).1
            refine ⟨some a, len, cap, css, rfl, hlc, hcm, ?_, hcl, fun x hx => ?_, ?_, fun e => by cases e⟩
            · have := hw ((elems.length + rest.length) * P.bytesOf e) (.inl rfl)
              rw [a1, b1, show len + (cap - len) = cap by omega] at this
              exact this
            · obtain ⟨i, hi⟩ := List.mem_iff_getElem?.1 hx
              exact ⟨hlen x hx, (hcss i x hi).2⟩
            · cases hcz : css with
              | nil => exact .inl rfl
              | cons c0 r =>
                rw [← hcz]
                have h00 := cells?_some (hcss 0 c0 (by rw [hcz]; rfl)).1
                have hc0 : 0 < c0.length := by rw [h00.1]; exact h0
                have hcell := h00.2 0 c0[0] (by simp [hc0])
                obtain ⟨ab, ao, ag⟩ := a
                have hs : ag = none := by
                  cases ag with
                  | none => rfl
                  | some y =>
                    have e0 : ((⟨ab, ao, some y⟩ : Addr).add (0 * P.cellsOf e)).add 0 = ⟨ab, ao, some y⟩ := by rw [Nat.zero_mul, Addr.add_zero', Addr.add_zero']
                    rw [e0] at hcell
                    simp only [World.cell?, Option.isSome_some, if_true] at hcell
                    split at hcell <;> cases hcell
                subst hs
                refine .inr ⟨ab, ao, rfl, fun i v hv => ?_⟩
                have hdm : i = i / P.cellsOf e * P.cellsOf e + i % P.cellsOf e := by rw [Nat.mul_comm]; exact (Nat.div_add_mod _ _).symm
                have hj := Nat.mod_lt i h0
                rw [hdm, flatten_get hlen hj] at hv
                cases hx : css[i / P.cellsOf e]? with
                | none => rw [hx] at hv; cases hv
                | some x =>
                  rw [hx] at hv
                  have := (cells?_some (hcss _ x hx).1).2 _ v hv
                  rw [Addr.add_lit, Addr.add_lit] at this
                  rw [hdm, ← Nat.add_assoc]; exact this
      · cases h
end


end Go.Vc

/- Expressions: as the memory bears them; which are well formed. Plain Lean, no program. -/
namespace Go.Vc
open Go Go.RowKit

inductive Ex where
  | mk (op : Int) (name : ByteArray) (v : Val) (kids : List Ex)
def Ex.op : Ex → Int | .mk o _ _ _ => o
def Ex.name : Ex → ByteArray | .mk _ n _ _ => n
def Ex.v : Ex → Val | .mk _ _ v _ => v
def Ex.kids : Ex → List Ex | .mk _ _ _ k => k

mutual
def ExAt (w : World) : Ex → List Value → Prop
  | .mk op name v kids, cs => ∃ (p : Option Addr) (n c : Nat) (css : List (List Value)), cs = [.int .i64 op, .string name, .int .i64 v.k, .int .i64 v.n, .string v.s, .slice p n c] ∧ (n ≤ c ∧ c ≤ maxLen) ∧ (p = none → n = 0 ∧ c = 0) ∧ css.length = n ∧
      (∀ x ∈ css, x.length = 6) ∧ At w p css.flatten ∧ ExsAt w kids css
def ExsAt (w : World) : List Ex → List (List Value) → Prop
  | [], [] => True
  | x :: xs, c :: cs => ExAt w x c ∧ ExsAt w xs cs
  | [], _ :: _ => False
  | _ :: _, [] => False
end

theorem ExsAt.length {w : World} : ∀ {xs : List Ex} {css : List (List Value)}, ExsAt w xs css → css.length = xs.length
  | [], [], _ => rfl
  | x :: xs, c :: cs, h => by
    unfold ExsAt at h
    simp [ExsAt.length h.2]
  | [], _ :: _, h => by unfold ExsAt at h; exact h.elim
  | _ :: _, [], h => by unfold ExsAt at h; exact h.elim
theorem ExsAt.get {w : World} : ∀ {xs : List Ex} {css : List (List Value)}, ExsAt w xs css → ∀ {i : Nat} {x : Ex}, xs[i]? = some x → ∃ c, css[i]? = some c ∧ ExAt w x c
  | [], [], _, i, x, hx => by simp at hx
  | x :: xs, c :: cs, h, i, y, hy => by
    unfold ExsAt at h
    cases i with
    | zero => cases hy; exact ⟨c, rfl, h.1⟩
    | succ i =>
      obtain ⟨c', h1, h2⟩ := ExsAt.get h.2 (i := i) (by simpa using hy)
      exact ⟨c', by simpa using h1, h2⟩
  | [], _ :: _, h, _, _, _ => by unfold ExsAt at h; exact h.elim
  | _ :: _, [], h, _, _, _ => by unfold ExsAt at h; exact h.elim
mutual
theorem ExAt.ext {w w' : World} (e : Ext w w') : ∀ {x : Ex} {cs : List Value}, ExAt w x cs → ExAt w' x cs
  | .mk op name v kids, cs, h => by
    unfold ExAt at h ⊢
    obtain ⟨p, n, c, css, h1, h2, h3, h4, h5, h6, h7⟩ := h
    exact ⟨p, n, c, css, h1, h2, h3, h4, h5, h6.ext e, ExsAt.ext e h7⟩
theorem ExsAt.ext {w w' : World} (e : Ext w w') : ∀ {xs : List Ex} {css : List (List Value)}, ExsAt w xs css → ExsAt w' xs css
  | [], [], _ => by unfold ExsAt; trivial
  | x :: xs, c :: cs, h => by
    unfold ExsAt at h ⊢
    exact ⟨ExAt.ext e h.1, ExsAt.ext e h.2⟩
  | [], _ :: _, h => by unfold ExsAt at h; exact h.elim
  | _ :: _, [], h => by unfold ExsAt at h; exact h.elim
end
/-- An expression's cells, and its kids. -/
theorem ExAt.cells {w : World} {x : Ex} {cs : List Value} (h : ExAt w x cs) : ∃ (p : Option Addr) (n c : Nat), cs = [.int .i64 x.op, .string x.name, .int .i64 x.v.k, .int .i64 x.v.n, .string x.v.s, .slice p n c] ∧ (n ≤ c ∧ c ≤ maxLen) ∧ x.kids.length = n ∧ (p = none → n = 0 ∧ c = 0) ∧
    ∀ {w' : World}, Ext w w' → ∀ {i : Nat} {k : Ex}, x.kids[i]? = some k → ∃ kc b o, ExAt w' k kc ∧ p = some ⟨b, o, none⟩ ∧ ∀ (j : Nat) v, kc[j]? = some v → w'.cell? ⟨b, o + (i * 6 + j), none⟩ = some v := by
  obtain ⟨op, name, v, kids⟩ := x
  unfold ExAt at h
  obtain ⟨p, n, c, css, h1, h2, h3, h4, h5, h6, h7⟩ := h
  refine ⟨p, n, c, h1, h2, by rw [← h4, h7.length]; rfl, h3, fun {w'} e {i} {k} hk => ?_⟩
  obtain ⟨kc, hkc, hx⟩ := h7.get hk
  rcases h6 with h6 | ⟨b, o, hp, hc⟩
  · exfalso
    have hl := h5 kc (List.mem_of_getElem? hkc)
    have := flatten_get (css := css) (s := 6) h5 (i := i) (j := 0) (by decide)
    rw [h6, hkc] at this
    have h0 : kc[0]? = some (kc[0]'(by omega)) := List.getElem?_eq_getElem _
    simp [h0] at this
  · refine ⟨kc, b, o, hx.ext e, hp, fun j v hv => cell_ext (hc _ _ ?_) e⟩
    have hj : j < 6 := by rw [← h5 kc (List.mem_of_getElem? hkc)]; exact (List.getElem?_eq_some_iff.1 hv).1
    rw [flatten_get h5 hj, hkc]
    exact hv

/-! ### Which are well formed -/
def manyOf (op : Int) : Int := if op = 1 ∨ op = 2 then 0 else if op = 8 ∨ op = 14 ∨ op = 15 ∨ op = 16 then 1 else if 3 ≤ op ∧ op ≤ 13 then 2 else -1
def NodeOk (x : Ex) : Prop := (x.kids.length : Int) = manyOf x.op ∧ (x.op = 1 ∨ x.name = ⟨#[]⟩) ∧ (x.op = 2 ∨ x.v = nullV) ∧ x.v.Ok
instance (x : Ex) : Decidable (NodeOk x) := by unfold NodeOk; exact inferInstance
mutual
def nodesT : Ex → List Ex
  | .mk o n v ks => .mk o n v ks :: nodesTs ks
def nodesTs : List Ex → List Ex
  | [] => []
  | k :: r => nodesT k ++ nodesTs r
end
mutual
def depthT : Ex → Nat
  | .mk _ _ _ ks => 1 + depthTs ks
def depthTs : List Ex → Nat
  | [] => 0
  | k :: r => max (depthT k) (depthTs r)
end
def FormedP (x : Ex) : Prop := (∀ y ∈ nodesT x, NodeOk y) ∧ depthT x ≤ 40 ∧ (nodesT x).length ≤ 400
instance (x : Ex) : Decidable (FormedP x) := by unfold FormedP; exact inferInstance
def formedB (x : Ex) : Bool := decide (FormedP x)

mutual
/-- The program's walk: no deeper than may be. -/
def walkT : Ex → Nat → List (Nat × Ex)
  | .mk o n v ks, d => (d, .mk o n v ks) :: (if 40 < d then [] else walkTs ks (d + 1))
def walkTs : List Ex → Nat → List (Nat × Ex)
  | [], _ => []
  | k :: r, d => walkT k d ++ walkTs r d
end
def goW : List (Nat × Ex) → Nat → Bool
  | [], _ => true
  | p :: r, m => if 40 < p.1 ∨ 400 < m + 1 ∨ ¬ NodeOk p.2 then false else goW r (m + 1)
theorem goW_iff : ∀ (l : List (Nat × Ex)) (m : Nat), m ≤ 400 → (goW l m = true ↔ (∀ p ∈ l, p.1 ≤ 40 ∧ NodeOk p.2) ∧ m + l.length ≤ 400)
  | [], m, hm => by simp [goW, hm]
  | p :: r, m, hm => by
    unfold goW
    split
    · rename_i h
      constructor
      · intro h'; cases h'
      · rintro ⟨h1, h2⟩
        have := h1 p (by simp)
        simp only [List.length_cons] at h2
        rcases h with h | h | h
        · omega
        · omega
        · exact absurd this.2 h
    · rename_i h
      have h1 : p.1 ≤ 40 := by omega
      have h2 : m + 1 ≤ 400 := by omega
      have h3 : NodeOk p.2 := Decidable.not_not.1 fun hn => h (.inr (.inr hn))
      rw [goW_iff r (m + 1) h2]
      simp only [List.length_cons, List.mem_cons, forall_eq_or_imp]
      constructor
      · rintro ⟨a, b⟩; exact ⟨⟨⟨h1, h3⟩, a⟩, by omega⟩
      · rintro ⟨⟨_, a⟩, b⟩; exact ⟨a, by omega⟩
mutual
theorem walkT_spec : ∀ (x : Ex) (d : Nat), ((∀ p ∈ walkT x d, p.1 ≤ 40) ↔ d + depthT x ≤ 41) ∧ (d + depthT x ≤ 41 → (walkT x d).map (·.2) = nodesT x)
  | .mk o n v ks, d => by
    have hk := walkTs_spec ks (d + 1)
    unfold walkT depthT nodesT
    by_cases hd : 40 < d
    · rw [if_pos hd]
      refine ⟨⟨fun h => ?_, fun h => ?_⟩, fun h => ?_⟩
      · have := h (d, .mk o n v ks) (by simp); simp at this; omega
      · omega
      · omega
    · rw [if_neg hd]
      refine ⟨⟨fun h => ?_, fun h => ?_⟩, fun h => ?_⟩
      · have := hk.1 fun p hp => h p (by simp [hp])
        omega
      · intro p hp
        rcases List.mem_cons.1 hp with rfl | hp
        · simp; omega
        · exact hk.2.1 (.inr (by omega)) p hp
      · rw [List.map_cons, hk.2.2 (.inr (by omega))]
theorem walkTs_spec : ∀ (xs : List Ex) (d : Nat), ((∀ p ∈ walkTs xs d, p.1 ≤ 40) → depthTs xs = 0 ∨ d + depthTs xs ≤ 41) ∧ ((depthTs xs = 0 ∨ d + depthTs xs ≤ 41) → ∀ p ∈ walkTs xs d, p.1 ≤ 40) ∧ ((depthTs xs = 0 ∨ d + depthTs xs ≤ 41) → (walkTs xs d).map (·.2) = nodesTs xs)
  | [], d => by simp [walkTs, depthTs, nodesTs]
  | k :: r, d => by
    have h1 := walkT_spec k d
    have h2 := walkTs_spec r d
    have hpos : 1 ≤ depthT k := by cases k; unfold depthT; omega
    unfold walkTs depthTs nodesTs
    refine ⟨fun h => ?_, fun h => ?_, fun h => ?_⟩
    · have a := h1.1.1 fun p hp => h p (List.mem_append_left _ hp)
      have b := h2.1 fun p hp => h p (List.mem_append_right _ hp)
      omega
    · intro p hp
      rcases List.mem_append.1 hp with hp | hp
      · exact h1.1.2 (by omega) p hp
      · exact h2.2.1 (by omega) p hp
    · rw [List.map_append, h1.2 (by omega), h2.2.2 (by omega)]
end
theorem goW_formed (x : Ex) : goW (walkT x 1) 0 = formedB x := by
  obtain ⟨h1, h2⟩ := walkT_spec x 1
  unfold formedB
  rw [Bool.eq_iff_iff, goW_iff _ _ (by omega), decide_eq_true_eq]
  unfold FormedP
  constructor
  · rintro ⟨a, b⟩
    have hd := h1.1 fun p hp => (a p hp).1
    have hm := h2 hd
    refine ⟨fun y hy => ?_, by omega, ?_⟩
    · rw [← hm] at hy
      obtain ⟨p, hp, rfl⟩ := List.mem_map.1 hy
      exact (a p hp).2
    · rw [← hm, List.length_map]; omega
  · rintro ⟨a, b, c⟩
    have hd : 1 + depthT x ≤ 41 := by omega
    have hm := h2 hd
    refine ⟨fun p hp => ⟨h1.2 hd p hp, a _ ?_⟩, ?_⟩
    · rw [← hm]; exact List.mem_map.2 ⟨p, hp, rfl⟩
    · rw [← hm, List.length_map] at c; omega

mutual
/-- The document's look: how many nodes are left; below 0: no. -/
def refF : Ex → Int → Int → Int
  | .mk o n v ks, d, left => if d < 1 ∨ left < 1 ∨ ¬ NodeOk (.mk o n v ks) then -1 else refFs ks (d - 1) (left - 1)
def refFs : List Ex → Int → Int → Int
  | [], _, left => left
  | k :: r, d, left => if left < 0 then left else refFs r d (refF k d left)
end
mutual
theorem refF_spec : ∀ (x : Ex) (d left : Int), (0 ≤ refF x d left ↔ (∀ y ∈ nodesT x, NodeOk y) ∧ (depthT x : Int) ≤ d ∧ ((nodesT x).length : Int) ≤ left) ∧ (0 ≤ refF x d left → refF x d left = left - (nodesT x).length)
  | .mk o n v ks, d, left => by
    have hk := refFs_spec ks (d - 1) (left - 1)
    unfold refF depthT nodesT
    simp only [List.length_cons, List.mem_cons, forall_eq_or_imp]
    split
    · rename_i h
      refine ⟨⟨fun h' => absurd h' (by decide), ?_⟩, fun h' => absurd h' (by decide)⟩
      rintro ⟨⟨a, _⟩, b, c⟩
      exfalso
      rcases h with h | h | h
      · omega
      · omega
      · exact h a
    · rename_i h
      have h1 : 1 ≤ d := by omega
      have h2 : 1 ≤ left := by omega
      have h3 : NodeOk (.mk o n v ks) := Decidable.not_not.1 fun hn => h (.inr (.inr hn))
      refine ⟨?_, fun h' => by rw [hk.2 h']; omega⟩
      rw [hk.1 (by omega)]
      constructor
      · rintro ⟨a, b, c⟩; exact ⟨⟨h3, a⟩, by omega, by omega⟩
      · rintro ⟨⟨_, a⟩, b, c⟩; exact ⟨a, by omega, by omega⟩
theorem refFs_spec : ∀ (xs : List Ex) (d left : Int), (0 ≤ left → (0 ≤ refFs xs d left ↔ (∀ y ∈ nodesTs xs, NodeOk y) ∧ (depthTs xs : Int) ≤ max d 0 ∧ ((nodesTs xs).length : Int) ≤ left)) ∧ (0 ≤ refFs xs d left → refFs xs d left = left - (nodesTs xs).length)
  | [], d, left => by
    unfold refFs nodesTs depthTs
    refine ⟨fun h => ⟨fun _ => ⟨by simp, by omega, by simpa using h⟩, fun _ => h⟩, fun _ => by simp⟩
  | k :: r, d, left => by
    have h1 := refF_spec k d left
    have h2 := refFs_spec r d (refF k d left)
    have hpos : 1 ≤ depthT k := by cases k; unfold depthT; omega
    have neg : refF k d left < 0 → refFs r d (refF k d left) < 0 := fun hn => by
      cases r with
      | nil => unfold refFs; exact hn
      | cons a b => unfold refFs; rw [if_pos hn]; exact hn
    unfold refFs nodesTs depthTs
    simp only [List.length_append, List.mem_append]
    refine ⟨fun hl => ?_, fun h => ?_⟩
    · rw [if_neg (by omega)]
      constructor
      · intro h
        have hk : 0 ≤ refF k d left := by
          rcases Int.lt_or_le (refF k d left) 0 with hlt | hge
          · have := neg hlt; omega
          · exact hge
        obtain ⟨a1, a2, a3⟩ := h1.1.1 hk
        obtain ⟨b1, b2, b3⟩ := (h2.1 hk).1 h
        have e := h1.2 hk
        refine ⟨fun y hy => ?_, by omega, by omega⟩
        rcases hy with hy | hy
        · exact a1 y hy
        · exact b1 y hy
      · rintro ⟨a, b, c⟩
        have hk : 0 ≤ refF k d left := h1.1.2 ⟨fun y hy => a y (.inl hy), by omega, by omega⟩
        have e := h1.2 hk
        exact (h2.1 hk).2 ⟨fun y hy => a y (.inr hy), by omega, by omega⟩
    · split at h
      · omega
      · rename_i hge
        rw [if_neg hge]
        have hk : 0 ≤ refF k d left := by
          rcases Int.lt_or_le (refF k d left) 0 with hlt | hge
          · have := neg hlt; omega
          · exact hge
        have e := h1.2 hk
        rw [h2.2 h]
        omega
end
theorem refF_formed (x : Ex) : decide (0 ≤ refF x 40 400) = formedB x := by
  unfold formedB
  rw [decide_eq_decide, (refF_spec x 40 400).1]
  unfold FormedP
  constructor
  · rintro ⟨a, b, c⟩; exact ⟨a, by omega, by omega⟩
  · rintro ⟨a, b, c⟩; exact ⟨a, by omega, by omega⟩
/-- An expression's cells. -/
theorem ExAt.six {w : World} {x : Ex} {cs : List Value} (h : ExAt w x cs) : ∃ (p : Option Addr) (n c : Nat), cs = [.int .i64 x.op, .string x.name, .int .i64 x.v.k, .int .i64 x.v.n, .string x.v.s, .slice p n c] ∧ x.kids.length = n ∧ n ≤ 9223372036854775807 ∧
    ∀ {w' : World}, Ext w w' → ∀ {i : Nat} {k : Ex}, x.kids[i]? = some k → ∃ kc b o, ExAt w k kc ∧ p = some ⟨b, o, none⟩ ∧ ∀ (j : Nat) v, kc[j]? = some v → w'.cell? ⟨b, o + i * 6 + j, none⟩ = some v := by
  obtain ⟨p, n, c, h1, h2, h3, h4, h5⟩ := h.cells
  refine ⟨p, n, c, h1, h3, Nat.le_trans h2.1 h2.2, fun {w'} e {i} {k} hk => ?_⟩
  obtain ⟨kc, b, o, a1, a2, a3⟩ := h5 Ext.rfl hk
  exact ⟨kc, b, o, a1, a2, fun j v hv => by rw [Nat.add_assoc]; exact cell_ext (a3 j v hv) e⟩

theorem depthTs_get : ∀ {l : List Ex} {i : Nat} {k : Ex}, l[i]? = some k → depthT k ≤ depthTs l
  | [], i, k, h => by simp at h
  | x :: r, i, k, h => by
    unfold depthTs
    cases i with
    | zero => cases h; omega
    | succ i => have := depthTs_get (l := r) (i := i) (by simpa using h); omega
theorem walkTs_take {l : List Ex} {i : Nat} {k : Ex} (d : Nat) (h : l[i]? = some k) : walkTs (l.take (i + 1)) d = walkTs (l.take i) d ++ walkT k d := by
  induction l generalizing i with
  | nil => simp at h
  | cons x r ih =>
    cases i with
    | zero => cases h; simp [walkTs]
    | succ i => simp [walkTs, ih (i := i) (by simpa using h)]
theorem walkTs_pre {l : List Ex} (i : Nat) (d : Nat) : ∃ r, walkTs l d = walkTs (l.take i) d ++ r := by
  induction l generalizing i with
  | nil => exact ⟨[], by simp [walkTs]⟩
  | cons x r ih =>
    cases i with
    | zero => exact ⟨walkTs (x :: r) d, by simp [walkTs]⟩
    | succ i => obtain ⟨q, hq⟩ := ih i; exact ⟨q, by simp [walkTs, hq]⟩
theorem walkTs_at {l : List Ex} {i : Nat} {k : Ex} {d j : Nat} {p : Nat × Ex} (h : l[i]? = some k) (hp : (walkT k d)[j]? = some p) : (walkTs l d)[(walkTs (l.take i) d).length + j]? = some p := by
  obtain ⟨r, hr⟩ := walkTs_pre (l := l) (i + 1) d
  rw [hr, walkTs_take d h, List.append_assoc, List.getElem?_append_right (by omega), Nat.add_sub_cancel_left, List.getElem?_append_left (List.getElem?_eq_some_iff.1 hp).1, hp]


/-! ### The table of shapes -/
def wantOf (op : Int) : Int := if 3 ≤ op ∧ op ≤ 8 then 1 else if 12 ≤ op ∧ op ≤ 14 then 2 else if op = 16 then 3 else 0
def kindOf (op : Int) : Int := if 3 ≤ op ∧ op ≤ 8 ∨ op = 16 then 1 else if 9 ≤ op ∧ op ≤ 15 then 2 else 0
def shapeC (i : Nat) : List Value := [.int .i64 (manyOf i), .int .i64 (wantOf i), .int .i64 (kindOf i)]
def shapesA : Array Value := ((List.range 17).flatMap shapeC).toArray
theorem shapes_at {i : Nat} (h : i < 17) : shapesA[i * 3]? = some (.int .i64 (manyOf i)) ∧ shapesA[i * 3 + 1]? = some (.int .i64 (wantOf i)) ∧ shapesA[i * 3 + 2]? = some (.int .i64 (kindOf i)) := by
  have hi : (List.range 17)[i]? = some i := List.getElem?_range h
  have hs : ∀ x, (shapeC x).length = 3 := fun x => rfl
  have key : ∀ j : Nat, j < 3 → shapesA[i * 3 + j]? = (shapeC i)[j]? := fun j hj => by
    have := flatMap_get hs hi hj
    unfold shapesA
    rw [List.getElem?_toArray]; exact this
  exact ⟨key 0 (by decide), key 1 (by decide), key 2 (by decide)⟩
theorem many_range {op : Int} (h : 0 ≤ manyOf op) : 1 ≤ op ∧ op ≤ 16 := by
  unfold manyOf at h
  split at h
  · omega
  · split at h
    · omega
    · split at h <;> omega
end Go.Vc

/- Numbers: signs of bitwise operations; products of 64 bits; which results are numbers of 64 bits. -/
namespace Go.Vc
open Go

theorem wrap_bv (v : BitVec 64) : IntKind.i64.wrap ((v.toNat : Nat) : Int) = v.toInt := by
  rw [IntKind.wrap_i64, BitVec.toInt_eq_toNat_cond]
  have := v.isLt
  split <;> omega
theorem toInt_of {a : Int} (h0 : -9223372036854775808 ≤ a) (h1 : a ≤ 9223372036854775807) : (BitVec.ofInt 64 a).toInt = a := by
  rw [BitVec.toInt_ofInt, Int.bmod_def]
  split <;> omega
theorem and_i64_bv (a b : Int) : bits .and .i64 a b = (BitVec.ofInt 64 a &&& BitVec.ofInt 64 b).toInt := by
  rw [← wrap_bv]; rfl
theorem xor_i64_bv (a b : Int) : bits .xor .i64 a b = (BitVec.ofInt 64 a ^^^ BitVec.ofInt 64 b).toInt := by
  rw [← wrap_bv]; rfl
theorem i64_range (v : BitVec 64) : -9223372036854775808 ≤ v.toInt ∧ v.toInt ≤ 9223372036854775807 := by
  rw [BitVec.toInt_eq_toNat_cond]
  have := v.isLt
  split <;> omega
theorem and_neg {a b : Int} (a0 : -9223372036854775808 ≤ a) (a1 : a ≤ 9223372036854775807) (b0 : -9223372036854775808 ≤ b) (b1 : b ≤ 9223372036854775807) : bits .and .i64 a b < 0 ↔ a < 0 ∧ b < 0 := by
  have h := BitVec.msb_and (x := BitVec.ofInt 64 a) (y := BitVec.ofInt 64 b)
  rw [BitVec.msb_eq_toInt, BitVec.msb_eq_toInt, BitVec.msb_eq_toInt, toInt_of a0 a1, toInt_of b0 b1] at h
  rw [and_i64_bv, ← decide_eq_true_iff (p := BitVec.toInt _ < 0), h]; simp
theorem xor_neg {a b : Int} (a0 : -9223372036854775808 ≤ a) (a1 : a ≤ 9223372036854775807) (b0 : -9223372036854775808 ≤ b) (b1 : b ≤ 9223372036854775807) : bits .xor .i64 a b < 0 ↔ ¬ (a < 0 ↔ b < 0) := by
  have h := BitVec.msb_xor (x := BitVec.ofInt 64 a) (y := BitVec.ofInt 64 b)
  rw [BitVec.msb_eq_toInt, BitVec.msb_eq_toInt, BitVec.msb_eq_toInt, toInt_of a0 a1, toInt_of b0 b1] at h
  rw [xor_i64_bv, ← decide_eq_true_iff (p := BitVec.toInt _ < 0), h]
  by_cases ha : a < 0 <;> by_cases hb : b < 0 <;> simp [ha, hb]
theorem xor_range (a b : Int) : -9223372036854775808 ≤ bits .xor .i64 a b ∧ bits .xor .i64 a b ≤ 9223372036854775807 := by rw [xor_i64_bv]; exact i64_range _

/-- A number of 64 bits. -/
def fitI (x : Int) : Prop := -9223372036854775808 ≤ x ∧ x ≤ 9223372036854775807
instance (x : Int) : Decidable (fitI x) := by unfold fitI; exact inferInstance
theorem add_over {a b : Int} (ha : fitI a) (hb : fitI b) : bits .and .i64 (bits .xor .i64 a (IntKind.i64.wrap (a + b))) (bits .xor .i64 b (IntKind.i64.wrap (a + b))) < 0 ↔ ¬ fitI (a + b) := by
  unfold fitI at *
  have hw := IntKind.wrap_i64 (a + b)
  obtain ⟨x0, x1⟩ := xor_range a (IntKind.i64.wrap (a + b))
  obtain ⟨y0, y1⟩ := xor_range b (IntKind.i64.wrap (a + b))
  rw [and_neg x0 x1 y0 y1, xor_neg ha.1 ha.2 (by omega) (by omega), xor_neg hb.1 hb.2 (by omega) (by omega)]
  omega
theorem sub_over {a b : Int} (ha : fitI a) (hb : fitI b) : bits .and .i64 (bits .xor .i64 a b) (bits .xor .i64 a (IntKind.i64.wrap (a - b))) < 0 ↔ ¬ fitI (a - b) := by
  unfold fitI at *
  have hw := IntKind.wrap_i64 (a - b)
  obtain ⟨x0, x1⟩ := xor_range a b
  obtain ⟨y0, y1⟩ := xor_range a (IntKind.i64.wrap (a - b))
  rw [and_neg x0 x1 y0 y1, xor_neg ha.1 ha.2 hb.1 hb.2, xor_neg ha.1 ha.2 (by omega) (by omega)]
  omega

theorem shr32_u64 (v : Nat) : shrI .u64 (v : Int) 32 = ((v / 4294967296 : Nat) : Int) := by
  have : shrI .u64 (v : Int) 32 = Int.fdiv (v : Int) 4294967296 := rfl
  rw [this, Int.fdiv_eq_ediv_of_nonneg _ (by decide)]; omega
theorem and32_u64 {v : Nat} (h : v < 18446744073709551616) : bits .and .u64 (v : Int) 4294967295 = ((v % 4294967296 : Nat) : Int) := by
  have := bits_mask .u64 64 (by decide) (fun m h0 h1 => by simp [IntKind.wrap, IntKind.bits, IntKind.signed]; omega) 32 (by decide) (v : Int) (by omega) (by show (v : Int) < 18446744073709551616; omega)
  rw [show ((2 : Int) ^ 32 - 1) = 4294967295 from rfl, show ((2 : Int) ^ 32) = 4294967296 from rfl] at this
  rw [this]; omega
/-- The product of two numbers of 64 bits, in two words. -/
theorem mul64_hi {x y : Nat} (hx : x < 18446744073709551616) (hy : y < 18446744073709551616) :
    (IntKind.u64.wrap (IntKind.u64.wrap (IntKind.u64.wrap (shrI .u64 (x : Int) 32 * shrI .u64 (y : Int) 32) + shrI .u64 (IntKind.u64.wrap (IntKind.u64.wrap (shrI .u64 (x : Int) 32 * bits .and .u64 (y : Int) 4294967295) + shrI .u64 (IntKind.u64.wrap (bits .and .u64 (x : Int) 4294967295 * bits .and .u64 (y : Int) 4294967295)) 32)) 32) +
      shrI .u64 (IntKind.u64.wrap (bits .and .u64 (IntKind.u64.wrap (IntKind.u64.wrap (shrI .u64 (x : Int) 32 * bits .and .u64 (y : Int) 4294967295) + shrI .u64 (IntKind.u64.wrap (bits .and .u64 (x : Int) 4294967295 * bits .and .u64 (y : Int) 4294967295)) 32)) 4294967295 + IntKind.u64.wrap (bits .and .u64 (x : Int) 4294967295 * shrI .u64 (y : Int) 32))) 32)) = ((x * y / 18446744073709551616 : Nat) : Int) := by
  rw [shr32_u64, shr32_u64, and32_u64 hx, and32_u64 hy]
  have hxd : x = x / 4294967296 * 4294967296 + x % 4294967296 := by omega
  have hyd : y = y / 4294967296 * 4294967296 + y % 4294967296 := by omega
  have hx1 : x / 4294967296 ≤ 4294967295 := by omega
  have hy1 : y / 4294967296 ≤ 4294967295 := by omega
  have hx0 : x % 4294967296 ≤ 4294967295 := by omega
  have hy0 : y % 4294967296 ≤ 4294967295 := by omega
  generalize x / 4294967296 = a at *
  generalize x % 4294967296 = b at *
  generalize y / 4294967296 = c at *
  generalize y % 4294967296 = d at *
  have p11 := Nat.mul_le_mul hx1 hy1
  have p10 := Nat.mul_le_mul hx1 hy0
  have p01 := Nat.mul_le_mul hx0 hy1
  have p00 := Nat.mul_le_mul hx0 hy0
  have hxy : x * y = a * c * 18446744073709551616 + (a * d + b * c) * 4294967296 + b * d := by
    rw [hxd, hyd]
    simp only [Nat.add_mul, Nat.mul_add]
    have e1 : a * 4294967296 * (c * 4294967296) = a * c * 18446744073709551616 := by rw [Nat.mul_mul_mul_comm]
    have e2 : a * 4294967296 * d = a * d * 4294967296 := by rw [Nat.mul_right_comm]
    have e3 : b * (c * 4294967296) = b * c * 4294967296 := by rw [Nat.mul_assoc]
    rw [e1, e2, e3]; omega
  rw [hxy, ← Int.natCast_mul, ← Int.natCast_mul, ← Int.natCast_mul, ← Int.natCast_mul]
  generalize a * c = p at *
  generalize a * d = q at *
  generalize b * c = r at *
  generalize b * d = s at *
  rw [u64_fit (n := (s : Int)) (by omega) (by omega), shr32_u64, u64_fit (n := (q : Int)) (by omega) (by omega), ← Int.natCast_add, u64_fit (n := ((q + s / 4294967296 : Nat) : Int)) (by omega) (by omega), shr32_u64, and32_u64 (by omega), u64_fit (n := (r : Int)) (by omega) (by omega), ← Int.natCast_add,
    u64_fit (n := (((q + s / 4294967296) % 4294967296 + r : Nat) : Int)) (by omega) (by omega), shr32_u64, u64_fit (n := (p : Int)) (by omega) (by omega)]
  rw [← Int.natCast_add, u64_fit (n := ((p + (q + s / 4294967296) / 4294967296 : Nat) : Int)) (by omega) (by omega), ← Int.natCast_add, u64_fit (by omega) (by omega)]
  omega
end Go.Vc

/- What expressions come to: kinds and values. Plain Lean, no program. -/
namespace Go.Vc
open Go Go.RowKit

/-! ### One behind the other, till one has an error -/
section
variable {α : Type} {f : Ex → α × Int}
def runL (f : Ex → α × Int) : List Ex → List α × Int
  | [] => ([], 0)
  | k :: r => if (f k).2 ≠ 0 then ([], (f k).2) else if (runL f r).2 ≠ 0 then ([], (runL f r).2) else ((f k).1 :: (runL f r).1, 0)
theorem runL_snoc (l : List Ex) (k : Ex) (h : (runL f l).2 = 0) : runL f (l ++ [k]) = if (f k).2 ≠ 0 then ([], (f k).2) else ((runL f l).1 ++ [(f k).1], 0) := by
  induction l with
  | nil => simp [runL]
  | cons x r ih =>
    unfold runL at h
    split at h
    · rename_i hx; exact absurd h hx
    · rename_i hx
      split at h
      · rename_i hr; exact absurd h hr
      · rename_i hr
        have := ih (by omega)
        rw [List.cons_append, runL, if_neg hx, this, runL, if_neg hx, if_neg hr]
        split
        · rename_i hk; simp
        · simp
theorem runL_take {l : List Ex} {j : Nat} {k : Ex} (hk : l[j]? = some k) (h : (runL f (l.take j)).2 = 0) : runL f (l.take (j + 1)) = if (f k).2 ≠ 0 then ([], (f k).2) else ((runL f (l.take j)).1 ++ [(f k).1], 0) := by
  have : l.take (j + 1) = l.take j ++ [k] := by rw [List.take_add_one, hk]; rfl
  rw [this, runL_snoc _ _ h]
theorem runL_err (a b : List Ex) (h : (runL f a).2 ≠ 0) : runL f (a ++ b) = ([], (runL f a).2) := by
  induction a with
  | nil => exact absurd rfl h
  | cons x r ih =>
    rw [List.cons_append]
    unfold runL at h ⊢
    split
    · rfl
    · rename_i hx
      rw [if_neg hx] at h
      split at h
      · rename_i hr
        rw [ih hr]; simp [hr]
      · exact absurd rfl h
theorem runL_stop {l : List Ex} {j : Nat} {k : Ex} (hk : l[j]? = some k) (h : (runL f (l.take j)).2 = 0) (he : (f k).2 ≠ 0) : runL f l = ([], (f k).2) := by
  have h1 := runL_take (f := f) hk h
  rw [if_pos he] at h1
  have h2 := runL_err (f := f) (l.take (j + 1)) (l.drop (j + 1)) (by rw [h1]; exact he)
  rw [List.take_append_drop, h1] at h2
  exact h2
theorem runL_len {l : List Ex} (h : (runL f l).2 = 0) : (runL f l).1.length = l.length := by
  induction l with
  | nil => rfl
  | cons x r ih =>
    unfold runL at h ⊢
    split at h
    · rename_i hx; exact absurd h hx
    · rename_i hx
      split at h
      · rename_i hr; exact absurd h hr
      · rename_i hr
        rw [if_neg hx, if_neg hr]
        simp [ih (by omega)]
theorem runL_get {l : List Ex} (h : (runL f l).2 = 0) {i : Nat} {k : Ex} (hk : l[i]? = some k) : (f k).2 = 0 ∧ (runL f l).1[i]? = some (f k).1 := by
  induction l generalizing i with
  | nil => simp at hk
  | cons x r ih =>
    unfold runL at h ⊢
    split at h
    · rename_i hx; exact absurd h hx
    · rename_i hx
      split at h
      · rename_i hr; exact absurd h hr
      · rename_i hr
        rw [if_neg hx, if_neg hr]
        cases i with
        | zero => cases hk; exact ⟨by omega, rfl⟩
        | succ i => simpa using ih (by omega) (i := i) (by simpa using hk)
end

/-! ### Kinds -/
def alikeB (a b : Int) : Bool := decide (a = b) || decide (a = 0) || decide (b = 0)
def kindN (cols : List Col) (op : Int) (name : ByteArray) (v : Val) (l : List Int) : Int × Int :=
  if wantOf op ≠ 0 ∧ ¬ (∀ g ∈ l, alikeB g (wantOf op) = true) then (0, 121)
  else if op = 1 then (if findC cols name < 0 then (0, 120) else (((cols[(findC cols name).toNat]?).map Col.kind).getD 0, 0))
  else if op = 2 then (v.k, 0)
  else if (op = 9 ∨ op = 10 ∨ op = 11) ∧ alikeB (l.getD 0 0) (l.getD 1 0) = false then (0, 121)
  else (kindOf op, 0)
mutual
def kindF (cols : List Col) : Ex → Int × Int
  | .mk op name v ks => if (kindsF cols ks).2 ≠ 0 then (0, (kindsF cols ks).2) else kindN cols op name v (kindsF cols ks).1
def kindsF (cols : List Col) : List Ex → List Int × Int
  | [] => ([], 0)
  | k :: r => if (kindF cols k).2 ≠ 0 then ([], (kindF cols k).2) else if (kindsF cols r).2 ≠ 0 then ([], (kindsF cols r).2) else ((kindF cols k).1 :: (kindsF cols r).1, 0)
end
theorem kindsF_eq (cols : List Col) (l : List Ex) : kindsF cols l = runL (kindF cols) l := by
  induction l with
  | nil => simp [kindsF, runL]
  | cons k r ih => rw [kindsF, runL, ih]
theorem kindF_eq (cols : List Col) (x : Ex) : kindF cols x = if (runL (kindF cols) x.kids).2 ≠ 0 then (0, (runL (kindF cols) x.kids).2) else kindN cols x.op x.name x.v (runL (kindF cols) x.kids).1 := by
  cases x; rw [kindF, kindsF_eq]; rfl

/-! ### Values -/
def truthV (b : Bool) : Val := ⟨2, if b then 1 else 0, ⟨#[]⟩⟩
def thirdI (v : Val) : Int := if v.k = 0 then 2 else v.n
def answerV (n : Int) : Val := if n = 2 then nullV else truthV (decide (n = 1))
def andI (i j : Int) : Int := if i = 0 ∨ j = 0 then 0 else if i = 2 ∨ j = 2 then 2 else 1
def orJ (i j : Int) : Int := if i = 1 ∨ j = 1 then 1 else if i = 2 ∨ j = 2 then 2 else 0
def tabA (f : Int → Int → Int) : Array Value := ((List.range 9).map fun i => Value.int .i64 (f ((i / 3 : Nat) : Int) ((i % 3 : Nat) : Int))).toArray
theorem tabA_at (f : Int → Int → Int) {i j : Nat} (hi : i < 3) (hj : j < 3) : (tabA f)[i * 3 + j]? = some (.int .i64 (f i j)) := by
  unfold tabA
  rw [List.getElem?_toArray, List.getElem?_map, List.getElem?_range (by omega)]
  simp only [Option.map_some]
  rw [show (i * 3 + j) / 3 = i by omega, show (i * 3 + j) % 3 = j by omega]
def overF (x : Int) : Int × Int := if fitI x then (x, 0) else (0, 100)
def arithF (op a b : Int) : Int × Int :=
  if (op = 6 ∨ op = 7) ∧ b = 0 then (0, 101) else if op = 3 then overF (a + b) else if op = 4 then overF (a - b) else if op = 5 then overF (a * b) else if op = 6 then overF (a.tdiv b) else if op = 7 then (a.tmod b, 0) else (0, 0)
def pairF (op : Int) (a b : Val) : Val × Int :=
  if op = 12 then (answerV (andI (thirdI a) (thirdI b)), 0) else if op = 13 then (answerV (orJ (thirdI a) (thirdI b)), 0)
  else if a.k = 0 ∨ b.k = 0 then (nullV, 0)
  else if op = 9 then (truthV (decide (cmpV a b = 0)), 0) else if op = 10 then (truthV (decide (cmpV a b < 0)), 0) else if op = 11 then (truthV (decide (cmpV a b ≤ 0)), 0)
  else if (arithF op a.n b.n).2 ≠ 0 then (nullV, (arithF op a.n b.n).2) else (numV (arithF op a.n b.n).1, 0)
def singleF (op : Int) (v : Val) : Val × Int :=
  if op = 15 then (truthV (decide (v.k = 0)), 0) else if v.k = 0 then (v, 0) else if op = 14 then (truthV (decide (v.n = 0)), 0)
  else if op = 16 then (numV v.s.size, 0) else pairF 4 (numV 0) v
def valueN (cols : List Col) (row : List Val) (op : Int) (name : ByteArray) (v : Val) (l : List Val) : Val × Int :=
  if op = 1 then ((row[(findC cols name).toNat]?).getD nullV, 0) else if op = 2 then (v, 0) else if l.length = 1 then singleF op (l.getD 0 nullV) else pairF op (l.getD 0 nullV) (l.getD 1 nullV)
mutual
def valueF (cols : List Col) (row : List Val) : Ex → Val × Int
  | .mk op name v ks => if (valuesF cols row ks).2 ≠ 0 then (nullV, (valuesF cols row ks).2) else valueN cols row op name v (valuesF cols row ks).1
def valuesF (cols : List Col) (row : List Val) : List Ex → List Val × Int
  | [] => ([], 0)
  | k :: r => if (valueF cols row k).2 ≠ 0 then ([], (valueF cols row k).2) else if (valuesF cols row r).2 ≠ 0 then ([], (valuesF cols row r).2) else ((valueF cols row k).1 :: (valuesF cols row r).1, 0)
end
theorem valuesF_eq (cols : List Col) (row : List Val) (l : List Ex) : valuesF cols row l = runL (valueF cols row) l := by
  induction l with
  | nil => simp [valuesF, runL]
  | cons k r ih => rw [valuesF, runL, ih]
theorem valueF_eq (cols : List Col) (row : List Val) (x : Ex) : valueF cols row x = if (runL (valueF cols row) x.kids).2 ≠ 0 then (nullV, (runL (valueF cols row) x.kids).2) else valueN cols row x.op x.name x.v (runL (valueF cols row) x.kids).1 := by
  cases x; rw [valueF, valuesF_eq]; rfl

/-! ### Type and Eval -/
def typeF (cols : List Col) (x : Ex) : Int × Int := if rightC cols = false then (0, 50) else if formedB x = false then (0, 122) else kindF cols x
def evalF (cols : List Col) (row : List Val) (x : Ex) : Val × Int := if (typeF cols x).2 ≠ 0 then (nullV, (typeF cols x).2) else if fitsC cols row = false then (nullV, 2) else valueF cols row x

/-! ### Quotients -/
theorem tdiv_fit {a b : Int} (ha : fitI a) (hb : b ≠ 0) : fitI (a.tdiv b) ↔ ¬ (a = -9223372036854775808 ∧ b = -1) := by
  unfold fitI at *
  by_cases h1 : b = -1
  · subst h1
    rw [Int.tdiv_neg, Int.tdiv_one]; omega
  · have hn : (a.tdiv b).natAbs = a.natAbs / b.natAbs := Int.natAbs_tdiv a b
    have : ¬ (a = -9223372036854775808 ∧ b = -1) := fun h => h1 h.2
    simp only [this, not_false_eq_true, iff_true]
    by_cases h2 : b = 1
    · subst h2; rw [Int.tdiv_one]; exact ha
    · have hb2 : 2 ≤ b.natAbs := by omega
      have : a.natAbs / b.natAbs ≤ a.natAbs / 2 := Nat.div_le_div_left hb2 (by decide)
      omega
theorem tmod_fit {a b : Int} (hb : fitI b) (h0 : b ≠ 0) : fitI (a.tmod b) := by
  unfold fitI at *
  have : (a.tmod b).natAbs = a.natAbs % b.natAbs := Int.natAbs_tmod a b
  have h2 := Nat.mod_lt a.natAbs (y := b.natAbs) (by omega)
  omega
end Go.Vc
