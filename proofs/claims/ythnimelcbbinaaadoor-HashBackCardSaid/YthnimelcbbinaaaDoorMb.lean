/- Texts of the proof, one behind the other. -/
import Derived.Test.YthnimelcbbinaaaDoorMa
import Derived.Test.YthnimelcbbinaaaDoorProg
import Derived.Lib.AppendStr
import Derived.Deep.DeepAppendWide
import Derived.Laws.CopyRow
import Derived.Laws.IdiomCopy
import Derived.SizedLaws
import Derived.Lib.Bytealg
import Derived.Lib.AppendZeros
set_option linter.unusedVariables false
set_option linter.unusedSimpArgs false
/- Soundness of the generator, part F: codes and functions. -/
namespace Go.Vc
open Go

section
variable {P : Program} {rd : Option Nat} {Q : Exit → Act → World → Prop}

/-! ### Tables of the environment -/
def inK : List (Nat × Option SV) → Nat → Bool
  | [], _ => false
  | p :: r, i => match Nat.beq p.1 i with | true => true | false => inK r i

theorem lkE_append (a b : List (Nat × Option SV)) (i : Nat) : lkE (a ++ b) i = if inK a i then lkE a i else lkE b i := by
  induction a with
  | nil => simp [inK]
  | cons p r ih =>
    obtain ⟨j, x⟩ := p
    cases hb : Nat.beq j i <;> simp [lkE, inK, hb, ih]

theorem inK_blank (ws : List (Nat × TypeId)) (i : Nat) : inK (blank ws) i = inW ws i := by
  induction ws with
  | nil => rfl
  | cons p r ih => simp only [blank, inK, inW]; split <;> simp_all

theorem lkE_blank (ws : List (Nat × TypeId)) (i : Nat) : lkE (blank ws) i = none := by
  induction ws with
  | nil => rfl
  | cons p r ih => simp only [blank, lkE]; split <;> simp_all

theorem cellsAs_ofCells {agg : Bool} {x : Value} {cs : List Value} (h : cellsAs agg x = some cs) : ∃ y, ofCells agg cs = some y ∧ y.den = x := by
  unfold cellsAs at h
  split at h
  · cases h; exact ⟨_, rfl, by simp [SV.den]⟩
  · cases h
  · cases h; exact ⟨_, rfl, rfl⟩

theorem setSlots_spec {N : Nat} {st' : St} {a : Act} (h : Agree N st' a) : ∀ {slots : List (Nat × Ty)} {vs : List Value}, slotVals st' slots = some vs →
    ∃ es, setSlots slots vs = some es ∧ (∀ i x, lkE es i = some x → a.tmps.getD i undef = x.den) ∧ (∀ i, inK es i = true → inS slots i = true) ∧ vs.length = (lsOf slots).length := by
  intro slots
  induction slots with
  | nil => intro vs hv; simp only [slotVals, Option.some.injEq] at hv; subst hv; exact ⟨[], rfl, fun i x hx => by simp [lkE] at hx, fun i hi => by simp [inK] at hi, rfl⟩
  | cons p r ih =>
    intro vs hv
    unfold slotVals at hv
    split at hv
    · rename_i x vs' hx hvs'
      split at hv
      · rename_i cs hcs
        split at hv
        · rename_i hlen
          cases hv
          have hl := nbeq.1 hlen
          obtain ⟨es, hes, he1, he2, he3⟩ := ih hvs'
          obtain ⟨y, hy, hyd⟩ := cellsAs_ofCells hcs
          have e1 : (cs ++ vs').take p.2.ls.length = cs := by rw [← hl]; simp
          have e2 : (cs ++ vs').drop p.2.ls.length = vs' := by rw [← hl]; simp
          refine ⟨(p.1, some y) :: es, by simp only [setSlots, e1, e2, hy, hes], ?_, ?_, by simp [lsOf, hl, he3]⟩
          · intro i z hz
            simp only [lkE] at hz
            split at hz
            · rename_i hb
              cases hz
              rw [hyd, ← nbeq.1 hb]
              exact h.e _ _ hx
            · exact he1 i z hz
          · intro i hi
            simp only [inK, inS] at hi ⊢
            split at hi
            · rename_i hb; rw [hb]
            · rename_i hb; rw [hb]; exact he2 i hi
        · cases hv
      · cases hv
    · cases hv

theorem carry_in {st : St} : ∀ {ws : List (Nat × TypeId)} {slots : List (Nat × Ty)}, carry P st ws = some slots → ∀ i, inS slots i = true → inW ws i = true := by
  intro ws
  induction ws with
  | nil => intro slots h i hi; simp only [carry, Option.some.injEq] at h; subst h; simp [inS] at hi
  | cons p r ih =>
    intro slots h i hi
    have up : ∀ acc, carry P st r = some acc → inS acc i = true → inW (p :: r) i = true := fun acc ha hs => by
      unfold inW; split
      · rfl
      · exact ih ha i hs
    unfold carry at h
    split at h
    · cases h
    · rename_i acc hacc
      split at h
      · cases h; exact up _ hacc hi
      · cases h; exact up _ hacc hi
      · split at h
        · cases h
          simp only [inS] at hi
          split at hi
          · rename_i hb; simp only [inW, hb]
          · exact up _ hacc hi
        · cases h

theorem named_in {nm : List Bool} : ∀ {ws : List (Nat × TypeId)} {slots : List (Nat × Ty)}, named P nm ws = some slots → ∀ i, inS slots i = true → inW ws i = true := by
  intro ws
  induction ws with
  | nil => intro slots h i hi; simp only [named, Option.some.injEq] at h; subst h; simp [inS] at hi
  | cons p r ih =>
    intro slots h i hi
    have up : ∀ acc, named P nm r = some acc → inS acc i = true → inW (p :: r) i = true := fun acc ha hs => by
      unfold inW; split
      · rfl
      · exact ih ha i hs
    unfold named at h
    split at h
    · cases h
    · rename_i acc hacc
      split at h
      · split at h
        · cases h
          simp only [inS] at hi
          split at hi
          · rename_i hb; simp only [inW, hb]
          · exact up _ hacc hi
        · cases h
      · cases h; exact up _ hacc hi

/-- What stays of the environment (but for the blocks for deferred calls). -/
def FrE (ws : List (Nat × TypeId)) (st st' : St) : Prop := ∀ i, inW ws i = false → lkE st'.e i = lkE st.e i

theorem FrE.refl (ws : List (Nat × TypeId)) (st : St) : FrE ws st st := fun _ _ => rfl
theorem FrE.trans {ws : List (Nat × TypeId)} {x y z : St} (h : FrE ws x y) (k : FrE ws y z) : FrE ws x z := fun i hi => (k i hi).trans (h i hi)
theorem FrE.mono {ws ws' : List (Nat × TypeId)} {x y : St} (h : FrE ws x y) (hs : ∀ i, inW ws' i = false → inW ws i = false) : FrE ws' x y := fun i hi => h i (hs i hi)

/-- The environment at a loop's head, or behind a cut. -/
theorem head_of_vals {N : Nat} {st st' : St} {a : Act} {ws : List (Nat × TypeId)} {slots : List (Nat × Ty)} {vs : List Value} (hin : ∀ i, inS slots i = true → inW ws i = true)
    (hf : FrE ws st st') (h : Agree N st' a) (hv : slotVals st' slots = some vs) :
    ∃ st1, headSt st ws slots vs = some st1 ∧ Agree N { st1 with ds := st'.ds } a ∧ st1.ge = [] ∧ FrE ws st st1 ∧ st1.ds = st.ds := by
  obtain ⟨es, hes, he1, he2, _⟩ := setSlots_spec h hv
  refine ⟨{ e := es ++ (blank ws ++ st.e), ge := [], ds := st.ds }, by simp only [headSt, hes], ⟨h.size, h.defers, ?_, fun i d hd => by simp [lkG] at hd, fun i d hd => by simp [lkG] at hd⟩, rfl, ?_, rfl⟩
  · intro i x hx
    simp only [lkE_append, inK_blank] at hx
    split at hx
    · exact he1 i x hx
    · split at hx
      · rw [lkE_blank] at hx; cases hx
      · rename_i hb
        have hi : inW ws i = false := by simpa using hb
        exact h.e i x ((hf i hi).trans hx)
  · intro i hi
    simp only [lkE_append, inK_blank, hi]
    have : inK es i = false := by
      cases hk : inK es i with
      | false => rfl
      | true => rw [hin i (he2 i hk)] at hi; cases hi
    simp [this]

theorem AllL_app {R : Type} : ∀ {ls : List Leaf} {F : List Value → Prop} {f : Tel R ls} {vs : List Value} {p : R}, AllL ls F → app ls f vs = some p → F vs := by
  intro ls
  induction ls with
  | nil =>
    intro F f vs p h ha
    cases vs with
    | nil => exact h
    | cons v r => simp [app] at ha
  | cons l r ih =>
    intro F f vs p h ha
    cases vs with
    | nil => cases l <;> simp [app] at ha
    | cons v vs =>
      cases l with
      | int k =>
        cases v <;> simp only [app, reduceCtorEq] at ha
        split at ha
        · rename_i hk; have := kid_inj hk; subst this; exact ih (F := fun vs => F (_ :: vs)) (h _) ha
        · cases ha
      | bool => cases v <;> simp only [app, reduceCtorEq] at ha; exact ih (F := fun vs => F (_ :: vs)) (h _) ha
      | str => cases v <;> simp only [app, reduceCtorEq] at ha; exact ih (F := fun vs => F (_ :: vs)) (h _) ha
      | slc => cases v <;> simp only [app, reduceCtorEq] at ha; exact ih (F := fun vs => F (_ :: vs)) (h _ _ _) ha
      | ptr => cases v <;> simp only [app, reduceCtorEq] at ha; exact ih (F := fun vs => F (_ :: vs)) (h _) ha
      | map => cases v <;> simp only [app, reduceCtorEq] at ha; exact ih (F := fun vs => F (_ :: vs)) (h _) ha
      | any => exact ih (F := fun vs => F (_ :: vs)) (h v) (by simpa only [app] using ha)

theorem AllL_intro : ∀ {ls : List Leaf} {F : List Value → Prop}, (∀ vs, F vs) → AllL ls F := by
  intro ls
  induction ls with
  | nil => intro F h; exact h []
  | cons l r ih =>
    intro F h
    cases l with
    | int k => intro n; exact ih (F := fun vs => F (_ :: vs)) fun vs => h _
    | bool => intro n; exact ih (F := fun vs => F (_ :: vs)) fun vs => h _
    | str => intro n; exact ih (F := fun vs => F (_ :: vs)) fun vs => h _
    | slc => intro p n c; exact ih (F := fun vs => F (_ :: vs)) fun vs => h _
    | ptr => intro n; exact ih (F := fun vs => F (_ :: vs)) fun vs => h _
    | map => intro n; exact ih (F := fun vs => F (_ :: vs)) fun vs => h _
    | any => intro n; exact ih (F := fun vs => F (_ :: vs)) fun vs => h _

theorem AllL_at {ls : List Leaf} {F : List Value → Prop} {I : Tel (World → Prop) ls} {vs : List Value} {w : World} (h : AllL ls F) (hi : atI I vs w) : F vs := by
  unfold atI at hi
  split at hi
  · rename_i p hp; exact AllL_app h hp
  · exact hi.elim

/-! ### The laws of control that the kit lacks in this form -/
theorem exists_least (p : Nat → Prop) (h : ∃ n, p n) : ∃ n, p n ∧ ∀ m, p m → n ≤ m := by
  obtain ⟨n, hn⟩ := h
  induction n using Nat.strongRecOn with
  | _ n ih =>
    by_cases hm : ∃ m, m < n ∧ p m
    · obtain ⟨m, hlt, hp⟩ := hm; exact ih m hlt hp
    · exact ⟨n, hn, fun m hp => Nat.le_of_not_lt fun hlt => hm ⟨m, hlt, hp⟩⟩

open Classical in
theorem wpIn_loop_ghost {F : Fence} {n0 : Nat} {c : Code} (G : Nat → Act → World → Prop)
    (step : ∀ n a w, G n a w → c.wpIn F n0 P (Exit.then (fun a' w' => ∃ n', n' < n ∧ G n' a' w') Q) a w) {n : Nat} {a : Act} {w : World} (h : G n a w) : (Code.loop c).wpIn F n0 P Q a w := by
  refine wpIn_loop (fun a w => ∃ n, G n a w) (fun a w => if h : ∃ n, G n a w then (exists_least _ h).choose else 0) ⟨n, h⟩ ?_
  intro a w hI
  have hs := (exists_least _ hI).choose_spec
  refine wpIn_mono (step _ a w hs.1) fun e a' w' hq => ?_
  cases e with
  | normal =>
    obtain ⟨n', hlt, hg⟩ := hq
    have hI' : ∃ n, G n a' w' := ⟨n', hg⟩
    refine ⟨hI', ?_⟩
    rw [dif_pos hI', dif_pos hI]
    have := (exists_least _ hI').choose_spec.2 n' hg
    omega
  | _ => exact hq

theorem stepR_scope {b : Frame} {a : Act} {k : List Item} {cs : List Frame} {w : World} {c : Code} :
    step P (lone (b.atR a (.code (.scope c) :: k)) cs w) = .next (lone (b.atR a (.code c :: .inScope c :: k)) cs w) :=
  step_lone_go (by simp [stepG, stepG.exec, Frame.atR])

theorem stepR_inScope {b : Frame} {a : Act} {k : List Item} {cs : List Frame} {w : World} {c : Code} :
    step P (lone (b.atR a (.inScope c :: k)) cs w) = .next (lone (b.atR a k) cs w) :=
  step_lone_go (by simp [stepG, stepG.exec, Frame.atR])

theorem wpIn_scope {F : Fence} {n : Nat} {c : Code} {a : Act} {w : World} (h : c.wpIn F n P (fun e a w => match e with | .goto _ => False | e => Q e a w) a w) : (Code.scope c).wpIn F n P Q a w := by
  intro b k cs hro hb hr
  have h0 : (lone (b.atR a (.code (.scope c) :: k)) cs w).fenced P F := fenced_calm hb hr rfl
  obtain ⟨e, a₁, w₁, hq, harr⟩ := h b (.inScope c :: k) cs hro hb hr
  cases e with
  | normal => exact ⟨.normal, a₁, w₁, hq, .head h0 stepR_scope (StepsIn.trans harr (.one (fenced_calm hb hr rfl) stepR_inScope))⟩
  | exit id =>
    have hx : exitTo id (.inScope c :: k) = exitTo id k := by simp [exitTo]
    exact ⟨.exit id, a₁, w₁, hq, fun k' hk => .head h0 stepR_scope (harr.1 k' (by rw [hx]; exact hk)),
      fun hr' hk => let ⟨k₁, h1, h2⟩ := harr.2 hr' (by rw [hx]; exact hk); ⟨k₁, h1, .head h0 stepR_scope h2⟩⟩
  | goto l => exact hq.elim
  | ret => exact ⟨_, a₁, w₁, hq, .of_steps (.one h0 stepR_scope) harr⟩
  | panic ch => exact ⟨_, a₁, w₁, hq, .of_steps (.one h0 stepR_scope) harr⟩
  | outgrown => exact ⟨_, a₁, w₁, hq, .of_steps (b := b) (k := k) (cs := cs) (e := .outgrown) (.one h0 stepR_scope) harr⟩

/-! ### Codes -/
/-- What stays of the environment, by the way in which a code is left. -/
def FrW (c : Code) (ex : Exit) (st st' : St) : Prop :=
  match ex with
  | .normal => ∃ ws, wr none c = some ws ∧ FrE ws st st'
  | .exit id => ∃ ws, wr (some id) c = some ws ∧ FrE ws st st'
  | _ => True

structure FrX (C : Cfg) (c : Code) (ex : Exit) (st st' : St) : Prop where
  e : FrW c ex st st'
  ds : pushes C (hasRg c) = false → st'.ds = st.ds

theorem oBeq_refl (t : Option Nat) : oBeq t t = true := by cases t <;> simp [oBeq, nbeq.2]
theorem joinW_left {x : List (Nat × TypeId)} (y : Option (List (Nat × TypeId))) : ∃ z, joinW (some x) y = some z ∧ ∀ i, inW z i = false → inW x i = false := by
  cases y with
  | none => exact ⟨x, rfl, fun _ h => h⟩
  | some y => exact ⟨x ++ y, rfl, fun i h => by rw [inW_append] at h; simp at h; exact h.1⟩

theorem joinW_right (x : Option (List (Nat × TypeId))) {y : List (Nat × TypeId)} : ∃ z, joinW x (some y) = some z ∧ ∀ i, inW z i = false → inW y i = false := by
  cases x with
  | none => exact ⟨y, rfl, fun _ h => h⟩
  | some x => exact ⟨x ++ y, rfl, fun i h => by rw [inW_append] at h; simp at h; exact h.2⟩

theorem app_left {x y : List (Nat × TypeId)} (i : Nat) (h : inW (x ++ y) i = false) : inW x i = false := by rw [inW_append] at h; simp at h; exact h.1
theorem app_right {x y : List (Nat × TypeId)} (i : Nat) (h : inW (x ++ y) i = false) : inW y i = false := by rw [inW_append] at h; simp at h; exact h.2

theorem pushes_or {C : Cfg} {x y : Bool} (h : pushes C (orB x y) = false) : pushes C x = false ∧ pushes C y = false := by
  unfold pushes at *
  cases hr : C.rd with
  | none => rw [hr] at h; cases x <;> cases y <;> simp_all [orB]
  | some l => exact ⟨rfl, rfl⟩

/-- The first of two is left by a jump. -/
theorem frW_seq_left {a b : Code} {id : Nat} {st st' : St} (h : FrW a (.exit id) st st') : FrW (.seq a b) (.exit id) st st' := by
  obtain ⟨ws, hw, hf⟩ := h
  unfold FrW
  simp only [wr, isN, hw]
  cases wr none a with
  | none => exact ⟨ws, rfl, hf⟩
  | some x =>
    obtain ⟨z, hz, hm⟩ := joinW_right (match wr (some id) b with | some y => some (x ++ y) | none => none) (y := ws)
    exact ⟨z, hz, hf.mono hm⟩

/-- The first of two goes off its end. -/
theorem frW_seq_right {a b : Code} {ex : Exit} {st st1 st' : St} {x : List (Nat × TypeId)} (hx : wr none a = some x) (h1 : FrE x st st1) (h : FrW b ex st1 st') : FrW (.seq a b) ex st st' := by
  unfold FrW at *
  cases ex with
  | normal =>
    obtain ⟨ws, hw, hf⟩ := h
    refine ⟨x ++ ws, by simp only [wr, hx, isN, hw], (h1.mono fun i hi => app_left i hi).trans (hf.mono fun i hi => app_right i hi)⟩
  | exit id =>
    obtain ⟨ws, hw, hf⟩ := h
    simp only [wr, hx, isN, hw]
    obtain ⟨z, hz, hm⟩ := joinW_left (x := x ++ ws) (wr (some id) a)
    exact ⟨z, hz, (h1.mono fun i hi => app_left i (hm i hi)).trans (hf.mono fun i hi => app_right i (hm i hi))⟩
  | _ => trivial

/-- What a code achieves. -/
def Post (C : Cfg) (c : Code) (Q : Exit → St → World → Prop) (st : St) : Exit → Act → World → Prop :=
  fun ex a' w' => ∃ st', st'.ge = [] ∧ Agree C.N st' a' ∧ FrX C c ex st st' ∧ Q ex st' w'

theorem withB_out {C : Cfg} {b : Bool} {K : Nat → Prop} (h : withB C b K) : ∃ B, K B := by
  unfold withB at h
  split at h
  · exact h
  · exact ⟨_, h⟩

theorem opens_iff {C : Cfg} {b : Bool} {B : Nat} {ds : List Nat} {w : World} {X : Prop} : opens C b B ds w X ↔ ((pushes C b = true → Open B ds w) ∧ X) := by
  unfold opens
  cases pushes C b <;> simp

theorem allDs_at {C : Cfg} {b : Bool} {B : Nat} {ds ds' : List Nat} {w : World} {K : List Nat → Prop} (h : allDs C b B ds w K) (ho : pushes C b = true → Open B ds' w) (he : pushes C b = false → ds' = ds) : K ds' := by
  unfold allDs at h
  cases hp : pushes C b with
  | true => rw [hp] at h; exact h ds' (ho hp)
  | false => rw [hp] at h; rw [he hp]; exact h

theorem frE_ds {ws : List (Nat × TypeId)} {st st' : St} {ds : List Nat} (h : FrE ws st st') : FrE ws st { st' with ds := ds } := h

/-! ### A range over a function -/
def stOf : Nat → LoopState
  | 0 => .ready
  | 1 => .busy
  | 2 => .exhausted
  | k + 3 => if k % 2 = 0 then .done else .exhausted
def pendOf : Nat → Option Code
  | 0 => none
  | 1 => none
  | 2 => none
  | 3 => some .ret
  | 4 => some .ret
  | k + 5 => some (.exit (k / 2))

theorem parTys_spec {ag : List Oper} : ∀ {ps : List Nat} {ts : List (Nat × Ty)}, parTys P ag ps = some ts → keysOf ts = ps := by
  intro ps
  induction ps with
  | nil => intro ts h; simp only [parTys, Option.some.injEq] at h; subst h; rfl
  | cons t r ih =>
    intro ts h
    unfold parTys at h
    split at h
    · rename_i ty ts' _ hts
      split at h
      · cases h; simp [keysOf, ih hts]
      · cases h
    · rename_i ts' _ hts
      cases h; simp [keysOf, ih hts]
    · cases h

theorem packL_length : ∀ {ts : List (Nat × Ty)} {vs : List Value} {xs : List SV}, packL ts vs = some xs → xs.length = ts.length := by
  intro ts
  induction ts with
  | nil => intro vs xs h; simp only [packL, Option.some.injEq] at h; subst h; rfl
  | cons p r ih =>
    intro vs xs h
    unfold packL at h
    split at h
    · rename_i x xs' _ hxs; cases h; simp [ih hxs]
    · cases h

theorem dens_length (xs : List SV) : (dens xs).length = xs.length := by induction xs <;> simp_all [dens]

theorem zipE_spec : ∀ {ts : List (Nat × Ty)} {xs : List SV} {tmps : Array Value} (i : Nat) (x : SV), noDup (keysOf ts) = true → (∀ k ∈ keysOf ts, k < tmps.size) → xs.length = ts.length →
    (lkE (zipE ts xs) i = some x → (((keysOf ts).zip (dens xs)).foldl (fun (tmps : Array Value) (t, a) => tmps.setIfInBounds t a) tmps).getD i undef = x.den) ∧
    (inK (zipE ts xs) i = false → (((keysOf ts).zip (dens xs)).foldl (fun (tmps : Array Value) (t, a) => tmps.setIfInBounds t a) tmps).getD i undef = tmps.getD i undef) ∧
    (((keysOf ts).zip (dens xs)).foldl (fun (tmps : Array Value) (t, a) => tmps.setIfInBounds t a) tmps).size = tmps.size := by
  intro ts
  induction ts with
  | nil => intro xs tmps i x _ _ hl; cases xs <;> simp [zipE, lkE, keysOf]
  | cons p r ih =>
    intro xs tmps i x hd hk hl
    cases xs with
    | nil => simp at hl
    | cons y ys =>
      have hd' : noDup (keysOf r) = true ∧ p.1 ∉ keysOf r := by
        simp only [keysOf] at hd
        unfold noDup at hd
        split at hd
        · cases hd
        · rename_i hm
          refine ⟨hd, fun hc => ?_⟩
          rw [memN_iff.2 hc] at hm; cases hm
      have hp : p.1 < tmps.size := hk p.1 (by simp [keysOf])
      have hks : ∀ k ∈ keysOf r, k < (tmps.setIfInBounds p.1 y.den).size := fun k hk' => by simpa using hk k (by simp [keysOf, hk'])
      obtain ⟨i1, i2, i3⟩ := ih (xs := ys) (tmps := tmps.setIfInBounds p.1 y.den) i x hd'.1 hks (by simpa using hl)
      simp only [keysOf, dens, List.zip_cons_cons, List.foldl_cons, zipE, lkE, inK]
      refine ⟨fun h => ?_, fun h => ?_, by rw [i3]; simp⟩
      · split at h
        · rename_i hb
          cases h
          have hb := nbeq.1 hb
          have hno : inK (zipE r ys) i = false := by
            have : ∀ (r : List (Nat × Ty)) (ys : List SV), i ∉ keysOf r → inK (zipE r ys) i = false := by
              intro r
              induction r with
              | nil => intro ys _; cases ys <;> rfl
              | cons q r ihr =>
                intro ys hi
                cases ys with
                | nil => rfl
                | cons z zs =>
                  simp only [keysOf, List.mem_cons, not_or] at hi
                  simp only [zipE, inK, nbeq_no.2 (Ne.symm hi.1), ihr zs hi.2]
            exact this r ys (by rw [← hb]; exact hd'.2)
          rw [i2 hno, getD_set hp, if_pos hb]
        · exact i1 h
      · split at h
        · cases h
        · rename_i hb
          rw [i2 h, getD_set hp, if_neg (nbeq_no.1 hb)]

theorem round_agree {N : Nat} {st : St} {a : Act} {ps : Array Tmp} {ts : List (Nat × Ty)} {xs : List SV} (h : Agree N st a) (hk : keysOf ts = ps.toList) (hok : parsOk N (keysOf ts) = true) (hl : xs.length = ts.length) :
    Agree N { e := zipE ts xs ++ st.e, ge := [], ds := [] } { tmps := (ps.zip (dens xs).toArray).foldl (fun tmps (t, a) => tmps.setIfInBounds t a) a.tmps, defers := [] } := by
  have hok' : noDup (keysOf ts) = true ∧ ∀ k ∈ keysOf ts, k < a.tmps.size := by
    unfold parsOk at hok
    split at hok
    · rename_i h1
      refine ⟨h1, fun k hk => ?_⟩
      rw [h.size]
      exact Nat.lt_of_succ_le (Nat.le_of_ble_eq_true (allB_iff.1 hok k hk))
    · cases hok
  have hfold : (ps.zip (dens xs).toArray).foldl (fun (tmps : Array Value) (t, a) => tmps.setIfInBounds t a) a.tmps = ((keysOf ts).zip (dens xs)).foldl (fun (tmps : Array Value) (t, a) => tmps.setIfInBounds t a) a.tmps := by
    rw [hk, ← Array.foldl_toList, Array.toList_zip]
  refine ⟨?_, rfl, ?_, fun i d hd => by simp [lkG] at hd, fun i d hd => by simp [lkG] at hd⟩
  · show Array.size _ = N
    rw [hfold, (zipE_spec (ts := ts) (xs := xs) (tmps := a.tmps) 0 (.b true) hok'.1 hok'.2 hl).2.2, h.size]
  · intro i x hx
    show Array.getD _ i undef = _
    rw [hfold]
    obtain ⟨i1, i2, _⟩ := zipE_spec (ts := ts) (xs := xs) (tmps := a.tmps) i x hok'.1 hok'.2 hl
    simp only [lkE_append] at hx
    split at hx
    · exact i1 hx
    · rename_i hno
      rw [i2 (by simpa using hno)]
      exact h.e i x hx

theorem OrIds_out {F : Nat → Prop} : ∀ {l : List Nat}, OrIds F False l → ∃ id, F id := by
  intro l
  induction l with
  | nil => intro h; exact h.elim
  | cons i r ih => 
    intro h
    rcases h with h | h
    · exact ⟨i, h⟩
    · exact ih h

theorem ranged_out {r : Nat → Loop} {l : Nat} {ret : Bool} {exs : List Nat} {Q : Exit → St → World → Prop} {st' : St} {W : World} (h : ranged r l ret exs Q st' W) :
    (Rec r l 0 W ∧ Q .normal st' (turn r l 2 W)) ∨ (Rec r l 3 W ∧ Q .ret st' (turn r l 4 W)) ∨ ∃ id, Rec r l (5 + 2 * id) W ∧ Q (.exit id) st' (turn r l (6 + 2 * id) W) := by
  unfold ranged at h
  rcases h with h | h
  · exact .inl h
  · split at h
    · rcases h with h | h
      · exact .inr (.inl h)
      · exact .inr (.inr (OrIds_out h))
    · exact .inr (.inr (OrIds_out h))

/-- One round. -/
theorem round_sound {asg body : Code} {C : Cfg} {st : St} {a : Act} {l : Nat} {ps : Array Tmp} {ts : List (Nat × Ty)} {r : Nat → Loop} {fn df : Nat}
    (hr : r = fun k => { state := stOf k, pending := pendOf k, fn := fn, tmps := a.tmps, params := ps, assign := asg, body := body, defers := df })
    (iha : ∀ (C : Cfg) (Q : Exit → St → World → Prop) (st : St) (a : Act) (w : World), st.ge = [] → Agree C.N st a → vc P C asg Q st w → asg.wpIn (FW C.rd) 0 P (Post C asg Q st) a w)
    (ihb : ∀ (C : Cfg) (Q : Exit → St → World → Prop) (st : St) (a : Act) (w : World), st.ge = [] → Agree C.N st a → vc P C body Q st w → body.wpIn (FW C.rd) 0 P (Post C body Q st) a w)
    (h : Agree C.N st a) (hk : keysOf ts = ps.toList) (hok : parsOk C.N (keysOf ts) = true) {xs : List SV} (hl : xs.length = ts.length) {W : World} {R : Bool → World → Prop} (h0 : Rec r l 0 W)
    (hv : vc P { C with rd := some l } asg (fun ex st2 Wa => match ex with
        | .normal => Rec r l 0 Wa ∧ ∀ Wb : World, Wb = turn r l 1 Wa → vc P { C with rd := some l } body (fun ex _ W3 => Rec r l 1 W3 ∧ (match ex with
          | .normal => R true (turn r l 0 W3)
          | .ret => R false (turn r l 3 W3)
          | .exit id => R false (turn r l (5 + 2 * id) W3)
          | _ => False)) st2 Wb
        | _ => False) { e := zipE ts xs ++ st.e, ge := [], ds := [] } W) :
    Yield P l (dens xs).toArray W R := by
  intro rd'
  have hsz : (dens xs).toArray.size = (r 0).params.size := by
    rw [hr]
    simp only [List.size_toArray, dens_length, hl]
    have := congrArg List.length hk
    have hkl : ∀ ts : List (Nat × Ty), (keysOf ts).length = ts.length := by intro ts; induction ts <;> simp_all [keysOf]
    rw [hkl] at this
    simpa using this
  have hy := run_yield (P := P) (args := (dens xs).toArray) h0 hsz
  rw [hr] at hy
  refine ⟨_, _, _, _, hy, roundIn_of_wpIn trivial ?_⟩
  have hwp := iha { C with rd := some l } _ _ _ W rfl (round_agree h hk hok hl) hv
  refine wpIn_mono hwp ?_
  rintro ex a1 Wa ⟨s, g1, g2, g3, g4⟩
  cases ex with
  | normal =>
    obtain ⟨hrec, hvb⟩ := g4
    refine ⟨turn r l 1 Wa, ?_, ?_⟩
    · have := run_beginRound (P := P) hrec (by rw [hr]; rfl)
      rw [this]
      unfold turn
      rw [hr]
      rfl
    · refine wpIn_mono (ihb { C with rd := some l } _ s a1 _ g1 g2 (hvb _ rfl)) ?_
      rintro ex a3 W3 ⟨s3, k1, k2, k3, k4⟩
      obtain ⟨hb, hR⟩ := k4
      cases ex with
      | normal => exact ⟨_, _, run_endRound (P := P) none hb, true, rfl, by rw [hr] at hR ⊢; exact hR⟩
      | ret => exact ⟨_, _, run_endRound (P := P) (some .ret) hb, false, rfl, by rw [hr] at hR ⊢; exact hR⟩
      | exit id =>
        refine ⟨_, _, run_endRound (P := P) (some (.exit id)) hb, false, rfl, ?_⟩
        have e1 : stOf (5 + 2 * id) = .done := by
          rw [show 5 + 2 * id = (2 + 2 * id) + 3 by omega]; simp only [stOf]; rw [if_pos (by omega)]
        have e2 : pendOf (5 + 2 * id) = some (.exit id) := by
          rw [show 5 + 2 * id = (2 * id) + 5 by omega]; simp only [pendOf]; rw [show 2 * id / 2 = id by omega]
        unfold turn at hR
        rw [hr] at hR ⊢
        simp only [e1, e2] at hR
        exact hR
      | _ => exact hR.elim
  | _ => exact g4.elim

/-- Behind the iterator. -/
theorem behind {asg body : Code} {l : Nat} {ps : Array Tmp} {r : Nat → Loop} {fn df : Nat} {tmps : Array Value}
    (hr : r = fun k => { state := stOf k, pending := pendOf k, fn := fn, tmps := tmps, params := ps, assign := asg, body := body, defers := df })
    {C : Cfg} {f : Operand} {Q : Exit → St → World → Prop} {st st' : St} {a' : Act} {ret : Bool} {exs : List Nat} {W : World} (hge : st'.ge = []) (hag : Agree C.N st' a') (he : st'.e = st.e) (hds : C.rd.isSome = true → st'.ds = st.ds)
    (hR : ranged r l ret exs Q st' W) (v : Value) : rangePost (FW C.rd) 0 P l (Post C (.rangeFunc f ps asg body) Q st) a' (.returned v) W := by
  have frx : ∀ ex, FrX C (.rangeFunc f ps asg body) ex st st' := fun ex => by
    refine ⟨?_, fun hp => ?_⟩
    · unfold FrW
      cases ex <;> first | trivial | exact ⟨[], by simp [wr], fun i _ => by rw [he]⟩
    · cases hrd : C.rd with
      | none => simp [pushes, hrd, hasRg] at hp
      | some l => exact hds (by rw [hrd]; rfl)
  rcases ranged_out hR with ⟨h0, hQ⟩ | ⟨h0, hQ⟩ | ⟨id, h0, hQ⟩
  · have := run_endLoop (P := P) h0 (by rw [hr]; simp [stOf])
    refine ⟨_, _, this, ?_⟩
    unfold turn at hQ
    rw [hr] at hQ ⊢
    exact ⟨st', hge, hag, frx _, hQ⟩
  · have := run_endLoop (P := P) h0 (by rw [hr]; simp [stOf])
    refine ⟨_, _, this, ?_⟩
    unfold turn at hQ
    rw [hr] at hQ ⊢
    exact wpIn_ret ⟨st', hge, hag, frx _, hQ⟩
  · have e1 : stOf (5 + 2 * id) = .done := by
      rw [show 5 + 2 * id = (2 + 2 * id) + 3 by omega]; simp only [stOf]; rw [if_pos (by omega)]
    have e2 : pendOf (5 + 2 * id) = some (.exit id) := by
      rw [show 5 + 2 * id = (2 * id) + 5 by omega]; simp only [pendOf]; rw [show 2 * id / 2 = id by omega]
    have e3 : stOf (6 + 2 * id) = .exhausted := by
      rw [show 6 + 2 * id = (3 + 2 * id) + 3 by omega]; simp only [stOf]; rw [if_neg (by omega)]
    have e4 : pendOf (6 + 2 * id) = some (.exit id) := by
      rw [show 6 + 2 * id = (1 + 2 * id) + 5 by omega]; simp only [pendOf]; rw [show (1 + 2 * id) / 2 = id by omega]
    have := run_endLoop (P := P) h0 (by rw [hr]; simp [e1])
    refine ⟨_, _, this, ?_⟩
    unfold turn at hQ
    rw [hr] at hQ ⊢
    simp only [e2, e3, e4] at hQ ⊢
    exact wpIn_exit ⟨st', hge, hag, frx _, hQ⟩

theorem range_sound {f : Operand} {ps : Array Tmp} {asg body : Code}
    (iha : ∀ (C : Cfg) (Q : Exit → St → World → Prop) (st : St) (a : Act) (w : World), st.ge = [] → Agree C.N st a → vc P C asg Q st w → asg.wpIn (FW C.rd) 0 P (Post C asg Q st) a w)
    (ihb : ∀ (C : Cfg) (Q : Exit → St → World → Prop) (st : St) (a : Act) (w : World), st.ge = [] → Agree C.N st a → vc P C body Q st w → body.wpIn (FW C.rd) 0 P (Post C body Q st) a w)
    {C : Cfg} {Q : Exit → St → World → Prop} {st : St} {a : Act} {w : World} (hge : st.ge = []) (h : Agree C.N st a) (hv : vc P C (.rangeFunc f ps asg body) Q st w) :
    (Code.rangeFunc f ps asg body).wpIn (FW C.rd) 0 P (Post C (.rangeFunc f ps asg body) Q st) a w := by
  unfold vc at hv
  split at hv
  · rename_i fv ts hf hts
    have hk := parTys_spec hts
    split at hv
    · rename_i hok
      obtain ⟨g, lb, rfl, hen, hv⟩ := hv
      have hg : a.eval f = .func (.func g) #[] lb := by rw [ev_sound h (.nil a) hf, den_v]
      have eargs : ∀ l : Nat, (#[.func (.yield l) #[] #[]] ++ lb : Array Value) = (.func (.yield l) #[] #[] :: lb.toList).toArray := fun l => by apply Array.ext'; simp
      split at hv
      · rename_i hrd
        rw [hrd]
        refine wpIn_rangeFunc fun fn _ => ?_
        obtain ⟨r, hr⟩ : ∃ r : Nat → Loop, r = fun k => { state := stOf k, pending := pendOf k, fn := fn, tmps := a.tmps, params := ps, assign := asg, body := body, defers := w.heap.size } := ⟨_, rfl⟩
        have hcall := hv r w.heap.size (w.heap.size + 1) _ ⟨rfl, rfl, rfl⟩ ?_
        · refine ⟨w.heap.size + 1, [{ target := .collected w.heap.size, args := #[] }], (w.alloc (.deferred (some []))).alloc (.loop (r 0)), { target := .fn (.func g) lb, args := #[.func (.yield (w.heap.size + 1)) #[] #[]] },
            (w.alloc (.deferred (some []))).alloc (.loop (r 0)), g, #[.func (.yield (w.heap.size + 1)) #[] #[]] ++ lb, (w.alloc (.deferred (some []))).alloc (.loop (r 0)), ?_, ?_, ?_, ?_, fun h => by simp [FW] at h, ?_⟩
          · rw [hr]; exact run_enterLoop_outer _ _ _ _ _
          · simp only [resolve, hg]
            simp [go_sem]
          · intro f' _; trivial
          · simp [invoke, go_sem, run_enter hen]
          · rw [eargs]
            refine callsIn_FW (hcall.mono ?_)
            rintro e W ⟨⟨v, rfl⟩, hR⟩
            have := behind (P := P) (C := C) (f := f) (st := st) (st' := { st with ds := w.heap.size :: st.ds }) (a' := { a with defers := [{ target := .collected w.heap.size, args := #[] }] ++ a.defers }) hr hge
              ⟨h.size, by simp [h.defers], h.e, h.g, h.u⟩ rfl (fun hs => by rw [hrd] at hs; cases hs) hR v
            rw [hrd] at this
            exact this
        · -- the rounds
          refine AllL_intro fun vs => ?_
          split
          · trivial
          · rename_i xs hxs
            intro W R h0 hvr
            exact round_sound (fn := fn) (df := w.heap.size) hr iha ihb h hk hok (packL_length hxs) h0 hvr
      · rename_i l0 hrd
        obtain ⟨⟨q, hq⟩, hv⟩ := hv
        rw [hrd]
        refine wpIn_rangeFunc fun fn _ => ?_
        obtain ⟨r, hr⟩ : ∃ r : Nat → Loop, r = fun k => { state := stOf k, pending := pendOf k, fn := fn, tmps := a.tmps, params := ps, assign := asg, body := body, defers := q.defers } := ⟨_, rfl⟩
        have hcall := hv r w.heap.size _ ⟨rfl, rfl⟩ ?_
        · refine ⟨w.heap.size, [], w.alloc (.loop (r 0)), { target := .fn (.func g) lb, args := #[.func (.yield w.heap.size) #[] #[]] },
            w.alloc (.loop (r 0)), g, #[.func (.yield w.heap.size) #[] #[]] ++ lb, w.alloc (.loop (r 0)), ?_, ?_, ?_, ?_, fun h => by simp [FW] at h, ?_⟩
          · rw [hr]; exact run_enterLoop_inner hq _ _ _ _ _
          · simp only [resolve, hg]
            simp [go_sem]
          · intro f' _; trivial
          · simp [invoke, go_sem, run_enter hen]
          · rw [eargs]
            refine callsIn_FW (hcall.mono ?_)
            rintro e W ⟨⟨v, rfl⟩, hR⟩
            have := behind (P := P) (C := C) (f := f) (st := st) (st' := st) (a' := { a with defers := [] ++ a.defers }) hr hge
              ⟨h.size, by simp [h.defers], h.e, h.g, h.u⟩ rfl (fun _ => rfl) hR v
            rw [hrd] at this
            exact this
        · -- the rounds
          refine AllL_intro fun vs => ?_
          split
          · trivial
          · rename_i xs hxs
            intro W R h0 hvr
            exact round_sound (fn := fn) (df := q.defers) hr iha ihb h hk hok (packL_length hxs) h0 hvr
    · exact hv.elim
  · exact hv.elim

theorem vc_sound (hm : P.follows .mixedOrders = true) : ∀ (c : Code) (C : Cfg) (Q : Exit → St → World → Prop) (st : St) (a : Act) (w : World), st.ge = [] → Agree C.N st a → vc P C c Q st w →
    c.wpIn (FW C.rd) 0 P (Post C c Q st) a w := by
  intro c
  induction c with
  | skip => intro C Q st a w hge h hv; exact wpIn_skip ⟨st, hge, h, ⟨⟨[], rfl, .refl _ _⟩, fun _ => rfl⟩, hv⟩
  | label l => intro C Q st a w hge h hv; exact wpIn_label ⟨st, hge, h, ⟨⟨[], rfl, .refl _ _⟩, fun _ => rfl⟩, hv⟩
  | exit id => intro C Q st a w hge h hv; exact wpIn_exit ⟨st, hge, h, ⟨⟨[], by simp [wr, oBeq_refl], .refl _ _⟩, fun _ => rfl⟩, hv⟩
  | goto l => intro C Q st a w hge h hv; exact hv.elim
  | ret => intro C Q st a w hge h hv; exact wpIn_ret ⟨st, hge, h, ⟨trivial, fun _ => rfl⟩, hv⟩
  | refuse s => intro C Q st a w hge h hv; exact hv.elim
  | rangeFunc f ps ag b iha ihb => intro C Q st a w hge h hv; exact range_sound iha ihb hge h hv
  | region id ops draw =>
    intro C Q st a w hge h hv
    have := vcRegion_sound (rd := C.rd) (id := id) (od := lkO C.ords id) (ops := ops.toList) (draw := draw) (Q := Post C (.region id ops draw) Q st) (ws := wrOps ops.toList) hm (fun _ hi => hi) hge
      (K := fun st' w' => Q .normal st' w' ∧ st'.ge = []) (st := st) (a := a) (w := w)
      (fun st' a' w' ha hf hk => ⟨st', hk.2, ha, ⟨⟨wrOps ops.toList, rfl, hf.2⟩, fun _ => hf.1⟩, hk.1⟩) h
    simp only [Array.toArray_toList] at this
    refine this ?_
    -- behind a region nothing hangs on a guard
    have heq : ∀ (l : List Oper), vcOps P C.N ops.toList l (fun st' w' => Q .normal st' w') = vcOps P C.N ops.toList l (fun st' w' => Q .normal st' w' ∧ st'.ge = []) := by
      intro l
      induction l with
      | nil => funext st1 w1; simp [vcOps]
      | cons o r ih => funext st1 w1; simp only [vcOps, ih]
    have heq2 : ∀ (l : OT), vcOrd P C.N ops.toList l (fun st' w' => Q .normal st' w') = vcOrd P C.N ops.toList l (fun st' w' => Q .normal st' w' ∧ st'.ge = []) := by
      intro l
      induction l with
      | nil => funext st1 w1; simp [vcOrd]
      | one o r ih => funext st1 w1; simp only [vcOrd, ih]
      | alt s t ihs iht => funext st1 w1; simp only [vcOrd, ihs, iht]
    dsimp only [vc] at hv
    unfold vcRegion at hv ⊢
    split at hv
    · rw [← heq]; exact hv
    · split at hv
      · intro w' hw'; rw [← heq2]; exact hv w' hw'
      · exact hv.elim
  | cond o x y ihx ihy =>
    intro C Q st a w hge h hv
    have px : ∀ st', ∀ ex a' w', Post C x Q st' ex a' w' → Post C (.cond o x y) Q st' ex a' w' := by
      rintro st' ex a' w' ⟨s, h1, h2, ⟨h3, h3d⟩, h4⟩
      refine ⟨s, h1, h2, ⟨?_, fun hp => h3d (pushes_or hp).1⟩, h4⟩
      unfold FrW at *
      cases ex with
      | normal => obtain ⟨ws, hw, hf⟩ := h3; obtain ⟨z, hz, hmz⟩ := joinW_left (x := ws) (wr none y); exact ⟨z, by simp only [wr, hw, hz], hf.mono hmz⟩
      | exit id => obtain ⟨ws, hw, hf⟩ := h3; obtain ⟨z, hz, hmz⟩ := joinW_left (x := ws) (wr (some id) y); exact ⟨z, by simp only [wr, hw, hz], hf.mono hmz⟩
      | _ => trivial
    have py : ∀ st', ∀ ex a' w', Post C y Q st' ex a' w' → Post C (.cond o x y) Q st' ex a' w' := by
      rintro st' ex a' w' ⟨s, h1, h2, ⟨h3, h3d⟩, h4⟩
      refine ⟨s, h1, h2, ⟨?_, fun hp => h3d (pushes_or hp).2⟩, h4⟩
      unfold FrW at *
      cases ex with
      | normal => obtain ⟨ws, hw, hf⟩ := h3; obtain ⟨z, hz, hmz⟩ := joinW_right (wr none x) (y := ws); exact ⟨z, by simp only [wr, hw, hz], hf.mono hmz⟩
      | exit id => obtain ⟨ws, hw, hf⟩ := h3; obtain ⟨z, hz, hmz⟩ := joinW_right (wr (some id) x) (y := ws); exact ⟨z, by simp only [wr, hw, hz], hf.mono hmz⟩
      | _ => trivial
    unfold vc at hv
    split at hv
    · rename_i ho; exact wpIn_cond_true (ev_sound h (.nil a) ho) (wpIn_mono (ihx C Q st a w hge h hv) (px st))
    · rename_i ho; exact wpIn_cond_false (ev_sound h (.nil a) ho) (wpIn_mono (ihy C Q st a w hge h hv) (py st))
    · rename_i v _ _ ho
      split at hv
      · rename_i g hg0
        refine wpIn_cond_split (t := g.val) (by rw [ev_sound h (.nil a) ho, cndOf_den hg0]) (fun hg => ?_) (fun hg => ?_)
        · exact wpIn_mono (ihx C Q st a w hge h (hv.1 (Cnd.is_of hg))) (px st)
        · exact wpIn_mono (ihy C Q st a w hge h (hv.2 (Cnd.is_of hg))) (py st)
      · exact hv.elim
    · exact hv.elim
  | block id b ih =>
    intro C Q st a w hge h hv
    unfold vc at hv
    refine wpIn_block (wpIn_mono (ih C _ st a w hge h hv) ?_)
    rintro ex a' w' ⟨s, h1, h2, ⟨h3, h3d⟩, h4⟩
    cases ex with
    | normal =>
      refine ⟨s, h1, h2, ⟨?_, h3d⟩, h4⟩
      obtain ⟨ws, hw, hf⟩ := h3
      obtain ⟨z, hz, hmz⟩ := joinW_left (x := ws) (wr (some id) b)
      exact ⟨z, by simp only [wr, isN, hw, hz], hf.mono hmz⟩
    | exit j =>
      simp only at h4
      by_cases hj : j = id
      · subst hj
        rw [nbeq.2 rfl] at h4
        simp only [Exit.inBlock, if_true]
        refine ⟨s, h1, h2, ⟨?_, h3d⟩, h4⟩
        obtain ⟨ws, hw, hf⟩ := h3
        obtain ⟨z, hz, hmz⟩ := joinW_right (wr none b) (y := ws)
        exact ⟨z, by simp only [wr, isN, hw, hz], hf.mono hmz⟩
      · rw [nbeq_no.2 hj] at h4
        simp only [Exit.inBlock, hj, if_false]
        refine ⟨s, h1, h2, ⟨?_, h3d⟩, h4⟩
        obtain ⟨ws, hw, hf⟩ := h3
        exact ⟨ws, by simp only [wr, isN, oBeq, nbeq_no.2 hj, hw], hf⟩
    | goto l => exact ⟨s, h1, h2, ⟨trivial, h3d⟩, h4⟩
    | ret => exact ⟨s, h1, h2, ⟨trivial, h3d⟩, h4⟩
    | panic ch => exact ⟨s, h1, h2, ⟨trivial, h3d⟩, h4⟩
    | outgrown => exact ⟨s, h1, h2, ⟨trivial, h3d⟩, h4⟩
  | scope b ih =>
    intro C Q st a w hge h hv
    unfold vc at hv
    refine wpIn_scope (wpIn_mono (ih C _ st a w hge h hv) ?_)
    rintro ex a' w' ⟨s, h1, h2, ⟨h3, h3d⟩, h4⟩
    cases ex with
    | normal => exact ⟨s, h1, h2, ⟨h3, h3d⟩, h4⟩
    | exit j => exact ⟨s, h1, h2, ⟨h3, h3d⟩, h4⟩
    | goto l => exact h4.elim
    | ret => exact ⟨s, h1, h2, ⟨trivial, h3d⟩, h4⟩
    | panic ch => exact ⟨s, h1, h2, ⟨trivial, h3d⟩, h4⟩
    | outgrown => exact ⟨s, h1, h2, ⟨trivial, h3d⟩, h4⟩
  | seq x y ihx ihy =>
    intro C Q st a w hge h hv
    unfold vc at hv
    have jump : ∀ ex a' w' s, ex ≠ .normal → s.ge = [] → Agree C.N s a' → FrX C x ex st s → Q ex s w' → Post C (.seq x y) Q st ex a' w' := by
      intro ex a' w' s hne h1 h2 h3 h4
      refine ⟨s, h1, h2, ⟨?_, fun hp => h3.ds (pushes_or hp).1⟩, h4⟩
      cases ex with
      | normal => exact absurd rfl hne
      | exit id => exact frW_seq_left h3.e
      | _ => trivial
    split at hv
    · refine wpIn_seq (wpIn_mono (ihx C _ st a w hge h hv) ?_)
      rintro ex a' w' ⟨s, h1, h2, h3, h4⟩
      cases ex with
      | normal =>
        obtain ⟨ws, hw, hf⟩ := h3.e
        refine wpIn_mono (ihy C Q s a' w' h1 h2 h4) ?_
        rintro ex2 a2 w2 ⟨s2, k1, k2, k3, k4⟩
        exact ⟨s2, k1, k2, ⟨frW_seq_right hw hf k3.e, fun hp => (k3.ds (pushes_or hp).2).trans (h3.ds (pushes_or hp).1)⟩, k4⟩
      | exit j => exact jump _ _ _ s (by simp) h1 h2 h3 h4
      | goto l => exact jump _ _ _ s (by simp) h1 h2 h3 h4
      | ret => exact jump _ _ _ s (by simp) h1 h2 h3 h4
      | panic ch => exact jump _ _ _ s (by simp) h1 h2 h3 h4
      | outgrown => exact jump _ _ _ s (by simp) h1 h2 h3 h4
    · split at hv
      · refine wpIn_seq (wpIn_mono (ihx C _ st a w hge h hv) ?_)
        rintro ex a' w' ⟨s, h1, h2, h3, h4⟩
        cases ex with
        | normal => exact h4.elim
        | exit j => exact jump _ _ _ s (by simp) h1 h2 h3 h4
        | goto l => exact jump _ _ _ s (by simp) h1 h2 h3 h4
        | ret => exact jump _ _ _ s (by simp) h1 h2 h3 h4
        | panic ch => exact jump _ _ _ s (by simp) h1 h2 h3 h4
        | outgrown => exact jump _ _ _ s (by simp) h1 h2 h3 h4
      · rename_i ws hws
        split at hv
        · exact hv.elim
        · rename_i slots hslots
          obtain ⟨J, hv⟩ := hv
          obtain ⟨B, hv1, hv2⟩ := withB_out hv
          refine wpIn_seq (wpIn_mono (ihx C _ st a w hge h hv1) ?_)
          rintro ex a' w' ⟨s, h1, h2, h3, h4⟩
          cases ex with
          | normal =>
            obtain ⟨ws', hw, hf⟩ := h3.e
            have : ws' = ws := by rw [hws] at hw; cases hw; rfl
            subst this
            rw [opens_iff] at h4
            obtain ⟨hop, h4⟩ := h4
            split at h4
            · rename_i vs hvs
              obtain ⟨st1, hst1, hag, hge1, hf1, hds1⟩ := head_of_vals (named_in hslots) hf h2 hvs
              have hb := AllL_at hv2 h4 w' h4
              rw [hst1] at hb
              have hb' := allDs_at hb hop h3.ds
              refine wpIn_mono (ihy C Q { st1 with ds := s.ds } a' w' hge1 hag hb') ?_
              rintro ex2 a2 w2 ⟨s2, k1, k2, k3, k4⟩
              exact ⟨s2, k1, k2, ⟨frW_seq_right hw (frE_ds hf1) k3.e, fun hp => (k3.ds (pushes_or hp).2).trans (h3.ds (pushes_or hp).1)⟩, k4⟩
            · exact h4.elim
          | exit j => exact jump _ _ _ s (by simp) h1 h2 h3 h4
          | goto l => exact jump _ _ _ s (by simp) h1 h2 h3 h4
          | ret => exact jump _ _ _ s (by simp) h1 h2 h3 h4
          | panic ch => exact jump _ _ _ s (by simp) h1 h2 h3 h4
          | outgrown => exact jump _ _ _ s (by simp) h1 h2 h3 h4
  | loop b ih =>
    intro C Q st a w hge h hv
    unfold vc at hv
    have out : ∀ (ex : Exit) (s1 s : St) (zs : List (Nat × TypeId)), (∀ zs', wr none b = some zs' → zs' = zs) → FrE zs st s1 → (wr none b = none → s1 = st) → FrW b ex s1 s → ex ≠ .normal → FrW (.loop b) ex st s := by
      intro ex s1 s zs hzs hf1 hnone hx hne
      unfold FrW at *
      cases ex with
      | normal => exact absurd rfl hne
      | exit id =>
        obtain ⟨ws, hw, hf⟩ := hx
        simp only [wr, isN, hw]
        cases hb : wr none b with
        | none => rw [hnone hb] at hf; exact ⟨ws, rfl, hf⟩
        | some zs' =>
          have := hzs zs' hb
          subst this
          exact ⟨zs' ++ ws, rfl, (hf1.mono fun i hi => app_left i hi).trans (hf.mono fun i hi => app_right i hi)⟩
      | _ => trivial
    split at hv
    · rename_i hb
      refine wpIn_loop_ghost (fun _ a' w' => a' = a ∧ w' = w) (n := 0) ?_ ⟨rfl, rfl⟩
      rintro n a' w' ⟨rfl, rfl⟩
      refine wpIn_mono (ih C _ st a' w' hge h hv) ?_
      rintro ex a2 w2 ⟨s, h1, h2, h3, h4⟩
      have lv : ex ≠ .normal → FrX C (.loop b) ex st s := fun hne => ⟨out _ st s [] (fun zs' hz => by rw [hb] at hz; cases hz) (.refl _ _) (fun _ => rfl) h3.e hne, h3.ds⟩
      cases ex with
      | normal => exact h4.elim
      | exit j => exact ⟨s, h1, h2, lv (by simp), h4⟩
      | goto l => exact ⟨s, h1, h2, lv (by simp), h4⟩
      | ret => exact ⟨s, h1, h2, lv (by simp), h4⟩
      | panic ch => exact ⟨s, h1, h2, lv (by simp), h4⟩
      | outgrown => exact ⟨s, h1, h2, lv (by simp), h4⟩
    · rename_i ws hws
      split at hv
      · exact hv.elim
      · rename_i slots hslots
        split at hv
        · exact hv.elim
        · rename_i vs0 hvs0
          obtain ⟨I, M, hv⟩ := hv
          obtain ⟨B, hI0, hall⟩ := withB_out hv
          rw [opens_iff] at hall
          obtain ⟨hop0, hall⟩ := hall
          obtain ⟨st0, hst0, hag0, hge0, hf0, hds0⟩ := head_of_vals (carry_in hslots) (.refl ws st) h hvs0
          refine wpIn_loop_ghost (fun n a' w' => ∃ vs st1 ds, headSt st ws slots vs = some st1 ∧ Agree C.N { st1 with ds := ds } a' ∧ st1.ge = [] ∧ FrE ws st st1 ∧ atI I vs w' ∧ atN M vs w' = n ∧ (pushes C (hasRg b) = true → Open B ds w') ∧ (pushes C (hasRg b) = false → ds = st.ds) ∧ st1.ds = st.ds) (n := atN M vs0 w) ?_
            ⟨vs0, st0, st.ds, hst0, hag0, hge0, hf0, hI0, rfl, hop0, fun _ => rfl, hds0⟩
          rintro n a' w' ⟨vs, st1, ds, hst1, hag, hge1, hf1, hI, rfl, hop, hdse, hds1⟩
          have hb := AllL_at hall hI w' hI
          rw [hst1] at hb
          have hb' := allDs_at hb hop (ds' := ds) (fun hp => hdse hp)
          refine wpIn_mono (ih C _ { st1 with ds := ds } a' w' hge1 hag hb') ?_
          rintro ex a2 w2 ⟨s, h1, h2, h3, h4⟩
          have hx : ex ≠ .normal → FrX C (.loop b) ex st s := fun hne =>
            ⟨out ex { st1 with ds := ds } s ws (fun zs' hz => by rw [hws] at hz; cases hz; rfl) (frE_ds hf1) (fun hn => by rw [hws] at hn; cases hn) h3.e hne, fun hp => (h3.ds hp).trans (hdse hp)⟩
          cases ex with
          | normal =>
            obtain ⟨ws', hw, hf⟩ := h3.e
            have : ws' = ws := by rw [hws] at hw; cases hw; rfl
            subst this
            rw [opens_iff] at h4
            obtain ⟨hop4, h4⟩ := h4
            split at h4
            · rename_i vs' hvs'
              obtain ⟨st2, hst2, hag2, hge2, hf2, hds2⟩ := head_of_vals (carry_in hslots) ((frE_ds hf1).trans hf) h2 hvs'
              exact ⟨_, h4.2, vs', st2, s.ds, hst2, hag2, hge2, hf2, h4.1, rfl, hop4, fun hp => (h3.ds hp).trans (hdse hp), hds2⟩
            · exact h4.elim
          | exit j => exact ⟨s, h1, h2, hx (by simp), h4⟩
          | goto l => exact ⟨s, h1, h2, hx (by simp), h4⟩
          | ret => exact ⟨s, h1, h2, hx (by simp), h4⟩
          | panic ch => exact ⟨s, h1, h2, hx (by simp), h4⟩
          | outgrown => exact ⟨s, h1, h2, hx (by simp), h4⟩

/-! ### Functions -/
theorem resVC_run {N : Nat} {st : St} {a : Act} {w : World} (h : Agree N st a) : ∀ {rs : List ResultVar} {F : List SV → Prop}, resVC P st w rs F →
    ∃ xs, F xs ∧ ∀ g : ResultVar → Sem Value, (∀ t, g (.tmp t) = pure (a.tmps.getD t undef)) → (∀ d t, g (.cell d t) = do loadVar t (← asAddr (a.tmps.getD d undef))) → (rs.mapM g).run P w = .ok (dens xs) w := by
  intro rs
  induction rs with
  | nil => intro F hF; exact ⟨[], hF, fun g _ _ => by simp [dens]⟩
  | cons r rs ih =>
    intro F hF
    cases r with
    | tmp t =>
      dsimp only [resVC] at hF
      split at hF
      · rename_i x hx
        obtain ⟨xs, hF, hxs⟩ := ih hF
        refine ⟨x :: xs, hF, fun g g1 g2 => ?_⟩
        simp only [List.mapM_cons, Sem.run_bind, g1, Sem.run_pure, Result.andThen_ok, hxs g g1 g2, h.e _ _ hx, dens]
      · exact hF.elim
    | cell d t =>
      dsimp only [resVC] at hF
      split at hF
      · rename_i x ty hx hty
        obtain ⟨b, o, hp, hF⟩ := asPtr_out hF
        obtain ⟨y, hF, hy⟩ := loadT_out hty hF
        obtain ⟨xs, hF, hxs⟩ := ih hF
        refine ⟨y :: xs, hF, fun g g1 g2 => ?_⟩
        have hd := h.e _ _ hx
        rw [hp] at hd
        simp only [List.mapM_cons, Sem.run_bind, g2, Sem.run_pure, Result.andThen_ok, hd, asAddr, hy w (fun _ => rfl), hxs g g1 g2, dens]
      · exact hF.elim

theorem ofResults_den (xs : List SV) : (ofResults xs).den = (if h : (dens xs).toArray.size = 1 then (dens xs).toArray[0] else .tuple (dens xs).toArray) := by
  have hd : ∀ l : List SV, dens l = l.map SV.den := by intro l; induction l <;> simp_all [dens]
  cases xs with
  | nil => simp [ofResults, dens, SV.den]
  | cons x r =>
    cases r with
    | nil => simp [ofResults, dens]
    | cons y r => simp [ofResults, dens, SV.den, hd]

theorem initE_get : ∀ (args : List Value) (k i : Nat) (x : SV), lkE (initE args k) i = some x → k ≤ i ∧ ∃ v, args[i - k]? = some v ∧ x.den = v := by
  intro args
  induction args with
  | nil => intro k i x h; simp [initE, lkE] at h
  | cons v r ih =>
    intro k i x h
    simp only [initE, lkE] at h
    split at h
    · rename_i hb
      cases h
      have := nbeq.1 hb
      subst this
      exact ⟨Nat.le_refl _, v, by simp, rfl⟩
    · obtain ⟨h1, u, h2, h3⟩ := ih (k + 1) i x h
      refine ⟨by omega, u, ?_, h3⟩
      rw [show i - k = (i - (k + 1)) + 1 by omega]
      simpa using h2

theorem leaves_unD {fn : Func} {tmps : Array Value} {R : Ending → World → Prop} {F : World → Prop} {n : Nat} {Fe : Fence} :
    ∀ (ds : List Nat) (w : World), unD ds w F → (∀ w', F w' → ∃ v, (results fn tmps).run P w' = .ok v w' ∧ R (.returned v) w') →
      LeavesInM Fe n P fn tmps R (ds.map fun r => { target := .collected r, args := #[] }) .returning w := by
  intro ds
  induction ds with
  | nil => intro w hu hF; exact hF w hu
  | cons d r ih =>
    intro w hu hF
    refine ⟨by simp, .inl ⟨d, _, rfl, run_takeDeferred hu.1, ih _ hu.2 hF⟩⟩

theorem retQ_post {fn : Func} {R : Ending → World → Prop} {C : Cfg} {c : Code} {st0 : St} {Fe : Fence} {n : Nat} : ∀ ex a w, Post C c (retQ P fn R) st0 ex a w → bodyPostM Fe n P fn R ex a w := by
  have main : ∀ st a w, Agree C.N st a → (unD st.ds w fun w' => resVC P st w' fn.results.toList fun xs => R (.returned (ofResults xs).den) w') →
      LeavesInM Fe n P fn a.tmps R a.defers .returning w := by
    intro st a w hag hq
    rw [hag.defers]
    refine leaves_unD st.ds w hq fun w' hr => ?_
    obtain ⟨xs, hR, hrun⟩ := resVC_run hag hr
    refine ⟨_, ?_, hR⟩
    unfold results
    rw [Sem.run_bind, Array.mapM_eq_mapM_toList]
    simp only [Sem.run_map]
    rw [hrun _ (fun t => rfl) (fun d t => rfl)]
    simp only [Result.andThen_ok, Sem.run_pure, ofResults_den]
  rintro ex a w ⟨st, _, hag, _, hq⟩
  cases ex with
  | normal => exact main st a w hag hq
  | ret => exact main st a w hag hq
  | _ => exact hq.elim

/-- **A FUNCTION's CONTRACT OUT OF ITS VERIFICATION CONDITION.** -/
theorem calls_of_vc {f : FuncId} {fn : Func} {args : List Value} {w : World} {R : Ending → World → Prop} (cuts : List Nat) (ords : List (Nat × List Nat)) (hm : P.follows .mixedOrders = true)
    (hf : P.funcs[f]? = some fn) (hv : vcFn P cuts ords fn args w R) : Calls P f args.toArray w R := by
  unfold vcFn at hv
  split at hv
  · exact hv.elim
  · rename_i c hb
    split at hv
    · rename_i hle
      have hle := Nat.le_of_ble_eq_true hle
      have hag : Agree (cfgOf cuts ords fn).N { e := initE args 0, ge := [], ds := [] } { tmps := args.toArray ++ Array.replicate (fn.ntmps - args.toArray.size) undef, defers := [] } := by
        refine ⟨by simp [cfgOf]; omega, rfl, ?_, fun i d hd => by simp [lkG] at hd, fun i d hd => by simp [lkG] at hd⟩
        intro i x hx
        obtain ⟨_, v, hv1, hv2⟩ := initE_get args 0 i x hx
        rw [hv2]
        simp only [Nat.sub_zero] at hv1
        have hi : i < args.length := (List.getElem?_eq_some_iff.1 hv1).1
        simp [Array.getD_eq_getD_getElem?, Array.getElem?_append, hi]
        exact (List.getElem?_eq_some_iff.1 hv1).2
      have := vc_sound hm c (cfgOf cuts ords fn) (retQ P fn R) _ _ w rfl hag hv
      exact (callsIn_wide (n := 0)).1 (callsIn_of_wp_marks (F := Fence.wide) hf hb trivial (wpIn_mono this retQ_post))
    · exact hv.elim
end

end Go.Vc

/- The seat's program by its name, and the one fact that the generator asks of it. -/
namespace Go.Proofs.YthnimelcbbinaaaDoor
open Go Go.Vc
set_option maxRecDepth 20000
theorem Tryd.mixed : Tryd.prog.follows .mixedOrders = true := by kernel_rfl
end Go.Proofs.YthnimelcbbinaaaDoor

namespace Go.Vc
open Go
abbrev RI (w : World) (b o : Nat) (F : Int → Prop) : Prop := ∃ n : Int, w.cell? ⟨b, o, none⟩ = some (.int .i64 n) ∧ F n
abbrev RS (w : World) (b o : Nat) (F : ByteArray → Prop) : Prop := ∃ s : ByteArray, w.cell? ⟨b, o, none⟩ = some (.string s) ∧ F s
abbrev RL (w : World) (b o : Nat) (F : Option Addr → Nat → Nat → Prop) : Prop := ∃ (p : Option Addr) (n c : Nat), w.cell? ⟨b, o, none⟩ = some (.slice p n c) ∧ F p n c
abbrev CW (w : World) (b o : Nat) (F : Unit → Prop) : Prop := (∃ u : Value, w.cell? ⟨b, o, none⟩ = some u) ∧ w.frozen? ⟨b, o, none⟩ = false ∧ F ()
end Go.Vc

/- The verification conditions of the functions, evaluated: printed by program. -/
namespace Go.Proofs.YthnimelcbbinaaaDoor
open Go Go.Vc
set_option maxRecDepth 20000

set_option maxRecDepth 100000 in
def hhalf_T (a : Int) (b : Int) (c : Int) (d : Int) (x : Int) (r : Int) (s : Int) (w : World) (R : Ending → World → Prop) : Prop :=
  Calls Tryd.prog 29
 #[Value.int IntKind.u32 (bits BinOp.xor IntKind.u32 d (IntKind.u32.wrap (a + IntKind.u32.wrap (b + x)))), Value.int IntKind.i64 (IntKind.i64.wrap (0 - r))] w
 fun (e1 : Ending) (w2 : World) ↦
 ∃ (n3 : Int),
 e1 = Ending.returned (Value.int IntKind.u32 n3) ∧
 Calls Tryd.prog 29 #[Value.int IntKind.u32 (bits BinOp.xor IntKind.u32 b (IntKind.u32.wrap (c + n3))), Value.int IntKind.i64 (IntKind.i64.wrap (0 - s))] w2
 fun (e4 : Ending) (w5 : World) ↦
 ∃ (n6 : Int),
 e4 = Ending.returned (Value.int IntKind.u32 n6) ∧
 R
 (Ending.returned
 (Value.tuple
 #[Value.int IntKind.u32 (IntKind.u32.wrap (a + IntKind.u32.wrap (b + x))), Value.int IntKind.u32 n6, Value.int IntKind.u32 (IntKind.u32.wrap (c + n3)),
 Value.int IntKind.u32 n3]))
 w5

set_option maxRecDepth 100000 in
theorem hhalf_eq (a : Int) (b : Int) (c : Int) (d : Int) (x : Int) (r : Int) (s : Int) (w : World) (R : Ending → World → Prop) : hhalf_T a b c d x r s w R = vcFn Tryd.prog [] [] Tryd.f26 [Value.int IntKind.u32 a, Value.int IntKind.u32 b, Value.int IntKind.u32 c, Value.int IntKind.u32 d, Value.int IntKind.u32 x, Value.int IntKind.i64 r, Value.int IntKind.i64 s] w R := by kernel_rfl

set_option maxRecDepth 100000 in
theorem hhalf_vc (a : Int) (b : Int) (c : Int) (d : Int) (x : Int) (r : Int) (s : Int) (w : World) (R : Ending → World → Prop) (hvc : hhalf_T a b c d x r s w R) : Calls Tryd.prog 26 #[Value.int IntKind.u32 a, Value.int IntKind.u32 b, Value.int IntKind.u32 c, Value.int IntKind.u32 d, Value.int IntKind.u32 x, Value.int IntKind.i64 r, Value.int IntKind.i64 s] w R :=
  calls_of_vc (args := [Value.int IntKind.u32 a, Value.int IntKind.u32 b, Value.int IntKind.u32 c, Value.int IntKind.u32 d, Value.int IntKind.u32 x, Value.int IntKind.i64 r, Value.int IntKind.i64 s]) [] [] Tryd.mixed Tryd.func26 (cast (hhalf_eq _ _ _ _ _ _ _ w R) hvc)

set_option maxRecDepth 100000 in
def hrounds_T (v : Array Value) (m : Array Value) (w : World) (R : Ending → World → Prop) : Prop :=
  ∀ (b1 : Nat) (w'2 : World),
 New w
 (Obj.cells
 (match Value.agg v with
 | Value.agg cs4 => cs4
 | v5 => #[v5])
 49)
 b1 w'2 →
 ∀ (b7 : Nat) (w'8 : World),
 New w'2
 (Obj.cells
 (match Value.agg m with
 | Value.agg cs10 => cs10
 | v11 => #[v11])
 49)
 b7 w'8 →
 ∀ (b13 : Nat) (w'14 : World),
 New w'8 (Obj.cells (zeroA Tryd.prog 49) 49) b13 w'14 →
 ∃ (vs16 : Array Value),
 vs16.size = 160 ∧
 CellsAt w'14 1 0 vs16 ∧
 ∃ (I17 : Int → World → Prop),
 ∃ (M18 : Int → World → Nat),
 I17 0 w'14 ∧
 ∀ (n19 : Int) (w'20 : World),
 I17 n19 w'20 →
 (n19 < 10 →
 0 ≤ n19 ∧
 n19 < 10 ∧
 ∀ (b23 : Nat) (w'24 : World),
 New w'20 (Obj.cells (zeroA Tryd.prog 53) 53) b23 w'24 →
 (vs16.extract (n19.toNat * 16) (n19.toNat * 16 + 16)).size = 16 ∧
 CanPut w'24 b23 0 (vs16.extract (n19.toNat * 16) (n19.toNat * 16 + 16)) ∧
 ∀ (w'26 : World),
 Put w'24 b23 0
 (vs16.extract
 (scale n19.toNat
 (Ty.mk true
 [Leaf.int IntKind.u8, Leaf.int IntKind.u8, Leaf.int IntKind.u8, Leaf.int IntKind.u8, Leaf.int IntKind.u8, Leaf.int IntKind.u8, Leaf.int IntKind.u8, Leaf.int IntKind.u8,
 Leaf.int IntKind.u8, Leaf.int IntKind.u8, Leaf.int IntKind.u8, Leaf.int IntKind.u8, Leaf.int IntKind.u8, Leaf.int IntKind.u8, Leaf.int IntKind.u8, Leaf.int IntKind.u8]
 (Value.agg
 (Array.mk
 [Value.int IntKind.u8 (Int.ofNat 0), Value.int IntKind.u8 (Int.ofNat 0), Value.int IntKind.u8 (Int.ofNat 0), Value.int IntKind.u8 (Int.ofNat 0),
 Value.int IntKind.u8 (Int.ofNat 0), Value.int IntKind.u8 (Int.ofNat 0), Value.int IntKind.u8 (Int.ofNat 0), Value.int IntKind.u8 (Int.ofNat 0),
 Value.int IntKind.u8 (Int.ofNat 0), Value.int IntKind.u8 (Int.ofNat 0), Value.int IntKind.u8 (Int.ofNat 0), Value.int IntKind.u8 (Int.ofNat 0),
 Value.int IntKind.u8 (Int.ofNat 0), Value.int IntKind.u8 (Int.ofNat 0), Value.int IntKind.u8 (Int.ofNat 0), Value.int IntKind.u8 (Int.ofNat 0)]))
 16 true 16).n)
 (scale n19.toNat
 (Ty.mk true
 [Leaf.int IntKind.u8, Leaf.int IntKind.u8, Leaf.int IntKind.u8, Leaf.int IntKind.u8, Leaf.int IntKind.u8, Leaf.int IntKind.u8, Leaf.int IntKind.u8, Leaf.int IntKind.u8,
 Leaf.int IntKind.u8, Leaf.int IntKind.u8, Leaf.int IntKind.u8, Leaf.int IntKind.u8, Leaf.int IntKind.u8, Leaf.int IntKind.u8, Leaf.int IntKind.u8, Leaf.int IntKind.u8]
 (Value.agg
 (Array.mk
 [Value.int IntKind.u8 (Int.ofNat 0), Value.int IntKind.u8 (Int.ofNat 0), Value.int IntKind.u8 (Int.ofNat 0), Value.int IntKind.u8 (Int.ofNat 0),
 Value.int IntKind.u8 (Int.ofNat 0), Value.int IntKind.u8 (Int.ofNat 0), Value.int IntKind.u8 (Int.ofNat 0), Value.int IntKind.u8 (Int.ofNat 0),
 Value.int IntKind.u8 (Int.ofNat 0), Value.int IntKind.u8 (Int.ofNat 0), Value.int IntKind.u8 (Int.ofNat 0), Value.int IntKind.u8 (Int.ofNat 0),
 Value.int IntKind.u8 (Int.ofNat 0), Value.int IntKind.u8 (Int.ofNat 0), Value.int IntKind.u8 (Int.ofNat 0), Value.int IntKind.u8 (Int.ofNat 0)]))
 16 true 16).n +
 (Ty.mk true
 [Leaf.int IntKind.u8, Leaf.int IntKind.u8, Leaf.int IntKind.u8, Leaf.int IntKind.u8, Leaf.int IntKind.u8, Leaf.int IntKind.u8, Leaf.int IntKind.u8, Leaf.int IntKind.u8,
 Leaf.int IntKind.u8, Leaf.int IntKind.u8, Leaf.int IntKind.u8, Leaf.int IntKind.u8, Leaf.int IntKind.u8, Leaf.int IntKind.u8, Leaf.int IntKind.u8, Leaf.int IntKind.u8]
 (Value.agg
 (Array.mk
 [Value.int IntKind.u8 (Int.ofNat 0), Value.int IntKind.u8 (Int.ofNat 0), Value.int IntKind.u8 (Int.ofNat 0), Value.int IntKind.u8 (Int.ofNat 0),
 Value.int IntKind.u8 (Int.ofNat 0), Value.int IntKind.u8 (Int.ofNat 0), Value.int IntKind.u8 (Int.ofNat 0), Value.int IntKind.u8 (Int.ofNat 0),
 Value.int IntKind.u8 (Int.ofNat 0), Value.int IntKind.u8 (Int.ofNat 0), Value.int IntKind.u8 (Int.ofNat 0), Value.int IntKind.u8 (Int.ofNat 0),
 Value.int IntKind.u8 (Int.ofNat 0), Value.int IntKind.u8 (Int.ofNat 0), Value.int IntKind.u8 (Int.ofNat 0), Value.int IntKind.u8 (Int.ofNat 0)]))
 16 true 16).n)).1
 w'26 →
 ∃ (vs28 : Array Value),
 vs28.size = 32 ∧
 CellsAt w'26 2 0 vs28 ∧
 ∃ (I29 : Int → World → Prop),
 ∃ (M30 : Int → World → Nat),
 I29 0 w'26 ∧
 ∀ (n31 : Int) (w'32 : World),
 I29 n31 w'32 →
 (n31 < 8 →
 0 ≤ n31 ∧
 n31 < 8 ∧
 ∃ (n35 : Int),
 vs28[n31.toNat * 4]? = some (Value.int IntKind.u8 n35) ∧
 ∃ (n38 : Int),
 vs28[n31.toNat * 4 + 1]? = some (Value.int IntKind.u8 n38) ∧
 ∃ (n41 : Int),
 vs28[n31.toNat * 4 + 2]? = some (Value.int IntKind.u8 n41) ∧
 ∃ (n44 : Int),
 vs28[n31.toNat * 4 + 3]? = some (Value.int IntKind.u8 n44) ∧
 ∀ (b47 : Nat) (w'48 : World),
 New w'32 (Obj.cells #[Value.int IntKind.u8 0, Value.int IntKind.u8 0, Value.int IntKind.u8 0, Value.int IntKind.u8 0] 55) b47 w'48 →
 (∃ (u50 : Value), w'48.cell? (Addr.mk b47 0 none) = some u50) ∧
 w'48.frozen? (Addr.mk b47 0 none) = false ∧
 (∃ (u51 : Value), w'48.cell? (Addr.mk b47 1 none) = some u51) ∧
 w'48.frozen? (Addr.mk b47 1 none) = false ∧
 (∃ (u52 : Value), w'48.cell? (Addr.mk b47 2 none) = some u52) ∧
 w'48.frozen? (Addr.mk b47 2 none) = false ∧
 (∃ (u53 : Value), w'48.cell? (Addr.mk b47 3 none) = some u53) ∧
 w'48.frozen? (Addr.mk b47 3 none) = false ∧
 ∀ (w'54 : World),
 Put w'48 b47 0 [Value.int IntKind.u8 n35, Value.int IntKind.u8 n38, Value.int IntKind.u8 n41, Value.int IntKind.u8 n44] w'54 →
 ∀ (w'56 : World),
 Drew w'54 w'56 →
 (0 : Int) ≤ 0 ∧
 (0 : Int) < 4 ∧
 ∃ (n58 : Int),
 w'56.cell? (Addr.mk b47 0 none) = some (Value.int IntKind.u8 n58) ∧
 0 ≤ n58 ∧
 n58 < 16 ∧
 ∃ (n59 : Int),
 w'56.cell? (Addr.mk b1 (0 + n58.toNat) none) = some (Value.int IntKind.u32 n59) ∧
 (0 : Int) ≤ 1 ∧
 (1 : Int) < 4 ∧
 ∃ (n60 : Int),
 w'56.cell? (Addr.mk b47 1 none) = some (Value.int IntKind.u8 n60) ∧
 0 ≤ n60 ∧
 n60 < 16 ∧
 ∃ (n61 : Int),
 w'56.cell? (Addr.mk b1 (0 + n60.toNat) none) = some (Value.int IntKind.u32 n61) ∧
 (0 : Int) ≤ 2 ∧
 (2 : Int) < 4 ∧
 ∃ (n62 : Int),
 w'56.cell? (Addr.mk b47 2 none) = some (Value.int IntKind.u8 n62) ∧
 0 ≤ n62 ∧
 n62 < 16 ∧
 ∃ (n63 : Int),
 w'56.cell? (Addr.mk b1 (0 + n62.toNat) none) = some (Value.int IntKind.u32 n63) ∧
 (0 : Int) ≤ 3 ∧
 (3 : Int) < 4 ∧
 ∃ (n64 : Int),
 w'56.cell? (Addr.mk b47 3 none) = some (Value.int IntKind.u8 n64) ∧
 0 ≤ n64 ∧
 n64 < 16 ∧
 ∃ (n65 : Int),
 w'56.cell? (Addr.mk b1 (0 + n64.toNat) none) = some (Value.int IntKind.u32 n65) ∧
 0 ≤ IntKind.i64.wrap (2 * n31) ∧
 IntKind.i64.wrap (2 * n31) < 16 ∧
 ∃ (n66 : Int),
 w'56.cell? (Addr.mk b23 (0 + (IntKind.i64.wrap (2 * n31)).toNat) none) = some (Value.int IntKind.u8 n66) ∧
 0 ≤ n66 ∧
 n66 < 16 ∧
 ∃ (n67 : Int),
 w'56.cell? (Addr.mk b7 (0 + n66.toNat) none) = some (Value.int IntKind.u32 n67) ∧
 Calls Tryd.prog 26
 #[Value.int IntKind.u32 n59, Value.int IntKind.u32 n61, Value.int IntKind.u32 n63, Value.int IntKind.u32 n65, Value.int IntKind.u32 n67, Value.int IntKind.i64 16,
 Value.int IntKind.i64 12]
 w'56 fun (e68 : Ending) (w69 : World) ↦
 ∃ (n70 : Int),
 ∃ (n71 : Int),
 ∃ (n72 : Int),
 ∃ (n73 : Int),
 e68 = Ending.returned (Value.tuple #[Value.int IntKind.u32 n70, Value.int IntKind.u32 n71, Value.int IntKind.u32 n72, Value.int IntKind.u32 n73]) ∧
 ∀ (w'74 : World),
 Drew w69 w'74 →
 (0 : Int) ≤ 0 ∧
 (0 : Int) < 4 ∧
 ∃ (n76 : Int),
 w'74.cell? (Addr.mk b47 0 none) = some (Value.int IntKind.u8 n76) ∧
 (0 : Int) ≤ 1 ∧
 (1 : Int) < 4 ∧
 ∃ (n77 : Int),
 w'74.cell? (Addr.mk b47 1 none) = some (Value.int IntKind.u8 n77) ∧
 (0 : Int) ≤ 2 ∧
 (2 : Int) < 4 ∧
 ∃ (n78 : Int),
 w'74.cell? (Addr.mk b47 2 none) = some (Value.int IntKind.u8 n78) ∧
 (0 : Int) ≤ 3 ∧
 (3 : Int) < 4 ∧
 ∃ (n79 : Int),
 w'74.cell? (Addr.mk b47 3 none) = some (Value.int IntKind.u8 n79) ∧
 0 ≤ IntKind.i64.wrap (IntKind.i64.wrap (2 * n31) + 1) ∧
 IntKind.i64.wrap (IntKind.i64.wrap (2 * n31) + 1) < 16 ∧
 ∃ (n80 : Int),
 w'74.cell? (Addr.mk b23 (0 + (IntKind.i64.wrap (IntKind.i64.wrap (2 * n31) + 1)).toNat) none) = some (Value.int IntKind.u8 n80) ∧
 0 ≤ n80 ∧
 n80 < 16 ∧
 ∃ (n81 : Int),
 w'74.cell? (Addr.mk b7 (0 + n80.toNat) none) = some (Value.int IntKind.u32 n81) ∧
 Calls Tryd.prog 26
 #[Value.int IntKind.u32 n70, Value.int IntKind.u32 n71, Value.int IntKind.u32 n72, Value.int IntKind.u32 n73, Value.int IntKind.u32 n81, Value.int IntKind.i64 8,
 Value.int IntKind.i64 7]
 w'74 fun (e82 : Ending) (w83 : World) ↦
 ∃ (n84 : Int),
 ∃ (n85 : Int),
 ∃ (n86 : Int),
 ∃ (n87 : Int),
 e82 = Ending.returned (Value.tuple #[Value.int IntKind.u32 n84, Value.int IntKind.u32 n85, Value.int IntKind.u32 n86, Value.int IntKind.u32 n87]) ∧
 SameTo (some [b7, b23, b47, b47, b47, b47]) w'74 w'74 w83 ∧
 0 ≤ n76 ∧
 n76 < 16 ∧
 (∃ (u88 : Value), w83.cell? (Addr.mk b1 (0 + n76.toNat) none) = some u88) ∧
 w83.frozen? (Addr.mk b1 (0 + n76.toNat) none) = false ∧
 ∀ (w'89 : World),
 Put w83 b1 (0 + n76.toNat) [Value.int IntKind.u32 n84] w'89 →
 SameTo (some [b7, b23, b47, b47, b47, b47]) w'74 w83 w'89 ∧
 0 ≤ n77 ∧
 n77 < 16 ∧
 (∃ (u91 : Value), w'89.cell? (Addr.mk b1 (0 + n77.toNat) none) = some u91) ∧
 w'89.frozen? (Addr.mk b1 (0 + n77.toNat) none) = false ∧
 ∀ (w'92 : World),
 Put w'89 b1 (0 + n77.toNat) [Value.int IntKind.u32 n85] w'92 →
 SameTo (some [b7, b23, b47, b47, b47, b47]) w'74 w'89 w'92 ∧
 0 ≤ n78 ∧
 n78 < 16 ∧
 (∃ (u94 : Value), w'92.cell? (Addr.mk b1 (0 + n78.toNat) none) = some u94) ∧
 w'92.frozen? (Addr.mk b1 (0 + n78.toNat) none) = false ∧
 ∀ (w'95 : World),
 Put w'92 b1 (0 + n78.toNat) [Value.int IntKind.u32 n86] w'95 →
 SameTo (some [b7, b23, b47, b47, b47, b47]) w'74 w'92 w'95 ∧
 0 ≤ n79 ∧
 n79 < 16 ∧
 (∃ (u97 : Value), w'95.cell? (Addr.mk b1 (0 + n79.toNat) none) = some u97) ∧
 w'95.frozen? (Addr.mk b1 (0 + n79.toNat) none) = false ∧
 ∀ (w'98 : World),
 Put w'95 b1 (0 + n79.toNat) [Value.int IntKind.u32 n87] w'98 → I29 (IntKind.i64.wrap (n31 + 1)) w'98 ∧ M30 (IntKind.i64.wrap (n31 + 1)) w'98 < M30 n31 w'32) ∧
 (8 ≤ n31 → I17 (IntKind.i64.wrap (n19 + 1)) w'32 ∧ M18 (IntKind.i64.wrap (n19 + 1)) w'32 < M18 n19 w'20)) ∧
 (10 ≤ n19 →
 ∃ (vs102 : Array Value),
 vs102.size = 16 ∧
 CellsAt w'20 b1 0 vs102 ∧
 vs102.size = 16 ∧
 CanPut w'20 b13 0 vs102 ∧
 ∀ (w'103 : World), Put w'20 b13 0 vs102.1 w'103 → ∃ (vs105 : Array Value), vs105.size = 16 ∧ CellsAt w'103 b13 0 vs105 ∧ R (Ending.returned (Value.agg vs105)) w'103)

set_option maxRecDepth 100000 in
theorem hrounds_eq (v : Array Value) (m : Array Value) (w : World) (R : Ending → World → Prop) : hrounds_T v m w R = vcFn Tryd.prog [] [(7, [2, 4, 6, 8, 10, 12, 14, 16, 18, 20, 22, 24, 26, 28, 30, 32, 34, 36, 38, 40, 42, 44, 46, 48, 50, 52, 54, 56, 58, 60, 62, 64, 0]), (8, [2, 4, 6, 8, 10, 12, 14, 16, 18, 20, 22, 24, 26, 28, 30, 32, 34, 36, 38, 41, 42, 44, 46, 48, 50, 52, 55, 56, 59, 60, 63, 64, 66, 0])] Tryd.f21 [Value.agg v, Value.agg m] w R := by kernel_rfl

set_option maxRecDepth 100000 in
theorem hrounds_vc (v : Array Value) (m : Array Value) (w : World) (R : Ending → World → Prop) (hvc : hrounds_T v m w R) : Calls Tryd.prog 21 #[Value.agg v, Value.agg m] w R :=
  calls_of_vc (args := [Value.agg v, Value.agg m]) [] [(7, [2, 4, 6, 8, 10, 12, 14, 16, 18, 20, 22, 24, 26, 28, 30, 32, 34, 36, 38, 40, 42, 44, 46, 48, 50, 52, 54, 56, 58, 60, 62, 64, 0]), (8, [2, 4, 6, 8, 10, 12, 14, 16, 18, 20, 22, 24, 26, 28, 30, 32, 34, 36, 38, 41, 42, 44, 46, 48, 50, 52, 55, 56, 59, 60, 63, 64, 66, 0])] Tryd.mixed Tryd.func21 (cast (hrounds_eq _ _ w R) hvc)

set_option maxRecDepth 100000 in
def hnext_T (h : Array Value) (block : Array Value) (n : Int) (last : Bool) (w : World) (R : Ending → World → Prop) : Prop :=
  ∀ (b1 : Nat) (w'2 : World),
 New w
 (Obj.cells
 (match Value.agg h with
 | Value.agg cs4 => cs4
 | v5 => #[v5])
 38)
 b1 w'2 →
 ∀ (b7 : Nat) (w'8 : World),
 New w'2
 (Obj.cells
 (match Value.agg block with
 | Value.agg cs10 => cs10
 | v11 => #[v11])
 39)
 b7 w'8 →
 ∀ (b13 : Nat) (w'14 : World),
 New w'8 (Obj.cells (zeroA Tryd.prog 38) 38) b13 w'14 →
 ∀ (b16 : Nat) (w'17 : World),
 New w'14 (Obj.cells (zeroA Tryd.prog 49) 49) b16 w'17 →
 ∀ (b19 : Nat) (w'20 : World),
 New w'17 (Obj.cells (zeroA Tryd.prog 49) 49) b19 w'20 →
 ∃ (vs22 : Array Value),
 vs22.size = 64 ∧
 CellsAt w'20 b7 0 vs22 ∧
 ∃ (I23 : Int → World → Prop),
 ∃ (M24 : Int → World → Nat),
 I23 0 w'20 ∧
 ∀ (n25 : Int) (w'26 : World),
 I23 n25 w'26 →
 (n25 < 64 →
 0 ≤ n25 ∧
 n25 < 64 ∧
 ∃ (n29 : Int),
 vs22[n25.toNat]? = some (Value.int IntKind.u8 n29) ∧
 ∀ (w'32 : World),
 Drew w'26 w'32 →
 0 ≤ quoI IntKind.i64 n25 4 ∧
 quoI IntKind.i64 n25 4 < 16 ∧
 ∃ (n34 : Int),
 w'32.cell? (Addr.mk b19 (0 + (quoI IntKind.i64 n25 4).toNat) none) = some (Value.int IntKind.u32 n34) ∧
 0 ≤ IntKind.i64.wrap (8 * remI n25 4) ∧
 0 ≤ quoI IntKind.i64 n25 4 ∧
 quoI IntKind.i64 n25 4 < 16 ∧
 (∃ (u35 : Value), w'32.cell? (Addr.mk b19 (0 + (quoI IntKind.i64 n25 4).toNat) none) = some u35) ∧
 w'32.frozen? (Addr.mk b19 (0 + (quoI IntKind.i64 n25 4).toNat) none) = false ∧
 ∀ (w'36 : World),
 Put w'32 b19 (0 + (quoI IntKind.i64 n25 4).toNat)
 [Value.int IntKind.u32 (bits BinOp.or IntKind.u32 n34 (shlI IntKind.u32 (IntKind.u32.wrap n29) (IntKind.i64.wrap (8 * remI n25 4)).toNat))] w'36 →
 I23 (IntKind.i64.wrap (n25 + 1)) w'36 ∧ M24 (IntKind.i64.wrap (n25 + 1)) w'36 < M24 n25 w'26) ∧
 (64 ≤ n25 →
 ∀ (w'39 : World),
 Drew w'26 w'39 →
 ∃ (n41 : Int),
 ∃ (w'42 : World),
 Sem.run Tryd.prog (Builtin.copy_ #[42, 42] 3 #[Value.slice (some (Addr.mk b16 0 none)) 16 16, Value.slice (some (Addr.mk b1 0 none)) 8 8]) w'39 =
 Result.ok (Value.int IntKind.i64 n41) w'42 ∧
 ∃ (vs43 : Array Value),
 vs43.size = 8 ∧
 CellsAt w'42 0 0 vs43 ∧
 ∃ (I44 : Int → World → Prop),
 ∃ (M45 : Int → World → Nat),
 I44 0 w'42 ∧
 ∀ (n46 : Int) (w'47 : World),
 I44 n46 w'47 →
 (n46 < 8 →
 0 ≤ n46 ∧
 n46 < 8 ∧
 ∃ (n50 : Int),
 vs43[n46.toNat]? = some (Value.int IntKind.u32 n50) ∧
 0 ≤ IntKind.i64.wrap (8 + n46) ∧
 IntKind.i64.wrap (8 + n46) < 16 ∧
 (∃ (u53 : Value), w'47.cell? (Addr.mk b16 (0 + (IntKind.i64.wrap (8 + n46)).toNat) none) = some u53) ∧
 w'47.frozen? (Addr.mk b16 (0 + (IntKind.i64.wrap (8 + n46)).toNat) none) = false ∧
 ∀ (w'54 : World),
 Put w'47 b16 (0 + (IntKind.i64.wrap (8 + n46)).toNat) [Value.int IntKind.u32 n50] w'54 →
 I44 (IntKind.i64.wrap (n46 + 1)) w'54 ∧ M45 (IntKind.i64.wrap (n46 + 1)) w'54 < M45 n46 w'47) ∧
 (8 ≤ n46 →
 (0 : Int) ≤ 12 ∧
 (12 : Int) < 16 ∧
 ∃ (n57 : Int),
 w'47.cell? (Addr.mk b16 12 none) = some (Value.int IntKind.u32 n57) ∧
 (0 : Int) ≤ 12 ∧
 (12 : Int) < 16 ∧
 (∃ (u58 : Value), w'47.cell? (Addr.mk b16 12 none) = some u58) ∧
 w'47.frozen? (Addr.mk b16 12 none) = false ∧
 ∀ (w'59 : World),
 Put w'47 b16 12 [Value.int IntKind.u32 (bits BinOp.xor IntKind.u32 n57 (IntKind.u32.wrap n))] w'59 →
 (0 : Int) ≤ 13 ∧
 (13 : Int) < 16 ∧
 ∃ (n61 : Int),
 w'59.cell? (Addr.mk b16 13 none) = some (Value.int IntKind.u32 n61) ∧
 (0 : Int) ≤ 13 ∧
 (13 : Int) < 16 ∧
 (∃ (u62 : Value), w'59.cell? (Addr.mk b16 13 none) = some u62) ∧
 w'59.frozen? (Addr.mk b16 13 none) = false ∧
 ∀ (w'63 : World),
 Put w'59 b16 13 [Value.int IntKind.u32 (bits BinOp.xor IntKind.u32 n61 (IntKind.u32.wrap (shrI IntKind.u64 n 32)))] w'63 →
 (last = true →
 (0 : Int) ≤ 14 ∧
 (14 : Int) < 16 ∧
 ∃ (n66 : Int),
 w'63.cell? (Addr.mk b16 14 none) = some (Value.int IntKind.u32 n66) ∧
 (0 : Int) ≤ 14 ∧
 (14 : Int) < 16 ∧
 (∃ (u67 : Value), w'63.cell? (Addr.mk b16 14 none) = some u67) ∧
 w'63.frozen? (Addr.mk b16 14 none) = false ∧
 ∀ (w'68 : World),
 Put w'63 b16 14 [Value.int IntKind.u32 (bits BinOp.xor IntKind.u32 4294967295 n66)] w'68 →
 ∃ (vs70 : Array Value),
 vs70.size = 16 ∧
 CellsAt w'68 b16 0 vs70 ∧
 ∃ (vs71 : Array Value),
 vs71.size = 16 ∧
 CellsAt w'68 b19 0 vs71 ∧
 Calls Tryd.prog 21 #[Value.agg vs70, Value.agg vs71] w'68 fun (e72 : Ending) (w73 : World) ↦
 ∃ (vs74 : Array Value),
 vs74.size = 16 ∧
 e72 = Ending.returned (Value.agg vs74) ∧
 vs74.size = 16 ∧
 CanPut w73 b16 0 vs74 ∧
 ∀ (w'75 : World),
 Put w73 b16 0 vs74.1 w'75 →
 ∃ (I77 : Int → World → Prop),
 ∃ (M78 : Int → World → Nat),
 I77 0 w'75 ∧
 ∀ (n79 : Int) (w'80 : World),
 I77 n79 w'80 →
 (n79 < 8 →
 ∀ (w'83 : World),
 Drew w'80 w'83 →
 0 ≤ n79 ∧
 n79 < 8 ∧
 ∃ (n85 : Int),
 w'83.cell? (Addr.mk b1 (0 + n79.toNat) none) = some (Value.int IntKind.u32 n85) ∧
 0 ≤ n79 ∧
 n79 < 16 ∧
 ∃ (n86 : Int),
 w'83.cell? (Addr.mk b16 (0 + n79.toNat) none) = some (Value.int IntKind.u32 n86) ∧
 0 ≤ IntKind.i64.wrap (n79 + 8) ∧
 IntKind.i64.wrap (n79 + 8) < 16 ∧
 ∃ (n87 : Int),
 w'83.cell? (Addr.mk b16 (0 + (IntKind.i64.wrap (n79 + 8)).toNat) none) = some (Value.int IntKind.u32 n87) ∧
 0 ≤ n79 ∧
 n79 < 8 ∧
 (∃ (u88 : Value), w'83.cell? (Addr.mk b1 (0 + n79.toNat) none) = some u88) ∧
 w'83.frozen? (Addr.mk b1 (0 + n79.toNat) none) = false ∧
 ∀ (w'89 : World),
 Put w'83 b1 (0 + n79.toNat) [Value.int IntKind.u32 (bits BinOp.xor IntKind.u32 n85 (bits BinOp.xor IntKind.u32 n86 n87))] w'89 →
 I77 (IntKind.i64.wrap (n79 + 1)) w'89 ∧ M78 (IntKind.i64.wrap (n79 + 1)) w'89 < M78 n79 w'80) ∧
 (8 ≤ n79 →
 ∃ (vs92 : Array Value),
 vs92.size = 8 ∧
 CellsAt w'80 b1 0 vs92 ∧
 vs92.size = 8 ∧
 CanPut w'80 b13 0 vs92 ∧
 ∀ (w'93 : World), Put w'80 b13 0 vs92.1 w'93 → ∃ (vs95 : Array Value), vs95.size = 8 ∧ CellsAt w'93 b13 0 vs95 ∧ R (Ending.returned (Value.agg vs95)) w'93)) ∧
 (last = false →
 ∃ (vs97 : Array Value),
 vs97.size = 16 ∧
 CellsAt w'63 b16 0 vs97 ∧
 ∃ (vs98 : Array Value),
 vs98.size = 16 ∧
 CellsAt w'63 b19 0 vs98 ∧
 Calls Tryd.prog 21 #[Value.agg vs97, Value.agg vs98] w'63 fun (e99 : Ending) (w100 : World) ↦
 ∃ (vs101 : Array Value),
 vs101.size = 16 ∧
 e99 = Ending.returned (Value.agg vs101) ∧
 vs101.size = 16 ∧
 CanPut w100 b16 0 vs101 ∧
 ∀ (w'102 : World),
 Put w100 b16 0 vs101.1 w'102 →
 ∃ (I104 : Int → World → Prop),
 ∃ (M105 : Int → World → Nat),
 I104 0 w'102 ∧
 ∀ (n106 : Int) (w'107 : World),
 I104 n106 w'107 →
 (n106 < 8 →
 ∀ (w'110 : World),
 Drew w'107 w'110 →
 0 ≤ n106 ∧
 n106 < 8 ∧
 ∃ (n112 : Int),
 w'110.cell? (Addr.mk b1 (0 + n106.toNat) none) = some (Value.int IntKind.u32 n112) ∧
 0 ≤ n106 ∧
 n106 < 16 ∧
 ∃ (n113 : Int),
 w'110.cell? (Addr.mk b16 (0 + n106.toNat) none) = some (Value.int IntKind.u32 n113) ∧
 0 ≤ IntKind.i64.wrap (n106 + 8) ∧
 IntKind.i64.wrap (n106 + 8) < 16 ∧
 ∃ (n114 : Int),
 w'110.cell? (Addr.mk b16 (0 + (IntKind.i64.wrap (n106 + 8)).toNat) none) = some (Value.int IntKind.u32 n114) ∧
 0 ≤ n106 ∧
 n106 < 8 ∧
 (∃ (u115 : Value), w'110.cell? (Addr.mk b1 (0 + n106.toNat) none) = some u115) ∧
 w'110.frozen? (Addr.mk b1 (0 + n106.toNat) none) = false ∧
 ∀ (w'116 : World),
 Put w'110 b1 (0 + n106.toNat) [Value.int IntKind.u32 (bits BinOp.xor IntKind.u32 n112 (bits BinOp.xor IntKind.u32 n113 n114))] w'116 →
 I104 (IntKind.i64.wrap (n106 + 1)) w'116 ∧ M105 (IntKind.i64.wrap (n106 + 1)) w'116 < M105 n106 w'107) ∧
 (8 ≤ n106 →
 ∃ (vs119 : Array Value),
 vs119.size = 8 ∧
 CellsAt w'107 b1 0 vs119 ∧
 vs119.size = 8 ∧
 CanPut w'107 b13 0 vs119 ∧
 ∀ (w'120 : World), Put w'107 b13 0 vs119.1 w'120 → ∃ (vs122 : Array Value), vs122.size = 8 ∧ CellsAt w'120 b13 0 vs122 ∧ R (Ending.returned (Value.agg vs122)) w'120))))

set_option maxRecDepth 100000 in
theorem hnext_eq (h : Array Value) (block : Array Value) (n : Int) (last : Bool) (w : World) (R : Ending → World → Prop) : hnext_T h block n last w R = vcFn Tryd.prog [] [(5, [2, 4, 6, 8, 10, 12, 14, 16, 18, 20, 22, 24, 26, 0]), (7, [2, 4, 6, 0]), (21, [2, 4, 6, 8, 10, 12, 14, 16, 18, 20, 22, 24, 26, 28, 0])] Tryd.f15 [Value.agg h, Value.agg block, Value.int IntKind.u64 n, Value.bool last] w R := by kernel_rfl

set_option maxRecDepth 100000 in
theorem hnext_vc (h : Array Value) (block : Array Value) (n : Int) (last : Bool) (w : World) (R : Ending → World → Prop) (hvc : hnext_T h block n last w R) : Calls Tryd.prog 15 #[Value.agg h, Value.agg block, Value.int IntKind.u64 n, Value.bool last] w R :=
  calls_of_vc (args := [Value.agg h, Value.agg block, Value.int IntKind.u64 n, Value.bool last]) [] [(5, [2, 4, 6, 8, 10, 12, 14, 16, 18, 20, 22, 24, 26, 0]), (7, [2, 4, 6, 0]), (21, [2, 4, 6, 8, 10, 12, 14, 16, 18, 20, 22, 24, 26, 28, 0])] Tryd.mixed Tryd.func15 (cast (hnext_eq _ _ _ _ w R) hvc)

set_option maxRecDepth 100000 in
def hSum_T (parts_p : Option Addr) (parts_n : Nat) (parts_c : Nat) (w : World) (R : Ending → World → Prop) : Prop :=
  ∀ (b1 : Nat) (w'2 : World),
 New w (Obj.cells (zeroA Tryd.prog 24) 24) b1 w'2 →
 Calls Tryd.prog 14 #[Value.slice parts_p parts_n parts_c] w'2 fun (e4 : Ending) (w5 : World) ↦
 ∃ (p6 : Option Addr),
 ∃ (n7 : Nat),
 ∃ (c8 : Nat),
 e4 = Ending.returned (Value.slice p6 n7 c8) ∧
 ∃ (vs9 : Array Value),
 vs9.size = 8 ∧
 CellsAt w5 0 0 vs9 ∧
 ∀ (b10 : Nat) (w'11 : World),
 New w5 (Obj.cells (zeroA Tryd.prog 38) 38) b10 w'11 →
 vs9.size = 8 ∧
 CanPut w'11 b10 0 vs9 ∧
 ∀ (w'13 : World),
 Put w'11 b10 0 vs9.1 w'13 →
 (0 : Int) ≤ 0 ∧
 (0 : Int) < 8 ∧
 ∃ (n15 : Int),
 w'13.cell? (Addr.mk b10 0 none) = some (Value.int IntKind.u32 n15) ∧
 (0 : Int) ≤ 0 ∧
 (0 : Int) < 8 ∧
 (∃ (u16 : Value), w'13.cell? (Addr.mk b10 0 none) = some u16) ∧
 w'13.frozen? (Addr.mk b10 0 none) = false ∧
 ∀ (w'17 : World),
 Put w'13 b10 0 [Value.int IntKind.u32 (bits BinOp.xor IntKind.u32 n15 16842784)] w'17 →
 ∃ (I19 : Int → World → Prop),
 ∃ (M20 : Int → World → Nat),
 I19 0 w'17 ∧
 ∀ (n21 : Int) (w'22 : World),
 I19 n21 w'22 →
 (n21 = 0 ∨ n21 < (↑n7 : Int) →
 ∀ (b25 : Nat) (w'26 : World),
 New w'22 (Obj.cells (zeroA Tryd.prog 39) 39) b25 w'26 →
 ∀ (w'28 : World),
 Drew w'26 w'28 →
 0 ≤ n21 ∧
 n21 ≤ (↑n7 : Int) ∧
 ∃ (n30 : Int),
 ∃ (w'31 : World),
 Sem.run Tryd.prog (Builtin.copy_ #[22, 22] 3 #[Value.slice (some (Addr.mk b25 0 none)) 64 64, Value.slice (slBase p6 n21.toNat c8 1) (n7 - n21.toNat) (c8 - n21.toNat)])
 w'28 =
 Result.ok (Value.int IntKind.i64 n30) w'31 ∧
 ∃ (vs32 : Array Value),
 vs32.size = 8 ∧
 CellsAt w'31 b10 0 vs32 ∧
 ∃ (vs33 : Array Value),
 vs33.size = 64 ∧
 CellsAt w'31 b25 0 vs33 ∧
 Calls Tryd.prog 15
 #[Value.agg vs32, Value.agg vs33, Value.int IntKind.u64 (IntKind.u64.wrap (IntKind.i64.wrap (n21 + n30))),
 Value.bool (decide (IntKind.i64.wrap (n21 + n30) = (↑n7 : Int)))]
 w'31 fun (e34 : Ending) (w35 : World) ↦
 ∃ (vs36 : Array Value),
 vs36.size = 8 ∧
 e34 = Ending.returned (Value.agg vs36) ∧
 vs36.size = 8 ∧
 CanPut w35 b10 0 vs36 ∧ ∀ (w'37 : World), Put w35 b10 0 vs36.1 w'37 → I19 (IntKind.i64.wrap (n21 + 64)) w'37 ∧ M20 (IntKind.i64.wrap (n21 + 64)) w'37 < M20 n21 w'22) ∧
 (n21 ≠ 0 ∧ (↑n7 : Int) ≤ n21 →
 ∀ (b40 : Nat) (w'41 : World),
 New w'22 (Obj.cells (zeroA Tryd.prog 24) 24) b40 w'41 →
 ∃ (I43 : Int → World → Prop),
 ∃ (M44 : Int → World → Nat),
 I43 0 w'41 ∧
 ∀ (n45 : Int) (w'46 : World),
 I43 n45 w'46 →
 (n45 < 32 →
 0 ≤ quoI IntKind.i64 n45 4 ∧
 quoI IntKind.i64 n45 4 < 8 ∧
 ∃ (n49 : Int),
 w'46.cell? (Addr.mk b10 (0 + (quoI IntKind.i64 n45 4).toNat) none) = some (Value.int IntKind.u32 n49) ∧
 0 ≤ IntKind.i64.wrap (8 * remI n45 4) ∧
 0 ≤ n45 ∧
 n45 < 32 ∧
 (∃ (u50 : Value), w'46.cell? (Addr.mk b40 (0 + n45.toNat) none) = some u50) ∧
 w'46.frozen? (Addr.mk b40 (0 + n45.toNat) none) = false ∧
 ∀ (w'51 : World),
 Put w'46 b40 (0 + n45.toNat) [Value.int IntKind.u8 (IntKind.u8.wrap (shrI IntKind.u32 n49 (IntKind.i64.wrap (8 * remI n45 4)).toNat))] w'51 →
 I43 (IntKind.i64.wrap (n45 + 1)) w'51 ∧ M44 (IntKind.i64.wrap (n45 + 1)) w'51 < M44 n45 w'46) ∧
 (32 ≤ n45 →
 ∃ (vs54 : Array Value),
 vs54.size = 32 ∧
 CellsAt w'46 b40 0 vs54 ∧
 vs54.size = 32 ∧
 CanPut w'46 b1 0 vs54 ∧
 ∀ (w'55 : World), Put w'46 b1 0 vs54.1 w'55 → ∃ (vs57 : Array Value), vs57.size = 32 ∧ CellsAt w'55 b1 0 vs57 ∧ R (Ending.returned (Value.agg vs57)) w'55))

set_option maxRecDepth 100000 in
theorem hSum_eq (parts_p : Option Addr) (parts_n : Nat) (parts_c : Nat) (w : World) (R : Ending → World → Prop) : hSum_T parts_p parts_n parts_c w R = vcFn Tryd.prog [] [(8, [2, 4, 6, 8, 10, 12, 14, 16, 0])] Tryd.f8 [Value.slice parts_p parts_n parts_c] w R := by kernel_rfl

set_option maxRecDepth 100000 in
theorem hSum_vc (parts_p : Option Addr) (parts_n : Nat) (parts_c : Nat) (w : World) (R : Ending → World → Prop) (hvc : hSum_T parts_p parts_n parts_c w R) : Calls Tryd.prog 8 #[Value.slice parts_p parts_n parts_c] w R :=
  calls_of_vc (args := [Value.slice parts_p parts_n parts_c]) [] [(8, [2, 4, 6, 8, 10, 12, 14, 16, 0])] Tryd.mixed Tryd.func8 (cast (hSum_eq _ _ _ w R) hvc)

set_option maxRecDepth 100000 in
def hHex_T (d : Array Value) (w : World) (R : Ending → World → Prop) : Prop :=
  ∀ (b1 : Nat) (w'2 : World),
 New w
 (Obj.cells
 (match Value.agg d with
 | Value.agg cs4 => cs4
 | v5 => #[v5])
 24)
 b1 w'2 →
 ∃ (vs7 : Array Value),
 vs7.size = 32 ∧
 CellsAt w'2 b1 0 vs7 ∧
 ∃ (I8 : Option Addr → Nat → Nat → Int → World → Prop),
 ∃ (M9 : Option Addr → Nat → Nat → Int → World → Nat),
 I8 none 0 0 0 w'2 ∧
 ∀ (p10 : Option Addr) (n11 c12 : Nat) (n13 : Int) (w'14 : World),
 I8 p10 n11 c12 n13 w'14 →
 (n13 < 32 →
 0 ≤ n13 ∧
 n13 < 32 ∧
 ∃ (n17 : Int),
 vs7[n13.toNat]? = some (Value.int IntKind.u8 n17) ∧
 ∀ (w'20 : World),
 Drew w'14 w'20 →
 0 ≤ shrI IntKind.u8 n17 4 ∧
 shrI IntKind.u8 n17 4 < 16 ∧
 0 ≤ bits BinOp.and IntKind.u8 n17 15 ∧
 bits BinOp.and IntKind.u8 n17 15 < 16 ∧
 ∀ (b22 : Nat) (w'23 : World),
 New w'20
 (Obj.cells
 #[Value.int IntKind.u8 (bAt (ByteArray.mk #[48, 49, 50, 51, 52, 53, 54, 55, 56, 57, 97, 98, 99, 100, 101, 102]) (shrI IntKind.u8 n17 4).toNat),
 Value.int IntKind.u8 (bAt (ByteArray.mk #[48, 49, 50, 51, 52, 53, 54, 55, 56, 57, 97, 98, 99, 100, 101, 102]) (bits BinOp.and IntKind.u8 n17 15).toNat)]
 5)
 b22 w'23 →
 ∃ (p25 : Option Addr),
 ∃ (n26 : Nat),
 ∃ (c27 : Nat),
 ∃ (w'28 : World),
 Sem.run Tryd.prog (Builtin.append_ #[22, 22] 22 #[Value.slice p10 n11 c12, Value.slice (some (Addr.mk b22 0 none)) 2 2]) w'23 = Result.ok (Value.slice p25 n26 c27) w'28 ∧
 I8 p25 n26 c27 (IntKind.i64.wrap (n13 + 1)) w'28 ∧ M9 p25 n26 c27 (IntKind.i64.wrap (n13 + 1)) w'28 < M9 p10 n11 c12 n13 w'14) ∧
 (32 ≤ n13 → ∃ (l30 : List UInt8), BytesAt w'14 p10 n11 l30 ∧ R (Ending.returned (Value.string (ByteArray.mk (Array.mk l30)))) w'14)

set_option maxRecDepth 100000 in
theorem hHex_eq (d : Array Value) (w : World) (R : Ending → World → Prop) : hHex_T d w R = vcFn Tryd.prog [] [(5, [2, 4, 6, 8, 10, 12, 14, 16, 18, 20, 0])] Tryd.f12 [Value.agg d] w R := by kernel_rfl

set_option maxRecDepth 100000 in
theorem hHex_vc (d : Array Value) (w : World) (R : Ending → World → Prop) (hvc : hHex_T d w R) : Calls Tryd.prog 12 #[Value.agg d] w R :=
  calls_of_vc (args := [Value.agg d]) [] [(5, [2, 4, 6, 8, 10, 12, 14, 16, 18, 20, 0])] Tryd.mixed Tryd.func12 (cast (hHex_eq _ w R) hvc)

set_option maxRecDepth 100000 in
def hUnhex_T (s : ByteArray) (w : World) (R : Ending → World → Prop) : Prop :=
  ∀ (b1 : Nat) (w'2 : World),
 New w (Obj.cells (zeroA Tryd.prog 24) 24) b1 w'2 →
 ∀ (b4 : Nat) (w'5 : World),
 New w'2 (Obj.cells (zeroA Tryd.prog 24) 24) b4 w'5 →
 ((↑s.size : Int) ≠ 64 →
 ∃ (vs8 : Array Value),
 vs8.size = 32 ∧
 CellsAt w'5 b4 0 vs8 ∧
 vs8.size = 32 ∧
 CanPut w'5 b1 0 vs8 ∧
 ∀ (w'9 : World),
 Put w'5 b1 0 vs8.1 w'9 →
 ∃ (vs11 : Array Value), vs11.size = 32 ∧ CellsAt w'9 b1 0 vs11 ∧ R (Ending.returned (Value.tuple #[Value.agg vs11, Value.int IntKind.i64 2])) w'9) ∧
 ((↑s.size : Int) = 64 →
 ∃ (I13 : Int → World → Prop),
 ∃ (M14 : Int → World → Nat),
 I13 0 w'5 ∧
 ∀ (n15 : Int) (w'16 : World),
 I13 n15 w'16 →
 (n15 < (↑s.size : Int) →
 0 ≤ n15 ∧
 n15 < (↑s.size : Int) ∧
 Calls Tryd.prog 18 #[Value.string (ByteArray.mk #[48, 49, 50, 51, 52, 53, 54, 55, 56, 57, 97, 98, 99, 100, 101, 102]), Value.int IntKind.u8 (bAt s n15.toNat)] w'16
 fun (e19 : Ending) (w20 : World) ↦
 ∃ (n21 : Int),
 e19 = Ending.returned (Value.int IntKind.i64 n21) ∧
 (n21 < 0 →
 32 = 32 ∧
 CanPut w20 b1 0
 #[Value.int IntKind.u8 0, Value.int IntKind.u8 0, Value.int IntKind.u8 0, Value.int IntKind.u8 0, Value.int IntKind.u8 0, Value.int IntKind.u8 0, Value.int IntKind.u8 0,
 Value.int IntKind.u8 0, Value.int IntKind.u8 0, Value.int IntKind.u8 0, Value.int IntKind.u8 0, Value.int IntKind.u8 0, Value.int IntKind.u8 0, Value.int IntKind.u8 0,
 Value.int IntKind.u8 0, Value.int IntKind.u8 0, Value.int IntKind.u8 0, Value.int IntKind.u8 0, Value.int IntKind.u8 0, Value.int IntKind.u8 0, Value.int IntKind.u8 0,
 Value.int IntKind.u8 0, Value.int IntKind.u8 0, Value.int IntKind.u8 0, Value.int IntKind.u8 0, Value.int IntKind.u8 0, Value.int IntKind.u8 0, Value.int IntKind.u8 0,
 Value.int IntKind.u8 0, Value.int IntKind.u8 0, Value.int IntKind.u8 0, Value.int IntKind.u8 0] ∧
 ∀ (w'23 : World),
 Put w20 b1 0
 [Value.int IntKind.u8 0, Value.int IntKind.u8 0, Value.int IntKind.u8 0, Value.int IntKind.u8 0, Value.int IntKind.u8 0, Value.int IntKind.u8 0, Value.int IntKind.u8 0,
 Value.int IntKind.u8 0, Value.int IntKind.u8 0, Value.int IntKind.u8 0, Value.int IntKind.u8 0, Value.int IntKind.u8 0, Value.int IntKind.u8 0, Value.int IntKind.u8 0,
 Value.int IntKind.u8 0, Value.int IntKind.u8 0, Value.int IntKind.u8 0, Value.int IntKind.u8 0, Value.int IntKind.u8 0, Value.int IntKind.u8 0, Value.int IntKind.u8 0,
 Value.int IntKind.u8 0, Value.int IntKind.u8 0, Value.int IntKind.u8 0, Value.int IntKind.u8 0, Value.int IntKind.u8 0, Value.int IntKind.u8 0, Value.int IntKind.u8 0,
 Value.int IntKind.u8 0, Value.int IntKind.u8 0, Value.int IntKind.u8 0, Value.int IntKind.u8 0]
 w'23 →
 ∃ (vs25 : Array Value), vs25.size = 32 ∧ CellsAt w'23 b1 0 vs25 ∧ R (Ending.returned (Value.tuple #[Value.agg vs25, Value.int IntKind.i64 2])) w'23) ∧
 (0 ≤ n21 →
 0 ≤ quoI IntKind.i64 n15 2 ∧
 quoI IntKind.i64 n15 2 < 32 ∧
 ∃ (n27 : Int),
 w20.cell? (Addr.mk b4 (0 + (quoI IntKind.i64 n15 2).toNat) none) = some (Value.int IntKind.u8 n27) ∧
 0 ≤ quoI IntKind.i64 n15 2 ∧
 quoI IntKind.i64 n15 2 < 32 ∧
 (∃ (u28 : Value), w20.cell? (Addr.mk b4 (0 + (quoI IntKind.i64 n15 2).toNat) none) = some u28) ∧
 w20.frozen? (Addr.mk b4 (0 + (quoI IntKind.i64 n15 2).toNat) none) = false ∧
 ∀ (w'29 : World),
 Put w20 b4 (0 + (quoI IntKind.i64 n15 2).toNat) [Value.int IntKind.u8 (bits BinOp.or IntKind.u8 (shlI IntKind.u8 n27 4) (IntKind.u8.wrap n21))] w'29 →
 I13 (IntKind.i64.wrap (n15 + 1)) w'29 ∧ M14 (IntKind.i64.wrap (n15 + 1)) w'29 < M14 n15 w'16)) ∧
 ((↑s.size : Int) ≤ n15 →
 ∃ (vs32 : Array Value),
 vs32.size = 32 ∧
 CellsAt w'16 b4 0 vs32 ∧
 vs32.size = 32 ∧
 CanPut w'16 b1 0 vs32 ∧
 ∀ (w'33 : World),
 Put w'16 b1 0 vs32.1 w'33 →
 ∃ (vs35 : Array Value), vs35.size = 32 ∧ CellsAt w'33 b1 0 vs35 ∧ R (Ending.returned (Value.tuple #[Value.agg vs35, Value.int IntKind.i64 0])) w'33))

set_option maxRecDepth 100000 in
theorem hUnhex_eq (s : ByteArray) (w : World) (R : Ending → World → Prop) : hUnhex_T s w R = vcFn Tryd.prog [] [] Tryd.f10 [Value.string s] w R := by kernel_rfl

set_option maxRecDepth 100000 in
theorem hUnhex_vc (s : ByteArray) (w : World) (R : Ending → World → Prop) (hvc : hUnhex_T s w R) : Calls Tryd.prog 10 #[Value.string s] w R :=
  calls_of_vc (args := [Value.string s]) [] [] Tryd.mixed Tryd.func10 (cast (hUnhex_eq _ w R) hvc)

set_option maxRecDepth 100000 in
def rotl_T (x : Int) (k : Int) (w : World) (R : Ending → World → Prop) : Prop :=
  0 ≤ bits BinOp.and IntKind.u64 (IntKind.u64.wrap k) 31 ∧
 0 ≤ IntKind.u64.wrap (32 - bits BinOp.and IntKind.u64 (IntKind.u64.wrap k) 31) ∧
 R
 (Ending.returned
 (Value.int IntKind.u32
 (bits BinOp.or IntKind.u32 (shlI IntKind.u32 x (bits BinOp.and IntKind.u64 (IntKind.u64.wrap k) 31).toNat)
 (shrI IntKind.u32 x (IntKind.u64.wrap (32 - bits BinOp.and IntKind.u64 (IntKind.u64.wrap k) 31)).toNat))))
 w

set_option maxRecDepth 100000 in
theorem rotl_eq (x : Int) (k : Int) (w : World) (R : Ending → World → Prop) : rotl_T x k w R = vcFn Tryd.prog [] [] Tryd.f29 [Value.int IntKind.u32 x, Value.int IntKind.i64 k] w R := by kernel_rfl

set_option maxRecDepth 100000 in
theorem rotl_vc (x : Int) (k : Int) (w : World) (R : Ending → World → Prop) (hvc : rotl_T x k w R) : Calls Tryd.prog 29 #[Value.int IntKind.u32 x, Value.int IntKind.i64 k] w R :=
  calls_of_vc (args := [Value.int IntKind.u32 x, Value.int IntKind.i64 k]) [] [] Tryd.mixed Tryd.func29 (cast (rotl_eq _ _ w R) hvc)

set_option maxRecDepth 100000 in
def concat_T (slices_p : Option Addr) (slices_n : Nat) (slices_c : Nat) (w : World) (R : Ending → World → Prop) : Prop :=
  ∃ (I1 : Int → Int → World → Prop),
 ∃ (M2 : Int → Int → World → Nat),
 I1 0 0 w ∧
 ∀ (n3 n4 : Int) (w'5 : World),
 I1 n3 n4 w'5 →
 (n4 < (↑slices_n : Int) →
 ∃ (b8 : Nat),
 ∃ (o9 : Nat),
 slices_p = some (Addr.mk b8 o9 none) ∧
 0 ≤ n4 ∧
 n4 < (↑slices_n : Int) ∧
 ∃ (p10 : Option Addr),
 ∃ (n11 : Nat),
 ∃ (c12 : Nat),
 w'5.cell? (Addr.mk b8 (o9 + n4.toNat) none) = some (Value.slice p10 n11 c12) ∧
 (IntKind.i64.wrap (n3 + (↑n11 : Int)) < 0 → False) ∧
 (0 ≤ IntKind.i64.wrap (n3 + (↑n11 : Int)) →
 I1 (IntKind.i64.wrap (n3 + (↑n11 : Int))) (IntKind.i64.wrap (n4 + 1)) w'5 ∧ M2 (IntKind.i64.wrap (n3 + (↑n11 : Int))) (IntKind.i64.wrap (n4 + 1)) w'5 < M2 n3 n4 w'5)) ∧
 ((↑slices_n : Int) ≤ n4 →
 Calls Tryd.prog 20 #[Value.slice none 0 0, Value.int IntKind.i64 n3] w'5 fun (e16 : Ending) (w17 : World) ↦
 ∃ (p18 : Option Addr),
 ∃ (n19 : Nat),
 ∃ (c20 : Nat),
 e16 = Ending.returned (Value.slice p18 n19 c20) ∧
 ∃ (I21 : Option Addr → Nat → Nat → Int → World → Prop),
 ∃ (M22 : Option Addr → Nat → Nat → Int → World → Nat),
 I21 p18 n19 c20 0 w17 ∧
 ∀ (p23 : Option Addr) (n24 c25 : Nat) (n26 : Int) (w'27 : World),
 I21 p23 n24 c25 n26 w'27 →
 (n26 < (↑slices_n : Int) →
 ∃ (b30 : Nat),
 ∃ (o31 : Nat),
 slices_p = some (Addr.mk b30 o31 none) ∧
 0 ≤ n26 ∧
 n26 < (↑slices_n : Int) ∧
 ∃ (p32 : Option Addr),
 ∃ (n33 : Nat),
 ∃ (c34 : Nat),
 w'27.cell? (Addr.mk b30 (o31 + n26.toNat) none) = some (Value.slice p32 n33 c34) ∧
 ∃ (p35 : Option Addr),
 ∃ (n36 : Nat),
 ∃ (c37 : Nat),
 ∃ (w'38 : World),
 Sem.run Tryd.prog (Builtin.append_ #[22, 22] 22 #[Value.slice p23 n24 c25, Value.slice p32 n33 c34]) w'27 = Result.ok (Value.slice p35 n36 c37) w'38 ∧
 I21 p35 n36 c37 (IntKind.i64.wrap (n26 + 1)) w'38 ∧ M22 p35 n36 c37 (IntKind.i64.wrap (n26 + 1)) w'38 < M22 p23 n24 c25 n26 w'27) ∧
 ((↑slices_n : Int) ≤ n26 → R (Ending.returned (Value.slice p23 n24 c25)) w'27))

set_option maxRecDepth 100000 in
theorem concat_eq (slices_p : Option Addr) (slices_n : Nat) (slices_c : Nat) (w : World) (R : Ending → World → Prop) : concat_T slices_p slices_n slices_c w R = vcFn Tryd.prog [] [] Tryd.f14 [Value.slice slices_p slices_n slices_c] w R := by kernel_rfl

set_option maxRecDepth 100000 in
theorem concat_vc (slices_p : Option Addr) (slices_n : Nat) (slices_c : Nat) (w : World) (R : Ending → World → Prop) (hvc : concat_T slices_p slices_n slices_c w R) : Calls Tryd.prog 14 #[Value.slice slices_p slices_n slices_c] w R :=
  calls_of_vc (args := [Value.slice slices_p slices_n slices_c]) [] [] Tryd.mixed Tryd.func14 (cast (concat_eq _ _ _ w R) hvc)

set_option maxRecDepth 100000 in
def growb_T (s_p : Option Addr) (s_n : Nat) (s_c : Nat) (n : Int) (w : World) (R : Ending → World → Prop) : Prop :=
  (n < 0 → False) ∧
 (0 ≤ n →
 (0 < IntKind.i64.wrap (n - IntKind.i64.wrap ((↑s_c : Int) - (↑s_n : Int))) →
 0 ≤ (↑s_c : Int) ∧
 (↑s_c : Int) ≤ (↑s_c : Int) ∧
 ∃ (p4 : Option Addr),
 ∃ (n5 : Nat),
 ∃ (c6 : Nat),
 ∃ (w'7 : World),
 Sem.run Tryd.prog (Builtin.append_ #[22, 3] 22 #[Value.slice s_p s_c s_c, Value.int IntKind.i64 (IntKind.i64.wrap (n - IntKind.i64.wrap ((↑s_c : Int) - (↑s_n : Int))))])
 w =
 Result.ok (Value.slice p4 n5 c6) w'7 ∧
 0 ≤ (↑s_n : Int) ∧ (↑s_n : Int) ≤ (↑c6 : Int) ∧ R (Ending.returned (Value.slice p4 s_n c6)) w'7) ∧
 (IntKind.i64.wrap (n - IntKind.i64.wrap ((↑s_c : Int) - (↑s_n : Int))) ≤ 0 → R (Ending.returned (Value.slice s_p s_n s_c)) w))

set_option maxRecDepth 100000 in
theorem growb_eq (s_p : Option Addr) (s_n : Nat) (s_c : Nat) (n : Int) (w : World) (R : Ending → World → Prop) : growb_T s_p s_n s_c n w R = vcFn Tryd.prog [] [] Tryd.f20 [Value.slice s_p s_n s_c, Value.int IntKind.i64 n] w R := by kernel_rfl

set_option maxRecDepth 100000 in
theorem growb_vc (s_p : Option Addr) (s_n : Nat) (s_c : Nat) (n : Int) (w : World) (R : Ending → World → Prop) (hvc : growb_T s_p s_n s_c n w R) : Calls Tryd.prog 20 #[Value.slice s_p s_n s_c, Value.int IntKind.i64 n] w R :=
  calls_of_vc (args := [Value.slice s_p s_n s_c, Value.int IntKind.i64 n]) [] [] Tryd.mixed Tryd.func20 (cast (growb_eq _ _ _ _ w R) hvc)

set_option maxRecDepth 100000 in
def shown03_T (w : World) (R : Ending → World → Prop) : Prop :=
  ∀ (b1 : Nat) (w'2 : World),
 New w (Obj.cells #[Value.int IntKind.u8 97, Value.int IntKind.u8 98, Value.int IntKind.u8 99] 5) b1 w'2 →
 ∃ (b4 : Nat),
 ∃ (o5 : Nat),
 ∃ (cs6 : Array Value),
 ∃ (t7 : TypeId),
 ∃ (fr8 : Nat × Nat),
 some (Addr.mk b1 0 none) = some (Addr.mk b4 o5 none) ∧
 w'2.heap[b4]? = some (Obj.cells cs6 t7 fr8) ∧
 ∀ (b11 : Nat) (w'12 : World),
 New (w'2.freeze (Addr.mk b4 cs6.size none) 1) (Obj.cells #[Value.slice (some (Addr.mk b1 0 none)) 3 3] 22) b11 w'12 →
 Calls Tryd.prog 8 #[Value.slice (some (Addr.mk b11 0 none)) 1 1] w'12 fun (e14 : Ending) (w15 : World) ↦
 ∃ (vs16 : Array Value),
 vs16.size = 32 ∧
 e14 = Ending.returned (Value.agg vs16) ∧
 Calls Tryd.prog 12 #[Value.agg vs16] w15 fun (e17 : Ending) (w18 : World) ↦
 ∃ (s19 : ByteArray),
 e17 = Ending.returned (Value.string s19) ∧
 R
 (Ending.returned
 (Value.bool
 (sEq s19
 (ByteArray.mk
 #[53, 48, 56, 99, 53, 101, 56, 99, 51, 50, 55, 99, 49, 52, 101, 50, 101, 49, 97, 55, 50, 98, 97, 51, 52, 101, 101, 98, 52, 53, 50, 102, 51, 55, 52, 53, 56, 98, 50, 48,
 57, 101, 100, 54, 51, 97, 50, 57, 52, 100, 57, 57, 57, 98, 52, 99, 56, 54, 54, 55, 53, 57, 56, 50]))))
 w18

set_option maxRecDepth 100000 in
theorem shown03_eq (w : World) (R : Ending → World → Prop) : shown03_T w R = vcFn Tryd.prog [] [] Tryd.f7 [] w R := by kernel_rfl

set_option maxRecDepth 100000 in
theorem shown03_vc (w : World) (R : Ending → World → Prop) (hvc : shown03_T w R) : Calls Tryd.prog 7 #[] w R :=
  calls_of_vc (args := []) [] [] Tryd.mixed Tryd.func7 (cast (shown03_eq w R) hvc)

set_option maxRecDepth 100000 in
def lawBack_T (d : Array Value) (s : ByteArray) (w : World) (R : Ending → World → Prop) : Prop :=
  ∀ (b1 : Nat) (w'2 : World),
 New w
 (Obj.cells
 (match Value.agg d with
 | Value.agg cs4 => cs4
 | v5 => #[v5])
 24)
 b1 w'2 →
 Calls Tryd.prog 7 #[] w'2 fun (e7 : Ending) (w8 : World) ↦
 ∃ (b9 : Bool),
 e7 = Ending.returned (Value.bool b9) ∧
 ∃ (vs10 : Array Value),
 vs10.size = 32 ∧
 CellsAt w8 b1 0 vs10 ∧
 Calls Tryd.prog 12 #[Value.agg vs10] w8 fun (e11 : Ending) (w12 : World) ↦
 ∃ (s13 : ByteArray),
 e11 = Ending.returned (Value.string s13) ∧
 Calls Tryd.prog 10 #[Value.string s13] w12 fun (e14 : Ending) (w15 : World) ↦
 ∃ (vs16 : Array Value),
 vs16.size = 32 ∧
 ∃ (n17 : Int),
 e14 = Ending.returned (Value.tuple #[Value.agg vs16, Value.int IntKind.i64 n17]) ∧
 ∀ (b18 : Nat) (w'19 : World),
 New w15 (Obj.cells (zeroA Tryd.prog 24) 24) b18 w'19 →
 vs16.size = 32 ∧
 CanPut w'19 b18 0 vs16 ∧
 ∀ (w'21 : World),
 Put w'19 b18 0 vs16.1 w'21 →
 Calls Tryd.prog 10 #[Value.string s] w'21 fun (e23 : Ending) (w24 : World) ↦
 ∃ (vs25 : Array Value),
 vs25.size = 32 ∧
 ∃ (n26 : Int),
 e23 = Ending.returned (Value.tuple #[Value.agg vs25, Value.int IntKind.i64 n26]) ∧
 ∀ (b27 : Nat) (w'28 : World),
 New w24 (Obj.cells (zeroA Tryd.prog 24) 24) b27 w'28 →
 vs25.size = 32 ∧
 CanPut w'28 b27 0 vs25 ∧
 ∀ (w'30 : World),
 Put w'28 b27 0 vs25.1 w'30 →
 (b9 = true ∧ n17 = 0 →
 ∃ (vs33 : Array Value),
 vs33.size = 32 ∧
 CellsAt w'30 b18 0 vs33 ∧
 ∃ (vs34 : Array Value),
 vs34.size = 32 ∧
 CellsAt w'30 b1 0 vs34 ∧
 ∃ (r35 : Bool),
 (∀ (w136 : World),
 Sem.run Tryd.prog
 (do
 eqGuard BinOp.eql 24 (Operand.tmp 28) (Operand.tmp 29) (Value.agg vs33) (Value.agg vs34)
 binOp BinOp.eql 24 (Value.agg vs33) (Value.agg vs34))
 w136 =
 Result.ok (Value.bool r35) w136) ∧
 (r35 = true →
 (n26 ≠ 0 → R (Ending.returned (Value.bool true)) w'30) ∧
 (n26 = 0 →
 ∃ (vs41 : Array Value),
 vs41.size = 32 ∧
 CellsAt w'30 b27 0 vs41 ∧
 Calls Tryd.prog 12 #[Value.agg vs41] w'30 fun (e42 : Ending) (w43 : World) ↦
 ∃ (s44 : ByteArray), e42 = Ending.returned (Value.string s44) ∧ R (Ending.returned (Value.bool (sEq s44 s))) w43)) ∧
 (r35 = false → R (Ending.returned (Value.bool false)) w'30)) ∧
 (b9 = false ∨ n17 ≠ 0 → R (Ending.returned (Value.bool false)) w'30)

set_option maxRecDepth 100000 in
theorem lawBack_eq (d : Array Value) (s : ByteArray) (w : World) (R : Ending → World → Prop) : lawBack_T d s w R = vcFn Tryd.prog [] [] Tryd.f6 [Value.agg d, Value.string s] w R := by kernel_rfl

set_option maxRecDepth 100000 in
theorem lawBack_vc (d : Array Value) (s : ByteArray) (w : World) (R : Ending → World → Prop) (hvc : lawBack_T d s w R) : Calls Tryd.prog 6 #[Value.agg d, Value.string s] w R :=
  calls_of_vc (args := [Value.agg d, Value.string s]) [] [] Tryd.mixed Tryd.func6 (cast (lawBack_eq _ _ w R) hvc)


end Go.Proofs.YthnimelcbbinaaaDoor

/- What lies in memory, in the words of the contracts: values in a row, blocks and rows of one's own, what each step leaves as it was. -/
namespace Go.Vc
open Go Go.RowKit

/-! ### Steps -/
/-- All that was there is as it was. -/
def Ext (w w' : World) : Prop := Below w.heap.size w w'

theorem Ext.below {w w' : World} (h : Ext w w') : Below w.heap.size w w' := h
theorem Ext.size {w w' : World} (h : Ext w w') : w.heap.size ≤ w'.heap.size := h.below.size
theorem Ext.block {w w' : World} (h : Ext w w') (k : Nat) (hk : k < w.heap.size) : w'.heap[k]? = w.heap[k]? := h.below.block k hk
theorem Ext.rfl {w : World} : Ext w w := Below.refl _ _
theorem Ext.trans {a b c : World} (h : Ext a b) (k : Ext b c) : Ext a c := h.below.trans (k.below.mono h.size)
theorem Ext.same {bs : Option (List Nat)} {wr w w' : World} (h : Ext w w') : SameTo bs wr w w' := fun k _ hk => h.block k hk
theorem _root_.Go.RowKit.Below.ext {B : Nat} {a w w' : World} (h : Below B a w) (k : Ext w w') (hB : B ≤ w.heap.size) : Below B a w' := h.trans (k.below.mono hB)
theorem _root_.Go.RowKit.Below.cast {B B' : Nat} {a w : World} (h : Below B a w) (e : B = B') : Below B' a w := e ▸ h

/-- All is as it was but for block b. -/
structure But (b : Nat) (w w' : World) : Prop where
  os : w'.os = w.os
  tape : w'.tape = w.tape
  output : w'.output = w.output
  size : w.heap.size ≤ w'.heap.size
  block : ∀ k, k < w.heap.size → k ≠ b → w'.heap[k]? = w.heap[k]?

theorem Ext.but {w w' : World} (h : Ext w w') (b : Nat) : But b w w' := ⟨h.below.os, h.below.tape, h.below.output, h.size, fun k hk _ => h.block k hk⟩
theorem But.sameIn {b : Nat} {l : List Nat} {wr w w' : World} (h : But b w w') (hb : b ∉ l) : SameTo (some l) wr w w' := fun k hk hw => h.block k hw (fun e => hb (e ▸ hk))
theorem But.trans {b : Nat} {x y z : World} (h : But b x y) (k : But b y z) : But b x z :=
  ⟨k.os.trans h.os, k.tape.trans h.tape, k.output.trans h.output, Nat.le_trans h.size k.size, fun i hi hne => (k.block i (Nat.lt_of_lt_of_le hi h.size) hne).trans (h.block i hi hne)⟩
theorem _root_.Go.RowKit.Below.but {B b : Nat} {a w w' : World} (h : Below B a w) (k : But b w w') (hb : B ≤ b) (hB : B ≤ w.heap.size) : Below B a w' :=
  h.trans ⟨k.os, k.tape, k.output, k.size, fun i hi => k.block i (by omega) (by omega)⟩

theorem New.ext {w w' : World} {o : Obj} {b : Nat} (h : New w o b w') : Ext w w' := by rw [h.2]; exact (Below.refl _ w).alloc (Nat.le_refl _) o
theorem New.size {w w' : World} {o : Obj} {b : Nat} (h : New w o b w') : b = w.heap.size ∧ w'.heap.size = w.heap.size + 1 := ⟨h.1, by rw [h.2]; simp⟩
theorem New.obj {w w' : World} {o : Obj} {b : Nat} (h : New w o b w') : w'.heap[b]? = some o := by rw [h.2, h.1]; exact World.alloc_heap_new w o
theorem Drew.ext {w w' : World} (h : Drew w w') : Ext w w' := by rw [h]; exact (Below.refl _ w).drew
theorem Drew.size {w w' : World} (h : Drew w w') : w'.heap.size = w.heap.size := by rw [h]; rfl
theorem setL_but : ∀ (vs : List Value) (b o j : Nat) (w : World), But b w (setL vs b o j w) ∧ (setL vs b o j w).heap.size = w.heap.size
  | [], _, _, _, w => ⟨⟨rfl, rfl, rfl, Nat.le_refl _, fun _ _ _ => rfl⟩, rfl⟩
  | v :: vs, b, o, j, w => by
    obtain ⟨h, hs⟩ := setL_but vs b o (j + 1) (w.setCell ⟨b, off o j, none⟩ v)
    have h1 : But b w (w.setCell ⟨b, off o j, none⟩ v) := ⟨rfl, rfl, rfl, by simp [World.setCell], fun k _ hne => Below.heap_setCell w _ v k hne⟩
    exact ⟨h1.trans h, by rw [setL, hs]; simp [World.setCell]⟩
theorem Put.but {w w' : World} {b o : Nat} {vs : List Value} (h : Put w b o vs w') : But b w w' := by rw [h]; exact (setL_but vs b o 0 w).1
theorem Put.size {w w' : World} {b o : Nat} {vs : List Value} (h : Put w b o vs w') : w'.heap.size = w.heap.size := by rw [h]; exact (setL_but vs b o 0 w).2
theorem grown_but {w w' : World} {b o n c : Nat} (h : w.grownBy w' (Value.slice (some ⟨b, o, none⟩) n c).ownBlock) : But b w w' := ⟨h.os, h.tape, h.output, h.size, fun k hk hne => h.block k hk (by intro e; cases e; exact hne rfl)⟩
theorem grown_nil {w w' : World} {n c : Nat} (h : w.grownBy w' (Value.slice none n c).ownBlock) : Ext w w' := ⟨h.os, h.tape, h.output, h.size, fun k hk => h.block k hk (by intro e; cases e)⟩

theorem turn_but {r : Nat → Loop} {l k : Nat} {w : World} : But l w (turn r l k w) ∧ (turn r l k w).heap.size = w.heap.size :=
  ⟨⟨rfl, rfl, rfl, by simp [turn], fun i _ hne => World.putObj_heap_other hne⟩, by simp [turn]⟩
theorem Rec.lt {r : Nat → Loop} {l k : Nat} {w : World} (h : Rec r l k w) : l < w.heap.size := (Array.getElem?_eq_some_iff.1 h).1
theorem Rec.turn {r : Nat → Loop} {l k : Nat} {w : World} (h : Rec r l k w) (k' : Nat) : Rec r l k' (turn r l k' w) := World.putObj_heap_same h.lt
theorem Rec.ext {r : Nat → Loop} {l k : Nat} {w w' : World} (h : Rec r l k w) (e : Ext w w') : Rec r l k w' := (e.block l h.lt).trans h
theorem Rec.but {r : Nat → Loop} {l k b : Nat} {w w' : World} (h : Rec r l k w) (e : But b w w') (hne : l ≠ b) : Rec r l k w' := (e.block l h.lt hne).trans h

theorem Began.ext {w w1 : World} {r : Nat → Loop} {d l : Nat} (h : Began w r d l w1) : Ext w w1 := by
  rw [h.2.2]; exact ((Below.refl _ w).alloc (Nat.le_refl _) _).alloc (by simp) _
/-- The block for deferred calls is open. -/
def Dfr (d : Nat) (w : World) : Prop := w.heap[d]? = some (.deferred (some []))
theorem Began.dfr {w w1 : World} {r : Nat → Loop} {d l : Nat} (h : Began w r d l w1) : Dfr d w1 := by
  unfold Dfr
  rw [h.2.2, h.1]
  rw [Below.heap_alloc _ _ _ (by simp)]
  exact World.alloc_heap_new w _
theorem Dfr.lt {d : Nat} {w : World} (h : Dfr d w) : d < w.heap.size := (Array.getElem?_eq_some_iff.1 h).1
theorem Dfr.ext {d : Nat} {w w' : World} (h : Dfr d w) (e : Ext w w') : Dfr d w' := (e.block d h.lt).trans h
theorem Dfr.but {d b : Nat} {w w' : World} (h : Dfr d w) (e : But b w w') (hne : d ≠ b) : Dfr d w' := (e.block d h.lt hne).trans h
/-! ### Blocks -/
/-- Block b holds the cells cs, and none of them is frozen. -/
def Blk (w : World) (b : Nat) (t : TypeId) (cs : Array Value) : Prop := w.heap[b]? = some (.cells cs t (0, 0))

theorem Blk.new {w w' : World} {b : Nat} {t : TypeId} {cs : Array Value} (h : New w (.cells cs t) b w') : Blk w' b t cs := h.obj
theorem Blk.lt {w : World} {b : Nat} {t : TypeId} {cs : Array Value} (h : Blk w b t cs) : b < w.heap.size := (Array.getElem?_eq_some_iff.1 h).1
theorem Blk.ext {w w' : World} {b : Nat} {t : TypeId} {cs : Array Value} (h : Blk w b t cs) (e : Ext w w') : Blk w' b t cs := (e.block b h.lt).trans h
theorem Blk.but {w w' : World} {b b' : Nat} {t : TypeId} {cs : Array Value} (h : Blk w b t cs) (e : But b' w w') (hne : b ≠ b') : Blk w' b t cs := (e.block b h.lt hne).trans h
theorem Blk.cell {w : World} {b : Nat} {t : TypeId} {cs : Array Value} (h : Blk w b t cs) (i : Nat) : w.cell? ⟨b, i, none⟩ = cs[i]? := by
  unfold World.cell?
  rw [show w.heap[b]? = _ from h]
  simp
/-- The one cell of a box. -/
theorem Blk.one {w : World} {b : Nat} {t : TypeId} {v : Value} (h : Blk w b t #[v]) : w.cell? ⟨b, 0, none⟩ = some v := by rw [h.cell]; rfl
theorem Blk.frozen {w : World} {b : Nat} {t : TypeId} {cs : Array Value} (h : Blk w b t cs) (i : Nat) : w.frozen? ⟨b, i, none⟩ = false := by
  unfold World.frozen?
  rw [show w.heap[b]? = _ from h]
  simp
theorem Blk.set {w : World} {b : Nat} {t : TypeId} {cs : Array Value} (h : Blk w b t cs) (i : Nat) (v : Value) : Blk (w.setCell ⟨b, i, none⟩ v) b t (cs.setIfInBounds i v) := by
  unfold Blk World.setCell
  rw [Array.getElem?_modify, if_pos rfl, show w.heap[b]? = _ from h]
  simp
def setA : Array Value → Nat → List Value → Array Value
  | cs, _, [] => cs
  | cs, i, v :: vs => setA (cs.setIfInBounds i v) (i + 1) vs
theorem off_succ (o j : Nat) : off o (j + 1) = off o j + 1 := by cases j <;> rfl
theorem Blk.setL : ∀ (vs : List Value) {w : World} {b : Nat} {t : TypeId} {cs : Array Value} (o j : Nat), Blk w b t cs → Blk (setL vs b o j w) b t (setA cs (off o j) vs)
  | [], _, _, _, _, _, _, h => h
  | v :: vs, w, b, t, cs, o, j, h => by
    have := Blk.setL vs o (j + 1) (h.set (off o j) v)
    rw [off_succ] at this
    exact this
theorem Blk.put {w w' : World} {b : Nat} {t : TypeId} {cs : Array Value} {o : Nat} {vs : List Value} (h : Blk w b t cs) (p : Put w b o vs w') : Blk w' b t (setA cs o vs) := by
  rw [p]; exact Blk.setL vs o 0 h
theorem Blk.box {w w' : World} {b : Nat} {t : TypeId} {u v : Value} (h : Blk w b t #[u]) (p : Put w b 0 [v] w') : Blk w' b t #[v] := h.put p
theorem Blk.ne_rec {w : World} {b l k : Nat} {t : TypeId} {cs : Array Value} {r : Nat → Loop} (h : Blk w b t cs) (k' : Rec r l k w) : b ≠ l := by
  intro e; subst e; unfold Blk at h; unfold Rec at k'; rw [h] at k'; cases k'
theorem Blk.ne_dfr {w : World} {b d : Nat} {t : TypeId} {cs : Array Value} (h : Blk w b t cs) (k' : Dfr d w) : b ≠ d := by
  intro e; subst e; unfold Blk at h; unfold Dfr at k'; rw [h] at k'; cases k'
theorem Rec.ne_dfr {w : World} {l k d : Nat} {r : Nat → Loop} (h : Rec r l k w) (k' : Dfr d w) : l ≠ d := by
  intro e; subst e; unfold Rec at h; unfold Dfr at k'; rw [h] at k'; cases k'

/-! ### Values in a row -/
/-- The values vs lie at p, one behind the other. -/
def At (w : World) (p : Option Addr) (vs : List Value) : Prop :=
  vs = [] ∨ ∃ b o, p = some ⟨b, o, none⟩ ∧ ∀ i v, vs[i]? = some v → w.cell? ⟨b, o + i, none⟩ = some v

/-- Bytes as values. -/
def vB (l : List UInt8) : List Value := l.map fun x => .int .u8 ((x.toNat : Nat) : Int)
/-- Integers of a kind as values. -/
def vI (k : IntKind) (l : List Int) : List Value := l.map fun x => .int k x

theorem vB_length (l : List UInt8) : (vB l).length = l.length := by simp [vB]
theorem vB_append (a b : List UInt8) : vB (a ++ b) = vB a ++ vB b := by simp [vB]
theorem vB_one {l : List UInt8} : ∀ u ∈ vB l, u.oneCell' = true := by intro u hu; obtain ⟨x, _, rfl⟩ := List.mem_map.1 hu; rfl
theorem cell_lt {w : World} {b o : Nat} {v : Value} (h : w.cell? ⟨b, o, none⟩ = some v) : b < w.heap.size := World.block_lt_of_cell? w _ h
theorem cell_of {w w' : World} {b o : Nat} {v : Value} (h : w.cell? ⟨b, o, none⟩ = some v) (hb : w'.heap[b]? = w.heap[b]?) : w'.cell? ⟨b, o, none⟩ = some v := by
  rw [← h]; simp [World.cell?, hb]
theorem cell_ext {w w' : World} {b o : Nat} {v : Value} (h : w.cell? ⟨b, o, none⟩ = some v) (e : Ext w w') : w'.cell? ⟨b, o, none⟩ = some v := cell_of h (e.block b (cell_lt h))

theorem At.nil (w : World) (p : Option Addr) : At w p [] := .inl rfl

theorem At.get {w : World} {p : Option Addr} {vs : List Value} (h : At w p vs) {i : Nat} (hi : i < vs.length) : ∃ b o, p = some ⟨b, o, none⟩ ∧ w.cell? ⟨b, o + i, none⟩ = some vs[i] := by
  rcases h with rfl | ⟨b, o, hp, hc⟩
  · simp at hi
  · exact ⟨b, o, hp, hc i _ (List.getElem?_eq_getElem hi)⟩
/-- A world in which p's block lies as it lay. -/
theorem At.kept {w w' : World} {p : Option Addr} {vs : List Value} (h : At w p vs) (hk : ∀ b o, p = some ⟨b, o, none⟩ → b < w.heap.size → w'.heap[b]? = w.heap[b]?) : At w' p vs := by
  rcases h with rfl | ⟨b, o, rfl, hc⟩
  · exact .inl rfl
  · refine .inr ⟨b, o, rfl, fun i v hv => ?_⟩
    have := hc i v hv
    exact cell_of this (hk b o rfl (cell_lt this))
theorem At.ext {w w' : World} {p : Option Addr} {vs : List Value} (h : At w p vs) (e : Ext w w') : At w' p vs := h.kept fun b _ _ hlt => e.block b hlt
theorem At.but {w w' : World} {b : Nat} {p : Option Addr} {vs : List Value} (h : At w p vs) (e : But b w w') (hne : ∀ b' o, p = some ⟨b', o, none⟩ → b' ≠ b) : At w' p vs := h.kept fun b' o hp hlt => e.block b' hlt (hne b' o hp)
theorem Blk.at {w : World} {b : Nat} {t : TypeId} {cs : Array Value} (h : Blk w b t cs) : At w (some ⟨b, 0, none⟩) cs.toList :=
  .inr ⟨b, 0, rfl, fun i v hv => by rw [h.cell, Nat.zero_add]; simpa using hv⟩
theorem New.at {w w' : World} {b : Nat} {t : TypeId} {cs : Array Value} {f : Nat × Nat} (h : New w (.cells cs t f) b w') : At w' (some ⟨b, 0, none⟩) cs.toList := by
  refine .inr ⟨b, 0, rfl, fun i v hv => ?_⟩
  rw [cell_of_row w' b (0 + i) cs t f h.obj]
  simpa using hv

theorem At.take {w : World} {p : Option Addr} {vs : List Value} (h : At w p vs) (n : Nat) : At w p (vs.take n) := by
  rcases h with rfl | ⟨b, o, rfl, hc⟩
  · exact .inl (by simp)
  · refine .inr ⟨b, o, rfl, fun i v hv => hc i v ?_⟩
    rw [List.getElem?_take] at hv
    split at hv
    · exact hv
    · cases hv

/-- s[l:k], of cells of size s. -/
theorem At.slice {w : World} {p : Option Addr} {vs : List Value} (h : At w p vs) (l k m s : Nat) (hk : k ≤ m) : At w (slBase p l m s) ((vs.take (k * s)).drop (l * s)) := by
  unfold slBase
  split
  · rename_i hm
    subst hm
    refine .inl ?_
    rw [List.drop_eq_nil_iff, List.length_take]
    have := Nat.mul_le_mul_right s hk
    omega
  · rcases h with rfl | ⟨b, o, rfl, hc⟩
    · exact .inl (by simp)
    · refine .inr ⟨b, o + l * s, ?_, fun i v hv => ?_⟩
      · simp only [Option.map, Addr.add_lit]
      · rw [List.getElem?_drop, List.getElem?_take] at hv
        split at hv
        · have := hc _ _ hv; rwa [← Nat.add_assoc] at this
        · cases hv
theorem slBase_none {p : Option Addr} {l m s : Nat} (h : slBase p l m s = none) : p = none := by
  unfold slBase at h
  split at h
  · exact h
  · cases p with
    | none => rfl
    | some y => cases h

theorem At.bytes {w : World} {p : Option Addr} {l : List UInt8} (h : At w p (vB l)) : BytesAt w p l.length l := by
  refine ⟨rfl, fun hpos => ?_⟩
  rcases h with h | ⟨b, o, rfl, hc⟩
  · have := congrArg List.length h; simp [vB] at this; subst this; simp at hpos
  · refine ⟨b, o, rfl, fun i hi => hc i _ ?_⟩
    simp [vB, hi]
theorem At.bytes' {w : World} {p : Option Addr} {l : List UInt8} {n : Nat} (h : At w p (vB l)) (hn : l.length = n) : BytesAt w p n l := hn ▸ h.bytes

/-! ### Rows of one's own -/
/-- The slice (p, n, c) of elements of s cells leads to a row of our own that holds vs, or is nil. -/
def Mine (B : Nat) (t : TypeId) (s : Nat) (w : World) (p : Option Addr) (n c : Nat) (vs : List Value) : Prop := w.ownsRow B t s (.slice p n c) n vs

section
variable {B : Nat} {t : TypeId} {s : Nat} {w w' : World} {p : Option Addr} {n c : Nat} {vs : List Value}
theorem Mine.nil (B : Nat) (t : TypeId) (s : Nat) (w : World) : Mine B t s w none 0 0 [] := World.ownsRow_nil w B t s
theorem Mine.len (h : Mine B t s w p n c vs) : vs.length = n * s := h.1
theorem Mine.at (h : Mine B t s w p n c vs) : At w p vs := by
  rcases h.2 with ⟨e, hn⟩ | ⟨g, cap, cur, e, hb, hg, h1, h2, h3, h4⟩
  · cases e; left; have := h.1; cases vs with | nil => rfl | cons _ _ => simp at this
  · cases e
    refine .inr ⟨g, 0, rfl, fun i v hv => ?_⟩
    rw [cell_of_row w g (0 + i) cur t (0, 0) hg, Nat.zero_add]
    rw [← h4, List.getElem?_take] at hv
    split at hv
    · simpa using hv
    · cases hv
theorem Mine.ge (h : Mine B t s w p n c vs) : ∀ b o, p = some ⟨b, o, none⟩ → B ≤ b ∧ b < w.heap.size := by
  intro b o hp; subst hp; exact World.ownsRow.lt h b rfl
theorem Mine.shape (h : Mine B t s w p n c vs) : (p = none ∧ n = 0 ∧ c = 0 ∧ vs = []) ∨ ∃ b, p = some ⟨b, 0, none⟩ ∧ B ≤ b ∧ b < w.heap.size := by
  rcases h.2 with ⟨e, hn⟩ | ⟨g, cap, cur, e, hb, hg, _⟩
  · cases e; left; have := h.1; exact ⟨rfl, rfl, rfl, by cases vs with | nil => rfl | cons _ _ => simp at this⟩
  · cases e; exact .inr ⟨g, rfl, hb, (Array.getElem?_eq_some_iff.1 hg).1⟩
theorem Mine.kept (h : Mine B t s w p n c vs) (hk : ∀ b o, p = some ⟨b, o, none⟩ → b < w.heap.size → w'.heap[b]? = w.heap[b]?) : Mine B t s w' p n c vs := by
  refine ⟨h.1, ?_⟩
  rcases h.2 with hn | ⟨g, cap, cur, e, hb, hg, rest⟩
  · exact .inl hn
  · cases e
    exact .inr ⟨g, c, cur, rfl, hb, (hk g 0 rfl (Array.getElem?_eq_some_iff.1 hg).1).trans hg, rest⟩
theorem Mine.ext (h : Mine B t s w p n c vs) (e : Ext w w') : Mine B t s w' p n c vs := h.kept fun b _ _ hlt => e.block b hlt
theorem Mine.but {b : Nat} (h : Mine B t s w p n c vs) (e : But b w w') (hne : ∀ b' o, p = some ⟨b', o, none⟩ → b' ≠ b) : Mine B t s w' p n c vs := h.kept fun b' o hp hlt => e.block b' hlt (hne b' o hp)
theorem Mine.mono {B' : Nat} (h : Mine B t s w p n c vs) (hB : B' ≤ B) : Mine B' t s w p n c vs := by
  refine ⟨h.1, ?_⟩
  rcases h.2 with hn | ⟨g, cap, cur, e, hb, rest⟩
  · exact .inl hn
  · exact .inr ⟨g, cap, cur, e, by omega, rest⟩
theorem Mine.cap (h : Mine B t s w p n c vs) : n ≤ c ∧ c ≤ maxLen := by
  rcases h.2 with ⟨e, hn⟩ | ⟨g, cap, cur, e, hb, _, h1, h2, _⟩
  · cases e; simp [hn]
  · cases e; exact ⟨h1, h2⟩
theorem Mine.isNil (h : Mine B t s w p n c vs) (hp : p = none) : n = 0 ∧ c = 0 := by
  rcases h.2 with ⟨e, hn⟩ | ⟨g, cap, cur, e, _⟩
  · exact ⟨(Value.slice.inj e).2.1, (Value.slice.inj e).2.2⟩
  · subst hp; have := (Value.slice.inj e).1; cases this
/-- A row just made, of which nothing is in use. -/
theorem Mine.made {b : Nat} {cur : Array Value} {cap : Nat} (h : New w (.cells cur t) b w') (hB : B ≤ w.heap.size) (hm : cap ≤ maxLen) (hs : cur.size = cap * s) : Mine B t s w' (some ⟨b, 0, none⟩) 0 cap [] := by
  obtain ⟨rfl, rfl⟩ := h
  exact World.ownsRow_made w cur cap hB hm hs
/-- A row just laid, all of it in use. -/
theorem Mine.lit {b : Nat} {cur : Array Value} {cap : Nat} (h : New w (.cells cur t) b w') (hB : B ≤ w.heap.size) (hm : cap ≤ maxLen) (hs : cur.size = cap * s) : Mine B t s w' (some ⟨b, 0, none⟩) cap cap cur.toList := by
  obtain ⟨rfl, rfl⟩ := h
  exact World.ownsRow_lit w cur cap hB hm hs
theorem Mine.ne_rec {b o l k : Nat} {r : Nat → Loop} (h : Mine B t s w p n c vs) (hp : p = some ⟨b, o, none⟩) (k' : Rec r l k w) : b ≠ l := by
  rcases h.2 with ⟨e, hn⟩ | ⟨g, cap, cur, e, hb, hg, _⟩
  · subst hp; cases e
  · subst hp; cases e; intro e; subst e; unfold Rec at k'; rw [hg] at k'; cases k'
theorem Mine.ne_dfr {b o d : Nat} (h : Mine B t s w p n c vs) (hp : p = some ⟨b, o, none⟩) (k' : Dfr d w) : b ≠ d := by
  rcases h.2 with ⟨e, hn⟩ | ⟨g, cap, cur, e, hb, hg, _⟩
  · subst hp; cases e
  · subst hp; cases e; intro e; subst e; unfold Dfr at k'; rw [hg] at k'; cases k'
/-- The row's block by itself. -/
theorem Mine.blk (h : Mine B t s w p n c vs) (hn : 0 < n ∨ p ≠ none) : ∃ b cur, p = some ⟨b, 0, none⟩ ∧ B ≤ b ∧ Blk w b t cur ∧ cur.size = c * s ∧ cur.toList.take (n * s) = vs := by
  rcases h.2 with ⟨e, hn'⟩ | ⟨g, cap, cur, e, hb, hg, h1, h2, h3, h4⟩
  · cases e; rcases hn with hn | hn
    · omega
    · exact absurd rfl hn
  · cases e; exact ⟨g, cur, rfl, hb, hg, h3, h4⟩
/-- What was written into a row of one's own. -/
theorem setA_spec : ∀ (vs : List Value) (cs : Array Value) (o : Nat), (setA cs o vs).size = cs.size ∧ ∀ i, (setA cs o vs)[i]? = if o ≤ i ∧ i < o + vs.length ∧ i < cs.size then vs[i - o]? else cs[i]?
  | [], cs, o => ⟨rfl, fun i => by rw [if_neg (by simp; omega)]; rfl⟩
  | v :: vs, cs, o => by
    obtain ⟨h1, h2⟩ := setA_spec vs (cs.setIfInBounds o v) (o + 1)
    refine ⟨by simp only [setA, h1]; simp, fun i => ?_⟩
    simp only [setA, h2, Array.size_setIfInBounds, List.length_cons, Array.getElem?_setIfInBounds]
    by_cases ho : o = i
    · subst ho
      rw [if_neg (by omega)]
      by_cases hs : o < cs.size
      · rw [if_pos rfl, if_pos hs, if_pos (by omega)]; simp
      · rw [if_pos rfl, if_neg hs, if_neg (by omega)]; rw [Array.getElem?_eq_none (by omega)]
    · by_cases hc : o + 1 ≤ i ∧ i < o + 1 + vs.length ∧ i < cs.size
      · rw [if_pos hc, if_pos (by omega), show i - o = (i - (o + 1)) + 1 by omega]; simp
      · rw [if_neg hc, if_neg ho, if_neg (by omega)]
/-- A store into a row of one's own: element i becomes us. -/
theorem Mine.put {i : Nat} {us : List Value} (h : Mine B t s w p n c vs) (hi : i < n) (hu : us.length = s) :
    ∃ b, p = some ⟨b, 0, none⟩ ∧ B ≤ b ∧ b < w.heap.size ∧ (∀ j, j < s → (∃ u, w.cell? ⟨b, i * s + j, none⟩ = some u) ∧ w.frozen? ⟨b, i * s + j, none⟩ = false) ∧
      ∀ w', Put w b (i * s) us w' → Mine B t s w' p n c (vs.take (i * s) ++ us ++ vs.drop (i * s + s)) := by
  obtain ⟨b, cur, hp, hB, hblk, hsz, htk⟩ := h.blk (.inl (by omega))
  have hcap := h.cap
  have hlen := h.len
  have h1 : i * s + s ≤ n * s := by rw [← Nat.succ_mul]; exact Nat.mul_le_mul_right s hi
  have h2 : n * s ≤ c * s := Nat.mul_le_mul_right s hcap.1
  refine ⟨b, hp, hB, hblk.lt, fun j hj => ⟨?_, hblk.frozen _⟩, fun w' hput => ?_⟩
  · rw [hblk.cell]; exact ⟨cur[i * s + j]'(by omega), by simp⟩
  · have hb' := hblk.put hput
    obtain ⟨s1, s2⟩ := setA_spec us cur (i * s)
    refine ⟨by simp only [List.length_append, List.length_take, List.length_drop, hu]; omega, .inr ⟨b, c, _, by rw [hp], hB, hb', hcap.1, hcap.2, by rw [s1, hsz], ?_⟩⟩
    apply List.ext_getElem?
    intro k
    rw [List.getElem?_take]
    have hk2 : (setA cur (i * s) us).toList[k]? = (setA cur (i * s) us)[k]? := by simp
    rw [hk2, s2]
    have hvs : ∀ k, k < n * s → vs[k]? = cur[k]? := fun k hk => by rw [← htk, List.getElem?_take, if_pos hk]; simp
    by_cases hk : k < n * s
    · rw [if_pos hk]
      by_cases hc : i * s ≤ k ∧ k < i * s + us.length ∧ k < cur.size
      · rw [if_pos hc, List.append_assoc, List.getElem?_append_right (by simp; omega), List.getElem?_append_left (by simp; omega)]
        congr 1; simp; omega
      · rw [if_neg hc, ← hvs k hk]
        rcases Nat.lt_or_ge k (i * s) with hlt | hge
        · rw [List.append_assoc, List.getElem?_append_left (by simp; omega), List.getElem?_take, if_pos hlt]
        · rw [List.getElem?_append_right (by simp; omega), List.getElem?_drop]
          congr 1; simp; omega
    · rw [if_neg hk, List.getElem?_eq_none]
      simp only [List.length_append, List.length_take, List.length_drop, hu]; omega
end

/-! ### append -/
/-- What append leaves: a row of our own with the new values behind the old ones; no other block has turned. -/
theorem append_own {P : Program} {t ty u : TypeId} {z : Ty} {B s : Nat} {w : World} {p q : Option Addr} {n c m d : Nat} {xs news : List Value} (ht : P.underlying t = some (.slice u)) (hz : tyOf P u = some z)
    (h1 : z.ls.length = s) (h0 : 0 < s) (hown : Mine B u s w p n c xs) (hat : At w q news) (hm : news.length = m * s) (hq : q = none → m = 0 ∧ d = 0) (hone : ∀ x ∈ news, x.oneCell' = true) (hB : B ≤ w.heap.size)
    (hroom : ((n + m) + (n + m) / 4 + 192) * z.bytes ≤ 281474976710656) (hlen : n + m ≤ maxLen) :
    ∃ p' c' w', (Builtin.append_ #[t, t] ty #[.slice p n c, .slice q m d]).run P w = .ok (.slice p' (n + m) c') w' ∧ Mine B u s w' p' (n + m) c' (xs ++ news) ∧ w.grownBy w' (Value.slice p n c).ownBlock := by
  obtain ⟨i, d', hi, hzz, hd, hsz, hls, hag, hby⟩ := tyOf_spec hz
  have hsize : i.size = s := by rw [hsz]; have := h1; rw [hls, length_leavesOf] at this; simpa using this
  cases q with
  | none =>
    obtain ⟨rfl, rfl⟩ := hq rfl
    have hn : news = [] := by cases news with | nil => rfl | cons _ _ => simp at hm
    subst hn
    refine ⟨p, c, w, ?_, by simpa using hown, ⟨rfl, rfl, rfl, Nat.le_refl _, fun _ _ _ => rfl⟩⟩
    have hcap := hown.cap.1
    cases p with
    | none => simp [Builtin.append_, run_underlying ht, sizeOf, typeInfo, hi, Builtin.lenOf, hcap, Builtin.firstCells]
    | some a => simp [Builtin.append_, run_underlying ht, sizeOf, typeInfo, hi, Builtin.lenOf, hcap, Builtin.firstCells, storeCells]
  | some a =>
    have hnews : ∀ j x, news[j]? = some x → w.cell? (a.add j) = some x := by
      intro j x hx
      rcases hat with rfl | ⟨b, o, hp, hc⟩
      · simp at hx
      · cases hp; rw [Addr.add_lit]; exact hc j x hx
    obtain ⟨v', w', hrun, hown', hg, _⟩ := run_append_own_wide (P := P) w B t ty u i z.zero s z.bytes ht hi hzz hsize hby.symm (by rw [← hsz]; exact hsize) h0 (.slice p n c) n xs hown a m d news hm
      hnews hone hlen hroom hB
    rcases hown'.2 with ⟨rfl, hn0⟩ | ⟨g, cap, cur, rfl, rest⟩
    · exact ⟨none, 0, w', by rw [hrun, hn0], by rw [hn0] at hown' ⊢; exact hown', hg⟩
    · exact ⟨some ⟨g, 0, none⟩, cap, w', hrun, hown', hg⟩

/-- Behind an append onto a row of one's own. -/
theorem Mine.grown {B : Nat} {t : TypeId} {s : Nat} {w w' : World} {p : Option Addr} {n c : Nat} {vs : List Value} (h : Mine B t s w p n c vs) (hg : w.grownBy w' (Value.slice p n c).ownBlock) :
    (p = none ∧ Ext w w') ∨ ∃ b, p = some ⟨b, 0, none⟩ ∧ B ≤ b ∧ But b w w' := by
  rcases h.shape with ⟨rfl, _⟩ | ⟨b, rfl, hb, _⟩
  · exact .inl ⟨rfl, grown_nil hg⟩
  · exact .inr ⟨b, rfl, hb, grown_but hg⟩
theorem Mine.below {B B0 : Nat} {t : TypeId} {s : Nat} {a w w' : World} {p : Option Addr} {n c : Nat} {vs : List Value} (h : Mine B t s w p n c vs) (hg : w.grownBy w' (Value.slice p n c).ownBlock) (hb : Below B0 a w) (hB : B0 ≤ B) (hs : B0 ≤ w.heap.size) : Below B0 a w' := by
  rcases h.grown hg with ⟨_, e⟩ | ⟨b, _, hle, e⟩
  · exact hb.ext e hs
  · exact hb.but e (by omega) hs
theorem At.grown {B : Nat} {t : TypeId} {s : Nat} {w w' : World} {p q : Option Addr} {n c : Nat} {vs us : List Value} (h : Mine B t s w p n c vs) (hg : w.grownBy w' (Value.slice p n c).ownBlock) (hq : At w q us)
    (hne : ∀ b o b' o', q = some ⟨b, o, none⟩ → p = some ⟨b', o', none⟩ → b ≠ b') : At w' q us := by
  rcases h.grown hg with ⟨_, e⟩ | ⟨b, hp, hle, e⟩
  · exact hq.ext e
  · exact hq.but e fun b' o hq' => hne b' o b 0 hq' hp

/-! ### Freezing -/
theorem cell_freeze (w : World) (a : Addr) (n : Nat) (b : Addr) : (w.freeze a n).cell? b = w.cell? b := by
  unfold World.freeze
  split
  · rfl
  · simp only [World.cell?, Array.getElem?_modify]
    by_cases h : a.block = b.block
    · rw [if_pos h]
      cases w.heap[b.block]? with
      | none => rfl
      | some o => cases o <;> rfl
    · rw [if_neg h]

theorem At.freeze {w : World} {p : Option Addr} {vs : List Value} (h : At w p vs) (a : Addr) (n : Nat) : At (w.freeze a n) p vs := by
  rcases h with rfl | ⟨b, o, rfl, hc⟩
  · exact .inl rfl
  · exact .inr ⟨b, o, rfl, fun i v hv => by rw [cell_freeze]; exact hc i v hv⟩

/-! ### Numbers -/
theorem i64_fit {n : Int} (h0 : -9223372036854775808 ≤ n) (h1 : n ≤ 9223372036854775807) : IntKind.i64.wrap n = n := by rw [IntKind.wrap_i64]; omega
theorem u64_fit {n : Int} (h0 : 0 ≤ n) (h1 : n < 18446744073709551616) : IntKind.u64.wrap n = n := by simp [IntKind.wrap, IntKind.bits, IntKind.signed]; omega
theorem u8_fit {n : Int} (h0 : 0 ≤ n) (h1 : n < 256) : IntKind.u8.wrap n = n := by rw [IntKind.wrap_u8]; omega

/-! ### Arguments -/
theorem wf_u8 {n : Int} (h : (Lit.int .u8 n).wf = true) : 0 ≤ n ∧ n ≤ 255 := by
  simp only [Lit.wf, Bool.and_eq_true, decide_eq_true_eq] at h
  exact h
end Go.Vc

/- Numbers: bits, shifts, signed numbers as unsigned ones and back. -/
namespace Go.Vc
open Go

theorem u32_wrap (n : Int) : IntKind.u32.wrap n = n % 4294967296 := IntKind.wrap_u32 n

/-! ### Signed numbers as unsigned ones -/
def zigN (x : Int) : Nat := if x < 0 then (-2 * x - 1).toNat else (2 * x).toNat
def unzig (v : Nat) : Int := if v % 2 = 1 then -((v / 2 : Nat) : Int) - 1 else ((v / 2 : Nat) : Int)

theorem quo_nat (k : IntKind) (a b : Nat) (h : k.wrap ((a / b : Nat) : Int) = ((a / b : Nat) : Int)) : quoI k (a : Int) (b : Int) = ((a / b : Nat) : Int) := by
  unfold quoI
  rw [← Int.ofNat_tdiv]; exact h
theorem rem_nat (a b : Nat) : remI (a : Int) (b : Int) = ((a % b : Nat) : Int) := by unfold remI; rw [← Int.ofNat_tmod]
/-! ### Texts as bytes -/
def tB (s : ByteArray) : List UInt8 := s.data.toList
theorem tB_length (s : ByteArray) : (tB s).length = s.size := Array.length_toList
theorem tB_mk (l : List UInt8) : tB ⟨l.toArray⟩ = l := by simp [tB]
theorem mk_tB (s : ByteArray) : (⟨(tB s).toArray⟩ : ByteArray) = s := by cases s; simp [tB]
theorem tB_inj {s t : ByteArray} : tB s = tB t ↔ s = t := by
  constructor
  · intro h; rw [← mk_tB s, h, mk_tB]
  · rintro rfl; rfl
theorem sEq_self (s : ByteArray) : sEq s s = true := sEq_iff.2 rfl
theorem bAt_eq (s : ByteArray) (i : Nat) (h : i < s.size) : bAt s i = (((tB s)[i]'(by rw [tB_length]; exact h)).toNat : Int) := by
  have h' : i < s.data.toList.length := by simpa using h
  simp [bAt, tB, List.getD, List.getElem?_eq_getElem h']
end Go.Vc

/- Numbers as digits of 2^s, and how one bit more turns them: plain Lean. -/
namespace Go.Vc
open Go Go.RowKit

/-- The n digits of N, of s bits each, the least one first. -/
def digits (s n N : Nat) : List Nat := (List.range n).map fun i => N / 2 ^ (s * i) % 2 ^ s
/-- The number that digits of s bits are. -/
def value (s : Nat) : List Nat → Nat
  | [] => 0
  | x :: l => x + 2 ^ s * value s l
/-- Numbers as values. -/
def vN (k : IntKind) (l : List Nat) : List Value := l.map fun (x : Nat) => .int k (x : Int)

theorem vN_length (k : IntKind) (l : List Nat) : (vN k l).length = l.length := by simp [vN]
theorem vN_append (k : IntKind) (a b : List Nat) : vN k (a ++ b) = vN k a ++ vN k b := by simp [vN]
theorem vN_set (k : IntKind) (l : List Nat) (i x : Nat) : vN k (l.set i x) = (vN k l).set i (.int k (x : Int)) := by simp [vN, List.map_set]
theorem vN_get (k : IntKind) {l : List Nat} {i x : Nat} (h : l[i]? = some x) : (vN k l)[i]? = some (.int k (x : Int)) := by simp [vN, h]
theorem vN_bytes {l : List Nat} (h : ∀ x ∈ l, x < 256) : vN .u8 l = vB (l.map UInt8.ofNat) := by
  unfold vN vB
  rw [List.map_map]
  refine List.map_congr_left fun x hx => ?_
  simp only [Function.comp, UInt8.toNat_ofNat']
  rw [Nat.mod_eq_of_lt (h x hx)]
theorem vB_nats (l : List UInt8) : vB l = vN .u8 (l.map UInt8.toNat) := by simp [vB, vN]
/-- n bytes of N. -/
def bytesOf (n N : Nat) : List UInt8 := (digits 8 n N).map UInt8.ofNat
/-- The number that bytes are. -/
def ofBytes (l : List UInt8) : Nat := value 8 (l.map UInt8.toNat)
/-! ### The machine's operations -/
theorem shr_nat (k : IntKind) (v c : Nat) (hc : c ≤ k.bits) : shrI k (v : Int) c = ((v / 2 ^ c : Nat) : Int) := by
  unfold shrI
  rw [Nat.min_eq_left hc, Int.fdiv_eq_ediv_of_nonneg _ (by exact Int.le_of_lt (Int.pow_pos (by decide)))]
  simp
theorem u64_nat {n : Nat} (h : n < 18446744073709551616) : IntKind.u64.wrap (n : Int) = (n : Int) := u64_fit (by omega) (by omega)
theorem i64_nat {n : Nat} (h : n < 9223372036854775808) : IntKind.i64.wrap (n : Int) = (n : Int) := i64_fit (by omega) (by omega)
theorem and_u8 {a b : Nat} (ha : a < 256) (hb : b < 256) : bits .and .u8 (a : Int) (b : Int) = ((a &&& b : Nat) : Int) := (bits_nat .u8 8 (by decide) (fun n h0 h1 => u8_fit h0 h1) a b ha hb).1
theorem quo_i64 {a : Nat} (b : Nat) (h : a < 9223372036854775808) : quoI .i64 (a : Int) (b : Int) = ((a / b : Nat) : Int) := quo_nat .i64 a b (i64_nat (Nat.lt_of_le_of_lt (Nat.div_le_self a b) h))
theorem i64_next {n : Nat} (h : n < 9223372036854775807) : IntKind.i64.wrap ((n : Int) + 1) = ((n + 1 : Nat) : Int) := i64_fit (by omega) (by omega)
theorem take_snoc {α : Type} {l : List α} {k : Nat} {x : α} (h : l[k]? = some x) : l.take (k + 1) = l.take k ++ [x] := by rw [List.take_add_one, h]; rfl

/-! ### How many bits a number needs -/
def bl (v : Nat) : Nat := if v = 0 then 0 else v.log2 + 1
/-- All numbers' bits together. -/
def orL (l : List Nat) : Nat := l.foldl (· ||| ·) 0
/-- The least width of numbers. -/
def widthN (l : List Nat) : Nat := bl (orL l)
/-! ### Numbers that lie in a row -/
/-- A slice of 64-bit numbers that came in. -/
structure Us (w : World) (p : Option Addr) (n c : Nat) (l : List Nat) : Prop where
  len : l.length = n
  cap : n ≤ c ∧ c ≤ maxLen
  lies : At w p (vN .u64 l)
  nil : p = none → n = 0 ∧ c = 0
  lt : ∀ x ∈ l, x < 18446744073709551616
theorem Us.ext {w w' : World} {p : Option Addr} {n c : Nat} {l : List Nat} (h : Us w p n c l) (e : Ext w w') : Us w' p n c l := ⟨h.len, h.cap, h.lies.ext e, h.nil, h.lt⟩
theorem Us.le {w : World} {p : Option Addr} {n c : Nat} {l : List Nat} (h : Us w p n c l) : n ≤ maxLen := Nat.le_trans h.cap.1 h.cap.2
theorem Us.nothing (w : World) : Us w none 0 0 [] := ⟨rfl, ⟨Nat.le_refl _, Nat.zero_le _⟩, .inl rfl, fun _ => ⟨rfl, rfl⟩, by simp⟩
theorem At.getN {w : World} {p : Option Addr} {k : IntKind} {l : List Nat} (h : At w p (vN k l)) {i x : Nat} (hi : l[i]? = some x) : ∃ b o, p = some ⟨b, o, none⟩ ∧ w.cell? ⟨b, o + i, none⟩ = some (.int k (x : Int)) := by
  rcases h with h | ⟨b, o, hp, hc⟩
  · have := vN_get k hi; rw [h] at this; cases this
  · exact ⟨b, o, hp, hc i _ (vN_get k hi)⟩
/-- Bytes of our own; numbers of our own. -/
def OutB (B : Nat) (t : TypeId) (w : World) (p : Option Addr) (n c : Nat) (l : List UInt8) : Prop := l.length = n ∧ Mine B t 1 w p n c (vB l)
def OutU (B : Nat) (t : TypeId) (w : World) (p : Option Addr) (n c : Nat) (l : List Nat) : Prop := l.length = n ∧ (∀ x ∈ l, x < 18446744073709551616) ∧ Mine B t 1 w p n c (vN .u64 l)
/-- Bytes that came in. -/
structure InB (w : World) (p : Option Addr) (n c : Nat) (l : List UInt8) : Prop where
  len : l.length = n
  cap : n ≤ c ∧ c ≤ maxLen
  lies : At w p (vB l)
  nil : p = none → n = 0 ∧ c = 0
theorem InB.ext {w w' : World} {p : Option Addr} {n c : Nat} {l : List UInt8} (h : InB w p n c l) (e : Ext w w') : InB w' p n c l := ⟨h.len, h.cap, h.lies.ext e, h.nil⟩
theorem InB.bytes {w : World} {p : Option Addr} {n c : Nat} {l : List UInt8} (h : InB w p n c l) : BytesAt w p n l := h.lies.bytes' h.len
theorem InB.le {w : World} {p : Option Addr} {n c : Nat} {l : List UInt8} (h : InB w p n c l) : n ≤ maxLen := Nat.le_trans h.cap.1 h.cap.2
theorem OutB.ext {B : Nat} {t : TypeId} {w w' : World} {p : Option Addr} {n c : Nat} {l : List UInt8} (h : OutB B t w p n c l) (e : Ext w w') : OutB B t w' p n c l := ⟨h.1, h.2.ext e⟩
theorem OutB.bytes {B : Nat} {t : TypeId} {w : World} {p : Option Addr} {n c : Nat} {l : List UInt8} (h : OutB B t w p n c l) : BytesAt w p n l := h.2.at.bytes' h.1
theorem OutU.ext {B : Nat} {t : TypeId} {w w' : World} {p : Option Addr} {n c : Nat} {l : List Nat} (h : OutU B t w p n c l) (e : Ext w w') : OutU B t w' p n c l := ⟨h.1, h.2.1, h.2.2.ext e⟩
theorem OutU.us {B : Nat} {t : TypeId} {w : World} {p : Option Addr} {n c : Nat} {l : List Nat} (h : OutU B t w p n c l) : Us w p n c l := ⟨h.1, h.2.2.cap, h.2.2.at, h.2.2.isNil, h.2.1⟩
end Go.Vc

/- BLAKE2s over lists of numbers. Plain Lean, no program. -/
namespace Go.Vc
open Go Go.RowKit

/-! ### Words of 32 bits -/
theorem u32_nat {n : Nat} (h : n < 4294967296) : IntKind.u32.wrap (n : Int) = (n : Int) := by rw [u32_wrap]; omega
theorem add_u32 (a b : Nat) : IntKind.u32.wrap ((a : Int) + (b : Int)) = (((a + b) % 4294967296 : Nat) : Int) := by rw [u32_wrap]; omega
theorem xor_u32 {a b : Nat} (ha : a < 4294967296) (hb : b < 4294967296) : bits .xor .u32 (a : Int) (b : Int) = ((a ^^^ b : Nat) : Int) := by
  have e : bits .xor .u32 (a : Int) (b : Int) = IntKind.u32.wrap (((BitVec.ofInt 32 a ^^^ BitVec.ofInt 32 b).toNat : Nat) : Int) := rfl
  have hx : a ^^^ b < 4294967296 := Nat.xor_lt_two_pow (n := 32) ha hb
  have h1 : (BitVec.ofInt 32 (a : Int)).toNat = a := by rw [BitVec.toNat_ofInt]; omega
  have h2 : (BitVec.ofInt 32 (b : Int)).toNat = b := by rw [BitVec.toNat_ofInt]; omega
  rw [e, BitVec.toNat_xor, h1, h2, u32_nat hx]
theorem or_u32 {a b : Nat} (ha : a < 4294967296) (hb : b < 4294967296) : bits .or .u32 (a : Int) (b : Int) = ((a ||| b : Nat) : Int) := by
  have e : bits .or .u32 (a : Int) (b : Int) = IntKind.u32.wrap (((BitVec.ofInt 32 a ||| BitVec.ofInt 32 b).toNat : Nat) : Int) := rfl
  have hx : a ||| b < 4294967296 := Nat.or_lt_two_pow (n := 32) ha hb
  have h1 : (BitVec.ofInt 32 (a : Int)).toNat = a := by rw [BitVec.toNat_ofInt]; omega
  have h2 : (BitVec.ofInt 32 (b : Int)).toNat = b := by rw [BitVec.toNat_ofInt]; omega
  rw [e, BitVec.toNat_or, h1, h2, u32_nat hx]
theorem shl_u32 (v c : Nat) (hc : c ≤ 32) : shlI .u32 (v : Int) c = ((v * 2 ^ c % 4294967296 : Nat) : Int) := by
  unfold shlI
  rw [show min c (IntKind.u32).bits = c by simp [IntKind.bits]; omega, u32_wrap]
  rw [show ((v : Int) * 2 ^ c) = ((v * 2 ^ c : Nat) : Int) by simp]
  omega
theorem shr_u32 (v c : Nat) (hc : c ≤ 32) : shrI .u32 (v : Int) c = ((v / 2 ^ c : Nat) : Int) := shr_nat .u32 v c hc

def rot (x r : Nat) : Nat := (x / 2 ^ r) ||| (x * 2 ^ (32 - r) % 4294967296)
theorem rot_lt {x r : Nat} (h : x < 4294967296) : rot x r < 4294967296 := Nat.or_lt_two_pow (n := 32) (Nat.lt_of_le_of_lt (Nat.div_le_self _ _) h) (Nat.mod_lt _ (by decide))
/-- The half of a mixing. -/
def halfN (a b c d x r s : Nat) : Nat × Nat × Nat × Nat :=
  let a1 := (a + b + x) % 4294967296
  let d1 := rot (d ^^^ a1) r
  let c1 := (c + d1) % 4294967296
  (a1, rot (b ^^^ c1) s, c1, d1)
def quart (a b c d x y : Nat) : Nat × Nat × Nat × Nat :=
  match halfN a b c d x 16 12 with
  | (a1, b1, c1, d1) => halfN a1 b1 c1 d1 y 8 7
def g0 (l : List Nat) (i : Nat) : Nat := l.getD i 0
def mixL (v p : List Nat) (x y : Nat) : List Nat :=
  match quart (g0 v (g0 p 0)) (g0 v (g0 p 1)) (g0 v (g0 p 2)) (g0 v (g0 p 3)) x y with
  | (a, b, c, d) => (((v.set (g0 p 0) a).set (g0 p 1) b).set (g0 p 2) c).set (g0 p 3) d
def ivL : List Nat := [0x6a09e667, 0xbb67ae85, 0x3c6ef372, 0xa54ff53a, 0x510e527f, 0x9b05688c, 0x1f83d9ab, 0x5be0cd19]
def ordersL : List (List Nat) := [
  [0, 1, 2, 3, 4, 5, 6, 7, 8, 9, 10, 11, 12, 13, 14, 15],
  [14, 10, 4, 8, 9, 15, 13, 6, 1, 12, 0, 2, 11, 7, 5, 3],
  [11, 8, 12, 0, 5, 2, 15, 13, 10, 14, 3, 6, 7, 1, 9, 4],
  [7, 9, 3, 1, 13, 12, 11, 14, 2, 6, 5, 10, 4, 0, 15, 8],
  [9, 0, 5, 7, 2, 4, 10, 15, 14, 1, 11, 12, 6, 8, 3, 13],
  [2, 12, 6, 10, 0, 11, 8, 3, 4, 13, 7, 5, 15, 14, 1, 9],
  [12, 5, 1, 15, 14, 13, 4, 10, 0, 7, 6, 3, 9, 2, 8, 11],
  [13, 11, 7, 14, 12, 1, 3, 9, 5, 0, 15, 4, 8, 6, 2, 10],
  [6, 15, 14, 9, 11, 3, 0, 8, 12, 2, 13, 7, 1, 4, 10, 5],
  [10, 2, 8, 4, 7, 6, 1, 5, 15, 11, 9, 14, 3, 12, 13, 0]]
def plcL : List (List Nat) := [[0, 4, 8, 12], [1, 5, 9, 13], [2, 6, 10, 14], [3, 7, 11, 15], [0, 5, 10, 15], [1, 6, 11, 12], [2, 7, 8, 13], [3, 4, 9, 14]]
def ordN (r i : Nat) : Nat := g0 (ordersL.getD r []) i
def placeN (i : Nat) : List Nat := plcL.getD i []
/-- Of a round the first i mixings. -/
def roundL (m : List Nat) (r : Nat) : Nat → List Nat → List Nat
  | 0, v => v
  | i + 1, v => mixL (roundL m r i v) (placeN i) (g0 m (ordN r (2 * i))) (g0 m (ordN r (2 * i + 1)))
def roundsL (m : List Nat) : Nat → List Nat → List Nat
  | 0, v => v
  | r + 1, v => roundL m r 8 (roundsL m r v)
def wordN (b : List Nat) (i : Nat) : Nat := g0 b (4 * i) + 256 * g0 b (4 * i + 1) + 65536 * g0 b (4 * i + 2) + 16777216 * g0 b (4 * i + 3)
def wordsL (b : List Nat) : List Nat := (List.range 16).map (wordN b)
def startL (h : List Nat) (n : Nat) (last : Bool) : List Nat :=
  let v := h ++ ivL
  let v := v.set 12 (g0 v 12 ^^^ n % 4294967296)
  let v := v.set 13 (g0 v 13 ^^^ n / 4294967296 % 4294967296)
  if last then v.set 14 (g0 v 14 ^^^ 4294967295) else v
def blockL (h b : List Nat) (n : Nat) (last : Bool) : List Nat :=
  let v := roundsL (wordsL b) 10 (startL h n last)
  (List.range 8).map fun i => g0 h i ^^^ g0 v i ^^^ g0 v (i + 8)
def padL (b : List Nat) : List Nat := b ++ List.replicate (64 - b.length) 0
def h0L : List Nat := ivL.set 0 (g0 ivL 0 ^^^ 0x01010020)
/-- The state behind k blocks. -/
def stateL (b : List Nat) : Nat → List Nat
  | 0 => h0L
  | k + 1 => blockL (stateL b k) (padL ((b.drop (64 * k)).take 64)) (min (64 * (k + 1)) b.length) (decide (b.length ≤ 64 * (k + 1)))
def blocksN (n : Nat) : Nat := if n = 0 then 1 else (n + 63) / 64
def outL (h : List Nat) : List Nat := (List.range 32).map fun i => g0 h (i / 4) / 2 ^ (8 * (i % 4)) % 256
def sumL (b : List Nat) : List Nat := outL (stateL b (blocksN b.length))

/-! ### Lengths and bounds -/
def W8 (l : List Nat) : Prop := l.length = 8 ∧ ∀ x ∈ l, x < 4294967296
def W16 (l : List Nat) : Prop := l.length = 16 ∧ ∀ x ∈ l, x < 4294967296
theorem g0_lt {l : List Nat} (h : ∀ x ∈ l, x < 4294967296) (i : Nat) : g0 l i < 4294967296 := by
  unfold g0
  rw [List.getD_eq_getElem?_getD]
  cases hx : l[i]? with
  | none => decide
  | some x => exact h x (List.mem_of_getElem? hx)
theorem g0_get {l : List Nat} {i : Nat} (h : i < l.length) : l[i]? = some (g0 l i) := by
  unfold g0
  rw [List.getD_eq_getElem?_getD, List.getElem?_eq_getElem h]; rfl
theorem set_bound {l : List Nat} {i x : Nat} (h : ∀ x ∈ l, x < 4294967296) (hx : x < 4294967296) : ∀ y ∈ l.set i x, y < 4294967296 := by
  intro y hy
  rcases List.mem_or_eq_of_mem_set hy with hy | rfl
  · exact h y hy
  · exact hx
theorem halfN_lt {a b c d x r s : Nat} (hb : b < 4294967296) (hd : d < 4294967296) : (halfN a b c d x r s).1 < 4294967296 ∧ (halfN a b c d x r s).2.1 < 4294967296 ∧ (halfN a b c d x r s).2.2.1 < 4294967296 ∧ (halfN a b c d x r s).2.2.2 < 4294967296 := by
  have m : ∀ n, n % 4294967296 < 4294967296 := fun n => Nat.mod_lt _ (by decide)
  exact ⟨m _, rot_lt (Nat.xor_lt_two_pow (n := 32) hb (m _)), m _, rot_lt (Nat.xor_lt_two_pow (n := 32) hd (m _))⟩
theorem quart_lt {a b c d x y : Nat} (hb : b < 4294967296) (hd : d < 4294967296) : (quart a b c d x y).1 < 4294967296 ∧ (quart a b c d x y).2.1 < 4294967296 ∧ (quart a b c d x y).2.2.1 < 4294967296 ∧ (quart a b c d x y).2.2.2 < 4294967296 := by
  obtain ⟨_, h2, _, h4⟩ := halfN_lt (a := a) (c := c) (x := x) (r := 16) (s := 12) hb hd
  exact halfN_lt h2 h4
theorem mixL_w {v p : List Nat} {x y : Nat} (h : W16 v) : W16 (mixL v p x y) := by
  obtain ⟨h1, h2, h3, h4⟩ := quart_lt (a := g0 v (g0 p 0)) (c := g0 v (g0 p 2)) (x := x) (y := y) (g0_lt h.2 (g0 p 1)) (g0_lt h.2 (g0 p 3))
  exact ⟨by simp [mixL, h.1], set_bound (set_bound (set_bound (set_bound h.2 h1) h2) h3) h4⟩
theorem roundL_w {m v : List Nat} {r : Nat} (h : W16 v) : ∀ i, W16 (roundL m r i v)
  | 0 => h
  | i + 1 => mixL_w (roundL_w h i)
theorem roundsL_w {m v : List Nat} (h : W16 v) : ∀ r, W16 (roundsL m r v)
  | 0 => h
  | r + 1 => roundL_w (roundsL_w h r) 8
theorem ivL_w : W8 ivL := ⟨rfl, by decide⟩
theorem startL_w {h : List Nat} (hh : W8 h) (n : Nat) (last : Bool) : W16 (startL h n last) := by
  have m : ∀ n, n % 4294967296 < 4294967296 := fun n => Nat.mod_lt _ (by decide)
  have hb : ∀ x ∈ h ++ ivL, x < 4294967296 := by
    intro x hx
    rcases List.mem_append.1 hx with hx | hx
    · exact hh.2 x hx
    · exact ivL_w.2 x hx
  have b1 := set_bound (i := 12) hb (Nat.xor_lt_two_pow (n := 32) (g0_lt hb 12) (m n))
  have b2 := set_bound (i := 13) b1 (Nat.xor_lt_two_pow (n := 32) (g0_lt b1 13) (m (n / 4294967296)))
  unfold startL
  cases last with
  | true => exact ⟨by simp [hh.1, ivL], set_bound b2 (Nat.xor_lt_two_pow (n := 32) (g0_lt b2 14) (by decide))⟩
  | false => exact ⟨by simp [hh.1, ivL], b2⟩
theorem blockL_w {h b : List Nat} {n : Nat} {last : Bool} (hh : W8 h) : W8 (blockL h b n last) := by
  have hw := roundsL_w (m := wordsL b) (startL_w hh n last) 10
  refine ⟨by simp [blockL], fun x hx => ?_⟩
  obtain ⟨i, _, rfl⟩ := List.mem_map.1 hx
  exact Nat.xor_lt_two_pow (n := 32) (Nat.xor_lt_two_pow (n := 32) (g0_lt hh.2 _) (g0_lt hw.2 _)) (g0_lt hw.2 _)
theorem h0L_w : W8 h0L := ⟨rfl, by decide⟩
theorem stateL_w (b : List Nat) : ∀ k, W8 (stateL b k)
  | 0 => h0L_w
  | k + 1 => blockL_w (stateL_w b k)
theorem outL_len (h : List Nat) : (outL h).length = 32 := by simp [outL]
theorem outL_lt {h : List Nat} : ∀ x ∈ outL h, x < 256 := by
  intro x hx
  obtain ⟨i, _, rfl⟩ := List.mem_map.1 hx
  exact Nat.mod_lt _ (by decide)
theorem sumL_len (b : List Nat) : (sumL b).length = 32 := outL_len _
theorem sumL_lt (b : List Nat) : ∀ x ∈ sumL b, x < 256 := outL_lt

/-! ### Texts of digests -/
def hexD (n : Nat) : Nat := if n < 10 then 48 + n else 87 + n
def hexL (d : List Nat) : List Nat := d.flatMap fun x => [hexD (x / 16), hexD (x % 16)]
def unD1 (c : Nat) : Option Nat := if 48 ≤ c ∧ c ≤ 57 then some (c - 48) else if 97 ≤ c ∧ c ≤ 102 then some (c - 87) else none
theorem shown_sum : hexL (sumL [97, 98, 99]) = [53, 48, 56, 99, 53, 101, 56, 99, 51, 50, 55, 99, 49, 52, 101, 50, 101, 49, 97, 55, 50, 98, 97, 51, 52, 101, 101, 98, 52, 53, 50, 102, 51, 55, 52, 53, 56, 98, 50, 48, 57, 101, 100, 54, 51, 97, 50, 57, 52, 100, 57, 57, 57, 98, 52, 99, 56, 54, 54, 55, 53, 57, 56, 50] := by decide +kernel
end Go.Vc

/- The frame: what a walk holds in memory of its own, boxes and rows, and how each step turns it. -/
namespace Go.Vc
open Go Go.RowKit

/-! ### append, and where the row then lies -/
theorem ok_inj {v v' : Value} {w w' : World} {r : Result Value} (h : r = .ok v w) (h' : r = .ok v' w') : v = v' ∧ w = w' := by
  rw [h] at h'; cases h'; exact ⟨rfl, rfl⟩

/-- As append_own; the row lies where it lay, or is new. -/
theorem append_at {P : Program} {t ty u : TypeId} {z : Ty} {B s : Nat} {w : World} {p q : Option Addr} {n c m d : Nat} {xs news : List Value} (ht : P.underlying t = some (.slice u)) (hz : tyOf P u = some z)
    (h1 : z.ls.length = s) (h0 : 0 < s) (hown : Mine B u s w p n c xs) (hat : At w q news) (hm : news.length = m * s) (hq : q = none → m = 0 ∧ d = 0) (hone : ∀ x ∈ news, x.oneCell' = true) (hB : B ≤ w.heap.size)
    (hroom : ((n + m) + (n + m) / 4 + 192) * z.bytes ≤ 281474976710656) (hlen : n + m ≤ maxLen) :
    ∃ p' c' w', (Builtin.append_ #[t, t] ty #[.slice p n c, .slice q m d]).run P w = .ok (.slice p' (n + m) c') w' ∧ Mine B u s w' p' (n + m) c' (xs ++ news) ∧ w.grownBy w' (Value.slice p n c).ownBlock ∧
      (∀ b o, p' = some ⟨b, o, none⟩ → w.heap.size ≤ b ∨ p = some ⟨b, 0, none⟩) := by
  obtain ⟨p', c', w', hrun, hmine, hg⟩ := append_own (ty := ty) ht hz h1 h0 hown hat hm hq hone hB hroom hlen
  refine ⟨p', c', w', hrun, hmine, hg, ?_⟩
  rcases hown.shape with ⟨rfl, rfl, rfl, rfl⟩ | ⟨g, rfl, hg1, hg2⟩
  · obtain ⟨p2, c2, w2, hrun2, hmine2, _⟩ := append_own (ty := ty) ht hz h1 h0 (Mine.nil w.heap.size u s w) hat hm hq hone (Nat.le_refl _) hroom hlen
    obtain ⟨e, _⟩ := ok_inj hrun hrun2
    cases e
    exact fun b o hb => .inl (hmine2.ge b o hb).1
  · obtain ⟨g', cur, hp, _, hblk, hcs, htake⟩ := hown.blk (.inr (by simp))
    cases hp
    obtain ⟨i, d', hi, hzz, hd, hsz, hls, hag, hby⟩ := tyOf_spec hz
    have hsize : i.size = s := by rw [hsz]; have := h1; rw [hls, length_leavesOf] at this; simpa using this
    subst hsize
    cases q with
    | none =>
      obtain ⟨rfl, rfl⟩ := hq rfl
      have hcap := hown.cap.1
      have hr : (Builtin.append_ #[t, t] ty #[.slice (some ⟨g, 0, none⟩) n c, .slice none 0 0]).run P w = .ok (.slice (some ⟨g, 0, none⟩) n c) w := by
        simp [Builtin.append_, run_underlying ht, sizeOf, typeInfo, hi, Builtin.lenOf, hcap, Builtin.firstCells, storeCells]
      obtain ⟨e, _⟩ := ok_inj hrun hr
      cases e
      exact fun b o hb => .inr (by cases hb; rfl)
    | some a =>
      have hnews : ∀ j x, news[j]? = some x → w.cell? (a.add j) = some x := by
        intro j x hx
        rcases hat with rfl | ⟨b, o, hp, hc⟩
        · simp at hx
        · cases hp; rw [Addr.add_lit]; exact hc j x hx
      by_cases hfit : n + m ≤ c
      · have hr := run_append_room (P := P) w t ty u i ht hi g n c cur hblk a m d news hm hnews hone hfit (by rw [hm, hcs, ← Nat.add_mul]; exact Nat.mul_le_mul_right _ hfit)
        obtain ⟨e, _⟩ := ok_inj hrun hr
        cases e
        exact fun b o hb => .inr (by cases hb; rfl)
      · have holds : ∀ j x, xs[j]? = some x → w.cell? ((⟨g, 0, none⟩ : Addr).add j) = some x := by
          intro j x hj
          rw [Addr.add_lit, hblk.cell, Nat.zero_add]
          rw [← htake, List.getElem?_take] at hj
          split at hj
          · simpa using hj
          · cases hj
        simp only [maxLen] at hlen
        have hr := run_append_grow (P := P) w t ty u i _ ht hi hzz ⟨g, 0, none⟩ n c xs hown.len holds a m d news hm hnews (by omega) (by omega) (growslice_fits_wide (by omega) (by rw [← hby]; exact hroom))
        obtain ⟨e, _⟩ := ok_inj hrun hr
        cases e
        exact fun b o hb => .inl (by cases hb; exact Nat.le_refl _)

/-! ### The frame -/
/-- A growable row of our own: its elements' type, their cells, the slice, and what it holds. -/
structure Row where
  t : TypeId
  s : Nat
  p : Option Addr
  n : Nat
  c : Nat
  vs : List Value

/-- Since w0 we have laid the blocks fs and the rows ms, all unlike; all that was there is as it was. -/
structure Hold (w0 W : World) (fs : List (Nat × Obj)) (ms : List Row) : Prop where
  ext : Ext w0 W
  ge : ∀ x ∈ fs, w0.heap.size ≤ x.1
  holds : ∀ (i : Nat) x, fs[i]? = some x → W.heap[x.1]? = some x.2
  keys : ∀ (i j : Nat) x y, fs[i]? = some x → fs[j]? = some y → i ≠ j → x.1 ≠ y.1
  own : ∀ (i : Nat) m, ms[i]? = some m → Mine w0.heap.size m.t m.s W m.p m.n m.c m.vs
  apart : ∀ (i j : Nat) x m, fs[i]? = some x → ms[j]? = some m → ∀ b o, m.p = some ⟨b, o, none⟩ → x.1 ≠ b
  rows : ∀ (i j : Nat) m m', ms[i]? = some m → ms[j]? = some m' → i ≠ j → ∀ b o b' o', m.p = some ⟨b, o, none⟩ → m'.p = some ⟨b', o', none⟩ → b ≠ b'

section
variable {w0 W W' : World} {fs : List (Nat × Obj)} {ms : List Row} {b d l k : Nat} {o : Obj} {r : Nat → Loop} {t u : TypeId} {s n c : Nat} {p : Option Addr} {vs : List Value} {cs : Array Value}

theorem Hold.start (h : Ext w0 W) : Hold w0 W [] [] := ⟨h, by simp, by simp, by simp, by simp, by simp, by simp⟩
theorem Hold.size (h : Hold w0 W fs ms) : w0.heap.size ≤ W.heap.size := h.ext.size
theorem Hold.lt (h : Hold w0 W fs ms) (i : Nat) {x : Nat × Obj} (hi : fs[i]? = some x) : x.1 < W.heap.size := (Array.getElem?_eq_some_iff.1 (h.holds i x hi)).1

/-- All of ours is as it was. -/
theorem Hold.step (h : Hold w0 W fs ms) (e : Ext W W') : Hold w0 W' fs ms :=
  ⟨h.ext.trans e, h.ge, fun i x hx => (e.block _ (h.lt i hx)).trans (h.holds i x hx), h.keys, fun i m hm => (h.own i m hm).ext e, h.apart, h.rows⟩

/-- A new block. -/
theorem Hold.new (h : Hold w0 W fs ms) (e : New W o b W') : Hold w0 W' ((b, o) :: fs) ms := by
  have h' := h.step e.ext
  obtain ⟨hb, hs⟩ := e.size
  refine ⟨h'.ext, ?_, ?_, ?_, h'.own, ?_, h'.rows⟩
  · intro x hx
    rcases List.mem_cons.1 hx with rfl | hx
    · rw [hb]; exact h.size
    · exact h.ge x hx
  · intro i x hx
    cases i with
    | zero => cases hx; exact e.obj
    | succ i => exact h'.holds i x (by simpa using hx)
  · intro i j x y hx hy hij
    cases i with
    | zero =>
      cases hx
      cases j with
      | zero => omega
      | succ j => have := h.lt j (by simpa using hy); simp only; omega
    | succ i =>
      have h1 := h.lt i (by simpa using hx)
      cases j with
      | zero => cases hy; simp only; omega
      | succ j => exact h.keys i j x y (by simpa using hx) (by simpa using hy) (by omega)
  · intro i j x m hx hm b' o' hp
    cases i with
    | zero => cases hx; have := (h.own j m hm).ge b' o' hp; simp only; omega
    | succ i => exact h.apart i j x m (by simpa using hx) hm b' o' hp

/-- Block i has turned. -/
theorem Hold.upd (h : Hold w0 W fs ms) (i : Nat) {o o' : Obj} (hi : fs[i]? = some (b, o)) (e : But b W W') (ho : W'.heap[b]? = some o') : Hold w0 W' (fs.set i (b, o')) ms := by
  have hge := h.ge _ (List.mem_of_getElem? hi)
  have key : ∀ (j : Nat) x, (fs.set i (b, o'))[j]? = some x → ∃ y, fs[j]? = some y ∧ y.1 = x.1 ∧ (j ≠ i → y = x) := by
    intro j x hx
    rw [List.getElem?_set] at hx
    split at hx
    · rename_i hij
      subst hij
      split at hx
      · cases hx; exact ⟨_, hi, rfl, fun hne => absurd rfl hne⟩
      · cases hx
    · exact ⟨x, hx, rfl, fun _ => rfl⟩
  refine ⟨h.ext.below.but e hge h.size, ?_, ?_, ?_, ?_, ?_, h.rows⟩
  · intro x hx
    obtain ⟨j, hj⟩ := List.mem_iff_getElem?.1 hx
    obtain ⟨y, hy, hyx, _⟩ := key j x hj
    rw [← hyx]; exact h.ge _ (List.mem_of_getElem? hy)
  · intro j x hx
    by_cases hij : j = i
    · subst hij
      rw [List.getElem?_set, if_pos rfl] at hx
      split at hx
      · cases hx; exact ho
      · cases hx
    · obtain ⟨y, hy, _, hyx⟩ := key j x hx
      have := hyx hij
      subst this
      rw [e.block _ (h.lt j hy) (h.keys j i _ _ hy hi hij)]
      exact h.holds j _ hy
  · intro j k x y hx hy hjk
    obtain ⟨x', hx', e1, _⟩ := key j x hx
    obtain ⟨y', hy', e2, _⟩ := key k y hy
    rw [← e1, ← e2]; exact h.keys j k _ _ hx' hy' hjk
  · intro j m hm
    exact (h.own j m hm).but e fun b' o' hp hb => h.apart i j _ m hi hm b' o' hp hb.symm
  · intro j k x m hx hm b' o' hp
    obtain ⟨x', hx', e1, _⟩ := key j x hx
    rw [← e1]; exact h.apart j k _ m hx' hm b' o' hp

theorem Hold.base (h : Hold w0 W fs ms) (i : Nat) (hi : fs[i]? = some (b, o)) : w0.heap.size ≤ b := h.ge _ (List.mem_of_getElem? hi)
theorem Hold.blk (h : Hold w0 W fs ms) (i : Nat) (hi : fs[i]? = some (b, .cells cs t (0, 0))) : Blk W b t cs := h.holds i _ hi
theorem Hold.put (h : Hold w0 W fs ms) (i : Nat) {q : Nat} (hi : fs[i]? = some (b, .cells cs t (0, 0))) (e : Put W b q vs W') : Hold w0 W' (fs.set i (b, .cells (setA cs q vs) t (0, 0))) ms :=
  h.upd i hi e.but ((h.blk i hi).put e)
theorem Hold.box (h : Hold w0 W fs ms) (i : Nat) {v v' : Value} (hi : fs[i]? = some (b, .cells #[v] t (0, 0))) (e : Put W b 0 [v'] W') : Hold w0 W' (fs.set i (b, .cells #[v'] t (0, 0))) ms := h.put i hi e
theorem Hold.loop (h : Hold w0 W fs ms) (i : Nat) (hi : fs[i]? = some (l, .loop (r k))) : Rec r l k W := h.holds i _ hi
theorem Hold.dfr (h : Hold w0 W fs ms) (i : Nat) (hi : fs[i]? = some (d, .deferred (some []))) : Dfr d W := h.holds i _ hi
theorem Hold.turn (h : Hold w0 W fs ms) (i k' : Nat) (hi : fs[i]? = some (l, .loop (r k))) : Hold w0 (Go.Vc.turn r l k' W) (fs.set i (l, .loop (r k'))) ms :=
  h.upd i hi turn_but.1 ((h.loop i hi).turn k')
/-- Fewer are held. -/
theorem Hold.drop (h : Hold w0 W fs ms) (fs' : List (Nat × Obj)) (f : Nat → Nat) (hf : ∀ (i : Nat) x, fs'[i]? = some x → fs[f i]? = some x) (hj : ∀ i j, f i = f j → i = j) : Hold w0 W fs' ms :=
  ⟨h.ext, fun x hx => by obtain ⟨j, hj⟩ := List.mem_iff_getElem?.1 hx; exact h.ge x (List.mem_of_getElem? (hf j x hj)), fun i x hx => h.holds _ x (hf i x hx),
    fun i j x y hx hy hij => h.keys _ _ x y (hf i x hx) (hf j y hy) fun e => hij (hj _ _ e), h.own, fun i j x m hx => h.apart _ j x m (hf i x hx), h.rows⟩
theorem Hold.tail {x : Nat × Obj} (h : Hold w0 W (x :: fs) ms) : Hold w0 W fs ms := h.drop fs (· + 1) (fun i x hx => by simpa using hx) (fun i j e => by omega)

/-- A row of ours, nil. -/
theorem Hold.nilRow (h : Hold w0 W fs ms) (t : TypeId) (s : Nat) : Hold w0 W fs (⟨t, s, none, 0, 0, []⟩ :: ms) := by
  refine ⟨h.ext, h.ge, h.holds, h.keys, ?_, ?_, ?_⟩
  · intro i m hm
    cases i with
    | zero => cases hm; exact Mine.nil _ _ _ _
    | succ i => exact h.own i m (by simpa using hm)
  · intro i j x m hx hm b o hp
    cases j with
    | zero => cases hm; cases hp
    | succ j => exact h.apart i j x m hx (by simpa using hm) b o hp
  · intro i j m m' hm hm' hij b o b' o' hp hp'
    cases i with
    | zero => cases hm; cases hp
    | succ i =>
      cases j with
      | zero => cases hm'; cases hp'
      | succ j => exact h.rows i j m m' (by simpa using hm) (by simpa using hm') (by omega) b o b' o' hp hp'

/-- A row of ours, laid by a step that left all else. -/
theorem Hold.addRow (h : Hold w0 W fs ms) (e : Ext W W') (hm : Mine W.heap.size t s W' p n c vs) : Hold w0 W' fs (⟨t, s, p, n, c, vs⟩ :: ms) := by
  have h' := h.step e
  refine ⟨h'.ext, h'.ge, h'.holds, h'.keys, ?_, ?_, ?_⟩
  · intro i m hm'
    cases i with
    | zero => cases hm'; exact hm.mono h.size
    | succ i => exact h'.own i m (by simpa using hm')
  · intro i j x m hx hm' b o hp
    cases j with
    | zero => cases hm'; have := h.lt i hx; have := hm.ge b o hp; omega
    | succ j => exact h.apart i j x m hx (by simpa using hm') b o hp
  · intro i j m m' hm1 hm2 hij b o b' o' hp hp'
    cases i with
    | zero =>
      cases hm1
      cases j with
      | zero => omega
      | succ j => have := (h.own j m' (by simpa using hm2)).ge b' o' hp'; have := hm.ge b o hp; omega
    | succ i =>
      cases j with
      | zero => cases hm2; have := (h.own i m (by simpa using hm1)).ge b o hp; have := hm.ge b' o' hp'; omega
      | succ j => exact h.rows i j m m' (by simpa using hm1) (by simpa using hm2) (by omega) b o b' o' hp hp'
theorem Hold.madeRow (h : Hold w0 W fs ms) {cap : Nat} (e : New W (.cells cs t) b W') (hm : cap ≤ maxLen) (hs : cs.size = cap * s) : Hold w0 W' fs (⟨t, s, some ⟨b, 0, none⟩, 0, cap, []⟩ :: ms) := h.addRow e.ext (Mine.made e (Nat.le_refl _) hm hs)
theorem Hold.row (h : Hold w0 W fs ms) (i : Nat) (hi : ms[i]? = some ⟨t, s, p, n, c, vs⟩) : Mine w0.heap.size t s W p n c vs := h.own i _ hi

/-- Row i has turned. -/
theorem Hold.updRow (h : Hold w0 W fs ms) (i : Nat) {p' : Option Addr} {n' c' : Nat} {vs' : List Value} (hi : ms[i]? = some ⟨t, s, p, n, c, vs⟩) (hg : (p = none ∧ Ext W W') ∨ ∃ b, p = some ⟨b, 0, none⟩ ∧ w0.heap.size ≤ b ∧ But b W W')
    (hm : Mine w0.heap.size t s W' p' n' c' vs') (hp : ∀ b o, p' = some ⟨b, o, none⟩ → W.heap.size ≤ b ∨ p = some ⟨b, 0, none⟩) : Hold w0 W' fs (ms.set i ⟨t, s, p', n', c', vs'⟩) := by
  have key : ∀ (j : Nat) m, (ms.set i ⟨t, s, p', n', c', vs'⟩)[j]? = some m → (j = i ∧ m = ⟨t, s, p', n', c', vs'⟩) ∨ (j ≠ i ∧ ms[j]? = some m) := by
    intro j m hm
    rw [List.getElem?_set] at hm
    split at hm
    · rename_i hij
      split at hm
      · cases hm; exact .inl ⟨hij.symm, rfl⟩
      · cases hm
    · rename_i hij; exact .inr ⟨fun e => hij e.symm, hm⟩
  have base : Ext w0 W' ∧ (∀ (i : Nat) x, fs[i]? = some x → W'.heap[x.1]? = some x.2) ∧ ∀ (j : Nat) m, j ≠ i → ms[j]? = some m → Mine w0.heap.size m.t m.s W' m.p m.n m.c m.vs := by
    rcases hg with ⟨_, e⟩ | ⟨b, hb, _, e⟩
    · have h' := h.step e
      exact ⟨h'.ext, h'.holds, fun j m _ hm => h'.own j m hm⟩
    · have hge := ((h.row i hi).ge b 0 hb).1
      refine ⟨h.ext.below.but e hge h.size, fun j x hx => ?_, fun j m hj hm => ?_⟩
      · rw [e.block _ (h.lt j hx) (h.apart j i x _ hx hi b 0 hb)]; exact h.holds j x hx
      · exact (h.own j m hm).but e fun b' o' hp' hbb => h.rows i j _ m hi hm (fun e => hj e.symm) b 0 b' o' hb hp' hbb.symm
  refine ⟨base.1, h.ge, base.2.1, h.keys, ?_, ?_, ?_⟩
  · intro j m hm'
    rcases key j m hm' with ⟨_, rfl⟩ | ⟨hj, hm''⟩
    · exact hm
    · exact base.2.2 j m hj hm''
  · intro j k x m hx hm' b o hb
    rcases key k m hm' with ⟨_, rfl⟩ | ⟨hj, hm''⟩
    · rcases hp b o hb with hlt | hold
      · have := h.lt j hx; omega
      · exact h.apart j i x _ hx hi b 0 hold
    · exact h.apart j k x m hx hm'' b o hb
  · intro j k m m' hm1 hm2 hjk b o b' o' hb hb'
    rcases key j m hm1 with ⟨rfl, rfl⟩ | ⟨hj, hm1'⟩
    · rcases key k m' hm2 with ⟨rfl, _⟩ | ⟨hk, hm2'⟩
      · exact absurd rfl hjk
      · rcases hp b o hb with hlt | hold
        · have := (h.own k m' hm2').ge b' o' hb'; omega
        · exact h.rows j k _ m' hi hm2' (fun e => hk e.symm) b 0 b' o' hold hb'
    · rcases key k m' hm2 with ⟨rfl, rfl⟩ | ⟨hk, hm2'⟩
      · rcases hp b' o' hb' with hlt | hold
        · have := (h.own j m hm1').ge b o hb; omega
        · exact h.rows j k m _ hm1' hi hj b o b' 0 hb hold
      · exact h.rows j k m m' hm1' hm2' hjk b o b' o' hb hb'

/-- append onto row i. -/
theorem Hold.append {P : Program} {t' ty : TypeId} {z : Ty} {q : Option Addr} {m d' : Nat} {news : List Value} (h : Hold w0 W fs ms) (i : Nat) (hi : ms[i]? = some ⟨t, s, p, n, c, vs⟩) (ht : P.underlying t' = some (.slice t)) (hz : tyOf P t = some z)
    (h1 : z.ls.length = s) (h0 : 0 < s) (hat : At W q news) (hm : news.length = m * s) (hq : q = none → m = 0 ∧ d' = 0) (hone : ∀ x ∈ news, x.oneCell' = true)
    (hroom : ((n + m) + (n + m) / 4 + 192) * z.bytes ≤ 281474976710656) (hlen : n + m ≤ maxLen) :
    ∃ p' c' W', (Builtin.append_ #[t', t'] ty #[.slice p n c, .slice q m d']).run P W = .ok (.slice p' (n + m) c') W' ∧ Hold w0 W' fs (ms.set i ⟨t, s, p', n + m, c', vs ++ news⟩) := by
  obtain ⟨p', c', W', h2, h3, h4, h5⟩ := append_at (ty := ty) ht hz h1 h0 (h.row i hi) hat hm hq hone h.size hroom hlen
  exact ⟨p', c', W', h2, h.updRow i hi ((h.row i hi).grown h4) h3 h5⟩
end
end Go.Vc

/- The frame, its blocks in any order; blocks for deferred calls that are not known one by one. -/
namespace Go.Vc
open Go Go.RowKit

section
variable {w0 W W' : World} {fs fs' gs : List (Nat × Obj)} {B d : Nat} {ds : List Nat} {ms : List Row}

theorem Hold.mem (h : Hold w0 W fs ms) {x : Nat × Obj} (hx : x ∈ fs) : W.heap[x.1]? = some x.2 := by
  obtain ⟨i, hi⟩ := List.mem_iff_getElem?.1 hx
  exact h.holds i x hi
theorem Hold.ltM (h : Hold w0 W fs ms) {x : Nat × Obj} (hx : x ∈ fs) : x.1 < W.heap.size := (Array.getElem?_eq_some_iff.1 (h.mem hx)).1
theorem Hold.nodup (h : Hold w0 W fs ms) : (fs.map (·.1)).Nodup := by
  rw [List.Nodup, List.pairwise_iff_getElem]
  intro i j hi hj hij
  simp only [List.getElem_map]
  simp only [List.length_map] at hi hj
  exact h.keys i j _ _ (List.getElem?_eq_getElem hi) (List.getElem?_eq_getElem hj) (by omega)
theorem Hold.make (e : Ext w0 W) (h : ∀ x ∈ fs, w0.heap.size ≤ x.1 ∧ W.heap[x.1]? = some x.2) (hn : (fs.map (·.1)).Nodup) : Hold w0 W fs [] := by
  refine ⟨e, fun x hx => (h x hx).1, fun i x hx => (h x (List.mem_of_getElem? hx)).2, fun i j x y hx hy hij => ?_, by simp, by simp, by simp⟩
  rw [List.Nodup, List.pairwise_iff_getElem] at hn
  obtain ⟨hi, rfl⟩ := List.getElem?_eq_some_iff.1 hx
  obtain ⟨hj, rfl⟩ := List.getElem?_eq_some_iff.1 hy
  rcases Nat.lt_or_ge i j with hlt | hge
  · have := hn i j (by simpa) (by simpa) hlt
    rwa [List.getElem_map, List.getElem_map] at this
  · have := hn j i (by simpa) (by simpa) (by omega)
    rw [List.getElem_map, List.getElem_map] at this
    exact this.symm
theorem Hold.perm (h : Hold w0 W fs []) (hp : fs.Perm fs') : Hold w0 W fs' [] :=
  Hold.make h.ext (fun x hx => ⟨h.ge x (hp.mem_iff.2 hx), h.mem (hp.mem_iff.2 hx)⟩) ((hp.map _).nodup_iff.1 h.nodup)
theorem Hold.sub (h : Hold w0 W fs []) (hp : fs'.Sublist fs) : Hold w0 W fs' [] :=
  Hold.make h.ext (fun x hx => ⟨h.ge x (hp.subset hx), h.mem (hp.subset hx)⟩) (h.nodup.sublist (hp.map _))
theorem Hold.swap {a b c : List (Nat × Obj)} (h : Hold w0 W ((a ++ b) ++ c) []) : Hold w0 W (b ++ (a ++ c)) [] := by
  rw [← List.append_assoc]
  exact h.perm (List.perm_append_comm.append_right c)
theorem Hold.left {a b : List (Nat × Obj)} (h : Hold w0 W (a ++ b) []) : Hold w0 W a [] := h.sub (List.sublist_append_left _ _)
theorem Hold.right {a b : List (Nat × Obj)} (h : Hold w0 W (a ++ b) []) : Hold w0 W b [] := h.sub (List.sublist_append_right _ _)
theorem Hold.but {b : Nat} (h : Hold w0 W fs []) (e : But b W W') (hb : w0.heap.size ≤ b) (hf : ∀ x ∈ fs, x.1 ≠ b) : Hold w0 W' fs [] :=
  Hold.make (h.ext.below.but e hb h.size) (fun x hx => ⟨h.ge x hx, (e.block _ (h.ltM hx) (hf x hx)).trans (h.mem hx)⟩) h.nodup

/-- Open blocks as held ones. -/
def dfs (ds : List Nat) : List (Nat × Obj) := ds.map fun d => (d, .deferred (some []))
theorem Hold.opened (h : Hold w0 W (dfs ds ++ fs) []) (hB : ∀ d ∈ ds, B ≤ d) : Go.Vc.Open B ds W := by
  constructor
  · have := h.left.nodup
    have e : (dfs ds).map (·.1) = ds := by unfold dfs; rw [List.map_map]; exact List.map_id _
    rwa [e] at this
  · intro d hd
    exact ⟨hB d hd, h.mem (x := (d, .deferred (some []))) (List.mem_append_left _ (List.mem_map.2 ⟨d, hd, rfl⟩))⟩
end

theorem Blk.c6 {w : World} {b : Nat} {t : TypeId} {x y z u v q : Value} (h : Blk w b t #[x, y, z, u, v, q]) : w.cell? ⟨b, 0, none⟩ = some x ∧ w.cell? ⟨b, 1, none⟩ = some y ∧ w.cell? ⟨b, 2, none⟩ = some z ∧
    w.cell? ⟨b, 3, none⟩ = some u ∧ w.cell? ⟨b, 4, none⟩ = some v ∧ w.cell? ⟨b, 5, none⟩ = some q := by
  refine ⟨?_, ?_, ?_, ?_, ?_, ?_⟩ <;> (rw [h.cell]; rfl)
end Go.Vc
namespace Go.Vc
open Go Go.RowKit
end Go.Vc

/- Cells out of the frame, one by one: what the printed steps of a walk use. -/
namespace Go.Vc
open Go Go.RowKit

section
variable {w0 W W' : World} {fs : List (Nat × Obj)} {ms : List Row} {b k : Nat} {t : TypeId} {cs : Array Value} {v : Value}
theorem Hold.get (h : Hold w0 W fs ms) (i : Nat) (hi : fs[i]? = some (b, .cells cs t (0, 0))) (hk : cs[k]? = some v) : W.cell? ⟨b, k, none⟩ = some v := by
  rw [(h.blk i hi).cell]; exact hk
theorem Hold.frz (h : Hold w0 W fs ms) (i : Nat) (hi : fs[i]? = some (b, .cells cs t (0, 0))) : W.frozen? ⟨b, k, none⟩ = false := (h.blk i hi).frozen k
end
end Go.Vc

/- Blocks of numbers in the frame: read, written one by one, or all at once. -/
namespace Go.Vc
open Go Go.RowKit

def vA (k : IntKind) (l : List Nat) : Array Value := (vN k l).toArray
theorem vA_size (k : IntKind) (l : List Nat) : (vA k l).size = l.length := by simp [vA, vN]
theorem vA_get {k : IntKind} {l : List Nat} {i x : Nat} (h : l[i]? = some x) : (vA k l)[i]? = some (.int k (x : Int)) := by
  have := vN_get k h
  simpa [vA] using this
theorem vA_set (k : IntKind) (l : List Nat) (i x : Nat) : (vA k l).setIfInBounds i (.int k (x : Int)) = vA k (l.set i x) := by
  unfold vA
  rw [vN_set, List.setIfInBounds_toArray]
theorem vA_one {k : IntKind} {l : List Nat} : ∀ (i : Nat) (v : Value), (vA k l)[i]? = some v → v.oneCell' = true := by
  intro i v h
  have h : (vN k l)[i]? = some v := by simpa [vA] using h
  obtain ⟨x, _, rfl⟩ := List.mem_map.1 (List.mem_of_getElem? h)
  rfl
theorem setA_all : ∀ (vs : List Value) (cs : Array Value), cs.size = vs.length → setA cs 0 vs = vs.toArray := by
  intro vs cs h
  obtain ⟨h1, h2⟩ := setA_spec vs cs 0
  apply Array.ext'
  apply List.ext_getElem?
  intro i
  have : (setA cs 0 vs).toList[i]? = (setA cs 0 vs)[i]? := by simp
  rw [this, h2]
  by_cases hi : i < vs.length
  · rw [if_pos (by omega), Nat.sub_zero]
  · rw [if_neg (by omega), Array.getElem?_eq_none (by omega), List.getElem?_eq_none (by simp; omega)]
theorem cellsAt_ext {w w' : World} {b : Nat} {vs : Array Value} (h : CellsAt w b 0 vs) (e : Ext w w') : CellsAt w' b 0 vs := fun k v hk => cell_ext (h k v hk) e
section
variable {w0 W W' : World} {fs : List (Nat × Obj)} {ms : List Row} {b q x : Nat} {t : TypeId} {k : IntKind} {l l' : List Nat} {cs vs : Array Value}
theorem Hold.getN (h : Hold w0 W fs ms) (i : Nat) (hi : fs[i]? = some (b, .cells (vA k l) t (0, 0))) (hq : l[q]? = some x) : W.cell? ⟨b, q, none⟩ = some (.int k (x : Int)) := h.get i hi (vA_get hq)
theorem Hold.putN (h : Hold w0 W fs ms) (i : Nat) (hi : fs[i]? = some (b, .cells (vA k l) t (0, 0))) (e : Put W b q [.int k (x : Int)] W') : Hold w0 W' (fs.set i (b, .cells (vA k (l.set q x)) t (0, 0))) ms := by
  have := h.put i hi e
  rw [show setA (vA k l) q [.int k (x : Int)] = vA k (l.set q x) from vA_set k l q x] at this
  exact this
theorem Hold.cellsAt (h : Hold w0 W fs ms) (i : Nat) (hi : fs[i]? = some (b, .cells cs t (0, 0))) : CellsAt W b 0 cs := fun j v hj => by rw [Nat.zero_add]; exact h.get i hi hj
theorem Hold.canPut (h : Hold w0 W fs ms) (i : Nat) (hi : fs[i]? = some (b, .cells cs t (0, 0))) (hs : vs.size = cs.size) (hv : ∀ (i : Nat) (v : Value), vs[i]? = some v → v.oneCell' = true) : CanPut W b 0 vs := fun j v hj => by
  have hlt := (Array.getElem?_eq_some_iff.1 hj).1
  exact ⟨hv j v hj, ⟨cs[j]'(by omega), by rw [Nat.zero_add]; exact h.get i hi (Array.getElem?_eq_getElem (by omega))⟩, h.frz i hi⟩
theorem Hold.putAll (h : Hold w0 W fs ms) (i : Nat) (hi : fs[i]? = some (b, .cells cs t (0, 0))) (hs : vs.size = cs.size) (e : Put W b 0 vs.toList W') : Hold w0 W' (fs.set i (b, .cells vs t (0, 0))) ms := by
  have := h.put i hi e
  rw [setA_all _ _ (by simpa using hs.symm)] at this
  exact this
theorem Hold.ne (h : Hold w0 W fs ms) (i j : Nat) {x y : Nat × Obj} (hi : fs[i]? = some x) (hj : fs[j]? = some y) (hij : i ≠ j) : x.1 ≠ y.1 := h.keys i j x y hi hj hij
end
end Go.Vc

/- The contracts of hash: half, rounds. -/
namespace Go.Proofs.YthnimelcbbinaaaDoor
open Go Go.Vc Go.RowKit
set_option maxRecDepth 20000
attribute [local irreducible] Calls Put Drew New

/-- The tables. -/
structure HTab (w : World) : Prop where
  first : CellsAt w 0 0 (vA .u32 ivL)
  orders : CellsAt w 1 0 (vA .u8 ordersL.flatten)
  places : CellsAt w 2 0 (vA .u8 plcL.flatten)
theorem HTab.ext {w w' : World} (h : HTab w) (e : Ext w w') : HTab w' := ⟨cellsAt_ext h.first e, cellsAt_ext h.orders e, cellsAt_ext h.places e⟩

theorem rotl_ok {x r : Nat} (hx : x < 4294967296) (hr : r = 16 ∨ r = 12 ∨ r = 8 ∨ r = 7) (w : World) :
    Calls Tryd.prog 29 #[.int .u32 (x : Int), .int .i64 (IntKind.i64.wrap (0 - (r : Int)))] w fun e w' => e = .returned (.int .u32 ((rot x r : Nat) : Int)) ∧ Ext w w' := by
  apply rotl_vc
  unfold rotl_T
  have key : ∀ s : Nat, bits .and .u64 (IntKind.u64.wrap (IntKind.i64.wrap (0 - (r : Int)))) 31 = (s : Int) → IntKind.u64.wrap (32 - (s : Int)) = (r : Int) → s + r = 32 →
      0 ≤ bits .and .u64 (IntKind.u64.wrap (IntKind.i64.wrap (0 - (r : Int)))) 31 ∧ 0 ≤ IntKind.u64.wrap (32 - bits .and .u64 (IntKind.u64.wrap (IntKind.i64.wrap (0 - (r : Int)))) 31) ∧
      ((Ending.returned (.int .u32 (bits .or .u32 (shlI .u32 (x : Int) (bits .and .u64 (IntKind.u64.wrap (IntKind.i64.wrap (0 - (r : Int)))) 31).toNat) (shrI .u32 (x : Int) (IntKind.u64.wrap (32 - bits .and .u64 (IntKind.u64.wrap (IntKind.i64.wrap (0 - (r : Int)))) 31)).toNat))) = .returned (.int .u32 ((rot x r : Nat) : Int))) ∧ Ext w w) := by
    intro s h1 h2 h3
    rw [h1, h2, Int.toNat_natCast, Int.toNat_natCast, shl_u32 _ _ (by omega), shr_u32 _ _ (by omega)]
    refine ⟨by omega, by omega, ?_, Ext.rfl⟩
    rw [or_u32 (Nat.mod_lt _ (by decide)) (Nat.lt_of_le_of_lt (Nat.div_le_self _ _) hx)]
    unfold rot
    rw [Nat.or_comm, show 32 - r = s by omega]
  rcases hr with rfl | rfl | rfl | rfl
  · exact key 16 (by decide) (by decide) rfl
  · exact key 20 (by decide) (by decide) rfl
  · exact key 24 (by decide) (by decide) rfl
  · exact key 25 (by decide) (by decide) rfl
theorem half_sum (a b x : Nat) : IntKind.u32.wrap ((a : Int) + IntKind.u32.wrap ((b : Int) + (x : Int))) = (((a + b + x) % 4294967296 : Nat) : Int) := by
  rw [u32_wrap, u32_wrap]; omega
theorem hhalf_ok {a b c d x r s : Nat} (hb : b < 4294967296) (hd : d < 4294967296) (hr : r = 16 ∨ r = 12 ∨ r = 8 ∨ r = 7) (hs : s = 16 ∨ s = 12 ∨ s = 8 ∨ s = 7) (w : World) :
    Calls Tryd.prog 26 #[.int .u32 (a : Int), .int .u32 (b : Int), .int .u32 (c : Int), .int .u32 (d : Int), .int .u32 (x : Int), .int .i64 (r : Int), .int .i64 (s : Int)] w fun e w' =>
      e = .returned (.tuple #[.int .u32 ((halfN a b c d x r s).1 : Int), .int .u32 ((halfN a b c d x r s).2.1 : Int), .int .u32 ((halfN a b c d x r s).2.2.1 : Int), .int .u32 ((halfN a b c d x r s).2.2.2 : Int)]) ∧ Ext w w' := by
  apply hhalf_vc
  unfold hhalf_T
  have m : ∀ n, n % 4294967296 < 4294967296 := fun n => Nat.mod_lt _ (by decide)
  rw [half_sum, xor_u32 hd (m _)]
  refine (rotl_ok (Nat.xor_lt_two_pow (n := 32) hd (m _)) hr w).mono ?_
  rintro e w2 ⟨rfl, e1⟩
  refine ⟨_, rfl, ?_⟩
  rw [add_u32, xor_u32 hb (m _)]
  refine (rotl_ok (Nat.xor_lt_two_pow (n := 32) hb (m _)) hs w2).mono ?_
  rintro e w3 ⟨rfl, e2⟩
  exact ⟨_, rfl, rfl, e1.trans e2⟩

theorem order_row : ∀ r, r < 10 → (vA .u8 ordersL.flatten).extract (r * 16) (r * 16 + 16) = vA .u8 (ordersL.getD r []) := by
  intro r hr
  rcases (by omega : r = 0 ∨ r = 1 ∨ r = 2 ∨ r = 3 ∨ r = 4 ∨ r = 5 ∨ r = 6 ∨ r = 7 ∨ r = 8 ∨ r = 9) with rfl | rfl | rfl | rfl | rfl | rfl | rfl | rfl | rfl | rfl <;> kernel_rfl
theorem order_get : ∀ r, r < 10 → ∀ i, i < 16 → (ordersL.getD r [])[i]? = some (ordN r i) ∧ ordN r i < 16 := by decide +kernel
theorem order_len : ∀ r, r < 10 → (ordersL.getD r []).length = 16 := by decide +kernel
theorem place_get : ∀ i, i < 8 → ∀ j, j < 4 → plcL.flatten[i * 4 + j]? = some (g0 (placeN i) j) ∧ g0 (placeN i) j < 16 := by decide +kernel
theorem place_ne : ∀ i, i < 8 → (g0 (placeN i) 0 ≠ g0 (placeN i) 1 ∧ g0 (placeN i) 0 ≠ g0 (placeN i) 2 ∧ g0 (placeN i) 0 ≠ g0 (placeN i) 3 ∧ g0 (placeN i) 1 ≠ g0 (placeN i) 2 ∧ g0 (placeN i) 1 ≠ g0 (placeN i) 3 ∧ g0 (placeN i) 2 ≠ g0 (placeN i) 3) := by decide +kernel
set_option maxHeartbeats 4000000 in
theorem hrounds_ok {V M : List Nat} (hV : W16 V) (hM : W16 M) {w : World} (hT : HTab w) :
    Calls Tryd.prog 21 #[.agg (vA .u32 V), .agg (vA .u32 M)] w fun e w' => e = .returned (.agg (vA .u32 (roundsL M 10 V))) ∧ Ext w w' := by
  apply hrounds_vc
  unfold hrounds_T
  intro b1 w2 h1
  have H := (Hold.start (Ext.rfl (w := w))).new (o := .cells (vA .u32 V) 49) h1
  intro b7 w8 h7
  replace H := H.new (o := .cells (vA .u32 M) 49) h7
  intro b13 w14 h13
  have hz : zeroA Tryd.prog 49 = vA .u32 (List.replicate 16 0) := by kernel_rfl
  rw [hz] at h13
  replace H := H.new h13
  refine ⟨vA .u8 ordersL.flatten, by kernel_rfl, (hT.ext H.ext).orders, ?_⟩
  let F : List Nat → List (Nat × Obj) := fun v => [(b13, .cells (vA .u32 (List.replicate 16 0)) 49 (0, 0)), (b7, .cells (vA .u32 M) 49 (0, 0)), (b1, .cells (vA .u32 v) 49 (0, 0))]
  refine ⟨fun i W => ∃ r : Nat, i = (r : Int) ∧ r ≤ 10 ∧ Hold w W (F (roundsL M r V)) [], fun i _ => 10 - i.toNat, ⟨0, rfl, by decide, H⟩, ?_⟩
  clear H
  rintro i W ⟨r, rfl, hr, H⟩
  have hw := roundsL_w (m := M) hV r
  refine ⟨fun hlt => ?_, fun hge => ?_⟩
  · have hr10 : r < 10 := by omega
    refine ⟨by omega, hlt, ?_⟩
    intro b23 w24 hN
    have hz2 : zeroA Tryd.prog 53 = vA .u8 (List.replicate 16 0) := by kernel_rfl
    rw [hz2] at hN
    replace H := H.new hN
    simp only [Int.toNat_natCast]
    rw [order_row r hr10]
    refine ⟨by rw [vA_size, order_len r hr10], H.canPut 0 rfl (by rw [vA_size, vA_size, order_len r hr10]; rfl) vA_one, ?_⟩
    intro w26 hS
    have hS : Put w24 b23 0 ((vA .u8 ordersL.flatten).extract (r * 16) (r * 16 + 16)).toList w26 := hS
    rw [order_row r hr10] at hS
    replace H := H.putAll 0 rfl (by rw [vA_size, vA_size, order_len r hr10]; rfl) hS
    refine ⟨vA .u8 plcL.flatten, by kernel_rfl, (hT.ext H.ext).places, ?_⟩
    refine ⟨fun i W => ∃ j : Nat, i = (j : Int) ∧ j ≤ 8 ∧ Hold w W ((b23, .cells (vA .u8 (ordersL.getD r [])) 53 (0, 0)) :: F (roundL M r j (roundsL M r V))) [], fun i _ => 8 - i.toNat, ⟨0, rfl, by decide, H⟩, ?_⟩
    clear H
    rintro i W ⟨j, rfl, hj, H⟩
    refine ⟨fun hlt2 => ?_, fun hge2 => ?_⟩
    · have hj8 : j < 8 := by omega
      have hwj := roundL_w (m := M) (r := r) hw j
      generalize hv : roundL M r j (roundsL M r V) = v at H hwj
      obtain ⟨p0, q0⟩ := place_get j hj8 0 (by decide)
      obtain ⟨p1, q1⟩ := place_get j hj8 1 (by decide)
      obtain ⟨p2, q2⟩ := place_get j hj8 2 (by decide)
      obtain ⟨p3, q3⟩ := place_get j hj8 3 (by decide)
      obtain ⟨n01, n02, n03, n12, n13, n23⟩ := place_ne j hj8
      simp only [Int.toNat_natCast]
      refine ⟨by omega, hlt2, _, vA_get p0, _, vA_get p1, _, vA_get p2, _, vA_get p3, ?_⟩
      intro b47 w48 hN
      replace H := H.new hN
      refine ⟨⟨_, H.get 0 rfl rfl⟩, H.frz 0 rfl, ⟨_, H.get 0 rfl rfl⟩, H.frz 0 rfl, ⟨_, H.get 0 rfl rfl⟩, H.frz 0 rfl, ⟨_, H.get 0 rfl rfl⟩, H.frz 0 rfl, ?_⟩
      intro w54 hS
      replace H := H.put 0 rfl hS
      have H : Hold w w54 ((b47, .cells #[.int .u8 (g0 (placeN j) 0 : Nat), .int .u8 (g0 (placeN j) 1 : Nat), .int .u8 (g0 (placeN j) 2 : Nat), .int .u8 (g0 (placeN j) 3 : Nat)] 55 (0, 0)) :: (b23, .cells (vA .u8 (ordersL.getD r [])) 53 (0, 0)) :: F v) [] := H
      intro w56 hD
      replace H := H.step (Drew.ext hD)
      have o0 := order_get r hr10 (2 * j) (by omega)
      have o1 := order_get r hr10 (2 * j + 1) (by omega)
      have e2 : IntKind.i64.wrap (2 * (j : Int)) = ((2 * j : Nat) : Int) := i64_fit (by omega) (by omega)
      have e3 : IntKind.i64.wrap (IntKind.i64.wrap (2 * (j : Int)) + 1) = ((2 * j + 1 : Nat) : Int) := by rw [e2]; exact i64_fit (by omega) (by omega)
      rw [e3, e2]
      simp only [Int.toNat_natCast, Nat.zero_add]
      refine ⟨by decide, by decide, _, H.get 0 rfl rfl, by omega, by omega, _, by simp only [Int.toNat_natCast]; exact H.getN 4 rfl (g0_get (by rw [hwj.1]; exact q0)), by decide, by decide, _, H.get 0 rfl rfl, by omega, by omega, _, by simp only [Int.toNat_natCast]; exact H.getN 4 rfl (g0_get (by rw [hwj.1]; exact q1)),
        by decide, by decide, _, H.get 0 rfl rfl, by omega, by omega, _, by simp only [Int.toNat_natCast]; exact H.getN 4 rfl (g0_get (by rw [hwj.1]; exact q2)), by decide, by decide, _, H.get 0 rfl rfl, by omega, by omega, _, by simp only [Int.toNat_natCast]; exact H.getN 4 rfl (g0_get (by rw [hwj.1]; exact q3)),
        by omega, by omega, _, H.getN 1 rfl o0.1, by omega, by omega, _, by simp only [Int.toNat_natCast]; exact H.getN 3 rfl (g0_get (by rw [hM.1]; exact o0.2)), ?_⟩
      refine (hhalf_ok (r := 16) (s := 12) (g0_lt hwj.2 _) (g0_lt hwj.2 _) (.inl rfl) (.inr (.inl rfl)) w56).mono ?_
      rintro e w69 ⟨rfl, eX⟩
      replace H := H.step eX
      refine ⟨_, _, _, _, rfl, ?_⟩
      intro w74 hD
      replace H := H.step (Drew.ext hD)
      obtain ⟨k1, k2, k3, k4⟩ := halfN_lt (a := g0 v (g0 (placeN j) 0)) (c := g0 v (g0 (placeN j) 2)) (x := g0 M (ordN r (2 * j))) (r := 16) (s := 12) (g0_lt hwj.2 (g0 (placeN j) 1)) (g0_lt hwj.2 (g0 (placeN j) 3))
      refine ⟨by decide, by decide, _, H.get 0 rfl rfl, by decide, by decide, _, H.get 0 rfl rfl, by decide, by decide, _, H.get 0 rfl rfl, by decide, by decide, _, H.get 0 rfl rfl,
        by omega, by omega, _, H.getN 1 rfl o1.1, by omega, by omega, _, by simp only [Int.toNat_natCast]; exact H.getN 3 rfl (g0_get (by rw [hM.1]; exact o1.2)), ?_⟩
      refine (hhalf_ok (r := 8) (s := 7) k2 k4 (.inr (.inr (.inl rfl))) (.inr (.inr (.inr rfl))) w74).mono ?_
      rintro e w83 ⟨rfl, eX⟩
      replace H := H.step eX
      simp only [Int.toNat_natCast]
      have hne : b1 ∉ [b7, b23, b47, b47, b47, b47] := by
        intro hm
        simp only [List.mem_cons, List.not_mem_nil, or_false] at hm
        rcases hm with h | h | h | h | h | h
        · exact H.ne 4 3 rfl rfl (by decide) h
        · exact H.ne 4 1 rfl rfl (by decide) h
        all_goals exact H.ne 4 0 rfl rfl (by decide) h
      have hc : ∀ {W : World} {l : List Nat} {q : Nat}, Hold w W ((b47, .cells #[.int .u8 (g0 (placeN j) 0 : Nat), .int .u8 (g0 (placeN j) 1 : Nat), .int .u8 (g0 (placeN j) 2 : Nat), .int .u8 (g0 (placeN j) 3 : Nat)] 55 (0, 0)) :: (b23, .cells (vA .u8 (ordersL.getD r [])) 53 (0, 0)) :: F l) [] → l.length = 16 → q < 16 → ∃ u, W.cell? ⟨b1, q, none⟩ = some u := fun hW hl hq => ⟨_, hW.getN 4 rfl (g0_get (by rw [hl]; exact hq))⟩
      refine ⟨_, _, _, _, rfl, eX.same, by omega, by omega, hc H hwj.1 q0, H.frz 4 rfl, ?_⟩
      intro w89 hS
      have s1 := hS.but.sameIn (wr := w74) hne
      replace H := H.putN 4 rfl hS
      refine ⟨s1, by omega, by omega, hc H (by simp [hwj.1]) q1, H.frz 4 rfl, ?_⟩
      intro w92 hS
      have s2 := hS.but.sameIn (wr := w74) hne
      replace H := H.putN 4 rfl hS
      refine ⟨s2, by omega, by omega, hc H (by simp [hwj.1]) q2, H.frz 4 rfl, ?_⟩
      intro w95 hS
      have s3 := hS.but.sameIn (wr := w74) hne
      replace H := H.putN 4 rfl hS
      refine ⟨s3, by omega, by omega, hc H (by simp [hwj.1]) q3, H.frz 4 rfl, ?_⟩
      intro w98 hS
      replace H := H.putN 4 rfl hS
      rw [i64_next (by omega)]
      refine ⟨⟨j + 1, rfl, by omega, ?_⟩, by simp only [Int.toNat_natCast]; omega⟩
      rw [show roundL M r (j + 1) (roundsL M r V) = mixL v (placeN j) (g0 M (ordN r (2 * j))) (g0 M (ordN r (2 * j + 1))) by rw [roundL, hv]]
      exact H.tail
    · have : j = 8 := by omega
      subst this
      rw [i64_next (by omega)]
      exact ⟨⟨r + 1, rfl, by omega, H.tail⟩, by simp only [Int.toNat_natCast]; omega⟩
  · have : r = 10 := by omega
    subst this
    refine ⟨_, by rw [vA_size, hw.1], H.cellsAt 2 rfl, by rw [vA_size, hw.1], H.canPut 0 rfl (by rw [vA_size, vA_size, hw.1]; rfl) vA_one, ?_⟩
    intro w103 hS
    replace H := H.putAll 0 rfl (by rw [vA_size, vA_size, hw.1]; rfl) hS
    exact ⟨_, by rw [vA_size, hw.1], H.cellsAt 0 rfl, rfl, H.ext⟩
end Go.Proofs.YthnimelcbbinaaaDoor

/- copy into a block of numbers; words out of bytes, one by one. -/
namespace Go.Vc
open Go Go.RowKit

theorem setRow_but {g : Nat} {w : World} {cs : Array Value} : But g w (w.setRow g cs) := ⟨rfl, rfl, rfl, by simp, fun k _ hne => setRow_other w g k cs hne⟩
theorem Hold.copyN {P : Program} {dT sT ty e : TypeId} (hu : P.underlying dT = some (.slice e)) (hs : (P.info? e).map (·.size) = some 1) {w0 W : World} {fs : List (Nat × Obj)} {ms : List Row} {g : Nat} {t : TypeId} {k : IntKind} {L src : List Nat}
    (H : Hold w0 W fs ms) (i : Nat) (hi : fs[i]? = some (g, .cells (vA k L) t (0, 0))) {q : Option Addr} {sLen sCap dLen dCap : Nat} (hat : At W q (vN k src)) (hlen : src.length = sLen) (hd : dLen ≤ L.length) (hpos : 0 < dLen) :
    ∃ W', (Builtin.copy_ #[dT, sT] ty #[.slice (some ⟨g, 0, none⟩) dLen dCap, .slice q sLen sCap]).run P W = .ok (.int .i64 ((min sLen dLen : Nat) : Int)) W' ∧ Hold w0 W' (fs.set i (g, .cells (vA k (src.take dLen ++ L.drop (min sLen dLen))) t (0, 0))) ms := by
  by_cases h0 : sLen = 0
  · subst h0
    have : src = [] := List.eq_nil_of_length_eq_zero hlen
    subst this
    refine ⟨W, ?_, ?_⟩
    · have := run_copy_none W dT sT ty e (some ⟨g, 0, none⟩) q dLen dCap 0 sCap hu hs (by simp)
      rw [this]; simp [goInt]
    · have h2 : fs.set i (g, .cells (vA k L) t (0, 0)) = fs := by
        apply List.ext_getElem?
        intro j
        rw [List.getElem?_set]
        split
        · rename_i e; subst e
          split
          · exact hi.symm
          · rename_i h; rw [List.getElem?_eq_none (by omega)]
        · rfl
      simp only [List.take_nil, Nat.zero_min, List.drop_zero, List.nil_append]
      rw [h2]; exact H
  · rcases hat with hat | ⟨b, o, rfl, hc⟩
    · have h := congrArg List.length hat
      rw [vN_length, List.length_nil] at h
      omega
    · have hrun := run_copy_row (P := P) W dT sT ty e g 0 dLen dCap ⟨b, o, none⟩ sLen sCap (vA k L) t (vN k (src.take dLen)) hu hs (H.holds i _ hi)
        (by simp [vN, hlen, Nat.min_comm]) (fun j v hj => by
          rw [Addr.add_lit]
          refine hc j v ?_
          have : (vN k (src.take dLen)) = (vN k src).take dLen := by simp [vN, List.map_take]
          rw [this, List.getElem?_take] at hj
          split at hj
          · exact hj
          · cases hj) (by rw [vA_size]; simp [vN]; omega) (by intro v hv; obtain ⟨x, _, rfl⟩ := List.mem_map.1 hv; rfl)
      have hl : goInt ((vN k (src.take dLen)).length) = .int .i64 ((min sLen dLen : Nat) : Int) := by simp [goInt, vN, hlen, Nat.min_comm]
      rw [hl] at hrun
      refine ⟨_, hrun, ?_⟩
      · have e1 : ((vA k L).toList.take 0 ++ vN k (src.take dLen) ++ (vA k L).toList.drop (0 + (vN k (src.take dLen)).length)).toArray = vA k (src.take dLen ++ L.drop (min sLen dLen)) := by
          simp [vA, vN, List.map_drop, hlen, Nat.min_comm]
        rw [e1]
        exact H.upd i hi setRow_but (setRow_heap W g _ _ t _ (H.holds i _ hi))

theorem xor_ones32 {a : Nat} (ha : a < 4294967296) : bits .xor .u32 4294967295 (a : Int) = ((a ^^^ 4294967295 : Nat) : Int) := by
  have h := xor_u32 (a := 4294967295) (by decide) ha
  exact h.trans (by rw [Nat.xor_comm])
/-! ### Words out of bytes -/
/-- Of word k what the first i bytes give. -/
def wp (b : List Nat) (i k : Nat) : Nat := (if 4 * k < i then g0 b (4 * k) else 0) + (if 4 * k + 1 < i then 256 * g0 b (4 * k + 1) else 0) + (if 4 * k + 2 < i then 65536 * g0 b (4 * k + 2) else 0) + (if 4 * k + 3 < i then 16777216 * g0 b (4 * k + 3) else 0)
def wpL (b : List Nat) (i : Nat) : List Nat := (List.range 16).map (wp b i)
theorem wpL_zero (b : List Nat) : wpL b 0 = List.replicate 16 0 := by
  unfold wpL
  rw [List.map_congr_left (g := fun _ => 0) fun k _ => by simp [wp]]
  rfl
theorem wpL_all (b : List Nat) : wpL b 64 = wordsL b := by
  unfold wpL wordsL
  refine List.map_congr_left fun k hk => ?_
  have := List.mem_range.1 hk
  unfold wp wordN
  rw [if_pos (by omega), if_pos (by omega), if_pos (by omega), if_pos (by omega)]
theorem wordsL_w' {b : List Nat} (h : ∀ i k, wp b i k < 4294967296) : W16 (wordsL b) := by
  rw [← wpL_all]
  refine ⟨by simp [wpL], fun x hx => ?_⟩
  obtain ⟨i, _, rfl⟩ := List.mem_map.1 hx
  exact h _ _
theorem g0_byte {b : List Nat} (h : ∀ x ∈ b, x < 256) (i : Nat) : g0 b i < 256 := by
  unfold g0
  rw [List.getD_eq_getElem?_getD]
  cases hx : b[i]? with
  | none => decide
  | some x => exact h x (List.mem_of_getElem? hx)
theorem wp_lt {b : List Nat} (h : ∀ x ∈ b, x < 256) (i k : Nat) : wp b i k < 4294967296 := by
  have h0 := g0_byte h (4 * k)
  have h1 := g0_byte h (4 * k + 1)
  have h2 := g0_byte h (4 * k + 2)
  have h3 := g0_byte h (4 * k + 3)
  unfold wp
  split <;> split <;> split <;> split <;> omega
/-- Byte i is laid to its word. -/
theorem wp_step {b : List Nat} (h : ∀ x ∈ b, x < 256) (i : Nat) : wp b (i + 1) (i / 4) = wp b i (i / 4) + g0 b i * 2 ^ (8 * (i % 4)) ∧ wp b i (i / 4) < 2 ^ (8 * (i % 4)) ∧ g0 b i * 2 ^ (8 * (i % 4)) < 4294967296 := by
  have hb := g0_byte h i
  have h0 := g0_byte h (4 * (i / 4))
  have h1 := g0_byte h (4 * (i / 4) + 1)
  have h2 := g0_byte h (4 * (i / 4) + 2)
  generalize hk : i / 4 = k at *
  rcases (by omega : i = 4 * k ∨ i = 4 * k + 1 ∨ i = 4 * k + 2 ∨ i = 4 * k + 3) with rfl | rfl | rfl | rfl
  · rw [show (4 * k) % 4 = 0 by omega]
    unfold wp
    rw [if_pos (by omega), if_neg (by omega), if_neg (by omega), if_neg (by omega), if_neg (by omega), if_neg (by omega), if_neg (by omega), if_neg (by omega)]
    omega
  · rw [show (4 * k + 1) % 4 = 1 by omega]
    unfold wp
    rw [if_pos (by omega), if_pos (by omega), if_neg (by omega), if_neg (by omega), if_pos (by omega), if_neg (by omega), if_neg (by omega), if_neg (by omega)]
    omega
  · rw [show (4 * k + 2) % 4 = 2 by omega]
    unfold wp
    rw [if_pos (by omega), if_pos (by omega), if_pos (by omega), if_neg (by omega), if_pos (by omega), if_pos (by omega), if_neg (by omega), if_neg (by omega)]
    omega
  · rw [show (4 * k + 3) % 4 = 3 by omega]
    unfold wp
    rw [if_pos (by omega), if_pos (by omega), if_pos (by omega), if_pos (by omega), if_pos (by omega), if_pos (by omega), if_pos (by omega), if_neg (by omega)]
    omega
theorem wp_other {b : List Nat} {i k : Nat} (hk : k ≠ i / 4) : wp b (i + 1) k = wp b i k := by
  unfold wp
  have e : ∀ j, j < 4 → (4 * k + j < i + 1 ↔ 4 * k + j < i) := fun j hj => by omega
  have e0 := e 0 (by decide)
  have e1 := e 1 (by decide)
  have e2 := e 2 (by decide)
  have e3 := e 3 (by decide)
  rw [Nat.add_zero] at e0
  simp only [e0, e1, e2, e3]
theorem wpL_step {b : List Nat} {i : Nat} (hi : i < 64) : wpL b (i + 1) = (wpL b i).set (i / 4) (wp b (i + 1) (i / 4)) := by
  unfold wpL
  apply List.ext_getElem?
  intro k
  rw [List.getElem?_set]
  by_cases hk : i / 4 = k
  · rw [if_pos hk, if_pos (by simp; omega), List.getElem?_map, List.getElem?_range (by omega), ← hk]; rfl
  · rw [if_neg hk, List.getElem?_map, List.getElem?_map]
    by_cases h16 : k < 16
    · rw [List.getElem?_range h16, Option.map_some, Option.map_some, wp_other (fun e => hk e.symm)]
    · rw [List.getElem?_eq_none (by simpa using h16)]; rfl
theorem wpL_get {b : List Nat} {i k : Nat} (hk : k < 16) : (wpL b i)[k]? = some (wp b i k) := by unfold wpL; rw [List.getElem?_map, List.getElem?_range hk]; rfl
/-- By 'or', by '+'. -/
theorem wp_or {b : List Nat} (h : ∀ x ∈ b, x < 256) (i : Nat) : bits .or .u32 (wp b i (i / 4) : Int) (shlI .u32 (IntKind.u32.wrap ((g0 b i : Nat) : Int)) (8 * (i % 4))) = ((wp b (i + 1) (i / 4) : Nat) : Int) := by
  obtain ⟨h1, h2, h3⟩ := wp_step h i
  have hb := g0_byte h i
  rw [u32_nat (by omega), shl_u32 _ _ (by omega), Nat.mod_eq_of_lt h3, or_u32 (wp_lt h _ _) h3, h1]
  congr 1
  rw [Nat.or_comm, Nat.add_comm, ← Nat.shiftLeft_eq, Nat.shiftLeft_add_eq_or_of_lt h2]
end Go.Vc

/- The contract of hash's state.next. Printed by mkh2.py's kin. -/
namespace Go.Proofs.YthnimelcbbinaaaDoor
open Go Go.Vc Go.RowKit
set_option maxRecDepth 20000
attribute [local irreducible] Calls Put Drew New

theorem quo4 {i : Nat} (h : i < 64) : quoI .i64 (i : Int) 4 = ((i / 4 : Nat) : Int) := quo_i64 4 (by omega)
theorem rem4 (i : Nat) : remI (i : Int) 4 = ((i % 4 : Nat) : Int) := rem_nat i 4
theorem eight4 (i : Nat) : IntKind.i64.wrap (8 * remI (i : Int) 4) = ((8 * (i % 4) : Nat) : Int) := by
  rw [rem4]; exact i64_fit (by omega) (by omega)
def vS (hh : List Nat) (i : Nat) : List Nat := hh ++ (ivL.take i ++ List.replicate (8 - i) 0)
theorem iv_set : ∀ i, i < 8 → (ivL.take i ++ List.replicate (8 - i) 0).set i (g0 ivL i) = ivL.take (i + 1) ++ List.replicate (8 - (i + 1)) 0 := by decide
theorem vS_step {hh : List Nat} (h : hh.length = 8) {i : Nat} (hi : i < 8) : (vS hh i).set (8 + i) (g0 ivL i) = vS hh (i + 1) := by
  unfold vS
  rw [List.set_append, if_neg (by omega), show 8 + i - hh.length = i by omega, iv_set i hi]
theorem vS_len {hh : List Nat} (h : hh.length = 8) {i : Nat} (hi : i ≤ 8) : (vS hh i).length = 16 := by
  unfold vS; simp [ivL, h]; omega
def hsL (h v : List Nat) (k : Nat) : List Nat := (List.range 8).map fun j => if j < k then g0 h j ^^^ g0 v j ^^^ g0 v (j + 8) else g0 h j
theorem hsL_get {h v : List Nat} {k i : Nat} (hi : i < 8) : (hsL h v k)[i]? = some (if i < k then g0 h i ^^^ g0 v i ^^^ g0 v (i + 8) else g0 h i) := by
  unfold hsL; rw [List.getElem?_map, List.getElem?_range hi]; rfl
theorem hsL_zero {h v : List Nat} (hl : h.length = 8) : hsL h v 0 = h := by
  apply List.ext_getElem?
  intro i
  rcases Nat.lt_or_ge i 8 with hi | hi
  · rw [hsL_get hi, if_neg (by omega), g0_get (by omega)]
  · rw [List.getElem?_eq_none (by simp [hsL]; omega), List.getElem?_eq_none (by omega)]
theorem hsL_all (h v : List Nat) : hsL h v 8 = (List.range 8).map fun i => g0 h i ^^^ g0 v i ^^^ g0 v (i + 8) := by
  unfold hsL
  refine List.map_congr_left fun j hj => ?_
  rw [if_pos (List.mem_range.1 hj)]
theorem hsL_step {h v : List Nat} {k : Nat} (hk : k < 8) : hsL h v (k + 1) = (hsL h v k).set k (g0 h k ^^^ (g0 v k ^^^ g0 v (k + 8))) := by
  apply List.ext_getElem?
  intro i
  rw [List.getElem?_set]
  rcases Nat.lt_or_ge i 8 with hi | hi
  · rw [hsL_get hi]
    by_cases e : k = i
    · subst e
      rw [if_pos (by omega), if_pos rfl, if_pos (by simp [hsL]; omega), Nat.xor_assoc]
    · rw [if_neg e, hsL_get hi]
      by_cases h2 : i < k
      · rw [if_pos (by omega), if_pos h2]
      · rw [if_neg (by omega), if_neg h2]
  · have e : k ≠ i := by omega
    rw [if_neg e, List.getElem?_eq_none (by simp [hsL]; omega), List.getElem?_eq_none (by simp [hsL]; omega)]
theorem zero8 : zeroA Tryd.prog 38 = vA .u32 (List.replicate 8 0) := by kernel_rfl
theorem zero16 : zeroA Tryd.prog 49 = vA .u32 (List.replicate 16 0) := by kernel_rfl
theorem undW : Tryd.prog.underlying 42 = some (.slice 36) := by kernel_rfl
theorem sizeW : (Tryd.prog.info? 36).map (·.size) = some 1 := by kernel_rfl
set_option maxHeartbeats 4000000 in
theorem hnext_ok {hh b : List Nat} (hh8 : W8 hh) (hb64 : b.length = 64) (hb : ∀ x ∈ b, x < 256) {n : Nat} (hn : n < 9223372036854775808) (last : Bool) {w : World} (hT : HTab w) :
    Calls Tryd.prog 15 #[.agg (vA .u32 hh), .agg (vA .u8 b), .int .u64 (n : Int), .bool last] w fun e w' => e = .returned (.agg (vA .u32 (blockL hh b n last))) ∧ Ext w w' := by
  apply hnext_vc
  unfold hnext_T
  intro b1 w2 h1
  have H := (Hold.start (Ext.rfl (w := w))).new (o := .cells (vA .u32 hh) 38) h1
  intro b7 w8 h7
  replace H := H.new (o := .cells (vA .u8 b) 39) h7
  intro b13 w14 h13
  rw [zero8] at h13
  replace H := H.new h13
  intro b16 w17 h16
  rw [zero16] at h16
  replace H := H.new h16
  intro b19 w20 h19
  rw [zero16] at h19
  replace H := H.new h19
  refine ⟨vA .u8 b, by rw [vA_size, hb64], H.cellsAt 3 rfl, ?_⟩
  let F : List Nat → List Nat → List (Nat × Obj) := fun m v => [(b19, .cells (vA .u32 m) 49 (0, 0)), (b16, .cells (vA .u32 v) 49 (0, 0)), (b13, .cells (vA .u32 (List.replicate 8 0)) 38 (0, 0)), (b7, .cells (vA .u8 b) 39 (0, 0)), (b1, .cells (vA .u32 hh) 38 (0, 0))]
  refine ⟨fun i W => ∃ k : Nat, i = (k : Int) ∧ k ≤ 64 ∧ Hold w W (F (wpL b k) (List.replicate 16 0)) [], fun i _ => 64 - i.toNat, ⟨0, rfl, by decide, by rw [wpL_zero]; exact H⟩, ?_⟩
  clear H
  rintro i W ⟨k, rfl, hk, H⟩
  refine ⟨fun hlt => ?_, fun hge => ?_⟩
  · simp only [Int.toNat_natCast]
    have gb : b[k]? = some (g0 b k) := g0_get (by omega)
    refine ⟨by omega, hlt, _, vA_get gb, ?_⟩
    intro w32 hD
    replace H := H.step (Drew.ext hD)
    rw [quo4 (by omega), eight4]
    simp only [Int.toNat_natCast, Nat.zero_add]
    have c0 := H.getN 0 rfl (wpL_get (b := b) (i := k) (k := k / 4) (by omega))
    refine ⟨by omega, by omega, _, c0, by omega, by omega, by omega, ⟨_, c0⟩, H.frz 0 rfl, ?_⟩
    rw [wp_or hb]
    intro w36 hS
    replace H := H.putN 0 rfl hS
    rw [i64_next (by omega)]
    refine ⟨⟨k + 1, rfl, by omega, ?_⟩, by simp only [Int.toNat_natCast]; omega⟩
    rw [wpL_step (by omega)]
    exact H
  have : k = 64 := by omega
  subst this
  rw [wpL_all] at H
  intro w39 hD
  replace H := H.step (Drew.ext hD)
  obtain ⟨w42, hrun, H1⟩ := H.copyN (P := Tryd.prog) (dT := 42) (sT := 42) (ty := 3) undW sizeW 1 rfl (q := some ⟨b1, 0, none⟩) (src := hh) (sLen := 8) (sCap := 8) (dLen := 16) (dCap := 16) (by
    have := (H.blk 4 rfl).at
    exact this) hh8.1 (by simp) (by decide)
  refine ⟨_, _, hrun, ?_⟩
  have hwm : W16 (wordsL b) := wordsL_w' (wp_lt hb)
  replace H := H1
  have e0 : hh.take 16 ++ (List.replicate 16 0).drop (min 8 16) = vS hh 0 := by
    rw [List.take_of_length_le (by rw [hh8.1]; decide)]; rfl
  rw [e0] at H
  clear H1
  refine ⟨vA .u32 ivL, by kernel_rfl, (hT.ext H.ext).first, ?_⟩
  refine ⟨fun i W => ∃ k : Nat, i = (k : Int) ∧ k ≤ 8 ∧ Hold w W (F (wordsL b) (vS hh k)) [], fun i _ => 8 - i.toNat, ⟨0, rfl, by decide, H⟩, ?_⟩
  clear H
  rintro i W ⟨k, rfl, hk, H⟩
  refine ⟨fun hlt => ?_, fun hge => ?_⟩
  · have gi : ivL[k]? = some (g0 ivL k) := g0_get (by have : ivL.length = 8 := rfl; omega)
    have e8 : IntKind.i64.wrap (8 + (k : Int)) = ((8 + k : Nat) : Int) := i64_fit (by omega) (by omega)
    rw [e8]
    simp only [Int.toNat_natCast, Nat.zero_add]
    refine ⟨by omega, hlt, _, vA_get gi, by omega, by omega, ⟨_, H.getN 1 rfl (g0_get (by rw [vS_len hh8.1 hk]; omega))⟩, H.frz 1 rfl, ?_⟩
    intro w54 hS
    replace H := H.putN 1 rfl hS
    rw [i64_next (by omega)]
    refine ⟨⟨k + 1, rfl, by omega, ?_⟩, by simp only [Int.toNat_natCast]; omega⟩
    rw [← vS_step hh8.1 (by omega)]
    exact H
  have : k = 8 := by omega
  subst this
  have eS : vS hh 8 = hh ++ ivL := rfl
  rw [eS] at H
  have hlen : (hh ++ ivL).length = 16 := by rw [List.length_append, hh8.1]; rfl
  have hbd : ∀ x ∈ hh ++ ivL, x < 4294967296 := by
    intro x hx
    rcases List.mem_append.1 hx with hx | hx
    · exact hh8.2 x hx
    · exact ivL_w.2 x hx
  have m : ∀ n, n % 4294967296 < 4294967296 := fun n => Nat.mod_lt _ (by decide)
  have en : IntKind.u32.wrap (n : Int) = ((n % 4294967296 : Nat) : Int) := by rw [u32_wrap]; omega
  have en2 : IntKind.u32.wrap (shrI .u64 (n : Int) 32) = ((n / 4294967296 % 4294967296 : Nat) : Int) := by
    rw [shr_nat .u64 n 32 (by decide), u32_wrap]; omega
  rw [en, en2]
  have c12 := H.getN 1 rfl (g0_get (i := 12) (by rw [hlen]; decide))
  refine ⟨by decide, by decide, _, c12, by decide, by decide, ⟨_, c12⟩, H.frz 1 rfl, ?_⟩
  rw [xor_u32 (g0_lt hbd _) (m _)]
  intro w59 hS
  replace H := H.putN 1 rfl hS
  have b12 := set_bound (i := 12) hbd (Nat.xor_lt_two_pow (n := 32) (g0_lt hbd 12) (m n))
  have c13 := H.getN 1 rfl (g0_get (i := 13) (by rw [List.length_set, hlen]; decide))
  refine ⟨by decide, by decide, _, c13, by decide, by decide, ⟨_, c13⟩, H.frz 1 rfl, ?_⟩
  rw [xor_u32 (g0_lt b12 _) (m _)]
  intro w63 hS
  replace H := H.putN 1 rfl hS
  have b13' := set_bound (i := 13) b12 (Nat.xor_lt_two_pow (n := 32) (g0_lt b12 13) (m (n / 4294967296)))
  refine ⟨fun hl => ?_, fun hl => ?_⟩
  · subst hl
    have hw0 := startL_w hh8 n true
    have c14 := H.getN 1 rfl (g0_get (i := 14) (by rw [List.length_set, List.length_set, hlen]; decide))
    refine ⟨by decide, by decide, _, c14, by decide, by decide, ⟨_, c14⟩, H.frz 1 rfl, ?_⟩
    rw [xor_ones32 (g0_lt b13' 14)]
    intro w68 hS
    replace H := H.putN 1 rfl hS
    have H : Hold w w68 (F (wordsL b) (startL hh n true)) [] := H
    refine ⟨_, by rw [vA_size, hw0.1], H.cellsAt 1 rfl, _, by rw [vA_size, hwm.1], H.cellsAt 0 rfl, ?_⟩
    refine (hrounds_ok hw0 hwm (hT.ext H.ext)).mono ?_
    rintro e w73 ⟨rfl, eX⟩
    replace H := H.step eX
    have hw := roundsL_w (m := wordsL b) hw0 10
    refine ⟨_, by rw [vA_size, hw.1], rfl, by rw [vA_size, hw.1], H.canPut 1 rfl (by rw [vA_size, vA_size, hw.1, hw0.1]) vA_one, ?_⟩
    intro w75 hS
    replace H := H.putAll 1 rfl (by rw [vA_size, vA_size, hw.1, hw0.1]) hS
    generalize hv : roundsL (wordsL b) 10 (startL hh n true) = v at H hw
    refine ⟨fun i W => ∃ k : Nat, i = (k : Int) ∧ k ≤ 8 ∧ Hold w W [(b19, .cells (vA .u32 (wordsL b)) 49 (0, 0)), (b16, .cells (vA .u32 v) 49 (0, 0)), (b13, .cells (vA .u32 (List.replicate 8 0)) 38 (0, 0)), (b7, .cells (vA .u8 b) 39 (0, 0)), (b1, .cells (vA .u32 (hsL hh v k)) 38 (0, 0))] [], fun i _ => 8 - i.toNat, ⟨0, rfl, by decide, by rw [hsL_zero hh8.1]; exact H⟩, ?_⟩
    clear H
    rintro i W ⟨k, rfl, hk, H⟩
    refine ⟨fun hlt => ?_, fun hge => ?_⟩
    · intro w83 hD
      replace H := H.step (Drew.ext hD)
      have e8 : IntKind.i64.wrap ((k : Int) + 8) = ((k + 8 : Nat) : Int) := i64_fit (by omega) (by omega)
      rw [e8]
      simp only [Int.toNat_natCast, Nat.zero_add]
      have c0 := H.getN 4 rfl (hsL_get (h := hh) (v := v) (k := k) (i := k) (by omega))
      rw [if_neg (Nat.lt_irrefl k)] at c0
      refine ⟨by omega, by omega, _, c0, by omega, by omega, _, H.getN 1 rfl (g0_get (i := k) (by rw [hw.1]; omega)), by omega, by omega, _, H.getN 1 rfl (g0_get (i := k + 8) (by rw [hw.1]; omega)), by omega, by omega, ⟨_, c0⟩, H.frz 4 rfl, ?_⟩
      rw [xor_u32 (g0_lt hw.2 _) (g0_lt hw.2 _), xor_u32 (g0_lt hh8.2 _) (Nat.xor_lt_two_pow (n := 32) (g0_lt hw.2 _) (g0_lt hw.2 _))]
      intro w89 hS
      replace H := H.putN 4 rfl hS
      rw [i64_next (by omega)]
      refine ⟨⟨k + 1, rfl, by omega, ?_⟩, by simp only [Int.toNat_natCast]; omega⟩
      rw [hsL_step (by omega)]
      exact H
    · have : k = 8 := by omega
      subst this
      have hfin : hsL hh v 8 = blockL hh b n true := by unfold blockL; rw [hv]; exact hsL_all hh v
      rw [hfin] at H
      have hb8 := blockL_w (b := b) (n := n) (last := true) hh8
      refine ⟨_, by rw [vA_size, hb8.1], H.cellsAt 4 rfl, by rw [vA_size, hb8.1], H.canPut 2 rfl (by rw [vA_size, vA_size, hb8.1]; rfl) vA_one, ?_⟩
      intro w93 hS
      replace H := H.putAll 2 rfl (by rw [vA_size, vA_size, hb8.1]; rfl) hS
      exact ⟨_, by rw [vA_size, hb8.1], H.cellsAt 2 rfl, rfl, H.ext⟩
  · subst hl
    have hw0 := startL_w hh8 n false
    have H : Hold w w63 (F (wordsL b) (startL hh n false)) [] := H
    refine ⟨_, by rw [vA_size, hw0.1], H.cellsAt 1 rfl, _, by rw [vA_size, hwm.1], H.cellsAt 0 rfl, ?_⟩
    refine (hrounds_ok hw0 hwm (hT.ext H.ext)).mono ?_
    rintro e w73 ⟨rfl, eX⟩
    replace H := H.step eX
    have hw := roundsL_w (m := wordsL b) hw0 10
    refine ⟨_, by rw [vA_size, hw.1], rfl, by rw [vA_size, hw.1], H.canPut 1 rfl (by rw [vA_size, vA_size, hw.1, hw0.1]) vA_one, ?_⟩
    intro w75 hS
    replace H := H.putAll 1 rfl (by rw [vA_size, vA_size, hw.1, hw0.1]) hS
    generalize hv : roundsL (wordsL b) 10 (startL hh n false) = v at H hw
    refine ⟨fun i W => ∃ k : Nat, i = (k : Int) ∧ k ≤ 8 ∧ Hold w W [(b19, .cells (vA .u32 (wordsL b)) 49 (0, 0)), (b16, .cells (vA .u32 v) 49 (0, 0)), (b13, .cells (vA .u32 (List.replicate 8 0)) 38 (0, 0)), (b7, .cells (vA .u8 b) 39 (0, 0)), (b1, .cells (vA .u32 (hsL hh v k)) 38 (0, 0))] [], fun i _ => 8 - i.toNat, ⟨0, rfl, by decide, by rw [hsL_zero hh8.1]; exact H⟩, ?_⟩
    clear H
    rintro i W ⟨k, rfl, hk, H⟩
    refine ⟨fun hlt => ?_, fun hge => ?_⟩
    · intro w83 hD
      replace H := H.step (Drew.ext hD)
      have e8 : IntKind.i64.wrap ((k : Int) + 8) = ((k + 8 : Nat) : Int) := i64_fit (by omega) (by omega)
      rw [e8]
      simp only [Int.toNat_natCast, Nat.zero_add]
      have c0 := H.getN 4 rfl (hsL_get (h := hh) (v := v) (k := k) (i := k) (by omega))
      rw [if_neg (Nat.lt_irrefl k)] at c0
      refine ⟨by omega, by omega, _, c0, by omega, by omega, _, H.getN 1 rfl (g0_get (i := k) (by rw [hw.1]; omega)), by omega, by omega, _, H.getN 1 rfl (g0_get (i := k + 8) (by rw [hw.1]; omega)), by omega, by omega, ⟨_, c0⟩, H.frz 4 rfl, ?_⟩
      rw [xor_u32 (g0_lt hw.2 _) (g0_lt hw.2 _), xor_u32 (g0_lt hh8.2 _) (Nat.xor_lt_two_pow (n := 32) (g0_lt hw.2 _) (g0_lt hw.2 _))]
      intro w89 hS
      replace H := H.putN 4 rfl hS
      rw [i64_next (by omega)]
      refine ⟨⟨k + 1, rfl, by omega, ?_⟩, by simp only [Int.toNat_natCast]; omega⟩
      rw [hsL_step (by omega)]
      exact H
    · have : k = 8 := by omega
      subst this
      have hfin : hsL hh v 8 = blockL hh b n false := by unfold blockL; rw [hv]; exact hsL_all hh v
      rw [hfin] at H
      have hb8 := blockL_w (b := b) (n := n) (last := false) hh8
      refine ⟨_, by rw [vA_size, hb8.1], H.cellsAt 4 rfl, by rw [vA_size, hb8.1], H.canPut 2 rfl (by rw [vA_size, vA_size, hb8.1]; rfl) vA_one, ?_⟩
      intro w93 hS
      replace H := H.putAll 2 rfl (by rw [vA_size, vA_size, hb8.1]; rfl) hS
      exact ⟨_, by rw [vA_size, hb8.1], H.cellsAt 2 rfl, rfl, H.ext⟩
end Go.Proofs.YthnimelcbbinaaaDoor

/- '==' at arrays of numbers. -/
namespace Go.Vc
open Go Go.RowKit

theorem nthV_get : ∀ (l : List Value) (i : Nat), nthV l i = l[i]?
  | [], i => by simp [nthV]
  | v :: l, 0 => rfl
  | v :: l, i + 1 => by rw [nthV, nthV_get, List.getElem?_cons_succ]
section
variable {P : Program} {t e : TypeId} {k : IntKind} {n : Nat}
theorem part_num {ty : Ty} (hty : tyOf P e = some ty) (hag : ty.agg = false) {l : List Nat} {i : Nat} (hi : i < l.length) : partL P e (vA k l).toList (i * 1) = some (.v (.int k ((g0 l i : Nat) : Int))) := by
  unfold partL
  rw [hty]
  dsimp only
  rw [hag]
  dsimp only
  rw [nthV_get, Nat.mul_one]
  have : (vA k l).toList[i]? = some (.int k ((g0 l i : Nat) : Int)) := by
    have := vA_get (k := k) (g0_get hi)
    simpa using this
  rw [this]
theorem eqV_num (hu : P.underlying e = some (.int k)) (x y : Int) : eqV P [()] e (.int k x) (.int k y) = some (.eq x y) := by
  unfold eqV
  rw [hu]
  simp
theorem eqEs_nums {ty : Ty} (hty : tyOf P e = some ty) (hag : ty.agg = false) (hu : P.underlying e = some (.int k)) {a b : List Nat} (hl : a.length = b.length) : ∀ (m i : Nat), i + (m + 1) = a.length →
    ∃ c, eqEs P (eqV P [()]) e 1 (m + 1) i (vA k a).toList (vA k b).toList = some c ∧ c.val = decide (a.drop i = b.drop i) := by
  intro m
  induction m with
  | zero =>
    intro i hi
    have ka : kid k = kid k := rfl
    refine ⟨.eq (g0 a i : Nat) (g0 b i : Nat), ?_, ?_⟩
    · unfold eqEs
      rw [part_num hty hag (by omega), part_num hty hag (by omega)]
      simp only [SV.den]
      rw [eqV_num hu]
    · rw [List.drop_eq_getElem_cons (by omega), List.drop_eq_getElem_cons (by omega : i < b.length), List.drop_of_length_le (by omega), List.drop_of_length_le (by omega)]
      have ga := g0_get (l := a) (i := i) (by omega)
      have gb := g0_get (l := b) (i := i) (by omega)
      rw [List.getElem?_eq_getElem (by omega)] at ga gb
      rw [Option.some.inj ga, Option.some.inj gb]
      simp [Cnd.val, Int.natCast_inj]
  | succ m ih =>
    intro i hi
    obtain ⟨c, h1, h2⟩ := ih (i + 1) (by omega)
    refine ⟨.and (.eq (g0 a i : Nat) (g0 b i : Nat)) c, ?_, ?_⟩
    · unfold eqEs
      rw [part_num hty hag (by omega), part_num hty hag (by omega)]
      simp only [SV.den]
      rw [eqV_num hu, h1]
    · rw [Cnd.val, h2, List.drop_eq_getElem_cons (by omega : i < a.length), List.drop_eq_getElem_cons (by omega : i < b.length)]
      have ga := g0_get (l := a) (i := i) (by omega)
      have gb := g0_get (l := b) (i := i) (by omega)
      rw [List.getElem?_eq_getElem (by omega)] at ga gb
      rw [Option.some.inj ga, Option.some.inj gb]
      simp [Cnd.val, Int.natCast_inj]
theorem eq_nums {ty : Ty} (ht : P.underlying t = some (.array n e)) (hty : tyOf P e = some ty) (hag : ty.agg = false) (hu : P.underlying e = some (.int k)) (hs : sizeT P e = some 1) (hg : P.eqGuardType P.depth t = false) {a b : List Nat} (ha : a.length = n) (hb : b.length = n) (hn : 0 < n)
    (x y : Operand) (w : World) : (do eqGuard .eql t x y (.agg (vA k a)) (.agg (vA k b)); binOp .eql t (.agg (vA k a)) (.agg (vA k b)) : Sem Value).run P w = .ok (.bool (decide (a = b))) w := by
  obtain ⟨m, rfl⟩ : ∃ m, n = m + 1 := ⟨n - 1, by omega⟩
  obtain ⟨c, h1, h2⟩ := eqEs_nums (P := P) (e := e) hty hag hu (a := a) (b := b) (by omega) m 0 (by omega)
  rw [List.drop_zero, List.drop_zero] at h2
  have hc : eqV P [(), ()] t (.agg (vA k a)) (.agg (vA k b)) = some c := by
    unfold eqV
    simp only [ht, hs]
    exact h1
  have he : (Op.equalIn 10000 t (.agg (vA k a)) (.agg (vA k b))).run P w = .ok c.val w := eqV_run [(), ()] 9998 t _ _ _ hc w
  have h3 := run_eqGuard_agg (P := P) w .eql t x y (vA k a) (vA k b) hg
  rw [Sem.run_bind, h3]
  show (binOp .eql t (.agg (vA k a)) (.agg (vA k b))).run P w = _
  rw [run_eql_struct, he, h2]; rfl
end
end Go.Vc

/- Stable sorts, as plain laws of lists: a list that is in order, and in which those that stand alike come as they came, is one alone. -/
namespace Go.Vc

/-- A comparator: turned round its sign turns; it is transitive. -/
structure Cmp {α : Type} (c : α → α → Int) : Prop where
  anti : ∀ x y, c y x = - c x y
  trans : ∀ x y z, c x y ≤ 0 → c y z ≤ 0 → c x z ≤ 0

section
variable {α : Type} {c : α → α → Int}

theorem Cmp.self (h : Cmp c) (x : α) : c x x = 0 := by have := h.anti x x; omega
theorem Cmp.eq_trans (h : Cmp c) {x y z : α} (a : c x y = 0) (b : c y z = 0) : c x z = 0 := by
  have h1 := h.trans x y z (by omega) (by omega)
  have h2 := h.anti x y
  have h3 := h.anti y z
  have h4 := h.trans z y x (by omega) (by omega)
  have h5 := h.anti x z
  omega
theorem Cmp.eq_symm (h : Cmp c) {x y : α} (a : c x y = 0) : c y x = 0 := by have := h.anti x y; omega

def Ord (c : α → α → Int) (l : List α) : Prop := l.Pairwise fun x y => c x y ≤ 0
/-- Those of a list that stand as z does. -/
def cls (c : α → α → Int) (z : α) (l : List α) : List α := l.filter fun x => decide (c z x = 0)
def SameF (c : α → α → Int) (xs ys : List α) : Prop := ∀ z, cls c z xs = cls c z ys
/-- ys is xs in order, and stable. -/
structure Stab (c : α → α → Int) (xs ys : List α) : Prop where
  ord : Ord c ys
  same : SameF c xs ys

theorem cls_append (z : α) (a b : List α) : cls c z (a ++ b) = cls c z a ++ cls c z b := by simp [cls]
theorem SameF.rfl {a : List α} : SameF c a a := fun _ => Eq.refl _
theorem SameF.symm {a b : List α} (h : SameF c a b) : SameF c b a := fun z => (h z).symm
theorem SameF.trans {a b d : List α} (h : SameF c a b) (k : SameF c b d) : SameF c a d := fun z => (h z).trans (k z)
theorem SameF.app {a b d e : List α} (h : SameF c a b) (k : SameF c d e) : SameF c (a ++ d) (b ++ e) := fun z => by rw [cls_append, cls_append, h z, k z]
/-- Two blocks, no two of which stand alike, change places. -/
theorem SameF.swap (hc : Cmp c) {u v : List α} (h : ∀ x ∈ u, ∀ y ∈ v, c x y ≠ 0) : SameF c (u ++ v) (v ++ u) := by
  intro z
  rw [cls_append, cls_append]
  by_cases hu : cls c z u = []
  · rw [hu]; simp
  · by_cases hv : cls c z v = []
    · rw [hv]; simp
    · exfalso
      obtain ⟨x, hx⟩ := List.exists_mem_of_ne_nil _ hu
      obtain ⟨y, hy⟩ := List.exists_mem_of_ne_nil _ hv
      simp only [cls, List.mem_filter, decide_eq_true_eq] at hx hy
      exact h x hx.1 y hy.1 (hc.eq_trans (hc.eq_symm hx.2) hy.2)
theorem SameF.mem (hc : Cmp c) {a b : List α} (h : SameF c a b) {x : α} : x ∈ a ↔ x ∈ b := by
  have key : ∀ l : List α, x ∈ l ↔ x ∈ cls c x l := fun l => by simp [cls, hc.self]
  rw [key a, key b, h x]
theorem cls_split {z x : α} : ∀ {b r : List α}, cls c z b = x :: r → ∃ s t, b = s ++ x :: t ∧ cls c z s = []
  | [], r, h => by simp [cls] at h
  | y :: b, r, h => by
    by_cases hy : c z y = 0
    · have e1 : cls c z (y :: b) = y :: cls c z b := by simp [cls, hy]
      rw [e1] at h
      cases h
      exact ⟨[], b, rfl, rfl⟩
    · have e1 : ∀ l : List α, cls c z (y :: l) = cls c z l := fun l => by simp [cls, hy]
      rw [e1] at h
      obtain ⟨s, t, rfl, hs⟩ := cls_split h
      exact ⟨y :: s, t, rfl, by rw [e1, hs]⟩
theorem SameF.length (hc : Cmp c) : ∀ {a b : List α}, SameF c a b → a.length = b.length
  | [], b, h => by
    cases b with
    | nil => rfl
    | cons y b => have := (SameF.mem hc h (x := y)).2 (by simp); cases this
  | x :: a, b, h => by
    have hx := h x
    have e1 : cls c x (x :: a) = x :: cls c x a := by simp [cls, hc.self]
    rw [e1] at hx
    obtain ⟨s, t, rfl, hs⟩ := cls_split hx.symm
    have h2 : SameF c (s ++ x :: t) (x :: (s ++ t)) := by
      have : SameF c (s ++ [x] ++ t) ([x] ++ s ++ t) := by
        refine SameF.app (SameF.swap hc fun p hp q hq e => ?_) .rfl
        simp at hq; subst hq
        have : p ∈ cls c q s := by simp [cls, hp, hc.eq_symm e]
        rw [hs] at this; cases this
      simpa using this
    have h3 := h.trans h2
    have h4 : SameF c a (s ++ t) := by
      intro z
      have hz := h3 z
      by_cases hzx : c z x = 0
      · have e1 : ∀ l : List α, cls c z (x :: l) = x :: cls c z l := fun l => by simp [cls, hzx]
        rw [e1, e1] at hz
        exact (List.cons.inj hz).2
      · have e1 : ∀ l : List α, cls c z (x :: l) = cls c z l := fun l => by simp [cls, hzx]
        rwa [e1, e1] at hz
    have := SameF.length hc h4
    simp only [List.length_append, List.length_cons] at this ⊢
    omega

/-- There is one such list alone. -/
theorem Ord.unique (hc : Cmp c) : ∀ {a b : List α}, Ord c a → Ord c b → SameF c a b → a = b
  | [], b, _, _, h => by
    cases b with
    | nil => rfl
    | cons y b => have := (SameF.mem hc h (x := y)).2 (by simp); cases this
  | x :: a, [], _, _, h => by have := (SameF.mem hc h (x := x)).1 (by simp); cases this
  | x :: a, y :: b, ha, hb, h => by
    have hxb : x ∈ y :: b := (SameF.mem hc h).1 (by simp)
    have hya : y ∈ x :: a := (SameF.mem hc h).2 (by simp)
    have h1 : c y x ≤ 0 := by
      rcases List.mem_cons.1 hxb with rfl | hm
      · rw [hc.self]; exact Int.le_refl 0
      · exact (List.pairwise_cons.1 hb).1 x hm
    have h2 : c x y ≤ 0 := by
      rcases List.mem_cons.1 hya with rfl | hm
      · rw [hc.self]; exact Int.le_refl 0
      · exact (List.pairwise_cons.1 ha).1 y hm
    have h3 := hc.anti x y
    have h0 : c x y = 0 := by omega
    have hx := h x
    have e1 : cls c x (x :: a) = x :: cls c x a := by simp [cls, hc.self]
    have e2 : cls c x (y :: b) = y :: cls c x b := by simp [cls, h0]
    rw [e1, e2] at hx
    have hxy : x = y := (List.cons.inj hx).1
    subst hxy
    congr 1
    refine Ord.unique hc (List.pairwise_cons.1 ha).2 (List.pairwise_cons.1 hb).2 fun z => ?_
    have hz := h z
    by_cases hzx : c z x = 0
    · have e1 : ∀ l : List α, cls c z (x :: l) = x :: cls c z l := fun l => by simp [cls, hzx]
      rw [e1, e1] at hz
      exact (List.cons.inj hz).2
    · have e1 : ∀ l : List α, cls c z (x :: l) = cls c z l := fun l => by simp [cls, hzx]
      rwa [e1, e1] at hz
theorem Stab.unique (hc : Cmp c) {xs ys zs : List α} (h : Stab c xs ys) (k : Stab c xs zs) : ys = zs := Ord.unique hc h.ord k.ord (h.same.symm.trans k.same)
theorem Stab.mem (hc : Cmp c) {xs ys : List α} (h : Stab c xs ys) {x : α} : x ∈ ys ↔ x ∈ xs := (SameF.mem hc h.same).symm
theorem Stab.length (hc : Cmp c) {xs ys : List α} (h : Stab c xs ys) : ys.length = xs.length := (SameF.length hc h.same).symm
/-! ### Insertion -/
/-- Two lists in order, put together: the lesser halves, the greater halves. -/
theorem Stab.halves (hc : Cmp c) {a1 u v b2 r1 r2 : List α} (ha : Ord c (a1 ++ u)) (hb : Ord c (v ++ b2)) (h1 : ∀ x ∈ u, ∀ y ∈ v, c y x < 0) (h2 : ∀ x ∈ a1, ∀ y ∈ b2, c x y ≤ 0)
    (k1 : Stab c (a1 ++ v) r1) (k2 : Stab c (u ++ b2) r2) : Stab c ((a1 ++ u) ++ (v ++ b2)) (r1 ++ r2) := by
  have hA := List.pairwise_append.1 ha
  have hB := List.pairwise_append.1 hb
  refine ⟨List.pairwise_append.2 ⟨k1.ord, k2.ord, fun x hx y hy => ?_⟩, ?_⟩
  · have hx := (k1.mem hc).1 hx
    have hy := (k2.mem hc).1 hy
    rcases List.mem_append.1 hx with hx | hx <;> rcases List.mem_append.1 hy with hy | hy
    · exact hA.2.2 x hx y hy
    · exact h2 x hx y hy
    · have := h1 y hy x hx; omega
    · exact hB.2.2 x hx y hy
  · have e : SameF c ((a1 ++ u) ++ (v ++ b2)) ((a1 ++ v) ++ (u ++ b2)) := by
      have : SameF c (u ++ v) (v ++ u) := SameF.swap hc fun x hx y hy e => by have := h1 x hx y hy; have := hc.anti x y; omega
      have h3 : SameF c (a1 ++ ((u ++ v) ++ b2)) (a1 ++ ((v ++ u) ++ b2)) := SameF.app .rfl (SameF.app this .rfl)
      simpa [List.append_assoc] using h3
    exact e.trans (SameF.app k1.same k2.same)
/-- In order already. -/
theorem Ord.app {a b : List α} (ha : Ord c a) (hb : Ord c b) (h : ∀ x ∈ a, ∀ y ∈ b, c x y ≤ 0) : Ord c (a ++ b) := List.pairwise_append.2 ⟨ha, hb, h⟩
theorem Ord.left {a b : List α} (h : Ord c (a ++ b)) : Ord c a := (List.pairwise_append.1 h).1
theorem Ord.right {a b : List α} (h : Ord c (a ++ b)) : Ord c b := (List.pairwise_append.1 h).2.1
theorem Ord.get (hc : Cmp c) {l : List α} (h : Ord c l) {i j : Nat} (hij : i ≤ j) {x y : α} (hx : l[i]? = some x) (hy : l[j]? = some y) : c x y ≤ 0 := by
  rcases Nat.lt_or_eq_of_le hij with hlt | rfl
  · obtain ⟨hi, rfl⟩ := List.getElem?_eq_some_iff.1 hx
    obtain ⟨hj, rfl⟩ := List.getElem?_eq_some_iff.1 hy
    exact List.pairwise_iff_getElem.1 h i j hi hj hlt
  · rw [hx] at hy; cases hy; rw [hc.self]; exact Int.le_refl 0
end
end Go.Vc

/- What is handed in, opened: of whatever depth. -/
namespace Go.Vc
open Go Go.RowKit

/-- The cells cs are a value of type t that can be read, and each string and slice in it is within the platform's reach. -/
def Arg (P : Program) (w : World) (t : TypeId) (cs : List Value) : Prop :=
  ∃ (H : Type) (enc : TypeId × Value → H) (fuel : Nat) (d : DataW H) (ps : List MemPlace), DataW.trod enc P w 0 (fun _ => true) true fuel t cs = some (d, ps) ∧ ∀ n ∈ d.weights P t, n ≤ 140737488351232

theorem mapM_some {α β : Type} {f : α → Option β} : ∀ {l : List α} {ys : List β}, l.mapM f = some ys → ys.length = l.length ∧ ∀ (i : Nat) x, l[i]? = some x → ∃ y, ys[i]? = some y ∧ f x = some y := by
  intro l
  induction l with
  | nil => intro ys h; simp at h; subst h; exact ⟨rfl, fun i x hx => by simp at hx⟩
  | cons a l ih =>
    intro ys h
    rw [List.mapM_cons] at h
    cases ha : f a with
    | none => rw [ha] at h; simp at h
    | some b =>
      rw [ha] at h
      cases hl : l.mapM f with
      | none => rw [hl] at h; simp at h
      | some zs =>
        rw [hl] at h
        simp at h
        subst h
        obtain ⟨h1, h2⟩ := ih hl
        refine ⟨by simp [h1], fun i x hx => ?_⟩
        cases i with
        | zero => simp at hx; subst hx; exact ⟨b, rfl, ha⟩
        | succ i => simp at hx; obtain ⟨y, hy, hf⟩ := h2 i x hx; exact ⟨y, by simpa using hy, hf⟩

theorem cells?_some {w : World} {b n : Nat} {a : Addr} {cs : List Value} (h : w.cells? b a n = some cs) : cs.length = n ∧ ∀ (j : Nat) v, cs[j]? = some v → w.cell? (a.add j) = some v := by
  unfold World.cells? at h
  split at h
  · obtain ⟨h1, h2⟩ := mapM_some h
    simp at h1
    refine ⟨h1, fun j v hj => ?_⟩
    have hjn : j < n := by have := (List.getElem?_eq_some_iff.1 hj).1; omega
    obtain ⟨y, hy, hf⟩ := h2 j j (by simp [hjn])
    rw [hj] at hy; cases hy
    exact hf
  · cases h

theorem weightsAll_mem {H : Type} {P : Program} {e : TypeId} : ∀ {ds : List (DataW H)} {d : DataW H}, d ∈ ds → ∀ n ∈ d.weights P e, n ∈ DataW.weightsAll P e ds := by
  intro ds
  induction ds with
  | nil => intro d h; cases h
  | cons x r ih =>
    intro d h n hn
    simp only [DataW.weightsAll, List.mem_append]
    rcases List.mem_cons.1 h with rfl | h
    · exact .inl hn
    · exact .inr (ih h n hn)

section
variable {P : Program} {w : World} {t : TypeId} {cs : List Value}

theorem Arg.int {k : IntKind} (hu : P.underlying t = some (.int k)) (h : Arg P w t cs) : ∃ n, cs = [.int k n] ∧ (Lit.int k n).wf = true := by
  obtain ⟨H, enc, fuel, d, ps, h, _⟩ := h
  cases fuel with
  | zero => cases h
  | succ f =>
    simp only [DataW.trod, hu] at h
    split at h <;> simp_all

theorem Arg.bool (hu : P.underlying t = some .bool) (h : Arg P w t cs) : ∃ b, cs = [.bool b] := by
  obtain ⟨H, enc, fuel, d, ps, h, _⟩ := h
  cases fuel with
  | zero => cases h
  | succ f =>
    simp only [DataW.trod, hu] at h
    split at h <;> simp_all

theorem Arg.string (hu : P.underlying t = some .string) (h : Arg P w t cs) : ∃ s, cs = [.string s] ∧ s.size ≤ 140737488351232 := by
  obtain ⟨H, enc, fuel, d, ps, h, hw⟩ := h
  cases fuel with
  | zero => cases h
  | succ f =>
    simp only [DataW.trod, hu] at h
    split at h <;> simp_all
    rename_i s
    obtain ⟨_, rfl, rfl⟩ := h
    exact hw _ (by simp [DataW.weights])

theorem Arg.struct {fs : Array Field} (hu : P.underlying t = some (.struct fs)) (h : Arg P w t cs) : cs.length = P.cellsOf t ∧ ∀ f ∈ fs.toList, Arg P w f.type ((cs.drop f.offset).take (P.cellsOf f.type)) := by
  obtain ⟨H, enc, fuel, d, ps, h, hw⟩ := h
  cases fuel with
  | zero => cases h
  | succ n =>
    simp only [DataW.trod, hu] at h
    split at h
    · rename_i hl
      refine ⟨hl, fun f hf => ?_⟩
      cases hm : fs.toList.mapM fun f => DataW.trod enc P w 0 (fun _ => true) true n f.type ((cs.drop f.offset).take (P.cellsOf f.type)) with
      | none => rw [hm] at h; cases h
      | some xs =>
        rw [hm] at h
        cases h
        obtain ⟨i, hi⟩ := List.mem_iff_getElem?.1 hf
        obtain ⟨h1, h2⟩ := mapM_some hm
        obtain ⟨y, hy, hfy⟩ := h2 i f hi
        refine ⟨H, enc, n, y.1, y.2, hfy, fun k hk => hw k ?_⟩
        simp only [DataW.weights, hu]
        exact DataW.weights_mem_each (j := i) (by simp [hi]) (by simp [hy]) k hk
    · cases h

theorem Arg.array {n : Nat} {e : TypeId} (hu : P.underlying t = some (.array n e)) (h : Arg P w t cs) : cs.length = P.cellsOf t ∧ ∀ i, i < n → Arg P w e ((cs.drop (i * P.cellsOf e)).take (P.cellsOf e)) := by
  obtain ⟨H, enc, fuel, d, ps, h, hw⟩ := h
  cases fuel with
  | zero => cases h
  | succ m =>
    simp only [DataW.trod, hu] at h
    split at h
    · rename_i hl
      refine ⟨hl, fun i hi => ?_⟩
      cases hm : (List.range n).mapM fun i => DataW.trod enc P w 0 (fun _ => true) true m e ((cs.drop (i * P.cellsOf e)).take (P.cellsOf e)) with
      | none => rw [hm] at h; cases h
      | some xs =>
        rw [hm] at h
        cases h
        obtain ⟨h1, h2⟩ := mapM_some hm
        obtain ⟨y, hy, hfy⟩ := h2 i i (by simp [hi])
        refine ⟨H, enc, m, y.1, y.2, hfy, fun k hk => hw k ?_⟩
        simp only [DataW.weights, hu]
        exact weightsAll_mem (List.mem_map.2 ⟨y, List.mem_of_getElem? hy, rfl⟩) k hk
    · cases h

theorem flatten_get {css : List (List Value)} {s : Nat} (hs : ∀ x ∈ css, x.length = s) {i j : Nat} (hj : j < s) : css.flatten[i * s + j]? = (css[i]?).bind fun x => x[j]? := by
  induction css generalizing i with
  | nil => simp
  | cons a r ih =>
    have ha := hs a (by simp)
    cases i with
    | zero => simp only [Nat.zero_mul, Nat.zero_add, List.flatten_cons]; rw [List.getElem?_append_left (by omega)]; rfl
    | succ i =>
      simp only [List.flatten_cons]
      rw [List.getElem?_append_right (by rw [ha, Nat.add_mul]; omega), show (i + 1) * s + j - a.length = i * s + j by rw [ha, Nat.add_mul]; omega, ih fun x hx => hs x (by simp [hx])]
      rfl

theorem Arg.slice {e : TypeId} (hu : P.underlying t = some (.slice e)) (h0 : 0 < P.cellsOf e) (h : Arg P w t cs) :
    ∃ (p : Option Addr) (n c : Nat) (css : List (List Value)), cs = [.slice p n c] ∧ n ≤ c ∧ c ≤ maxLen ∧ c * P.bytesOf e ≤ 140737488351232 ∧ css.length = c ∧ (∀ x ∈ css, x.length = P.cellsOf e ∧ Arg P w e x) ∧ At w p css.flatten ∧ (p = none → n = 0 ∧ c = 0) := by
  obtain ⟨H, enc, fuel, d, ps, h, hw⟩ := h
  cases fuel with
  | zero => cases h
  | succ m =>
    have shape : (cs = [.slice none 0 0]) ∨ ∃ a n c, cs = [.slice (some a) n c] := by
      match cs, h with
      | [], h => simp [DataW.trod, hu] at h
      | [.slice none 0 0], _ => exact .inl rfl
      | [.slice none (n + 1) c], h => simp [DataW.trod, hu] at h
      | [.slice none 0 (c + 1)], h => simp [DataW.trod, hu] at h
      | [.slice (some a) n c], _ => exact .inr ⟨a, n, c, rfl⟩
      | [.bool _], h => simp [DataW.trod, hu] at h
      | [.int _ _], h => simp [DataW.trod, hu] at h
      | [.float _ _], h => simp [DataW.trod, hu] at h
      | [.complex _ _ _], h => simp [DataW.trod, hu] at h
      | [.string _], h => simp [DataW.trod, hu] at h
      | [.pointer _], h => simp [DataW.trod, hu] at h
      | [.map _], h => simp [DataW.trod, hu] at h
      | [.chan _], h => simp [DataW.trod, hu] at h
      | [.nilFunc], h => simp [DataW.trod, hu] at h
      | [.func _ _ _], h => simp [DataW.trod, hu] at h
      | [.nilIface], h => simp [DataW.trod, hu] at h
      | [.iface _ _], h => simp [DataW.trod, hu] at h
      | [.tuple _], h => simp [DataW.trod, hu] at h
      | [.agg _], h => simp [DataW.trod, hu] at h
      | _ :: _ :: _, h => simp [DataW.trod, hu] at h
    rcases shape with rfl | ⟨a, len, cap, rfl⟩
    · exact ⟨none, 0, 0, [], rfl, Nat.le_refl _, Nat.zero_le _, by simp, rfl, fun x hx => by simp at hx, At.nil _ _, fun _ => ⟨rfl, rfl⟩⟩
    · simp only [DataW.trod, hu] at h
      split at h
      · rename_i hc
        obtain ⟨_, hlc, hcm⟩ := hc
        let elemAt : Nat → Option (DataW H × List MemPlace) := fun i => (w.cells? 0 (a.add (i * P.cellsOf e)) (P.cellsOf e)).bind (DataW.trod enc P w 0 (fun _ => true) true m e)
        change ((List.range len).mapM elemAt).bind _ = _ at h
        cases hm1 : (List.range len).mapM elemAt with
        | none => rw [hm1] at h; cases h
        | some elems =>
          rw [hm1] at h
          simp only [Option.bind_some, if_true] at h
          change ((List.range (cap - len)).mapM fun j => elemAt (len + j)).map _ = _ at h
          cases hm2 : (List.range (cap - len)).mapM fun j => elemAt (len + j) with
          | none => rw [hm2] at h; cases h
          | some rest =>
            rw [hm2] at h
            simp only [Option.map_some, Option.some.injEq, Prod.mk.injEq] at h
            obtain ⟨rfl, _⟩ := h
            obtain ⟨a1, a2⟩ := mapM_some hm1
            obtain ⟨b1, b2⟩ := mapM_some hm2
            simp only [List.length_range] at a1 b1
            simp only [DataW.weights, hu, List.length_map, List.mem_cons, List.mem_append] at hw
            have all : ∀ i, i < cap → ∃ cs, w.cells? 0 (a.add (i * P.cellsOf e)) (P.cellsOf e) = some cs ∧ Arg P w e cs := by
              intro i hi
              have key : ∃ y, elemAt i = some y ∧ ((∃ j : Nat, elems[j]? = some y) ∨ ∃ j : Nat, rest[j]? = some y) := by
                rcases Nat.lt_or_ge i len with hl | hl
                · obtain ⟨y, hy, hf⟩ := a2 i i (List.getElem?_range hl)
                  exact ⟨y, hf, .inl ⟨i, hy⟩⟩
                · obtain ⟨y, hy, hf⟩ := b2 (i - len) (i - len) (List.getElem?_range (by omega))
                  rw [show len + (i - len) = i by omega] at hf
                  exact ⟨y, hf, .inr ⟨_, hy⟩⟩
              obtain ⟨y, hf, hy⟩ := key
              have hf' : (w.cells? 0 (a.add (i * P.cellsOf e)) (P.cellsOf e)).bind (DataW.trod enc P w 0 (fun _ => true) true m e) = some y := hf
              clear hf
              cases hcs : w.cells? 0 (a.add (i * P.cellsOf e)) (P.cellsOf e) with
              | none => rw [hcs] at hf'; cases hf'
              | some cs =>
                rw [hcs] at hf'
                have hf : DataW.trod enc P w 0 (fun _ => true) true m e cs = some y := hf'
                refine ⟨cs, rfl, H, enc, m, y.1, y.2, hf, fun k hk => hw k (.inr ?_)⟩
                rcases hy with ⟨j, hy⟩ | ⟨j, hy⟩
                · exact .inl (weightsAll_mem (List.mem_map.2 ⟨y, List.mem_of_getElem? hy, rfl⟩) k hk)
                · exact .inr (weightsAll_mem (List.mem_map.2 ⟨y, List.mem_of_getElem? hy, rfl⟩) k hk)
            obtain ⟨css, hcl, hcss⟩ : ∃ css : List (List Value), css.length = cap ∧ ∀ i x, css[i]? = some x → w.cells? 0 (a.add (i * P.cellsOf e)) (P.cellsOf e) = some x ∧ Arg P w e x := by
              refine ⟨(List.range cap).map fun i => (w.cells? 0 (a.add (i * P.cellsOf e)) (P.cellsOf e)).getD [], by simp, fun i x hx => ?_⟩
              rw [List.getElem?_map] at hx
              have hi : i < cap := by
                rcases Nat.lt_or_ge i cap with h' | h'
                · exact h'
                · rw [List.getElem?_eq_none (by simpa using h')] at hx; cases hx
              rw [List.getElem?_range hi] at hx
              obtain ⟨cs, h1, h2⟩ := all i hi
              simp only [Option.map_some, h1, Option.getD_some, Option.some.injEq] at hx
              subst hx
              exact ⟨h1, h2⟩
            have hlen : ∀ x ∈ css, x.length = P.cellsOf e := fun x hx => by
              obtain ⟨i, hi⟩ := List.mem_iff_getElem?.1 hx
              exact (cells?_some (hcss i x hi).1).1
            refine ⟨some a, len, cap, css, rfl, hlc, hcm, ?_, hcl, fun x hx => ?_, ?_, fun e => by cases e⟩
            · have := hw ((elems.length + rest.length) * P.bytesOf e) (.inl rfl)
              rw [a1, b1, show len + (cap - len) = cap by omega] at this
              exact this
            · obtain ⟨i, hi⟩ := List.mem_iff_getElem?.1 hx
              exact ⟨hlen x hx, (hcss i x hi).2⟩
            · cases hcz : css with
              | nil => exact .inl rfl
              | cons c0 r =>
                rw [← hcz]
                have h00 := cells?_some (hcss 0 c0 (by rw [hcz]; rfl)).1
                have hc0 : 0 < c0.length := by rw [h00.1]; exact h0
                have hcell := h00.2 0 c0[0] (by simp [hc0])
                obtain ⟨ab, ao, ag⟩ := a
                have hs : ag = none := by
                  cases ag with
                  | none => rfl
                  | some y =>
                    have e0 : ((⟨ab, ao, some y⟩ : Addr).add (0 * P.cellsOf e)).add 0 = ⟨ab, ao, some y⟩ := by rw [Nat.zero_mul, Addr.add_zero', Addr.add_zero']
                    rw [e0] at hcell
                    simp only [World.cell?, Option.isSome_some, if_true] at hcell
                    split at hcell <;> cases hcell
                subst hs
                refine .inr ⟨ab, ao, rfl, fun i v hv => ?_⟩
                have hdm : i = i / P.cellsOf e * P.cellsOf e + i % P.cellsOf e := by rw [Nat.mul_comm]; exact (Nat.div_add_mod _ _).symm
                have hj := Nat.mod_lt i h0
                rw [hdm, flatten_get hlen hj] at hv
                cases hx : css[i / P.cellsOf e]? with
                | none => rw [hx] at hv; cases hv
                | some x =>
                  rw [hx] at hv
                  have := (cells?_some (hcss _ x hx).1).2 _ v hv
                  rw [Addr.add_lit, Addr.add_lit] at this
                  rw [hdm, ← Nat.add_assoc]; exact this
      · cases h
end

/-- An argument at the top. -/
theorem Arg.of {H : Type} {enc : TypeId × Value → H} {P : Program} {w : World} {ts : List TypeId} {ds : List (DataW H)} {t : TypeId} {v : Value} {d : DataW H} {ps : List MemPlace} {j : Nat}
    (h : DataW.Trod enc P w 0 (fun _ => true) true t v d ps) (hz : (DataW.weightsEach P ts ds).all (· ≤ reachBytes) = true) (ht : ts[j]? = some t) (hd : ds[j]? = some d) : Arg P w t v.cells.toList := by
  obtain ⟨fuel, h⟩ := h
  refine ⟨H, enc, fuel, d, ps, h, fun n hn => ?_⟩
  have := List.all_eq_true.1 hz n (DataW.weights_mem_each ht hd n hn)
  exact of_decide_eq_true this

theorem plain_cells {P : Program} {w : World} {r : Reach} {base : Nat} {t : TypeId} {v : Value} (hu : isAggD (P.underlying t) = false) (h : Value.okWide P w r base t v) (hn : P.underlying t ≠ none) : v.cells.toList = [v] := by
  have : ∀ cs, v ≠ .agg cs := by
    intro cs e
    subst e
    unfold Value.okWide at h
    split at h
    · rename_i hh; rw [hh] at hu; cases hu
    · rename_i hh; rw [hh] at hu; cases hu
    · unfold Cell.okWide at h
      split at h <;> simp_all [Cell.ok]
  cases v with
  | agg cs => exact absurd rfl (this cs)
  | _ => rfl
theorem agg_cells {P : Program} {w : World} {r : Reach} {base : Nat} {t : TypeId} {v : Value} (hu : isAggD (P.underlying t) = true) (h : Value.okWide P w r base t v) : ∃ cs, v = .agg cs ∧ v.cells.toList = cs.toList := by
  unfold Value.okWide at h
  split at h
  · obtain ⟨cs, rfl, _⟩ := h; exact ⟨cs, rfl, rfl⟩
  · obtain ⟨cs, rfl, _⟩ := h; exact ⟨cs, rfl, rfl⟩
  · rename_i h1 h2
    cases hh : P.underlying t with
    | none => rw [hh] at hu; cases hu
    | some d => cases d <;> simp_all [isAggD]

end Go.Vc

/- Values, rows and lists of rows as the memory bears them; how two values stand. Plain Lean, no program. -/
namespace Go.Vc
open Go Go.RowKit

/-! ### Numbers and texts, held against one another -/
def cmpI (x y : Int) : Int := if x < y then -1 else if y < x then 1 else 0
def cmpS (a b : ByteArray) : Int := Lib.compareBytes (tB a) (tB b)

section
variable {α β : Type} {c d : α → α → Int}
def lexC (c d : α → α → Int) (x y : α) : Int := if c x y ≠ 0 then c x y else d x y
theorem Cmp.on (f : β → α) (hc : Cmp c) : Cmp fun x y => c (f x) (f y) := ⟨fun _ _ => hc.anti _ _, fun _ _ _ => hc.trans _ _ _⟩
theorem Cmp.neg (hc : Cmp c) : Cmp fun x y => - c x y := by
  refine ⟨fun x y => by rw [hc.anti x y], fun x y z h k => ?_⟩
  have h1 := hc.anti x y
  have h2 := hc.anti y z
  have h3 := hc.anti x z
  have := hc.trans z y x (by omega) (by omega)
  omega
theorem Cmp.none : Cmp (fun _ _ : α => (0 : Int)) := ⟨fun _ _ => by simp, fun _ _ _ _ _ => Int.le_refl 0⟩
end

/-! ### Values -/
structure Val where
  k : Int
  n : Int
  s : ByteArray

theorem Val.ext' {a b : Val} : a = b ↔ a.k = b.k ∧ a.n = b.n ∧ a.s = b.s := by cases a; cases b; simp
instance : DecidableEq Val := fun _ _ => decidable_of_iff _ Val.ext'.symm
instance : Inhabited Val := ⟨⟨0, 0, ⟨#[]⟩⟩⟩
def nullV : Val := ⟨0, 0, ⟨#[]⟩⟩
def numV (n : Int) : Val := ⟨1, n, ⟨#[]⟩⟩

def Val.cs (v : Val) : List Value := [.int .i64 v.k, .int .i64 v.n, .string v.s]
def Val.agg (v : Val) : Value := .agg #[.int .i64 v.k, .int .i64 v.n, .string v.s]
def i64F (x : Int) : Prop := -9223372036854775808 ≤ x ∧ x ≤ 9223372036854775807
def Val.fit (v : Val) : Prop := i64F v.k ∧ i64F v.n

theorem Val.cs_length (v : Val) : v.cs.length = 3 := rfl
theorem Val.cs_one (v : Val) : ∀ u ∈ v.cs, u.oneCell' = true := by
  intro u hu
  simp only [Val.cs, List.mem_cons, List.not_mem_nil, or_false] at hu
  rcases hu with rfl | rfl | rfl <;> rfl

/-- May a value be? -/
def Val.Ok (v : Val) : Prop := (v.k = 0 ∧ v.n = 0 ∧ v.s = ⟨#[]⟩) ∨ (v.k = 1 ∧ v.s = ⟨#[]⟩) ∨ (v.k = 2 ∧ (v.n = 0 ∨ v.n = 1) ∧ v.s = ⟨#[]⟩) ∨ (v.k = 3 ∧ v.n = 0 ∧ v.s.size ≤ 1024)
instance (v : Val) : Decidable v.Ok := by unfold Val.Ok; exact inferInstance
def Val.right (v : Val) : Bool := decide v.Ok
def rightL (l : List Val) : Bool := l.all Val.right

def cmpV : Val → Val → Int := lexC (fun a b => cmpI a.k b.k) (lexC (fun a b => cmpI a.n b.n) fun a b => cmpS a.s b.s)
/-- The document's way to hold two values against one another. -/
def lessV (a b : Val) : Bool := if a.k ≠ b.k then decide (a.k < b.k) else if a.k = 3 then sLt a.s b.s else decide (a.n < b.n)
def rcmpV (a b : Val) : Int := if lessV a b then -1 else if lessV b a then 1 else 0
/-! ### Lists of things of some cells each -/
section
variable {α : Type}
structure Ls (enc : α → List Value) (w : World) (p : Option Addr) (n c : Nat) (l : List α) : Prop where
  len : l.length = n
  cap : n ≤ c ∧ c ≤ maxLen
  lies : At w p (l.flatMap enc)
  nil : p = none → n = 0 ∧ c = 0
variable {enc : α → List Value} {s : Nat} {w w' : World} {p : Option Addr} {n c : Nat} {l : List α}
theorem Ls.ext (h : Ls enc w p n c l) (e : Ext w w') : Ls enc w' p n c l := ⟨h.len, h.cap, h.lies.ext e, h.nil⟩
theorem Ls.le (h : Ls enc w p n c l) : n ≤ maxLen := Nat.le_trans h.cap.1 h.cap.2
theorem Ls.kept (h : Ls enc w p n c l) (hk : ∀ b o, p = some ⟨b, o, none⟩ → b < w.heap.size → w'.heap[b]? = w.heap[b]?) : Ls enc w' p n c l := ⟨h.len, h.cap, h.lies.kept hk, h.nil⟩
theorem Ls.nothing (enc : α → List Value) (w : World) : Ls enc w none 0 0 [] := ⟨rfl, ⟨Nat.le_refl _, Nat.zero_le _⟩, .inl rfl, fun _ => ⟨rfl, rfl⟩⟩
theorem flatMap_get {enc : α → List Value} (hs : ∀ x, (enc x).length = s) {i j : Nat} {x : α} (hi : l[i]? = some x) (hj : j < s) : (l.flatMap enc)[i * s + j]? = (enc x)[j]? := by
  rw [List.flatMap_def, flatten_get (s := s) (by intro y hy; obtain ⟨z, _, rfl⟩ := List.mem_map.1 hy; exact hs z) hj, List.getElem?_map, hi]
  rfl
/-- The cells of thing i. -/
theorem At.things (hs : ∀ x, (enc x).length = s) (h0 : 0 < s) (h : At w p (l.flatMap enc)) {i : Nat} {x : α} (hi : l[i]? = some x) :
    ∃ b o, p = some ⟨b, o, none⟩ ∧ ∀ j v, (enc x)[j]? = some v → w.cell? ⟨b, o + (i * s + j), none⟩ = some v := by
  rcases h with h | ⟨b, o, hp, hc⟩
  · have := flatMap_get (enc := enc) (s := s) hs hi h0
    rw [h] at this
    have h1 : (enc x)[0]? = some ((enc x)[0]'(by rw [hs]; exact h0)) := List.getElem?_eq_getElem _
    rw [h1] at this; simp at this
  · refine ⟨b, o, hp, fun j v hv => hc _ _ ?_⟩
    have hj : j < s := by rw [← hs x]; exact (List.getElem?_eq_some_iff.1 hv).1
    rw [flatMap_get hs hi hj, hv]
theorem flatMap_length (hs : ∀ x, (enc x).length = s) : ∀ l : List α, (l.flatMap enc).length = l.length * s
  | [] => by simp
  | x :: l => by rw [List.flatMap_cons, List.length_append, hs, flatMap_length hs l, List.length_cons, Nat.succ_mul, Nat.add_comm]
theorem flatMap_take (hs : ∀ x, (enc x).length = s) : ∀ (l : List α) (k : Nat), (l.take k).flatMap enc = (l.flatMap enc).take (k * s)
  | [], k => by simp
  | x :: l, 0 => by simp
  | x :: l, k + 1 => by
    rw [List.take_succ_cons, List.flatMap_cons, List.flatMap_cons, flatMap_take hs l k, Nat.succ_mul, Nat.add_comm, List.take_append, hs, Nat.add_sub_cancel_left, List.take_of_length_le (l := enc x) (by rw [hs]; omega)]
theorem flatMap_drop (hs : ∀ x, (enc x).length = s) : ∀ (l : List α) (k : Nat), (l.drop k).flatMap enc = (l.flatMap enc).drop (k * s)
  | [], k => by simp
  | x :: l, 0 => by simp
  | x :: l, k + 1 => by
    rw [List.drop_succ_cons, List.flatMap_cons, flatMap_drop hs l k, Nat.succ_mul, Nat.add_comm, List.drop_append, hs, Nat.add_sub_cancel_left, @List.drop_eq_nil_of_le _ (enc x) _ (by rw [hs]; omega), List.nil_append]
/-- s[lo:hi]. -/
theorem Ls.slice (hs : ∀ x, (enc x).length = s) (h : Ls enc w p n c l) {lo hi : Nat} (h1 : lo ≤ hi) (h2 : hi ≤ n) : Ls enc w (slBase p lo c s) (hi - lo) (c - lo) ((l.take hi).drop lo) := by
  have hc := h.cap
  refine ⟨by rw [List.length_drop, List.length_take, h.len]; omega, ⟨by omega, by omega⟩, ?_, fun e => ?_⟩
  · rw [flatMap_drop hs, flatMap_take hs]
    exact h.lies.slice lo hi c s (by omega)
  · have := h.nil (slBase_none e); omega
theorem Ls.take (hs : ∀ x, (enc x).length = s) (h : Ls enc w p n c l) {k : Nat} (h2 : k ≤ n) : Ls enc w p k c (l.take k) := by
  have hc := h.cap
  refine ⟨by rw [List.length_take, h.len]; omega, ⟨by omega, hc.2⟩, ?_, fun e => ?_⟩
  · rw [flatMap_take hs]; exact h.lies.take _
  · have := h.nil e; omega
/-- A row of our own that holds things. -/
theorem Mine.ls {B : Nat} {t : TypeId} (hs : ∀ x, (enc x).length = s) (h0 : 0 < s) (h : Mine B t s w p n c (l.flatMap enc)) : Ls enc w p n c l := by
  have h1 := h.len
  rw [flatMap_length hs] at h1
  exact ⟨Nat.eq_of_mul_eq_mul_right h0 h1, h.cap, h.at, h.isNil⟩
end

/-! ### Slices as things -/
structure Sl where
  p : Option Addr
  n : Nat
  c : Nat
def Sl.v (h : Sl) : Value := .slice h.p h.n h.c
def Sl.cs (h : Sl) : List Value := [.slice h.p h.n h.c]
theorem Sl.cs_length (h : Sl) : h.cs.length = 1 := rfl
theorem Sl.cs_one (h : Sl) : ∀ u ∈ h.cs, u.oneCell' = true := by intro u hu; simp [Sl.cs] at hu; subst hu; rfl

/-- Values in a row. -/
abbrev Vs := Ls Val.cs
/-- Rows: their heads hs, what they hold. -/
structure Rws (w : World) (p : Option Addr) (n c : Nat) (hs : List Sl) (L : List (List Val)) : Prop where
  heads : Ls Sl.cs w p n c hs
  rows : ∀ (i : Nat) (h : Sl) (r : List Val), hs[i]? = some h → L[i]? = some r → Vs w h.p h.n h.c r
  len : L.length = n
section
variable {w w' : World} {p : Option Addr} {n c : Nat} {hs : List Sl} {L : List (List Val)}
theorem Rws.ext (h : Rws w p n c hs L) (e : Ext w w') : Rws w' p n c hs L := ⟨h.heads.ext e, fun i x r hx hr => (h.rows i x r hx hr).ext e, h.len⟩
theorem Rws.hlen (h : Rws w p n c hs L) : hs.length = n := h.heads.len
theorem Rws.nothing (w : World) : Rws w none 0 0 [] [] := ⟨Ls.nothing _ w, by simp, rfl⟩
theorem Rws.get (h : Rws w p n c hs L) {i : Nat} {r : List Val} (hi : L[i]? = some r) : ∃ x, hs[i]? = some x ∧ Vs w x.p x.n x.c r ∧ ∃ b o, p = some ⟨b, o, none⟩ ∧ w.cell? ⟨b, o + i, none⟩ = some (.slice x.p x.n x.c) := by
  have hlt : i < hs.length := by rw [h.hlen, ← h.len]; exact (List.getElem?_eq_some_iff.1 hi).1
  obtain ⟨b, o, hp, hc⟩ := h.heads.lies.things Sl.cs_length (by decide) (List.getElem?_eq_getElem hlt)
  refine ⟨hs[i], List.getElem?_eq_getElem hlt, h.rows i _ _ (List.getElem?_eq_getElem hlt) hi, b, o, hp, ?_⟩
  have := hc 0 _ rfl
  simpa using this
theorem Ls.val {r : List Val} (h : Vs w p n c r) {i : Nat} {v : Val} (hi : r[i]? = some v) :
    ∃ b o, p = some ⟨b, o, none⟩ ∧ w.cell? ⟨b, o + i * 3, none⟩ = some (.int .i64 v.k) ∧ w.cell? ⟨b, o + i * 3 + 1, none⟩ = some (.int .i64 v.n) ∧ w.cell? ⟨b, o + i * 3 + 2, none⟩ = some (.string v.s) := by
  obtain ⟨b, o, hp, hc⟩ := h.lies.things Val.cs_length (by decide) hi
  exact ⟨b, o, hp, by have := hc 0 _ rfl; simpa [Nat.add_assoc] using this, by have := hc 1 _ rfl; rwa [← Nat.add_assoc] at this, by have := hc 2 _ rfl; rwa [← Nat.add_assoc] at this⟩
theorem Rws.take (h : Rws w p n c hs L) {k : Nat} (hk : k ≤ n) : Rws w p k c (hs.take k) (L.take k) :=
  ⟨h.heads.take Sl.cs_length hk, fun i x r hx hr => h.rows i x r (by rw [List.getElem?_take] at hx; split at hx; exact hx; cases hx) (by rw [List.getElem?_take] at hr; split at hr; exact hr; cases hr), by rw [List.length_take, h.len]; omega⟩
theorem Rws.le (h : Rws w p n c hs L) : n ≤ maxLen := h.heads.le
end

/-- The types and the places of a struct's fields. -/
def structOf (P : Program) (t : TypeId) : Option (List (TypeId × Nat)) := match P.underlying t with
  | some (.struct fs) => some (fs.toList.map fun f => (f.type, f.offset))
  | _ => none
theorem Arg.fields {P : Program} {w : World} {t : TypeId} {cs : List Value} {l : List (TypeId × Nat)} (hu : structOf P t = some l) (h : Arg P w t cs) :
    cs.length = P.cellsOf t ∧ ∀ x ∈ l, Arg P w x.1 ((cs.drop x.2).take (P.cellsOf x.1)) := by
  unfold structOf at hu
  split at hu
  · rename_i fs hfs
    cases hu
    obtain ⟨h1, h2⟩ := Arg.struct hfs h
    refine ⟨h1, fun x hx => ?_⟩
    obtain ⟨f, hf, rfl⟩ := List.mem_map.1 hx
    exact h2 f hf
  · cases hu
end Go.Vc

/- The contracts of hash: Grow, Concat, Sum. -/
namespace Go.Proofs.YthnimelcbbinaaaDoor
open Go Go.Vc Go.RowKit
set_option maxRecDepth 20000
attribute [local irreducible] Calls Put Drew New

theorem undB : Tryd.prog.underlying 22 = some (.slice 5) := by kernel_rfl
theorem undInt : Tryd.prog.underlying 3 = some (.int .i64) := by kernel_rfl
theorem tyB : tyOf Tryd.prog 5 = some { agg := false, ls := [.int .u8], zero := .int .u8 0, bytes := 1, big := false, n := 1 } := by kernel_rfl
theorem sizeB : (Tryd.prog.info? 5).map (·.size) = some 1 := by kernel_rfl
/-- Room for T bytes. -/
theorem growb_ok {w0 W : World} {fs : List (Nat × Obj)} {ms : List Row} (H : Hold w0 W fs ms) {T : Nat} (hT : T ≤ 1000000) :
    Calls Tryd.prog 20 #[.slice none 0 0, .int .i64 (T : Int)] W fun e W' => ∃ (q : Option Addr) (d : Nat), e = .returned (.slice q 0 d) ∧ Hold w0 W' fs (⟨5, 1, q, 0, d, []⟩ :: ms) := by
  apply growb_vc
  unfold growb_T
  have e0 : IntKind.i64.wrap (((0 : Nat) : Int) - ((0 : Nat) : Int)) = 0 := by decide
  have e1 : IntKind.i64.wrap ((T : Int) - 0) = (T : Int) := i64_fit (by omega) (by omega)
  rw [e0, e1]
  refine ⟨fun h => by omega, fun _ => ⟨fun hpos => ?_, fun hz => ⟨none, 0, rfl, H.nilRow _ _⟩⟩⟩
  obtain ⟨i, d, hi, hz, hd, hsz, hls, hag, hby⟩ := tyOf_spec tyB
  have hsize : i.size = 1 := by rw [hsz]; rfl
  have hb1 : i.bytes = 1 := by have : (1 : Nat) = i.bytes := hby; omega
  have hrun := Lib.run_append_nil_zeros (P := Tryd.prog) W 22 3 22 5 i (.int .u8 0) .i64 .i64 undB undInt hi hz T (by omega) (by omega) (by omega) (by rw [hb1]; omega)
  refine ⟨by omega, by omega, _, _, _, _, hrun, by omega, by omega, _, _, rfl, ?_⟩
  have hge := grownCap_ge W T 0 5
  have hle := grownCap_le_maxLen W T 0 5 (by unfold maxLen; omega)
  have hD : Drew W W.drew := by with_unfolding_all exact rfl
  refine (H.step (Drew.ext hD)).madeRow (cap := grownCap W T 0 5) (b := W.heap.size) (cs := Builtin.zeroCells (Value.int .u8 0).cells T ++ Builtin.zeroCells (Value.int .u8 0).cells (grownCap W T 0 5 - T)) ?_ hle ?_
  · have : New W.drew (.cells (Builtin.zeroCells (Value.int .u8 0).cells T ++ Builtin.zeroCells (Value.int .u8 0).cells (grownCap W T 0 5 - T)) 5) W.heap.size (W.drew.alloc (.cells (Builtin.zeroCells (Value.int .u8 0).cells T ++ Builtin.zeroCells (Value.int .u8 0).cells (grownCap W T 0 5 - T)) 5)) := by
      with_unfolding_all exact ⟨rfl, rfl⟩
    exact this
  · rw [Array.size_append, size_zeroCells, size_zeroCells]
    have : (Value.int .u8 0).cells.size = 1 := rfl
    rw [this]; omega
/-- Rows of bytes, as they are handed in. -/
structure Bts (w : World) (p : Option Addr) (n c : Nat) (hs : List Sl) (L : List (List UInt8)) : Prop where
  heads : Ls Sl.cs w p n c hs
  rows : ∀ (i : Nat) (h : Sl) (r : List UInt8), hs[i]? = some h → L[i]? = some r → InB w h.p h.n h.c r
  len : L.length = n
theorem Bts.ext {w w' : World} {p : Option Addr} {n c : Nat} {hs : List Sl} {L : List (List UInt8)} (h : Bts w p n c hs L) (e : Ext w w') : Bts w' p n c hs L := ⟨h.heads.ext e, fun i x r hx hr => (h.rows i x r hx hr).ext e, h.len⟩
theorem Bts.get {w : World} {p : Option Addr} {n c : Nat} {hs : List Sl} {L : List (List UInt8)} (h : Bts w p n c hs L) {i : Nat} {r : List UInt8} (hr : L[i]? = some r) :
    ∃ (x : Sl) (b o : Nat), p = some ⟨b, o, none⟩ ∧ InB w x.p x.n x.c r ∧ w.cell? ⟨b, o + i, none⟩ = some (.slice x.p x.n x.c) := by
  have hi := (List.getElem?_eq_some_iff.1 hr).1
  have hl := h.heads.len
  have hx : hs[i]? = some (hs[i]'(by rw [hl, ← h.len]; exact hi)) := List.getElem?_eq_getElem _
  obtain ⟨b, o, hp, hc⟩ := h.heads.lies.things Sl.cs_length (by decide) hx
  have := hc 0 _ rfl
  rw [Nat.mul_one, Nat.add_zero] at this
  exact ⟨_, b, o, hp, h.rows i _ r hx hr, this⟩
def total (L : List (List UInt8)) : Nat := L.flatten.length
theorem total_take {L : List (List UInt8)} {j : Nat} {r : List UInt8} (h : L[j]? = some r) : total (L.take (j + 1)) = total (L.take j) + r.length := by
  unfold total; rw [take_snoc h]; simp
theorem total_le (L : List (List UInt8)) (j : Nat) : total (L.take j) ≤ total L := by
  unfold total
  have : L.flatten = (L.take j).flatten ++ (L.drop j).flatten := by rw [← List.flatten_append, List.take_append_drop]
  rw [this, List.length_append]; omega
set_option maxHeartbeats 4000000 in
theorem concat_ok {w0 W : World} {fs : List (Nat × Obj)} {p : Option Addr} {n c : Nat} {hs : List Sl} {L : List (List UInt8)} (H0 : Hold w0 W fs []) (hL : Bts W p n c hs L) (hT : total L ≤ 1000000) :
    Calls Tryd.prog 14 #[.slice p n c] W fun e W' => ∃ (q : Option Addr) (k d : Nat), e = .returned (.slice q k d) ∧ InB W' q k d L.flatten ∧ Hold w0 W' fs [] ∧ Ext W W' := by
  have hl := hL.len
  have hn : n ≤ 9223372036854775807 := hL.heads.le
  apply concat_vc
  unfold concat_T
  refine ⟨fun s i W1 => ∃ j : Nat, i = (j : Int) ∧ j ≤ n ∧ s = (total (L.take j) : Int) ∧ Hold W W1 [] [], fun _ i _ => n - i.toNat, ⟨0, rfl, Nat.zero_le _, rfl, Hold.start Ext.rfl⟩, ?_⟩
  rintro s i W1 ⟨j, rfl, hj, rfl, K⟩
  refine ⟨fun hlt => ?_, fun hge => ?_⟩
  · have gr : L[j]? = some (L[j]'(by omega)) := List.getElem?_eq_getElem _
    generalize L[j]'(by omega) = r at gr
    obtain ⟨x, b, o, hp, hx, hc⟩ := (hL.ext K.ext).get gr
    have h1 := total_take gr
    have h2 := total_le L (j + 1)
    have hxl := hx.len
    simp only [Int.toNat_natCast]
    have e1 : IntKind.i64.wrap ((total (L.take j) : Int) + (x.n : Int)) = ((total (L.take (j + 1)) : Nat) : Int) := by
      rw [h1, hxl]; exact i64_fit (by omega) (by omega)
    refine ⟨b, o, hp, by omega, hlt, _, _, _, hc, ?_⟩
    rw [e1, i64_next (by omega)]
    exact ⟨fun h => by omega, fun _ => ⟨⟨j + 1, rfl, by omega, rfl, K⟩, by simp only [Int.toNat_natCast]; omega⟩⟩
  · rw [List.take_of_length_le (by omega)]
    refine (growb_ok K hT).mono ?_
    rintro e W2 ⟨q, d, rfl, K2⟩
    refine ⟨_, _, _, rfl, ?_⟩
    refine ⟨fun q k d i W3 => ∃ j : Nat, i = (j : Int) ∧ j ≤ n ∧ k = total (L.take j) ∧ Hold W W3 [] [⟨5, 1, q, k, d, vB (L.take j).flatten⟩], fun _ _ _ i _ => n - i.toNat, ⟨0, rfl, Nat.zero_le _, rfl, K2⟩, ?_⟩
    clear K K2
    rintro q k d i W3 ⟨j, rfl, hj, rfl, K⟩
    refine ⟨fun hlt => ?_, fun hge2 => ?_⟩
    · have gr : L[j]? = some (L[j]'(by omega)) := List.getElem?_eq_getElem _
      generalize L[j]'(by omega) = r at gr
      obtain ⟨x, b, o, hp, hx, hc⟩ := (hL.ext K.ext).get gr
      have h1 := total_take gr
      have h2 := total_le L (j + 1)
      have hxl := hx.len
      simp only [Int.toNat_natCast]
      obtain ⟨p', c', W4, hrun, K4⟩ := K.append (ty := 22) (P := Tryd.prog) (q := x.p) (m := x.n) (d' := x.c) (news := vB r) 0 rfl undB tyB rfl (by decide) hx.lies (by rw [vB_length, hxl, Nat.mul_one]) hx.nil vB_one (by dsimp only; omega) (by unfold maxLen; omega)
      refine ⟨b, o, hp, by omega, hlt, _, _, _, hc, _, _, _, _, hrun, ?_⟩
      rw [i64_next (by omega)]
      refine ⟨⟨j + 1, rfl, by omega, by rw [h1, hxl], ?_⟩, by simp only [Int.toNat_natCast]; omega⟩
      rw [take_snoc gr, List.flatten_append, vB_append]
      simpa using K4
    · have ht : L.take j = L := List.take_of_length_le (by omega)
      rw [ht] at K ⊢
      have hm := K.row 0 rfl
      exact ⟨q, _, d, rfl, ⟨by unfold total; rfl, hm.cap, hm.at, hm.isNil⟩, H0.step K.ext, K.ext⟩
end Go.Proofs.YthnimelcbbinaaaDoor
