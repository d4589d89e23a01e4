/- Texts of the proof, one behind the other. -/
import Derived.Test.YtpjafkcmbinjiaaDoorMa
import Derived.Test.YtpjafkcmbinjiaaDoorProg
import Derived.Lib.AppendStr
import Derived.Deep.DeepAppendWide
import Derived.SizedLaws
import Derived.Lib.Bytealg
import Derived.MapKept
set_option linter.unusedVariables false
set_option linter.unusedSimpArgs false
/- Soundness of the generator, part F: codes and functions. -/
namespace Go.Vc
open Go

section
variable {P : Program} {rd : Option Nat} {Q : Exit → Act → World → Prop}

/-! ### Tables of the environment -/
def inK : List (Nat × Option SV) → Nat → Bool
  | [], _ => false
  | p :: r, i => match Nat.beq p.1 i with | true => true | false => inK r i

theorem lkE_append (a b : List (Nat × Option SV)) (i : Nat) : lkE (a ++ b) i = if inK a i then lkE a i else lkE b i := by
  induction a with
  | nil => simp [inK]
  | cons p r ih =>
    obtain ⟨j, x⟩ := p
    cases hb : Nat.beq j i <;> simp [lkE, inK, hb, ih]

theorem inK_blank (ws : List (Nat × TypeId)) (i : Nat) : inK (blank ws) i = inW ws i := by
  induction ws with
  | nil => rfl
  | cons p r ih => simp only [blank, inK, inW]; split <;> simp_all

theorem lkE_blank (ws : List (Nat × TypeId)) (i : Nat) : lkE (blank ws) i = none := by
  induction ws with
  | nil => rfl
  | cons p r ih => simp only [blank, lkE]; split <;> simp_all

theorem cellsAs_ofCells {agg : Bool} {x : Value} {cs : List Value} (h : cellsAs agg x = some cs) : ∃ y, ofCells agg cs = some y ∧ y.den = x := by
  unfold cellsAs at h
  split at h
  · cases h; exact ⟨_, rfl, by simp [SV.den]⟩
  · cases h
  · cases h; exact ⟨_, rfl, rfl⟩

theorem setSlots_spec {N : Nat} {st' : St} {a : Act} (h : Agree N st' a) : ∀ {slots : List (Nat × Ty)} {vs : List Value}, slotVals st' slots = some vs →
    ∃ es, setSlots slots vs = some es ∧ (∀ i x, lkE es i = some x → a.tmps.getD i undef = x.den) ∧ (∀ i, inK es i = true → inS slots i = true) ∧ vs.length = (lsOf slots).length := by
  intro slots
  induction slots with
  | nil => intro vs hv; simp only [slotVals, Option.some.injEq] at hv; subst hv; exact ⟨[], rfl, fun i x hx => by simp [lkE] at hx, fun i hi => by simp [inK] at hi, rfl⟩
  | cons p r ih =>
    intro vs hv
    unfold slotVals at hv
    split at hv
    · rename_i x vs' hx hvs'
      split at hv
      · rename_i cs hcs
        split at hv
        · rename_i hlen
          cases hv
          have hl := nbeq.1 hlen
          obtain ⟨es, hes, he1, he2, he3⟩ := ih hvs'
          obtain ⟨y, hy, hyd⟩ := cellsAs_ofCells hcs
          have e1 : (cs ++ vs').take p.2.ls.length = cs := by rw [← hl]; simp
          have e2 : (cs ++ vs').drop p.2.ls.length = vs' := by rw [← hl]; simp
          refine ⟨(p.1, some y) :: es, by simp only [setSlots, e1, e2, hy, hes], ?_, ?_, by simp [lsOf, hl, he3]⟩
          · intro i z hz
            simp only [lkE] at hz
            split at hz
            · rename_i hb
              cases hz
              rw [hyd, ← nbeq.1 hb]
              exact h.e _ _ hx
            · exact he1 i z hz
          · intro i hi
            simp only [inK, inS] at hi ⊢
            split at hi
            · rename_i hb; rw [hb]
            · rename_i hb; rw [hb]; exact he2 i hi
        · cases hv
      · cases hv
    · cases hv

theorem carry_in {st : St} : ∀ {ws : List (Nat × TypeId)} {slots : List (Nat × Ty)}, carry P st ws = some slots → ∀ i, inS slots i = true → inW ws i = true := by
  intro ws
  induction ws with
  | nil => intro slots h i hi; simp only [carry, Option.some.injEq] at h; subst h; simp [inS] at hi
  | cons p r ih =>
    intro slots h i hi
    have up : ∀ acc, carry P st r = some acc → inS acc i = true → inW (p :: r) i = true := fun acc ha hs => by
      unfold inW; split
      · rfl
      · exact ih ha i hs
    unfold carry at h
    split at h
    · cases h
    · rename_i acc hacc
      split at h
      · cases h; exact up _ hacc hi
      · cases h; exact up _ hacc hi
      · split at h
        · cases h
          simp only [inS] at hi
          split at hi
          · rename_i hb; simp only [inW, hb]
          · exact up _ hacc hi
        · cases h

theorem named_in {nm : List Bool} : ∀ {ws : List (Nat × TypeId)} {slots : List (Nat × Ty)}, named P nm ws = some slots → ∀ i, inS slots i = true → inW ws i = true := by
  intro ws
  induction ws with
  | nil => intro slots h i hi; simp only [named, Option.some.injEq] at h; subst h; simp [inS] at hi
  | cons p r ih =>
    intro slots h i hi
    have up : ∀ acc, named P nm r = some acc → inS acc i = true → inW (p :: r) i = true := fun acc ha hs => by
      unfold inW; split
      · rfl
      · exact ih ha i hs
    unfold named at h
    split at h
    · cases h
    · rename_i acc hacc
      split at h
      · split at h
        · cases h
          simp only [inS] at hi
          split at hi
          · rename_i hb; simp only [inW, hb]
          · exact up _ hacc hi
        · cases h
      · cases h; exact up _ hacc hi

/-- What stays of the environment (but for the blocks for deferred calls). -/
def FrE (ws : List (Nat × TypeId)) (st st' : St) : Prop := ∀ i, inW ws i = false → lkE st'.e i = lkE st.e i

theorem FrE.refl (ws : List (Nat × TypeId)) (st : St) : FrE ws st st := fun _ _ => rfl
theorem FrE.trans {ws : List (Nat × TypeId)} {x y z : St} (h : FrE ws x y) (k : FrE ws y z) : FrE ws x z := fun i hi => (k i hi).trans (h i hi)
theorem FrE.mono {ws ws' : List (Nat × TypeId)} {x y : St} (h : FrE ws x y) (hs : ∀ i, inW ws' i = false → inW ws i = false) : FrE ws' x y := fun i hi => h i (hs i hi)

/-- The environment at a loop's head, or behind a cut. -/
theorem head_of_vals {N : Nat} {st st' : St} {a : Act} {ws : List (Nat × TypeId)} {slots : List (Nat × Ty)} {vs : List Value} (hin : ∀ i, inS slots i = true → inW ws i = true)
    (hf : FrE ws st st') (h : Agree N st' a) (hv : slotVals st' slots = some vs) :
    ∃ st1, headSt st ws slots vs = some st1 ∧ Agree N { st1 with ds := st'.ds } a ∧ st1.ge = [] ∧ FrE ws st st1 ∧ st1.ds = st.ds := by
  obtain ⟨es, hes, he1, he2, _⟩ := setSlots_spec h hv
  refine ⟨{ e := es ++ (blank ws ++ st.e), ge := [], ds := st.ds }, by simp only [headSt, hes], ⟨h.size, h.defers, ?_, fun i d hd => by simp [lkG] at hd, fun i d hd => by simp [lkG] at hd⟩, rfl, ?_, rfl⟩
  · intro i x hx
    simp only [lkE_append, inK_blank] at hx
    split at hx
    · exact he1 i x hx
    · split at hx
      · rw [lkE_blank] at hx; cases hx
      · rename_i hb
        have hi : inW ws i = false := by simpa using hb
        exact h.e i x ((hf i hi).trans hx)
  · intro i hi
    simp only [lkE_append, inK_blank, hi]
    have : inK es i = false := by
      cases hk : inK es i with
      | false => rfl
      | true => rw [hin i (he2 i hk)] at hi; cases hi
    simp [this]

theorem AllL_app {R : Type} : ∀ {ls : List Leaf} {F : List Value → Prop} {f : Tel R ls} {vs : List Value} {p : R}, AllL ls F → app ls f vs = some p → F vs := by
  intro ls
  induction ls with
  | nil =>
    intro F f vs p h ha
    cases vs with
    | nil => exact h
    | cons v r => simp [app] at ha
  | cons l r ih =>
    intro F f vs p h ha
    cases vs with
    | nil => cases l <;> simp [app] at ha
    | cons v vs =>
      cases l with
      | int k =>
        cases v <;> simp only [app, reduceCtorEq] at ha
        split at ha
        · rename_i hk; have := kid_inj hk; subst this; exact ih (F := fun vs => F (_ :: vs)) (h _) ha
        · cases ha
      | bool => cases v <;> simp only [app, reduceCtorEq] at ha; exact ih (F := fun vs => F (_ :: vs)) (h _) ha
      | str => cases v <;> simp only [app, reduceCtorEq] at ha; exact ih (F := fun vs => F (_ :: vs)) (h _) ha
      | slc => cases v <;> simp only [app, reduceCtorEq] at ha; exact ih (F := fun vs => F (_ :: vs)) (h _ _ _) ha
      | ptr => cases v <;> simp only [app, reduceCtorEq] at ha; exact ih (F := fun vs => F (_ :: vs)) (h _) ha
      | map => cases v <;> simp only [app, reduceCtorEq] at ha; exact ih (F := fun vs => F (_ :: vs)) (h _) ha
      | any => exact ih (F := fun vs => F (_ :: vs)) (h v) (by simpa only [app] using ha)

theorem AllL_intro : ∀ {ls : List Leaf} {F : List Value → Prop}, (∀ vs, F vs) → AllL ls F := by
  intro ls
  induction ls with
  | nil => intro F h; exact h []
  | cons l r ih =>
    intro F h
    cases l with
    | int k => intro n; exact ih (F := fun vs => F (_ :: vs)) fun vs => h _
    | bool => intro n; exact ih (F := fun vs => F (_ :: vs)) fun vs => h _
    | str => intro n; exact ih (F := fun vs => F (_ :: vs)) fun vs => h _
    | slc => intro p n c; exact ih (F := fun vs => F (_ :: vs)) fun vs => h _
    | ptr => intro n; exact ih (F := fun vs => F (_ :: vs)) fun vs => h _
    | map => intro n; exact ih (F := fun vs => F (_ :: vs)) fun vs => h _
    | any => intro n; exact ih (F := fun vs => F (_ :: vs)) fun vs => h _

theorem AllL_at {ls : List Leaf} {F : List Value → Prop} {I : Tel (World → Prop) ls} {vs : List Value} {w : World} (h : AllL ls F) (hi : atI I vs w) : F vs := by
  unfold atI at hi
  split at hi
  · rename_i p hp; exact AllL_app h hp
  · exact hi.elim

/-! ### The laws of control that the kit lacks in this form -/
theorem exists_least (p : Nat → Prop) (h : ∃ n, p n) : ∃ n, p n ∧ ∀ m, p m → n ≤ m := by
  obtain ⟨n, hn⟩ := h
  induction n using Nat.strongRecOn with
  | _ n ih =>
    by_cases hm : ∃ m, m < n ∧ p m
    · obtain ⟨m, hlt, hp⟩ := hm; exact ih m hlt hp
    · exact ⟨n, hn, fun m hp => Nat.le_of_not_lt fun hlt => hm ⟨m, hlt, hp⟩⟩

open Classical in
theorem wpIn_loop_ghost {F : Fence} {n0 : Nat} {c : Code} (G : Nat → Act → World → Prop)
    (step : ∀ n a w, G n a w → c.wpIn F n0 P (Exit.then (fun a' w' => ∃ n', n' < n ∧ G n' a' w') Q) a w) {n : Nat} {a : Act} {w : World} (h : G n a w) : (Code.loop c).wpIn F n0 P Q a w := by
  refine wpIn_loop (fun a w => ∃ n, G n a w) (fun a w => if h : ∃ n, G n a w then (exists_least _ h).choose else 0) ⟨n, h⟩ ?_
  intro a w hI
  have hs := (exists_least _ hI).choose_spec
  refine wpIn_mono (step _ a w hs.1) fun e a' w' hq => ?_
  cases e with
  | normal =>
    obtain ⟨n', hlt, hg⟩ := hq
    have hI' : ∃ n, G n a' w' := ⟨n', hg⟩
    refine ⟨hI', ?_⟩
    rw [dif_pos hI', dif_pos hI]
    have := (exists_least _ hI').choose_spec.2 n' hg
    omega
  | _ => exact hq

theorem stepR_scope {b : Frame} {a : Act} {k : List Item} {cs : List Frame} {w : World} {c : Code} :
    step P (lone (b.atR a (.code (.scope c) :: k)) cs w) = .next (lone (b.atR a (.code c :: .inScope c :: k)) cs w) :=
  step_lone_go (by simp [stepG, stepG.exec, Frame.atR])

theorem stepR_inScope {b : Frame} {a : Act} {k : List Item} {cs : List Frame} {w : World} {c : Code} :
    step P (lone (b.atR a (.inScope c :: k)) cs w) = .next (lone (b.atR a k) cs w) :=
  step_lone_go (by simp [stepG, stepG.exec, Frame.atR])

theorem wpIn_scope {F : Fence} {n : Nat} {c : Code} {a : Act} {w : World} (h : c.wpIn F n P (fun e a w => match e with | .goto _ => False | e => Q e a w) a w) : (Code.scope c).wpIn F n P Q a w := by
  intro b k cs hro hb hr
  have h0 : (lone (b.atR a (.code (.scope c) :: k)) cs w).fenced P F := fenced_calm hb hr rfl
  obtain ⟨e, a₁, w₁, hq, harr⟩ := h b (.inScope c :: k) cs hro hb hr
  cases e with
  | normal => exact ⟨.normal, a₁, w₁, hq, .head h0 stepR_scope (StepsIn.trans harr (.one (fenced_calm hb hr rfl) stepR_inScope))⟩
  | exit id =>
    have hx : exitTo id (.inScope c :: k) = exitTo id k := by simp [exitTo]
    exact ⟨.exit id, a₁, w₁, hq, fun k' hk => .head h0 stepR_scope (harr.1 k' (by rw [hx]; exact hk)),
      fun hr' hk => let ⟨k₁, h1, h2⟩ := harr.2 hr' (by rw [hx]; exact hk); ⟨k₁, h1, .head h0 stepR_scope h2⟩⟩
  | goto l => exact hq.elim
  | ret => exact ⟨_, a₁, w₁, hq, .of_steps (.one h0 stepR_scope) harr⟩
  | panic ch => exact ⟨_, a₁, w₁, hq, .of_steps (.one h0 stepR_scope) harr⟩
  | outgrown => exact ⟨_, a₁, w₁, hq, .of_steps (b := b) (k := k) (cs := cs) (e := .outgrown) (.one h0 stepR_scope) harr⟩

/-! ### Codes -/
/-- What stays of the environment, by the way in which a code is left. -/
def FrW (c : Code) (ex : Exit) (st st' : St) : Prop :=
  match ex with
  | .normal => ∃ ws, wr none c = some ws ∧ FrE ws st st'
  | .exit id => ∃ ws, wr (some id) c = some ws ∧ FrE ws st st'
  | _ => True

structure FrX (C : Cfg) (c : Code) (ex : Exit) (st st' : St) : Prop where
  e : FrW c ex st st'
  ds : pushes C (hasRg c) = false → st'.ds = st.ds

theorem oBeq_refl (t : Option Nat) : oBeq t t = true := by cases t <;> simp [oBeq, nbeq.2]
theorem joinW_left {x : List (Nat × TypeId)} (y : Option (List (Nat × TypeId))) : ∃ z, joinW (some x) y = some z ∧ ∀ i, inW z i = false → inW x i = false := by
  cases y with
  | none => exact ⟨x, rfl, fun _ h => h⟩
  | some y => exact ⟨x ++ y, rfl, fun i h => by rw [inW_append] at h; simp at h; exact h.1⟩

theorem joinW_right (x : Option (List (Nat × TypeId))) {y : List (Nat × TypeId)} : ∃ z, joinW x (some y) = some z ∧ ∀ i, inW z i = false → inW y i = false := by
  cases x with
  | none => exact ⟨y, rfl, fun _ h => h⟩
  | some x => exact ⟨x ++ y, rfl, fun i h => by rw [inW_append] at h; simp at h; exact h.2⟩

theorem app_left {x y : List (Nat × TypeId)} (i : Nat) (h : inW (x ++ y) i = false) : inW x i = false := by rw [inW_append] at h; simp at h; exact h.1
theorem app_right {x y : List (Nat × TypeId)} (i : Nat) (h : inW (x ++ y) i = false) : inW y i = false := by rw [inW_append] at h; simp at h; exact h.2

theorem pushes_or {C : Cfg} {x y : Bool} (h : pushes C (orB x y) = false) : pushes C x = false ∧ pushes C y = false := by
  unfold pushes at *
  cases hr : C.rd with
  | none => rw [hr] at h; cases x <;> cases y <;> simp_all [orB]
  | some l => exact ⟨rfl, rfl⟩

/-- The first of two is left by a jump. -/
theorem frW_seq_left {a b : Code} {id : Nat} {st st' : St} (h : FrW a (.exit id) st st') : FrW (.seq a b) (.exit id) st st' := by
  obtain ⟨ws, hw, hf⟩ := h
  unfold FrW
  simp only [wr, isN, hw]
  cases wr none a with
  | none => exact ⟨ws, rfl, hf⟩
  | some x =>
    obtain ⟨z, hz, hm⟩ := joinW_right (match wr (some id) b with | some y => some (x ++ y) | none => none) (y := ws)
    exact ⟨z, hz, hf.mono hm⟩

/-- The first of two goes off its end. -/
theorem frW_seq_right {a b : Code} {ex : Exit} {st st1 st' : St} {x : List (Nat × TypeId)} (hx : wr none a = some x) (h1 : FrE x st st1) (h : FrW b ex st1 st') : FrW (.seq a b) ex st st' := by
  unfold FrW at *
  cases ex with
  | normal =>
    obtain ⟨ws, hw, hf⟩ := h
    refine ⟨x ++ ws, by simp only [wr, hx, isN, hw], (h1.mono fun i hi => app_left i hi).trans (hf.mono fun i hi => app_right i hi)⟩
  | exit id =>
    obtain ⟨ws, hw, hf⟩ := h
    simp only [wr, hx, isN, hw]
    obtain ⟨z, hz, hm⟩ := joinW_left (x := x ++ ws) (wr (some id) a)
    exact ⟨z, hz, (h1.mono fun i hi => app_left i (hm i hi)).trans (hf.mono fun i hi => app_right i (hm i hi))⟩
  | _ => trivial

/-- What a code achieves. -/
def Post (C : Cfg) (c : Code) (Q : Exit → St → World → Prop) (st : St) : Exit → Act → World → Prop :=
  fun ex a' w' => ∃ st', st'.ge = [] ∧ Agree C.N st' a' ∧ FrX C c ex st st' ∧ Q ex st' w'

theorem withB_out {C : Cfg} {b : Bool} {K : Nat → Prop} (h : withB C b K) : ∃ B, K B := by
  unfold withB at h
  split at h
  · exact h
  · exact ⟨_, h⟩

theorem opens_iff {C : Cfg} {b : Bool} {B : Nat} {ds : List Nat} {w : World} {X : Prop} : opens C b B ds w X ↔ ((pushes C b = true → Open B ds w) ∧ X) := by
  unfold opens
  cases pushes C b <;> simp

theorem allDs_at {C : Cfg} {b : Bool} {B : Nat} {ds ds' : List Nat} {w : World} {K : List Nat → Prop} (h : allDs C b B ds w K) (ho : pushes C b = true → Open B ds' w) (he : pushes C b = false → ds' = ds) : K ds' := by
  unfold allDs at h
  cases hp : pushes C b with
  | true => rw [hp] at h; exact h ds' (ho hp)
  | false => rw [hp] at h; rw [he hp]; exact h

theorem frE_ds {ws : List (Nat × TypeId)} {st st' : St} {ds : List Nat} (h : FrE ws st st') : FrE ws st { st' with ds := ds } := h

/-! ### A range over a function -/
def stOf : Nat → LoopState
  | 0 => .ready
  | 1 => .busy
  | 2 => .exhausted
  | k + 3 => if k % 2 = 0 then .done else .exhausted
def pendOf : Nat → Option Code
  | 0 => none
  | 1 => none
  | 2 => none
  | 3 => some .ret
  | 4 => some .ret
  | k + 5 => some (.exit (k / 2))

theorem parTys_spec {ag : List Oper} : ∀ {ps : List Nat} {ts : List (Nat × Ty)}, parTys P ag ps = some ts → keysOf ts = ps := by
  intro ps
  induction ps with
  | nil => intro ts h; simp only [parTys, Option.some.injEq] at h; subst h; rfl
  | cons t r ih =>
    intro ts h
    unfold parTys at h
    split at h
    · rename_i ty ts' _ hts
      split at h
      · cases h; simp [keysOf, ih hts]
      · cases h
    · rename_i ts' _ hts
      cases h; simp [keysOf, ih hts]
    · cases h

theorem packL_length : ∀ {ts : List (Nat × Ty)} {vs : List Value} {xs : List SV}, packL ts vs = some xs → xs.length = ts.length := by
  intro ts
  induction ts with
  | nil => intro vs xs h; simp only [packL, Option.some.injEq] at h; subst h; rfl
  | cons p r ih =>
    intro vs xs h
    unfold packL at h
    split at h
    · rename_i x xs' _ hxs; cases h; simp [ih hxs]
    · cases h

theorem dens_length (xs : List SV) : (dens xs).length = xs.length := by induction xs <;> simp_all [dens]

theorem zipE_spec : ∀ {ts : List (Nat × Ty)} {xs : List SV} {tmps : Array Value} (i : Nat) (x : SV), noDup (keysOf ts) = true → (∀ k ∈ keysOf ts, k < tmps.size) → xs.length = ts.length →
    (lkE (zipE ts xs) i = some x → (((keysOf ts).zip (dens xs)).foldl (fun (tmps : Array Value) (t, a) => tmps.setIfInBounds t a) tmps).getD i undef = x.den) ∧
    (inK (zipE ts xs) i = false → (((keysOf ts).zip (dens xs)).foldl (fun (tmps : Array Value) (t, a) => tmps.setIfInBounds t a) tmps).getD i undef = tmps.getD i undef) ∧
    (((keysOf ts).zip (dens xs)).foldl (fun (tmps : Array Value) (t, a) => tmps.setIfInBounds t a) tmps).size = tmps.size := by
  intro ts
  induction ts with
  | nil => intro xs tmps i x _ _ hl; cases xs <;> simp [zipE, lkE, keysOf]
  | cons p r ih =>
    intro xs tmps i x hd hk hl
    cases xs with
    | nil => simp at hl
    | cons y ys =>
      have hd' : noDup (keysOf r) = true ∧ p.1 ∉ keysOf r := by
        simp only [keysOf] at hd
        unfold noDup at hd
        split at hd
        · cases hd
        · rename_i hm
          refine ⟨hd, fun hc => ?_⟩
          rw [memN_iff.2 hc] at hm; cases hm
      have hp : p.1 < tmps.size := hk p.1 (by simp [keysOf])
      have hks : ∀ k ∈ keysOf r, k < (tmps.setIfInBounds p.1 y.den).size := fun k hk' => by simpa using hk k (by simp [keysOf, hk'])
      obtain ⟨i1, i2, i3⟩ := ih (xs := ys) (tmps := tmps.setIfInBounds p.1 y.den) i x hd'.1 hks (by simpa using hl)
      simp only [keysOf, dens, List.zip_cons_cons, List.foldl_cons, zipE, lkE, inK]
      refine ⟨fun h => ?_, fun h => ?_, by rw [i3]; simp⟩
      · split at h
        · rename_i hb
          cases h
          have hb := nbeq.1 hb
          have hno : inK (zipE r ys) i = false := by
            have : ∀ (r : List (Nat × Ty)) (ys : List SV), i ∉ keysOf r → inK (zipE r ys) i = false := by
              intro r
              induction r with
              | nil => intro ys _; cases ys <;> rfl
              | cons q r ihr =>
                intro ys hi
                cases ys with
                | nil => rfl
                | cons z zs =>
                  simp only [keysOf, List.mem_cons, not_or] at hi
                  simp only [zipE, inK, nbeq_no.2 (Ne.symm hi.1), ihr zs hi.2]
            exact this r ys (by rw [← hb]; exact hd'.2)
          rw [i2 hno, getD_set hp, if_pos hb]
        · exact i1 h
      · split at h
        · cases h
        · rename_i hb
          rw [i2 h, getD_set hp, if_neg (nbeq_no.1 hb)]

theorem round_agree {N : Nat} {st : St} {a : Act} {ps : Array Tmp} {ts : List (Nat × Ty)} {xs : List SV} (h : Agree N st a) (hk : keysOf ts = ps.toList) (hok : parsOk N (keysOf ts) = true) (hl : xs.length = ts.length) :
    Agree N { e := zipE ts xs ++ st.e, ge := [], ds := [] } { tmps := (ps.zip (dens xs).toArray).foldl (fun tmps (t, a) => tmps.setIfInBounds t a) a.tmps, defers := [] } := by
  have hok' : noDup (keysOf ts) = true ∧ ∀ k ∈ keysOf ts, k < a.tmps.size := by
    unfold parsOk at hok
    split at hok
    · rename_i h1
      refine ⟨h1, fun k hk => ?_⟩
      rw [h.size]
      exact Nat.lt_of_succ_le (Nat.le_of_ble_eq_true (allB_iff.1 hok k hk))
    · cases hok
  have hfold : (ps.zip (dens xs).toArray).foldl (fun (tmps : Array Value) (t, a) => tmps.setIfInBounds t a) a.tmps = ((keysOf ts).zip (dens xs)).foldl (fun (tmps : Array Value) (t, a) => tmps.setIfInBounds t a) a.tmps := by
    rw [hk, ← Array.foldl_toList, Array.toList_zip]
  refine ⟨?_, rfl, ?_, fun i d hd => by simp [lkG] at hd, fun i d hd => by simp [lkG] at hd⟩
  · show Array.size _ = N
    rw [hfold, (zipE_spec (ts := ts) (xs := xs) (tmps := a.tmps) 0 (.b true) hok'.1 hok'.2 hl).2.2, h.size]
  · intro i x hx
    show Array.getD _ i undef = _
    rw [hfold]
    obtain ⟨i1, i2, _⟩ := zipE_spec (ts := ts) (xs := xs) (tmps := a.tmps) i x hok'.1 hok'.2 hl
    simp only [lkE_append] at hx
    split at hx
    · exact i1 hx
    · rename_i hno
      rw [i2 (by simpa using hno)]
      exact h.e i x hx

theorem OrIds_out {F : Nat → Prop} : ∀ {l : List Nat}, OrIds F False l → ∃ id, F id := by
  intro l
  induction l with
  | nil => intro h; exact h.elim
  | cons i r ih => 
    intro h
    rcases h with h | h
    · exact ⟨i, h⟩
    · exact ih h

theorem ranged_out {r : Nat → Loop} {l : Nat} {ret : Bool} {exs : List Nat} {Q : Exit → St → World → Prop} {st' : St} {W : World} (h : ranged r l ret exs Q st' W) :
    (Rec r l 0 W ∧ Q .normal st' (turn r l 2 W)) ∨ (Rec r l 3 W ∧ Q .ret st' (turn r l 4 W)) ∨ ∃ id, Rec r l (5 + 2 * id) W ∧ Q (.exit id) st' (turn r l (6 + 2 * id) W) := by
  unfold ranged at h
  rcases h with h | h
  · exact .inl h
  · split at h
    · rcases h with h | h
      · exact .inr (.inl h)
      · exact .inr (.inr (OrIds_out h))
    · exact .inr (.inr (OrIds_out h))

/-- One round. -/
theorem round_sound {asg body : Code} {C : Cfg} {st : St} {a : Act} {l : Nat} {ps : Array Tmp} {ts : List (Nat × Ty)} {r : Nat → Loop} {fn df : Nat}
    (hr : r = fun k => { state := stOf k, pending := pendOf k, fn := fn, tmps := a.tmps, params := ps, assign := asg, body := body, defers := df })
    (iha : ∀ (C : Cfg) (Q : Exit → St → World → Prop) (st : St) (a : Act) (w : World), st.ge = [] → Agree C.N st a → vc P C asg Q st w → asg.wpIn (FW C.rd) 0 P (Post C asg Q st) a w)
    (ihb : ∀ (C : Cfg) (Q : Exit → St → World → Prop) (st : St) (a : Act) (w : World), st.ge = [] → Agree C.N st a → vc P C body Q st w → body.wpIn (FW C.rd) 0 P (Post C body Q st) a w)
    (h : Agree C.N st a) (hk : keysOf ts = ps.toList) (hok : parsOk C.N (keysOf ts) = true) {xs : List SV} (hl : xs.length = ts.length) {W : World} {R : Bool → World → Prop} (h0 : Rec r l 0 W)
    (hv : vc P { C with rd := some l } asg (fun ex st2 Wa => match ex with
        | .normal => Rec r l 0 Wa ∧ ∀ Wb : World, Wb = turn r l 1 Wa → vc P { C with rd := some l } body (fun ex _ W3 => Rec r l 1 W3 ∧ (match ex with
          | .normal => R true (turn r l 0 W3)
          | .ret => R false (turn r l 3 W3)
          | .exit id => R false (turn r l (5 + 2 * id) W3)
          | _ => False)) st2 Wb
        | _ => False) { e := zipE ts xs ++ st.e, ge := [], ds := [] } W) :
    Yield P l (dens xs).toArray W R := by
  intro rd'
  have hsz : (dens xs).toArray.size = (r 0).params.size := by
    rw [hr]
    simp only [List.size_toArray, dens_length, hl]
    have := congrArg List.length hk
    have hkl : ∀ ts : List (Nat × Ty), (keysOf ts).length = ts.length := by intro ts; induction ts <;> simp_all [keysOf]
    rw [hkl] at this
    simpa using this
  have hy := run_yield (P := P) (args := (dens xs).toArray) h0 hsz
  rw [hr] at hy
  refine ⟨_, _, _, _, hy, roundIn_of_wpIn trivial ?_⟩
  have hwp := iha { C with rd := some l } _ _ _ W rfl (round_agree h hk hok hl) hv
  refine wpIn_mono hwp ?_
  rintro ex a1 Wa ⟨s, g1, g2, g3, g4⟩
  cases ex with
  | normal =>
    obtain ⟨hrec, hvb⟩ := g4
    refine ⟨turn r l 1 Wa, ?_, ?_⟩
    · have := run_beginRound (P := P) hrec (by rw [hr]; rfl)
      rw [this]
      unfold turn
      rw [hr]
      rfl
    · refine wpIn_mono (ihb { C with rd := some l } _ s a1 _ g1 g2 (hvb _ rfl)) ?_
      rintro ex a3 W3 ⟨s3, k1, k2, k3, k4⟩
      obtain ⟨hb, hR⟩ := k4
      cases ex with
      | normal => exact ⟨_, _, run_endRound (P := P) none hb, true, rfl, by rw [hr] at hR ⊢; exact hR⟩
      | ret => exact ⟨_, _, run_endRound (P := P) (some .ret) hb, false, rfl, by rw [hr] at hR ⊢; exact hR⟩
      | exit id =>
        refine ⟨_, _, run_endRound (P := P) (some (.exit id)) hb, false, rfl, ?_⟩
        have e1 : stOf (5 + 2 * id) = .done := by
          rw [show 5 + 2 * id = (2 + 2 * id) + 3 by omega]; simp only [stOf]; rw [if_pos (by omega)]
        have e2 : pendOf (5 + 2 * id) = some (.exit id) := by
          rw [show 5 + 2 * id = (2 * id) + 5 by omega]; simp only [pendOf]; rw [show 2 * id / 2 = id by omega]
        unfold turn at hR
        rw [hr] at hR ⊢
        simp only [e1, e2] at hR
        exact hR
      | _ => exact hR.elim
  | _ => exact g4.elim

/-- Behind the iterator. -/
theorem behind {asg body : Code} {l : Nat} {ps : Array Tmp} {r : Nat → Loop} {fn df : Nat} {tmps : Array Value}
    (hr : r = fun k => { state := stOf k, pending := pendOf k, fn := fn, tmps := tmps, params := ps, assign := asg, body := body, defers := df })
    {C : Cfg} {f : Operand} {Q : Exit → St → World → Prop} {st st' : St} {a' : Act} {ret : Bool} {exs : List Nat} {W : World} (hge : st'.ge = []) (hag : Agree C.N st' a') (he : st'.e = st.e) (hds : C.rd.isSome = true → st'.ds = st.ds)
    (hR : ranged r l ret exs Q st' W) (v : Value) : rangePost (FW C.rd) 0 P l (Post C (.rangeFunc f ps asg body) Q st) a' (.returned v) W := by
  have frx : ∀ ex, FrX C (.rangeFunc f ps asg body) ex st st' := fun ex => by
    refine ⟨?_, fun hp => ?_⟩
    · unfold FrW
      cases ex <;> first | trivial | exact ⟨[], by simp [wr], fun i _ => by rw [he]⟩
    · cases hrd : C.rd with
      | none => simp [pushes, hrd, hasRg] at hp
      | some l => exact hds (by rw [hrd]; rfl)
  rcases ranged_out hR with ⟨h0, hQ⟩ | ⟨h0, hQ⟩ | ⟨id, h0, hQ⟩
  · have := run_endLoop (P := P) h0 (by rw [hr]; simp [stOf])
    refine ⟨_, _, this, ?_⟩
    unfold turn at hQ
    rw [hr] at hQ ⊢
    exact ⟨st', hge, hag, frx _, hQ⟩
  · have := run_endLoop (P := P) h0 (by rw [hr]; simp [stOf])
    refine ⟨_, _, this, ?_⟩
    unfold turn at hQ
    rw [hr] at hQ ⊢
    exact wpIn_ret ⟨st', hge, hag, frx _, hQ⟩
  · have e1 : stOf (5 + 2 * id) = .done := by
      rw [show 5 + 2 * id = (2 + 2 * id) + 3 by omega]; simp only [stOf]; rw [if_pos (by omega)]
    have e2 : pendOf (5 + 2 * id) = some (.exit id) := by
      rw [show 5 + 2 * id = (2 * id) + 5 by omega]; simp only [pendOf]; rw [show 2 * id / 2 = id by omega]
    have e3 : stOf (6 + 2 * id) = .exhausted := by
      rw [show 6 + 2 * id = (3 + 2 * id) + 3 by omega]; simp only [stOf]; rw [if_neg (by omega)]
    have e4 : pendOf (6 + 2 * id) = some (.exit id) := by
      rw [show 6 + 2 * id = (1 + 2 * id) + 5 by omega]; simp only [pendOf]; rw [show (1 + 2 * id) / 2 = id by omega]
    have := run_endLoop (P := P) h0 (by rw [hr]; simp [e1])
    refine ⟨_, _, this, ?_⟩
    unfold turn at hQ
    rw [hr] at hQ ⊢
    simp only [e2, e3, e4] at hQ ⊢
    exact wpIn_exit ⟨st', hge, hag, frx _, hQ⟩

theorem range_sound {f : Operand} {ps : Array Tmp} {asg body : Code}
    (iha : ∀ (C : Cfg) (Q : Exit → St → World → Prop) (st : St) (a : Act) (w : World), st.ge = [] → Agree C.N st a → vc P C asg Q st w → asg.wpIn (FW C.rd) 0 P (Post C asg Q st) a w)
    (ihb : ∀ (C : Cfg) (Q : Exit → St → World → Prop) (st : St) (a : Act) (w : World), st.ge = [] → Agree C.N st a → vc P C body Q st w → body.wpIn (FW C.rd) 0 P (Post C body Q st) a w)
    {C : Cfg} {Q : Exit → St → World → Prop} {st : St} {a : Act} {w : World} (hge : st.ge = []) (h : Agree C.N st a) (hv : vc P C (.rangeFunc f ps asg body) Q st w) :
    (Code.rangeFunc f ps asg body).wpIn (FW C.rd) 0 P (Post C (.rangeFunc f ps asg body) Q st) a w := by
  unfold vc at hv
  split at hv
  · rename_i fv ts hf hts
    have hk := parTys_spec hts
    split at hv
    · rename_i hok
      obtain ⟨g, lb, rfl, hen, hv⟩ := hv
      have hg : a.eval f = .func (.func g) #[] lb := by rw [ev_sound h (.nil a) hf, den_v]
      have eargs : ∀ l : Nat, (#[.func (.yield l) #[] #[]] ++ lb : Array Value) = (.func (.yield l) #[] #[] :: lb.toList).toArray := fun l => by apply Array.ext'; simp
      split at hv
      · rename_i hrd
        rw [hrd]
        refine wpIn_rangeFunc fun fn _ => ?_
        obtain ⟨r, hr⟩ : ∃ r : Nat → Loop, r = fun k => { state := stOf k, pending := pendOf k, fn := fn, tmps := a.tmps, params := ps, assign := asg, body := body, defers := w.heap.size } := ⟨_, rfl⟩
        have hcall := hv r w.heap.size (w.heap.size + 1) _ ⟨rfl, rfl, rfl⟩ ?_
        · refine ⟨w.heap.size + 1, [{ target := .collected w.heap.size, args := #[] }], (w.alloc (.deferred (some []))).alloc (.loop (r 0)), { target := .fn (.func g) lb, args := #[.func (.yield (w.heap.size + 1)) #[] #[]] },
            (w.alloc (.deferred (some []))).alloc (.loop (r 0)), g, #[.func (.yield (w.heap.size + 1)) #[] #[]] ++ lb, (w.alloc (.deferred (some []))).alloc (.loop (r 0)), ?_, ?_, ?_, ?_, fun h => by simp [FW] at h, ?_⟩
          · rw [hr]; exact run_enterLoop_outer _ _ _ _ _
          · simp only [resolve, hg]
            simp [go_sem]
          · intro f' _; trivial
          · simp [invoke, go_sem, run_enter hen]
          · rw [eargs]
            refine callsIn_FW (hcall.mono ?_)
            rintro e W ⟨⟨v, rfl⟩, hR⟩
            have := behind (P := P) (C := C) (f := f) (st := st) (st' := { st with ds := w.heap.size :: st.ds }) (a' := { a with defers := [{ target := .collected w.heap.size, args := #[] }] ++ a.defers }) hr hge
              ⟨h.size, by simp [h.defers], h.e, h.g, h.u⟩ rfl (fun hs => by rw [hrd] at hs; cases hs) hR v
            rw [hrd] at this
            exact this
        · -- the rounds
          refine AllL_intro fun vs => ?_
          split
          · trivial
          · rename_i xs hxs
            intro W R h0 hvr
            exact round_sound (fn := fn) (df := w.heap.size) hr iha ihb h hk hok (packL_length hxs) h0 hvr
      · rename_i l0 hrd
        obtain ⟨⟨q, hq⟩, hv⟩ := hv
        rw [hrd]
        refine wpIn_rangeFunc fun fn _ => ?_
        obtain ⟨r, hr⟩ : ∃ r : Nat → Loop, r = fun k => { state := stOf k, pending := pendOf k, fn := fn, tmps := a.tmps, params := ps, assign := asg, body := body, defers := q.defers } := ⟨_, rfl⟩
        have hcall := hv r w.heap.size _ ⟨rfl, rfl⟩ ?_
        · refine ⟨w.heap.size, [], w.alloc (.loop (r 0)), { target := .fn (.func g) lb, args := #[.func (.yield w.heap.size) #[] #[]] },
            w.alloc (.loop (r 0)), g, #[.func (.yield w.heap.size) #[] #[]] ++ lb, w.alloc (.loop (r 0)), ?_, ?_, ?_, ?_, fun h => by simp [FW] at h, ?_⟩
          · rw [hr]; exact run_enterLoop_inner hq _ _ _ _ _
          · simp only [resolve, hg]
            simp [go_sem]
          · intro f' _; trivial
          · simp [invoke, go_sem, run_enter hen]
          · rw [eargs]
            refine callsIn_FW (hcall.mono ?_)
            rintro e W ⟨⟨v, rfl⟩, hR⟩
            have := behind (P := P) (C := C) (f := f) (st := st) (st' := st) (a' := { a with defers := [] ++ a.defers }) hr hge
              ⟨h.size, by simp [h.defers], h.e, h.g, h.u⟩ rfl (fun _ => rfl) hR v
            rw [hrd] at this
            exact this
        · -- the rounds
          refine AllL_intro fun vs => ?_
          split
          · trivial
          · rename_i xs hxs
            intro W R h0 hvr
            exact round_sound (fn := fn) (df := q.defers) hr iha ihb h hk hok (packL_length hxs) h0 hvr
    · exact hv.elim
  · exact hv.elim

theorem vc_sound (hm : P.follows .mixedOrders = true) : ∀ (c : Code) (C : Cfg) (Q : Exit → St → World → Prop) (st : St) (a : Act) (w : World), st.ge = [] → Agree C.N st a → vc P C c Q st w →
    c.wpIn (FW C.rd) 0 P (Post C c Q st) a w := by
  intro c
  induction c with
  | skip => intro C Q st a w hge h hv; exact wpIn_skip ⟨st, hge, h, ⟨⟨[], rfl, .refl _ _⟩, fun _ => rfl⟩, hv⟩
  | label l => intro C Q st a w hge h hv; exact wpIn_label ⟨st, hge, h, ⟨⟨[], rfl, .refl _ _⟩, fun _ => rfl⟩, hv⟩
  | exit id => intro C Q st a w hge h hv; exact wpIn_exit ⟨st, hge, h, ⟨⟨[], by simp [wr, oBeq_refl], .refl _ _⟩, fun _ => rfl⟩, hv⟩
  | goto l => intro C Q st a w hge h hv; exact hv.elim
  | ret => intro C Q st a w hge h hv; exact wpIn_ret ⟨st, hge, h, ⟨trivial, fun _ => rfl⟩, hv⟩
  | refuse s => intro C Q st a w hge h hv; exact hv.elim
  | rangeFunc f ps ag b iha ihb => intro C Q st a w hge h hv; exact range_sound iha ihb hge h hv
  | region id ops draw =>
    intro C Q st a w hge h hv
    have := vcRegion_sound (rd := C.rd) (id := id) (od := lkO C.ords id) (ops := ops.toList) (draw := draw) (Q := Post C (.region id ops draw) Q st) (ws := wrOps ops.toList) hm (fun _ hi => hi) hge
      (K := fun st' w' => Q .normal st' w' ∧ st'.ge = []) (st := st) (a := a) (w := w)
      (fun st' a' w' ha hf hk => ⟨st', hk.2, ha, ⟨⟨wrOps ops.toList, rfl, hf.2⟩, fun _ => hf.1⟩, hk.1⟩) h
    simp only [Array.toArray_toList] at this
    refine this ?_
    -- behind a region nothing hangs on a guard
    have heq : ∀ (l : List Oper), vcOps P C.N ops.toList l (fun st' w' => Q .normal st' w') = vcOps P C.N ops.toList l (fun st' w' => Q .normal st' w' ∧ st'.ge = []) := by
      intro l
      induction l with
      | nil => funext st1 w1; simp [vcOps]
      | cons o r ih => funext st1 w1; simp only [vcOps, ih]
    have heq2 : ∀ (l : OT), vcOrd P C.N ops.toList l (fun st' w' => Q .normal st' w') = vcOrd P C.N ops.toList l (fun st' w' => Q .normal st' w' ∧ st'.ge = []) := by
      intro l
      induction l with
      | nil => funext st1 w1; simp [vcOrd]
      | one o r ih => funext st1 w1; simp only [vcOrd, ih]
      | alt s t ihs iht => funext st1 w1; simp only [vcOrd, ihs, iht]
    dsimp only [vc] at hv
    unfold vcRegion at hv ⊢
    split at hv
    · rw [← heq]; exact hv
    · split at hv
      · intro w' hw'; rw [← heq2]; exact hv w' hw'
      · exact hv.elim
  | cond o x y ihx ihy =>
    intro C Q st a w hge h hv
    have px : ∀ st', ∀ ex a' w', Post C x Q st' ex a' w' → Post C (.cond o x y) Q st' ex a' w' := by
      rintro st' ex a' w' ⟨s, h1, h2, ⟨h3, h3d⟩, h4⟩
      refine ⟨s, h1, h2, ⟨?_, fun hp => h3d (pushes_or hp).1⟩, h4⟩
      unfold FrW at *
      cases ex with
      | normal => obtain ⟨ws, hw, hf⟩ := h3; obtain ⟨z, hz, hmz⟩ := joinW_left (x := ws) (wr none y); exact ⟨z, by simp only [wr, hw, hz], hf.mono hmz⟩
      | exit id => obtain ⟨ws, hw, hf⟩ := h3; obtain ⟨z, hz, hmz⟩ := joinW_left (x := ws) (wr (some id) y); exact ⟨z, by simp only [wr, hw, hz], hf.mono hmz⟩
      | _ => trivial
    have py : ∀ st', ∀ ex a' w', Post C y Q st' ex a' w' → Post C (.cond o x y) Q st' ex a' w' := by
      rintro st' ex a' w' ⟨s, h1, h2, ⟨h3, h3d⟩, h4⟩
      refine ⟨s, h1, h2, ⟨?_, fun hp => h3d (pushes_or hp).2⟩, h4⟩
      unfold FrW at *
      cases ex with
      | normal => obtain ⟨ws, hw, hf⟩ := h3; obtain ⟨z, hz, hmz⟩ := joinW_right (wr none x) (y := ws); exact ⟨z, by simp only [wr, hw, hz], hf.mono hmz⟩
      | exit id => obtain ⟨ws, hw, hf⟩ := h3; obtain ⟨z, hz, hmz⟩ := joinW_right (wr (some id) x) (y := ws); exact ⟨z, by simp only [wr, hw, hz], hf.mono hmz⟩
      | _ => trivial
    unfold vc at hv
    split at hv
    · rename_i ho; exact wpIn_cond_true (ev_sound h (.nil a) ho) (wpIn_mono (ihx C Q st a w hge h hv) (px st))
    · rename_i ho; exact wpIn_cond_false (ev_sound h (.nil a) ho) (wpIn_mono (ihy C Q st a w hge h hv) (py st))
    · rename_i v _ _ ho
      split at hv
      · rename_i g hg0
        refine wpIn_cond_split (t := g.val) (by rw [ev_sound h (.nil a) ho, cndOf_den hg0]) (fun hg => ?_) (fun hg => ?_)
        · exact wpIn_mono (ihx C Q st a w hge h (hv.1 (Cnd.is_of hg))) (px st)
        · exact wpIn_mono (ihy C Q st a w hge h (hv.2 (Cnd.is_of hg))) (py st)
      · exact hv.elim
    · exact hv.elim
  | block id b ih =>
    intro C Q st a w hge h hv
    unfold vc at hv
    refine wpIn_block (wpIn_mono (ih C _ st a w hge h hv) ?_)
    rintro ex a' w' ⟨s, h1, h2, ⟨h3, h3d⟩, h4⟩
    cases ex with
    | normal =>
      refine ⟨s, h1, h2, ⟨?_, h3d⟩, h4⟩
      obtain ⟨ws, hw, hf⟩ := h3
      obtain ⟨z, hz, hmz⟩ := joinW_left (x := ws) (wr (some id) b)
      exact ⟨z, by simp only [wr, isN, hw, hz], hf.mono hmz⟩
    | exit j =>
      simp only at h4
      by_cases hj : j = id
      · subst hj
        rw [nbeq.2 rfl] at h4
        simp only [Exit.inBlock, if_true]
        refine ⟨s, h1, h2, ⟨?_, h3d⟩, h4⟩
        obtain ⟨ws, hw, hf⟩ := h3
        obtain ⟨z, hz, hmz⟩ := joinW_right (wr none b) (y := ws)
        exact ⟨z, by simp only [wr, isN, hw, hz], hf.mono hmz⟩
      · rw [nbeq_no.2 hj] at h4
        simp only [Exit.inBlock, hj, if_false]
        refine ⟨s, h1, h2, ⟨?_, h3d⟩, h4⟩
        obtain ⟨ws, hw, hf⟩ := h3
        exact ⟨ws, by simp only [wr, isN, oBeq, nbeq_no.2 hj, hw], hf⟩
    | goto l => exact ⟨s, h1, h2, ⟨trivial, h3d⟩, h4⟩
    | ret => exact ⟨s, h1, h2, ⟨trivial, h3d⟩, h4⟩
    | panic ch => exact ⟨s, h1, h2, ⟨trivial, h3d⟩, h4⟩
    | outgrown => exact ⟨s, h1, h2, ⟨trivial, h3d⟩, h4⟩
  | scope b ih =>
    intro C Q st a w hge h hv
    unfold vc at hv
    refine wpIn_scope (wpIn_mono (ih C _ st a w hge h hv) ?_)
    rintro ex a' w' ⟨s, h1, h2, ⟨h3, h3d⟩, h4⟩
    cases ex with
    | normal => exact ⟨s, h1, h2, ⟨h3, h3d⟩, h4⟩
    | exit j => exact ⟨s, h1, h2, ⟨h3, h3d⟩, h4⟩
    | goto l => exact h4.elim
    | ret => exact ⟨s, h1, h2, ⟨trivial, h3d⟩, h4⟩
    | panic ch => exact ⟨s, h1, h2, ⟨trivial, h3d⟩, h4⟩
    | outgrown => exact ⟨s, h1, h2, ⟨trivial, h3d⟩, h4⟩
  | seq x y ihx ihy =>
    intro C Q st a w hge h hv
    unfold vc at hv
    have jump : ∀ ex a' w' s, ex ≠ .normal → s.ge = [] → Agree C.N s a' → FrX C x ex st s → Q ex s w' → Post C (.seq x y) Q st ex a' w' := by
      intro ex a' w' s hne h1 h2 h3 h4
      refine ⟨s, h1, h2, ⟨?_, fun hp => h3.ds (pushes_or hp).1⟩, h4⟩
      cases ex with
      | normal => exact absurd rfl hne
      | exit id => exact frW_seq_left h3.e
      | _ => trivial
    split at hv
    · refine wpIn_seq (wpIn_mono (ihx C _ st a w hge h hv) ?_)
      rintro ex a' w' ⟨s, h1, h2, h3, h4⟩
      cases ex with
      | normal =>
        obtain ⟨ws, hw, hf⟩ := h3.e
        refine wpIn_mono (ihy C Q s a' w' h1 h2 h4) ?_
        rintro ex2 a2 w2 ⟨s2, k1, k2, k3, k4⟩
        exact ⟨s2, k1, k2, ⟨frW_seq_right hw hf k3.e, fun hp => (k3.ds (pushes_or hp).2).trans (h3.ds (pushes_or hp).1)⟩, k4⟩
      | exit j => exact jump _ _ _ s (by simp) h1 h2 h3 h4
      | goto l => exact jump _ _ _ s (by simp) h1 h2 h3 h4
      | ret => exact jump _ _ _ s (by simp) h1 h2 h3 h4
      | panic ch => exact jump _ _ _ s (by simp) h1 h2 h3 h4
      | outgrown => exact jump _ _ _ s (by simp) h1 h2 h3 h4
    · split at hv
      · refine wpIn_seq (wpIn_mono (ihx C _ st a w hge h hv) ?_)
        rintro ex a' w' ⟨s, h1, h2, h3, h4⟩
        cases ex with
        | normal => exact h4.elim
        | exit j => exact jump _ _ _ s (by simp) h1 h2 h3 h4
        | goto l => exact jump _ _ _ s (by simp) h1 h2 h3 h4
        | ret => exact jump _ _ _ s (by simp) h1 h2 h3 h4
        | panic ch => exact jump _ _ _ s (by simp) h1 h2 h3 h4
        | outgrown => exact jump _ _ _ s (by simp) h1 h2 h3 h4
      · rename_i ws hws
        split at hv
        · exact hv.elim
        · rename_i slots hslots
          obtain ⟨J, hv⟩ := hv
          obtain ⟨B, hv1, hv2⟩ := withB_out hv
          refine wpIn_seq (wpIn_mono (ihx C _ st a w hge h hv1) ?_)
          rintro ex a' w' ⟨s, h1, h2, h3, h4⟩
          cases ex with
          | normal =>
            obtain ⟨ws', hw, hf⟩ := h3.e
            have : ws' = ws := by rw [hws] at hw; cases hw; rfl
            subst this
            rw [opens_iff] at h4
            obtain ⟨hop, h4⟩ := h4
            split at h4
            · rename_i vs hvs
              obtain ⟨st1, hst1, hag, hge1, hf1, hds1⟩ := head_of_vals (named_in hslots) hf h2 hvs
              have hb := AllL_at hv2 h4 w' h4
              rw [hst1] at hb
              have hb' := allDs_at hb hop h3.ds
              refine wpIn_mono (ihy C Q { st1 with ds := s.ds } a' w' hge1 hag hb') ?_
              rintro ex2 a2 w2 ⟨s2, k1, k2, k3, k4⟩
              exact ⟨s2, k1, k2, ⟨frW_seq_right hw (frE_ds hf1) k3.e, fun hp => (k3.ds (pushes_or hp).2).trans (h3.ds (pushes_or hp).1)⟩, k4⟩
            · exact h4.elim
          | exit j => exact jump _ _ _ s (by simp) h1 h2 h3 h4
          | goto l => exact jump _ _ _ s (by simp) h1 h2 h3 h4
          | ret => exact jump _ _ _ s (by simp) h1 h2 h3 h4
          | panic ch => exact jump _ _ _ s (by simp) h1 h2 h3 h4
          | outgrown => exact jump _ _ _ s (by simp) h1 h2 h3 h4
  | loop b ih =>
    intro C Q st a w hge h hv
    unfold vc at hv
    have out : ∀ (ex : Exit) (s1 s : St) (zs : List (Nat × TypeId)), (∀ zs', wr none b = some zs' → zs' = zs) → FrE zs st s1 → (wr none b = none → s1 = st) → FrW b ex s1 s → ex ≠ .normal → FrW (.loop b) ex st s := by
      intro ex s1 s zs hzs hf1 hnone hx hne
      unfold FrW at *
      cases ex with
      | normal => exact absurd rfl hne
      | exit id =>
        obtain ⟨ws, hw, hf⟩ := hx
        simp only [wr, isN, hw]
        cases hb : wr none b with
        | none => rw [hnone hb] at hf; exact ⟨ws, rfl, hf⟩
        | some zs' =>
          have := hzs zs' hb
          subst this
          exact ⟨zs' ++ ws, rfl, (hf1.mono fun i hi => app_left i hi).trans (hf.mono fun i hi => app_right i hi)⟩
      | _ => trivial
    split at hv
    · rename_i hb
      refine wpIn_loop_ghost (fun _ a' w' => a' = a ∧ w' = w) (n := 0) ?_ ⟨rfl, rfl⟩
      rintro n a' w' ⟨rfl, rfl⟩
      refine wpIn_mono (ih C _ st a' w' hge h hv) ?_
      rintro ex a2 w2 ⟨s, h1, h2, h3, h4⟩
      have lv : ex ≠ .normal → FrX C (.loop b) ex st s := fun hne => ⟨out _ st s [] (fun zs' hz => by rw [hb] at hz; cases hz) (.refl _ _) (fun _ => rfl) h3.e hne, h3.ds⟩
      cases ex with
      | normal => exact h4.elim
      | exit j => exact ⟨s, h1, h2, lv (by simp), h4⟩
      | goto l => exact ⟨s, h1, h2, lv (by simp), h4⟩
      | ret => exact ⟨s, h1, h2, lv (by simp), h4⟩
      | panic ch => exact ⟨s, h1, h2, lv (by simp), h4⟩
      | outgrown => exact ⟨s, h1, h2, lv (by simp), h4⟩
    · rename_i ws hws
      split at hv
      · exact hv.elim
      · rename_i slots hslots
        split at hv
        · exact hv.elim
        · rename_i vs0 hvs0
          obtain ⟨I, M, hv⟩ := hv
          obtain ⟨B, hI0, hall⟩ := withB_out hv
          rw [opens_iff] at hall
          obtain ⟨hop0, hall⟩ := hall
          obtain ⟨st0, hst0, hag0, hge0, hf0, hds0⟩ := head_of_vals (carry_in hslots) (.refl ws st) h hvs0
          refine wpIn_loop_ghost (fun n a' w' => ∃ vs st1 ds, headSt st ws slots vs = some st1 ∧ Agree C.N { st1 with ds := ds } a' ∧ st1.ge = [] ∧ FrE ws st st1 ∧ atI I vs w' ∧ atN M vs w' = n ∧ (pushes C (hasRg b) = true → Open B ds w') ∧ (pushes C (hasRg b) = false → ds = st.ds) ∧ st1.ds = st.ds) (n := atN M vs0 w) ?_
            ⟨vs0, st0, st.ds, hst0, hag0, hge0, hf0, hI0, rfl, hop0, fun _ => rfl, hds0⟩
          rintro n a' w' ⟨vs, st1, ds, hst1, hag, hge1, hf1, hI, rfl, hop, hdse, hds1⟩
          have hb := AllL_at hall hI w' hI
          rw [hst1] at hb
          have hb' := allDs_at hb hop (ds' := ds) (fun hp => hdse hp)
          refine wpIn_mono (ih C _ { st1 with ds := ds } a' w' hge1 hag hb') ?_
          rintro ex a2 w2 ⟨s, h1, h2, h3, h4⟩
          have hx : ex ≠ .normal → FrX C (.loop b) ex st s := fun hne =>
            ⟨out ex { st1 with ds := ds } s ws (fun zs' hz => by rw [hws] at hz; cases hz; rfl) (frE_ds hf1) (fun hn => by rw [hws] at hn; cases hn) h3.e hne, fun hp => (h3.ds hp).trans (hdse hp)⟩
          cases ex with
          | normal =>
            obtain ⟨ws', hw, hf⟩ := h3.e
            have : ws' = ws := by rw [hws] at hw; cases hw; rfl
            subst this
            rw [opens_iff] at h4
            obtain ⟨hop4, h4⟩ := h4
            split at h4
            · rename_i vs' hvs'
              obtain ⟨st2, hst2, hag2, hge2, hf2, hds2⟩ := head_of_vals (carry_in hslots) ((frE_ds hf1).trans hf) h2 hvs'
              exact ⟨_, h4.2, vs', st2, s.ds, hst2, hag2, hge2, hf2, h4.1, rfl, hop4, fun hp => (h3.ds hp).trans (hdse hp), hds2⟩
            · exact h4.elim
          | exit j => exact ⟨s, h1, h2, hx (by simp), h4⟩
          | goto l => exact ⟨s, h1, h2, hx (by simp), h4⟩
          | ret => exact ⟨s, h1, h2, hx (by simp), h4⟩
          | panic ch => exact ⟨s, h1, h2, hx (by simp), h4⟩
          | outgrown => exact ⟨s, h1, h2, hx (by simp), h4⟩

/-! ### Functions -/
theorem resVC_run {N : Nat} {st : St} {a : Act} {w : World} (h : Agree N st a) : ∀ {rs : List ResultVar} {F : List SV → Prop}, resVC P st w rs F →
    ∃ xs, F xs ∧ ∀ g : ResultVar → Sem Value, (∀ t, g (.tmp t) = pure (a.tmps.getD t undef)) → (∀ d t, g (.cell d t) = do loadVar t (← asAddr (a.tmps.getD d undef))) → (rs.mapM g).run P w = .ok (dens xs) w := by
  intro rs
  induction rs with
  | nil => intro F hF; exact ⟨[], hF, fun g _ _ => by simp [dens]⟩
  | cons r rs ih =>
    intro F hF
    cases r with
    | tmp t =>
      dsimp only [resVC] at hF
      split at hF
      · rename_i x hx
        obtain ⟨xs, hF, hxs⟩ := ih hF
        refine ⟨x :: xs, hF, fun g g1 g2 => ?_⟩
        simp only [List.mapM_cons, Sem.run_bind, g1, Sem.run_pure, Result.andThen_ok, hxs g g1 g2, h.e _ _ hx, dens]
      · exact hF.elim
    | cell d t =>
      dsimp only [resVC] at hF
      split at hF
      · rename_i x ty hx hty
        obtain ⟨b, o, hp, hF⟩ := asPtr_out hF
        obtain ⟨y, hF, hy⟩ := loadT_out hty hF
        obtain ⟨xs, hF, hxs⟩ := ih hF
        refine ⟨y :: xs, hF, fun g g1 g2 => ?_⟩
        have hd := h.e _ _ hx
        rw [hp] at hd
        simp only [List.mapM_cons, Sem.run_bind, g2, Sem.run_pure, Result.andThen_ok, hd, asAddr, hy w (Same.refl w), hxs g g1 g2, dens]
      · exact hF.elim

theorem ofResults_den (xs : List SV) : (ofResults xs).den = (if h : (dens xs).toArray.size = 1 then (dens xs).toArray[0] else .tuple (dens xs).toArray) := by
  have hd : ∀ l : List SV, dens l = l.map SV.den := by intro l; induction l <;> simp_all [dens]
  cases xs with
  | nil => simp [ofResults, dens, SV.den]
  | cons x r =>
    cases r with
    | nil => simp [ofResults, dens]
    | cons y r => simp [ofResults, dens, SV.den, hd]

theorem initE_get : ∀ (args : List Value) (k i : Nat) (x : SV), lkE (initE args k) i = some x → k ≤ i ∧ ∃ v, args[i - k]? = some v ∧ x.den = v := by
  intro args
  induction args with
  | nil => intro k i x h; simp [initE, lkE] at h
  | cons v r ih =>
    intro k i x h
    simp only [initE, lkE] at h
    split at h
    · rename_i hb
      cases h
      have := nbeq.1 hb
      subst this
      exact ⟨Nat.le_refl _, v, by simp, rfl⟩
    · obtain ⟨h1, u, h2, h3⟩ := ih (k + 1) i x h
      refine ⟨by omega, u, ?_, h3⟩
      rw [show i - k = (i - (k + 1)) + 1 by omega]
      simpa using h2

theorem leaves_unD {fn : Func} {tmps : Array Value} {R : Ending → World → Prop} {F : World → Prop} {n : Nat} {Fe : Fence} :
    ∀ (ds : List Nat) (w : World), unD ds w F → (∀ w', F w' → ∃ v, (results fn tmps).run P w' = .ok v w' ∧ R (.returned v) w') →
      LeavesInM Fe n P fn tmps R (ds.map fun r => { target := .collected r, args := #[] }) .returning w := by
  intro ds
  induction ds with
  | nil => intro w hu hF; exact hF w hu
  | cons d r ih =>
    intro w hu hF
    refine ⟨by simp, .inl ⟨d, _, rfl, run_takeDeferred hu.1, ih _ hu.2 hF⟩⟩

theorem retQ_post {fn : Func} {R : Ending → World → Prop} {C : Cfg} {c : Code} {st0 : St} {Fe : Fence} {n : Nat} : ∀ ex a w, Post C c (retQ P fn R) st0 ex a w → bodyPostM Fe n P fn R ex a w := by
  have main : ∀ st a w, Agree C.N st a → (unD st.ds w fun w' => resVC P st w' fn.results.toList fun xs => R (.returned (ofResults xs).den) w') →
      LeavesInM Fe n P fn a.tmps R a.defers .returning w := by
    intro st a w hag hq
    rw [hag.defers]
    refine leaves_unD st.ds w hq fun w' hr => ?_
    obtain ⟨xs, hR, hrun⟩ := resVC_run hag hr
    refine ⟨_, ?_, hR⟩
    unfold results
    rw [Sem.run_bind, Array.mapM_eq_mapM_toList]
    simp only [Sem.run_map]
    rw [hrun _ (fun t => rfl) (fun d t => rfl)]
    simp only [Result.andThen_ok, Sem.run_pure, ofResults_den]
  rintro ex a w ⟨st, _, hag, _, hq⟩
  cases ex with
  | normal => exact main st a w hag hq
  | ret => exact main st a w hag hq
  | _ => exact hq.elim

/-- **A FUNCTION's CONTRACT OUT OF ITS VERIFICATION CONDITION.** -/
theorem calls_of_vc {f : FuncId} {fn : Func} {args : List Value} {w : World} {R : Ending → World → Prop} (cuts : List Nat) (ords : List (Nat × List Nat)) (hm : P.follows .mixedOrders = true)
    (hf : P.funcs[f]? = some fn) (hv : vcFn P cuts ords fn args w R) : Calls P f args.toArray w R := by
  unfold vcFn at hv
  split at hv
  · exact hv.elim
  · rename_i c hb
    split at hv
    · rename_i hle
      have hle := Nat.le_of_ble_eq_true hle
      have hag : Agree (cfgOf cuts ords fn).N { e := initE args 0, ge := [], ds := [] } { tmps := args.toArray ++ Array.replicate (fn.ntmps - args.toArray.size) undef, defers := [] } := by
        refine ⟨by simp [cfgOf]; omega, rfl, ?_, fun i d hd => by simp [lkG] at hd, fun i d hd => by simp [lkG] at hd⟩
        intro i x hx
        obtain ⟨_, v, hv1, hv2⟩ := initE_get args 0 i x hx
        rw [hv2]
        simp only [Nat.sub_zero] at hv1
        have hi : i < args.length := (List.getElem?_eq_some_iff.1 hv1).1
        simp [Array.getD_eq_getD_getElem?, Array.getElem?_append, hi]
        exact (List.getElem?_eq_some_iff.1 hv1).2
      have := vc_sound hm c (cfgOf cuts ords fn) (retQ P fn R) _ _ w rfl hag hv
      exact (callsIn_wide (n := 0)).1 (callsIn_of_wp_marks (F := Fence.wide) hf hb trivial (wpIn_mono this retQ_post))
    · exact hv.elim
end

end Go.Vc

/- The seat's program by its name, and the one fact that the generator asks of it. -/
namespace Go.Proofs.YtpjafkcmbinjiaaDoor
open Go Go.Vc
theorem Tryd.mixed : Tryd.prog.follows .mixedOrders = true := by kernel_rfl
end Go.Proofs.YtpjafkcmbinjiaaDoor

namespace Go.Vc
open Go
abbrev RI (w : World) (b o : Nat) (F : Int → Prop) : Prop := ∃ n : Int, w.cell? ⟨b, o, none⟩ = some (.int .i64 n) ∧ F n
abbrev RS (w : World) (b o : Nat) (F : ByteArray → Prop) : Prop := ∃ s : ByteArray, w.cell? ⟨b, o, none⟩ = some (.string s) ∧ F s
abbrev RL (w : World) (b o : Nat) (F : Option Addr → Nat → Nat → Prop) : Prop := ∃ (p : Option Addr) (n c : Nat), w.cell? ⟨b, o, none⟩ = some (.slice p n c) ∧ F p n c
abbrev CW (w : World) (b o : Nat) (F : Unit → Prop) : Prop := (∃ u : Value, w.cell? ⟨b, o, none⟩ = some u) ∧ w.frozen? ⟨b, o, none⟩ = false ∧ F ()
end Go.Vc

/- The verification conditions of the functions, evaluated: printed by program. -/
namespace Go.Proofs.YtpjafkcmbinjiaaDoor
open Go Go.Vc

set_option maxRecDepth 100000 in
def peach_T (s : Int) (w : World) (R : Ending → World → Prop) : Prop :=
  ∀ b1 w'2, New w (Obj.cells #[.int .i64 s] 61) b1 w'2 → R (.returned (.func (Fn.func 84) #[] #[.pointer (some ⟨b1, 0, none⟩)])) w'2

set_option maxRecDepth 100000 in
theorem peach_eq (s : Int) (w : World) (R : Ending → World → Prop) : peach_T s w R = vcFn Tryd.prog [] [] Tryd.f65 [.int .i64 s] w R := by kernel_rfl

set_option maxRecDepth 100000 in
theorem peach_vc (s : Int) (w : World) (R : Ending → World → Prop) (h : peach_T s w R) : Calls Tryd.prog 65 #[.int .i64 s] w R :=
  calls_of_vc (args := [.int .i64 s]) [] [] Tryd.mixed Tryd.func65 (cast (peach_eq _ w R) h)

set_option maxRecDepth 100000 in
def peach1_T (l0 : Nat) (fv0 : Nat) (w : World) (R : Ending → World → Prop) : Prop :=
  ∃ (I1 : Int → World → Prop), ∃ (M2 : Int → World → Nat), I1 1 w ∧ ∀ (n3 : Int) (w'4 : World), I1 n3 w'4 → (n3 ≤ 4 → RI w'4 fv0 0 fun n7 ↦ (bits BinOp.and IntKind.i64 n7 n3 ≠ 0 → Yield Tryd.prog l0 #[.int .i64 n3] w'4 fun (b9 : Bool) (w10 : World) ↦
 (b9 = false → R (.returned (.tuple #[])) w10) ∧ (b9 = true → I1 (shlI IntKind.i64 n3 1) w10 ∧ M2 (shlI IntKind.i64 n3 1) w10 < M2 n3 w'4)) ∧ (bits BinOp.and IntKind.i64 n7 n3 = 0 → I1 (shlI IntKind.i64 n3 1) w'4 ∧ M2 (shlI IntKind.i64 n3 1) w'4 < M2 n3 w'4)) ∧ (4 < n3 → R (.returned (.tuple #[])) w'4)

set_option maxRecDepth 100000 in
theorem peach1_eq (l0 : Nat) (fv0 : Nat) (w : World) (R : Ending → World → Prop) : peach1_T l0 fv0 w R = vcFn Tryd.prog [] [] Tryd.f84 [.func (Fn.yield l0) #[] #[], .pointer (some ⟨fv0, 0, none⟩)] w R := by kernel_rfl

set_option maxRecDepth 100000 in
theorem peach1_vc (l0 : Nat) (fv0 : Nat) (w : World) (R : Ending → World → Prop) (h : peach1_T l0 fv0 w R) : Calls Tryd.prog 84 #[.func (Fn.yield l0) #[] #[], .pointer (some ⟨fv0, 0, none⟩)] w R :=
  calls_of_vc (args := [.func (Fn.yield l0) #[] #[], .pointer (some ⟨fv0, 0, none⟩)]) [] [] Tryd.mixed Tryd.func84 (cast (peach1_eq _ _ w R) h)

set_option maxRecDepth 100000 in
def pwhen_T (ok : Bool) (a : Int) (w : World) (R : Ending → World → Prop) : Prop :=
  (ok = true → R (.returned (.int .i64 a)) w) ∧ (ok = false → R (.returned (.int .i64 0)) w)

set_option maxRecDepth 100000 in
theorem pwhen_eq (ok : Bool) (a : Int) (w : World) (R : Ending → World → Prop) : pwhen_T ok a w R = vcFn Tryd.prog [] [] Tryd.f40 [.bool ok, .int .i64 a] w R := by kernel_rfl

set_option maxRecDepth 100000 in
theorem pwhen_vc (ok : Bool) (a : Int) (w : World) (R : Ending → World → Prop) (h : pwhen_T ok a w R) : Calls Tryd.prog 40 #[.bool ok, .int .i64 a] w R :=
  calls_of_vc (args := [.bool ok, .int .i64 a]) [] [] Tryd.mixed Tryd.func40 (cast (pwhen_eq _ _ w R) h)

set_option maxRecDepth 100000 in
def pright_T (t0_p : Option Addr) (t0_n : Nat) (t0_c : Nat) (t1_p : Option Addr) (t1_n : Nat) (t1_c : Nat) (t2 : Int) (c : Int) (w : World) (R : Ending → World → Prop) : Prop :=
  ∀ b1 w'2, New w (Obj.cells #[.slice t0_p t0_n t0_c, .slice t1_p t1_n t1_c, .int .i64 t2] 59) b1 w'2 → ∀ w'4, Drew w'2 w'4 → RL w'4 b1 1 fun p6 n7 c8 ↦ ∃ b9, ∃ o10, p6 = some ⟨b9, o10, none⟩ ∧ 0 ≤ c ∧ c < (↑n7 : Int) ∧ RI w'4 b9 (o10 + c.toNat * 7) fun n11 ↦ RI w'4 b9 (o10 + c.toNat * 7 + 1) fun n12 ↦ RI w'4 b9 (o10 + c.toNat * 7 + 2) fun n13 ↦ RS w'4 b9 (o10 + c.toNat * 7 + 3) fun s14 ↦ RI w'4 b9 (o10 + c.toNat * 7 + 4) fun n15 ↦ RI w'4 b9 (o10 + c.toNat * 7 + 5) fun n16 ↦ RS w'4 b9 (o10 + c.toNat * 7 + 6) fun s17 ↦ RL w'4 b1 0 fun p18 n19 c20 ↦ ∃ b21, ∃ o22, p18 = some ⟨b21, o22, none⟩ ∧ 0 ≤ c ∧ c < (↑n19 : Int) ∧ RS w'4 b21 (o22 + c.toNat * 3) fun s23 ↦ RI w'4 b21 (o22 + c.toNat * 3 + 1) fun n24 ↦ ∃ b25, w'4.cell? ⟨b21, (o22 + c.toNat * 3 + 2), none⟩ = some (.bool b25) ∧ (∀ b26 w'27, New w'4
 (Obj.cells
 #[.int .i64 0, .int .i64 0, .int .i64 0, .string ⟨#[]⟩, .int .i64 0, .int .i64 0, .string ⟨#[]⟩]
 50)
 b26 w'27 → SameTo w'4 w'4 w'27 ∧ ∀ b29 w'30, New w'27 (Obj.cells #[.string ⟨#[]⟩, .int .i64 0, .bool false] 48) b29 w'30 → SameTo w'4 w'27 w'30 ∧ CW w'30 b26 0 fun _ ↦ CW w'30 b26 1 fun _ ↦ CW w'30 b26 2 fun _ ↦ CW w'30 b26 3 fun _ ↦ CW w'30 b26 4 fun _ ↦ CW w'30 b26 5 fun _ ↦ CW w'30 b26 6 fun _ ↦ ∀ w'39, Put w'30 b26 0
 [.int .i64 n11, .int .i64 n12, .int .i64 n13, .string s14, .int .i64 n15, .int .i64 n16, .string s17]
 w'39 → SameTo w'4 w'30 w'39 ∧ CW w'39 b29 0 fun _ ↦ CW w'39 b29 1 fun _ ↦ CW w'39 b29 2 fun _ ↦ ∀ w'44, Put w'39 b29 0 [.string s23, .int .i64 n24, .bool b25] w'44 → RI w'44 b26 1 fun n46 ↦ RI w'44 b26 2 fun n47 ↦ RS w'44 b26 3 fun s48 ↦ Calls Tryd.prog 38 #[.agg #[.int .i64 n46, .int .i64 n47, .string s48]] w'44 fun e49 w50 ↦
 ∃ b51, e49 = .returned (.bool b51) ∧ (b51 = false → R (.returned (.bool false)) w50) ∧ (b51 = true → RI w50 b26 4 fun n54 ↦ RI w50 b26 5 fun n55 ↦ RS w50 b26 6 fun s56 ↦ Calls Tryd.prog 38 #[.agg #[.int .i64 n54, .int .i64 n55, .string s56]] w50 fun e57 w58 ↦
 ∃ b59, e57 = .returned (.bool b59) ∧ (b59 = false → R (.returned (.bool false)) w58) ∧ (b59 = true → RI w58 b26 0 fun n62 ↦ (n62 < 0 → R (.returned (.bool false)) w58) ∧ (0 ≤ n62 → RI w58 b26 0 fun n65 ↦ RI w58 b1 2 fun n66 ↦ (n66 < n65 → R (.returned (.bool false)) w58) ∧ (n65 ≤ n66 → RI w58 b26 0 fun n69 ↦ (0 < n69 → ∃ b71, w58.cell? ⟨b29, 2, none⟩ = some (.bool b71) ∧ (b71 = false → R (.returned (.bool false)) w58) ∧ (b71 = true → RI w58 b26 0 fun n74 ↦ RI w58 b1 2 fun n75 ↦ (n74 = n75 → RI w58 b26 0 fun n77 ↦ RI w58 b26 1 fun n78 ↦ RI w58 b26 2 fun n79 ↦ RS w58 b26 3 fun s80 ↦ RI w58 b26 4 fun n81 ↦ RI w58 b26 5 fun n82 ↦ RS w58 b26 6 fun s83 ↦ RI w58 b1 2 fun n84 ↦ R
 (.returned
 (Value.bool
 (decide (n77 = n84) &&
 (decide (n78 = Int.ofNat 0) && (decide (n79 = Int.ofNat 0) && sEq s80 ⟨#[]⟩) &&
 (decide (n81 = Int.ofNat 0) && (decide (n82 = Int.ofNat 0) && sEq s83 ⟨#[]⟩))))))
 w58) ∧ (n74 ≠ n75 → RI w58 b26 1 fun n86 ↦ RI w58 b29 1 fun n87 ↦ (n86 = n87 → RI w58 b26 4 fun n89 ↦ RI w58 b29 1 fun n90 ↦ (n89 = n90 → RI w58 b26 1 fun n92 ↦ RI w58 b26 2 fun n93 ↦ RS w58 b26 3 fun s94 ↦ RI w58 b26 4 fun n95 ↦ RI w58 b26 5 fun n96 ↦ RS w58 b26 6 fun s97 ↦ Calls Tryd.prog 39
 #[.agg #[.int .i64 n92, .int .i64 n93, .string s94], .agg #[.int .i64 n95, .int .i64 n96, .string s97]]
 w58 fun e98 w99 ↦ ∃ n100, e98 = .returned (.int .i64 n100) ∧ R (.returned (.bool (decide (n100 ≤ 0)))) w99) ∧ (n89 ≠ n90 → R (.returned (.bool false)) w58)) ∧ (n86 ≠ n87 → R (.returned (.bool false)) w58)))) ∧ (n69 ≤ 0 → RI w58 b26 0 fun n104 ↦ RI w58 b1 2 fun n105 ↦ (n104 = n105 → RI w58 b26 0 fun n107 ↦ RI w58 b26 1 fun n108 ↦ RI w58 b26 2 fun n109 ↦ RS w58 b26 3 fun s110 ↦ RI w58 b26 4 fun n111 ↦ RI w58 b26 5 fun n112 ↦ RS w58 b26 6 fun s113 ↦ RI w58 b1 2 fun n114 ↦ R
 (.returned
 (Value.bool
 (decide (n107 = n114) &&
 (decide (n108 = Int.ofNat 0) && (decide (n109 = Int.ofNat 0) && sEq s110 ⟨#[]⟩) &&
 (decide (n111 = Int.ofNat 0) && (decide (n112 = Int.ofNat 0) && sEq s113 ⟨#[]⟩))))))
 w58) ∧ (n104 ≠ n105 → RI w58 b26 1 fun n116 ↦ RI w58 b29 1 fun n117 ↦ (n116 = n117 → RI w58 b26 4 fun n119 ↦ RI w58 b29 1 fun n120 ↦ (n119 = n120 → RI w58 b26 1 fun n122 ↦ RI w58 b26 2 fun n123 ↦ RS w58 b26 3 fun s124 ↦ RI w58 b26 4 fun n125 ↦ RI w58 b26 5 fun n126 ↦ RS w58 b26 6 fun s127 ↦ Calls Tryd.prog 39
 #[.agg #[.int .i64 n122, .int .i64 n123, .string s124], .agg #[.int .i64 n125, .int .i64 n126, .string s127]]
 w58 fun e128 w129 ↦
 ∃ n130, e128 = .returned (.int .i64 n130) ∧ R (.returned (.bool (decide (n130 ≤ 0)))) w129) ∧ (n119 ≠ n120 → R (.returned (.bool false)) w58)) ∧ (n116 ≠ n117 → R (.returned (.bool false)) w58)))))))) ∧ ∀ b133 w'134, New w'4 (Obj.cells #[.string ⟨#[]⟩, .int .i64 0, .bool false] 48) b133 w'134 → SameTo w'4 w'4 w'134 ∧ ∀ b136 w'137, New w'134
 (Obj.cells
 #[.int .i64 0, .int .i64 0, .int .i64 0, .string ⟨#[]⟩, .int .i64 0, .int .i64 0, .string ⟨#[]⟩]
 50)
 b136 w'137 → SameTo w'4 w'134 w'137 ∧ CW w'137 b136 0 fun _ ↦ CW w'137 b136 1 fun _ ↦ CW w'137 b136 2 fun _ ↦ CW w'137 b136 3 fun _ ↦ CW w'137 b136 4 fun _ ↦ CW w'137 b136 5 fun _ ↦ CW w'137 b136 6 fun _ ↦ ∀ w'146, Put w'137 b136 0
 [.int .i64 n11, .int .i64 n12, .int .i64 n13, .string s14, .int .i64 n15, .int .i64 n16, .string s17]
 w'146 → SameTo w'4 w'137 w'146 ∧ CW w'146 b133 0 fun _ ↦ CW w'146 b133 1 fun _ ↦ CW w'146 b133 2 fun _ ↦ ∀ w'151, Put w'146 b133 0 [.string s23, .int .i64 n24, .bool b25] w'151 → RI w'151 b136 1 fun n153 ↦ RI w'151 b136 2 fun n154 ↦ RS w'151 b136 3 fun s155 ↦ Calls Tryd.prog 38 #[.agg #[.int .i64 n153, .int .i64 n154, .string s155]] w'151 fun e156 w157 ↦
 ∃ b158, e156 = .returned (.bool b158) ∧ (b158 = false → R (.returned (.bool false)) w157) ∧ (b158 = true → RI w157 b136 4 fun n161 ↦ RI w157 b136 5 fun n162 ↦ RS w157 b136 6 fun s163 ↦ Calls Tryd.prog 38 #[.agg #[.int .i64 n161, .int .i64 n162, .string s163]] w157 fun e164 w165 ↦
 ∃ b166, e164 = .returned (.bool b166) ∧ (b166 = false → R (.returned (.bool false)) w165) ∧ (b166 = true → RI w165 b136 0 fun n169 ↦ (n169 < 0 → R (.returned (.bool false)) w165) ∧ (0 ≤ n169 → RI w165 b136 0 fun n172 ↦ RI w165 b1 2 fun n173 ↦ (n173 < n172 → R (.returned (.bool false)) w165) ∧ (n172 ≤ n173 → RI w165 b136 0 fun n176 ↦ (0 < n176 → ∃ b178, w165.cell? ⟨b133, 2, none⟩ = some (.bool b178) ∧ (b178 = false → R (.returned (.bool false)) w165) ∧ (b178 = true → RI w165 b136 0 fun n181 ↦ RI w165 b1 2 fun n182 ↦ (n181 = n182 → RI w165 b136 0 fun n184 ↦ RI w165 b136 1 fun n185 ↦ RI w165 b136 2 fun n186 ↦ RS w165 b136 3 fun s187 ↦ RI w165 b136 4 fun n188 ↦ RI w165 b136 5 fun n189 ↦ RS w165 b136 6 fun s190 ↦ RI w165 b1 2 fun n191 ↦ R
 (.returned
 (Value.bool
 (decide (n184 = n191) &&
 (decide (n185 = Int.ofNat 0) && (decide (n186 = Int.ofNat 0) && sEq s187 ⟨#[]⟩) &&
 (decide (n188 = Int.ofNat 0) && (decide (n189 = Int.ofNat 0) && sEq s190 ⟨#[]⟩))))))
 w165) ∧ (n181 ≠ n182 → RI w165 b136 1 fun n193 ↦ RI w165 b133 1 fun n194 ↦ (n193 = n194 → RI w165 b136 4 fun n196 ↦ RI w165 b133 1 fun n197 ↦ (n196 = n197 → RI w165 b136 1 fun n199 ↦ RI w165 b136 2 fun n200 ↦ RS w165 b136 3 fun s201 ↦ RI w165 b136 4 fun n202 ↦ RI w165 b136 5 fun n203 ↦ RS w165 b136 6 fun s204 ↦ Calls Tryd.prog 39
 #[.agg #[.int .i64 n199, .int .i64 n200, .string s201], .agg #[.int .i64 n202, .int .i64 n203, .string s204]]
 w165 fun e205 w206 ↦
 ∃ n207, e205 = .returned (.int .i64 n207) ∧ R (.returned (.bool (decide (n207 ≤ 0)))) w206) ∧ (n196 ≠ n197 → R (.returned (.bool false)) w165)) ∧ (n193 ≠ n194 → R (.returned (.bool false)) w165)))) ∧ (n176 ≤ 0 → RI w165 b136 0 fun n211 ↦ RI w165 b1 2 fun n212 ↦ (n211 = n212 → RI w165 b136 0 fun n214 ↦ RI w165 b136 1 fun n215 ↦ RI w165 b136 2 fun n216 ↦ RS w165 b136 3 fun s217 ↦ RI w165 b136 4 fun n218 ↦ RI w165 b136 5 fun n219 ↦ RS w165 b136 6 fun s220 ↦ RI w165 b1 2 fun n221 ↦ R
 (.returned
 (Value.bool
 (decide (n214 = n221) &&
 (decide (n215 = Int.ofNat 0) && (decide (n216 = Int.ofNat 0) && sEq s217 ⟨#[]⟩) &&
 (decide (n218 = Int.ofNat 0) && (decide (n219 = Int.ofNat 0) && sEq s220 ⟨#[]⟩))))))
 w165) ∧ (n211 ≠ n212 → RI w165 b136 1 fun n223 ↦ RI w165 b133 1 fun n224 ↦ (n223 = n224 → RI w165 b136 4 fun n226 ↦ RI w165 b133 1 fun n227 ↦ (n226 = n227 → RI w165 b136 1 fun n229 ↦ RI w165 b136 2 fun n230 ↦ RS w165 b136 3 fun s231 ↦ RI w165 b136 4 fun n232 ↦ RI w165 b136 5 fun n233 ↦ RS w165 b136 6 fun s234 ↦ Calls Tryd.prog 39
 #[.agg #[.int .i64 n229, .int .i64 n230, .string s231], .agg #[.int .i64 n232, .int .i64 n233, .string s234]]
 w165 fun e235 w236 ↦
 ∃ n237, e235 = .returned (.int .i64 n237) ∧ R (.returned (.bool (decide (n237 ≤ 0)))) w236) ∧ (n226 ≠ n227 → R (.returned (.bool false)) w165)) ∧ (n223 ≠ n224 → R (.returned (.bool false)) w165)))))))

set_option maxRecDepth 100000 in
theorem pright_eq (t0_p : Option Addr) (t0_n : Nat) (t0_c : Nat) (t1_p : Option Addr) (t1_n : Nat) (t1_c : Nat) (t2 : Int) (c : Int) (w : World) (R : Ending → World → Prop) : pright_T t0_p t0_n t0_c t1_p t1_n t1_c t2 c w R = vcFn Tryd.prog [] [(1, [2, 4, 6, 8, 10, 12, 14, 16, 18, 20, 1, 23, 25, 27, 28, 0, 25, 23, 27, 28, 0])] Tryd.f22 [.agg #[.slice t0_p t0_n t0_c, .slice t1_p t1_n t1_c, .int .i64 t2], .int .i64 c] w R := by kernel_rfl

set_option maxRecDepth 100000 in
theorem pright_vc (t0_p : Option Addr) (t0_n : Nat) (t0_c : Nat) (t1_p : Option Addr) (t1_n : Nat) (t1_c : Nat) (t2 : Int) (c : Int) (w : World) (R : Ending → World → Prop) (h : pright_T t0_p t0_n t0_c t1_p t1_n t1_c t2 c w R) : Calls Tryd.prog 22 #[.agg #[.slice t0_p t0_n t0_c, .slice t1_p t1_n t1_c, .int .i64 t2], .int .i64 c] w R :=
  calls_of_vc (args := [.agg #[.slice t0_p t0_n t0_c, .slice t1_p t1_n t1_c, .int .i64 t2], .int .i64 c]) [] [(1, [2, 4, 6, 8, 10, 12, 14, 16, 18, 20, 1, 23, 25, 27, 28, 0, 25, 23, 27, 28, 0])] Tryd.mixed Tryd.func22 (cast (pright_eq _ _ _ _ _ _ _ _ w R) h)

set_option maxRecDepth 100000 in
def pside_T (t0_p : Option Addr) (t0_n : Nat) (t0_c : Nat) (t1_p : Option Addr) (t1_n : Nat) (t1_c : Nat) (t2 : Int) (x0 : Int) (x1 : ByteArray) (x2 : Int) (x3 : Int) (x4 : ByteArray) (x5_p : Option Addr) (x5_n : Nat) (x5_c : Nat) (w : World) (R : Ending → World → Prop) : Prop :=
  ∀ b1 w'2, New w (Obj.cells #[.slice t0_p t0_n t0_c, .slice t1_p t1_n t1_c, .int .i64 t2] 59) b1 w'2 → ∀ b4 w'5, New w'2 (Obj.cells #[.int .i64 x0, .string x1, .int .i64 x2, .int .i64 x3, .string x4, .slice x5_p x5_n x5_c] 28) b4
 w'5 → ∀ b7 w'8, New w'5
 (Obj.cells
 #[.int .i64 0, .int .i64 0, .string ⟨#[]⟩, .int .i64 0, .int .i64 0, .string ⟨#[]⟩, .int .i64 0, .int .i64 0]
 72)
 b7 w'8 → RI w'8 b4 0 fun n10 ↦ (n10 = 2 → RI w'8 b4 2 fun n12 ↦ RI w'8 b4 3 fun n13 ↦ RS w'8 b4 4 fun s14 ↦ RI w'8 b4 2 fun n15 ↦ RI w'8 b4 3 fun n16 ↦ RS w'8 b4 4 fun s17 ↦ ∀ b18 w'19, New w'8
 (Obj.cells
 #[.int .i64 0, .int .i64 0, .string ⟨#[]⟩, .int .i64 0, .int .i64 0, .string ⟨#[]⟩, .int .i64 0, .int .i64 0]
 72)
 b18 w'19 → CW w'19 b18 0 fun _ ↦ CW w'19 b18 1 fun _ ↦ CW w'19 b18 2 fun _ ↦ CW w'19 b18 3 fun _ ↦ CW w'19 b18 4 fun _ ↦ CW w'19 b18 5 fun _ ↦ CW w'19 b18 6 fun _ ↦ CW w'19 b18 7 fun _ ↦ ∀ w'29, Put w'19 b18 0
 [.int .i64 n12, .int .i64 n13, .string s14, .int .i64 n15, .int .i64 n16, .string s17, .int .i64 0, .int .i64 1]
 w'29 → RI w'29 b4 2 fun n31 ↦ RI w'29 b4 3 fun n32 ↦ RS w'29 b4 4 fun s33 ↦ (n31 = 0 ∧ n32 = 0 ∧ s33 = ByteArray.mk #[] → CW w'29 b18 6 fun _ ↦ ∀ w'36, Put w'29 b18 6 [.int .i64 1] w'36 → RI w'36 b18 0 fun n38 ↦ RI w'36 b18 1 fun n39 ↦ RS w'36 b18 2 fun s40 ↦ RI w'36 b18 3 fun n41 ↦ RI w'36 b18 4 fun n42 ↦ RS w'36 b18 5 fun s43 ↦ RI w'36 b18 6 fun n44 ↦ RI w'36 b18 7 fun n45 ↦ CW w'36 b7 0 fun _ ↦ CW w'36 b7 1 fun _ ↦ CW w'36 b7 2 fun _ ↦ CW w'36 b7 3 fun _ ↦ CW w'36 b7 4 fun _ ↦ CW w'36 b7 5 fun _ ↦ CW w'36 b7 6 fun _ ↦ CW w'36 b7 7 fun _ ↦ ∀ w'54, Put w'36 b7 0
 [.int .i64 n38, .int .i64 n39, .string s40, .int .i64 n41, .int .i64 n42, .string s43, .int .i64 n44, .int .i64 n45]
 w'54 → RI w'54 b7 0 fun n56 ↦ RI w'54 b7 1 fun n57 ↦ RS w'54 b7 2 fun s58 ↦ RI w'54 b7 3 fun n59 ↦ RI w'54 b7 4 fun n60 ↦ RS w'54 b7 5 fun s61 ↦ RI w'54 b7 6 fun n62 ↦ RI w'54 b7 7 fun n63 ↦ R
 (.returned
 (Value.tuple
 #[Value.agg
 #[.int .i64 n56, .int .i64 n57, .string s58, .int .i64 n59, .int .i64 n60, .string s61, .int .i64 n62, .int .i64 n63], .bool true]))
 w'54) ∧ (n31 ≠ 0 ∨ n32 ≠ 0 ∨ s33 ≠ ByteArray.mk #[] → RI w'29 b18 0 fun n65 ↦ RI w'29 b18 1 fun n66 ↦ RS w'29 b18 2 fun s67 ↦ RI w'29 b18 3 fun n68 ↦ RI w'29 b18 4 fun n69 ↦ RS w'29 b18 5 fun s70 ↦ RI w'29 b18 6 fun n71 ↦ RI w'29 b18 7 fun n72 ↦ CW w'29 b7 0 fun _ ↦ CW w'29 b7 1 fun _ ↦ CW w'29 b7 2 fun _ ↦ CW w'29 b7 3 fun _ ↦ CW w'29 b7 4 fun _ ↦ CW w'29 b7 5 fun _ ↦ CW w'29 b7 6 fun _ ↦ CW w'29 b7 7 fun _ ↦ ∀ w'81, Put w'29 b7 0
 [.int .i64 n65, .int .i64 n66, .string s67, .int .i64 n68, .int .i64 n69, .string s70, .int .i64 n71, .int .i64 n72]
 w'81 → RI w'81 b7 0 fun n83 ↦ RI w'81 b7 1 fun n84 ↦ RS w'81 b7 2 fun s85 ↦ RI w'81 b7 3 fun n86 ↦ RI w'81 b7 4 fun n87 ↦ RS w'81 b7 5 fun s88 ↦ RI w'81 b7 6 fun n89 ↦ RI w'81 b7 7 fun n90 ↦ R
 (.returned
 (Value.tuple
 #[Value.agg
 #[.int .i64 n83, .int .i64 n84, .string s85, .int .i64 n86, .int .i64 n87, .string s88, .int .i64 n89, .int .i64 n90], .bool true]))
 w'81)) ∧ (n10 ≠ 2 → (n10 = 1 → ∀ w'93, Drew w'8 w'93 → RL w'93 b1 1 fun p95 n96 c97 ↦ RL w'93 b1 0 fun p98 n99 c100 ↦ RS w'93 b4 1 fun s101 ↦ (Calls Tryd.prog 54 #[.slice p98 n99 c100, .string s101] w'93 fun e102 w103 ↦
 ∃ n104, e102 = .returned (.int .i64 n104) ∧ SameTo w'93 w'93 w103 ∧ ∃ b105, ∃ o106, p95 = some ⟨b105, o106, none⟩ ∧ 0 ≤ n104 ∧ n104 < (↑n96 : Int) ∧ RI w103 b105 (o106 + n104.toNat * 7) fun n107 ↦ RI w103 b105 (o106 + n104.toNat * 7 + 1) fun n108 ↦ RI w103 b105 (o106 + n104.toNat * 7 + 2) fun n109 ↦ RS w103 b105 (o106 + n104.toNat * 7 + 3) fun s110 ↦ RI w103 b105 (o106 + n104.toNat * 7 + 4) fun n111 ↦ RI w103 b105 (o106 + n104.toNat * 7 + 5) fun n112 ↦ RS w103 b105 (o106 + n104.toNat * 7 + 6) fun s113 ↦ ∀ b114 w'115, New w103
 (Obj.cells
 #[.int .i64 0, .int .i64 0, .int .i64 0, .string ⟨#[]⟩, .int .i64 0, .int .i64 0, .string ⟨#[]⟩]
 50)
 b114 w'115 → SameTo w103 w103 w'115 ∧ CW w'115 b114 0 fun _ ↦ CW w'115 b114 1 fun _ ↦ CW w'115 b114 2 fun _ ↦ CW w'115 b114 3 fun _ ↦ CW w'115 b114 4 fun _ ↦ CW w'115 b114 5 fun _ ↦ CW w'115 b114 6 fun _ ↦ ∀ w'124, Put w'115 b114 0
 [.int .i64 n107, .int .i64 n108, .int .i64 n109, .string s110, .int .i64 n111, .int .i64 n112, .string s113]
 w'124 → RI w'124 b114 1 fun n126 ↦ RI w'124 b114 2 fun n127 ↦ RS w'124 b114 3 fun s128 ↦ RI w'124 b114 4 fun n129 ↦ RI w'124 b114 5 fun n130 ↦ RS w'124 b114 6 fun s131 ↦ RI w'124 b114 0 fun n132 ↦ RI w'124 b1 2 fun n133 ↦ CW w'124 b7 0 fun _ ↦ CW w'124 b7 1 fun _ ↦ CW w'124 b7 2 fun _ ↦ CW w'124 b7 3 fun _ ↦ CW w'124 b7 4 fun _ ↦ CW w'124 b7 5 fun _ ↦ CW w'124 b7 6 fun _ ↦ CW w'124 b7 7 fun _ ↦ ∀ w'142, Put w'124 b7 0
 [.int .i64 n126, .int .i64 n127, .string s128, .int .i64 n129, .int .i64 n130, .string s131, .int .i64 n132, .int .i64 n133]
 w'142 → RI w'142 b7 0 fun n144 ↦ RI w'142 b7 1 fun n145 ↦ RS w'142 b7 2 fun s146 ↦ RI w'142 b7 3 fun n147 ↦ RI w'142 b7 4 fun n148 ↦ RS w'142 b7 5 fun s149 ↦ RI w'142 b7 6 fun n150 ↦ RI w'142 b7 7 fun n151 ↦ R
 (.returned
 (Value.tuple
 #[Value.agg
 #[.int .i64 n144, .int .i64 n145, .string s146, .int .i64 n147, .int .i64 n148, .string s149, .int .i64 n150, .int .i64 n151], .bool true]))
 w'142) ∧ ∀ b152 w'153, New w'93
 (Obj.cells
 #[.int .i64 0, .int .i64 0, .int .i64 0, .string ⟨#[]⟩, .int .i64 0, .int .i64 0, .string ⟨#[]⟩]
 50)
 b152 w'153 → SameTo w'93 w'93 w'153 ∧ Calls Tryd.prog 54 #[.slice p98 n99 c100, .string s101] w'153 fun e155 w156 ↦
 ∃ n157, e155 = .returned (.int .i64 n157) ∧ SameTo w'93 w'153 w156 ∧ ∃ b158, ∃ o159, p95 = some ⟨b158, o159, none⟩ ∧ 0 ≤ n157 ∧ n157 < (↑n96 : Int) ∧ RI w156 b158 (o159 + n157.toNat * 7) fun n160 ↦ RI w156 b158 (o159 + n157.toNat * 7 + 1) fun n161 ↦ RI w156 b158 (o159 + n157.toNat * 7 + 2) fun n162 ↦ RS w156 b158 (o159 + n157.toNat * 7 + 3) fun s163 ↦ RI w156 b158 (o159 + n157.toNat * 7 + 4) fun n164 ↦ RI w156 b158 (o159 + n157.toNat * 7 + 5) fun n165 ↦ RS w156 b158 (o159 + n157.toNat * 7 + 6) fun s166 ↦ CW w156 b152 0 fun _ ↦ CW w156 b152 1 fun _ ↦ CW w156 b152 2 fun _ ↦ CW w156 b152 3 fun _ ↦ CW w156 b152 4 fun _ ↦ CW w156 b152 5 fun _ ↦ CW w156 b152 6 fun _ ↦ ∀ w'174, Put w156 b152 0
 [.int .i64 n160, .int .i64 n161, .int .i64 n162, .string s163, .int .i64 n164, .int .i64 n165, .string s166]
 w'174 → RI w'174 b152 1 fun n176 ↦ RI w'174 b152 2 fun n177 ↦ RS w'174 b152 3 fun s178 ↦ RI w'174 b152 4 fun n179 ↦ RI w'174 b152 5 fun n180 ↦ RS w'174 b152 6 fun s181 ↦ RI w'174 b152 0 fun n182 ↦ RI w'174 b1 2 fun n183 ↦ CW w'174 b7 0 fun _ ↦ CW w'174 b7 1 fun _ ↦ CW w'174 b7 2 fun _ ↦ CW w'174 b7 3 fun _ ↦ CW w'174 b7 4 fun _ ↦ CW w'174 b7 5 fun _ ↦ CW w'174 b7 6 fun _ ↦ CW w'174 b7 7 fun _ ↦ ∀ w'192, Put w'174 b7 0
 [.int .i64 n176, .int .i64 n177, .string s178, .int .i64 n179, .int .i64 n180, .string s181, .int .i64 n182, .int .i64 n183]
 w'192 → RI w'192 b7 0 fun n194 ↦ RI w'192 b7 1 fun n195 ↦ RS w'192 b7 2 fun s196 ↦ RI w'192 b7 3 fun n197 ↦ RI w'192 b7 4 fun n198 ↦ RS w'192 b7 5 fun s199 ↦ RI w'192 b7 6 fun n200 ↦ RI w'192 b7 7 fun n201 ↦ R
 (.returned
 (Value.tuple
 #[Value.agg
 #[.int .i64 n194, .int .i64 n195, .string s196, .int .i64 n197, .int .i64 n198, .string s199, .int .i64 n200, .int .i64 n201], .bool true]))
 w'192) ∧ (n10 ≠ 1 → CW w'8 b7 0 fun _ ↦ CW w'8 b7 1 fun _ ↦ CW w'8 b7 2 fun _ ↦ CW w'8 b7 3 fun _ ↦ CW w'8 b7 4 fun _ ↦ CW w'8 b7 5 fun _ ↦ CW w'8 b7 6 fun _ ↦ CW w'8 b7 7 fun _ ↦ ∀ w'211, Put w'8 b7 0
 [.int .i64 0, .int .i64 0, .string ⟨#[]⟩, .int .i64 0, .int .i64 0, .string ⟨#[]⟩, .int .i64 0, .int .i64 0]
 w'211 → RI w'211 b7 0 fun n213 ↦ RI w'211 b7 1 fun n214 ↦ RS w'211 b7 2 fun s215 ↦ RI w'211 b7 3 fun n216 ↦ RI w'211 b7 4 fun n217 ↦ RS w'211 b7 5 fun s218 ↦ RI w'211 b7 6 fun n219 ↦ RI w'211 b7 7 fun n220 ↦ R
 (.returned
 (Value.tuple
 #[Value.agg
 #[.int .i64 n213, .int .i64 n214, .string s215, .int .i64 n216, .int .i64 n217, .string s218, .int .i64 n219, .int .i64 n220], .bool false]))
 w'211))

set_option maxRecDepth 100000 in
theorem pside_eq (t0_p : Option Addr) (t0_n : Nat) (t0_c : Nat) (t1_p : Option Addr) (t1_n : Nat) (t1_c : Nat) (t2 : Int) (x0 : Int) (x1 : ByteArray) (x2 : Int) (x3 : Int) (x4 : ByteArray) (x5_p : Option Addr) (x5_n : Nat) (x5_c : Nat) (w : World) (R : Ending → World → Prop) : pside_T t0_p t0_n t0_c t1_p t1_n t1_c t2 x0 x1 x2 x3 x4 x5_p x5_n x5_c w R = vcFn Tryd.prog [] [(8, [2, 4, 6, 8, 10, 12, 1, 15, 16, 18, 21, 22, 0, 21, 15, 16, 18, 22, 0])] Tryd.f41 [.agg #[.slice t0_p t0_n t0_c, .slice t1_p t1_n t1_c, .int .i64 t2], Value.agg
 #[.int .i64 x0, .string x1, .int .i64 x2, .int .i64 x3, .string x4, .slice x5_p x5_n x5_c]] w R := by kernel_rfl

set_option maxRecDepth 100000 in
theorem pside_vc (t0_p : Option Addr) (t0_n : Nat) (t0_c : Nat) (t1_p : Option Addr) (t1_n : Nat) (t1_c : Nat) (t2 : Int) (x0 : Int) (x1 : ByteArray) (x2 : Int) (x3 : Int) (x4 : ByteArray) (x5_p : Option Addr) (x5_n : Nat) (x5_c : Nat) (w : World) (R : Ending → World → Prop) (h : pside_T t0_p t0_n t0_c t1_p t1_n t1_c t2 x0 x1 x2 x3 x4 x5_p x5_n x5_c w R) : Calls Tryd.prog 41 #[.agg #[.slice t0_p t0_n t0_c, .slice t1_p t1_n t1_c, .int .i64 t2], Value.agg
 #[.int .i64 x0, .string x1, .int .i64 x2, .int .i64 x3, .string x4, .slice x5_p x5_n x5_c]] w R :=
  calls_of_vc (args := [.agg #[.slice t0_p t0_n t0_c, .slice t1_p t1_n t1_c, .int .i64 t2], Value.agg
 #[.int .i64 x0, .string x1, .int .i64 x2, .int .i64 x3, .string x4, .slice x5_p x5_n x5_c]]) [] [(8, [2, 4, 6, 8, 10, 12, 1, 15, 16, 18, 21, 22, 0, 21, 15, 16, 18, 22, 0])] Tryd.mixed Tryd.func41 (cast (pside_eq _ _ _ _ _ _ _ _ _ _ _ _ _ _ _ w R) h)

set_option maxRecDepth 100000 in
def pcompared_T (op : Int) (a0 : Int) (a1 : Int) (a2 : ByteArray) (a3 : Int) (a4 : Int) (a5 : ByteArray) (a6 : Int) (a7 : Int) (b0 : Int) (b1 : Int) (b2 : ByteArray) (b3 : Int) (b4 : Int) (b5 : ByteArray) (b6 : Int) (b7 : Int) (w : World) (R : Ending → World → Prop) : Prop :=
  ∀ b1_1 w'2, New w
 (Obj.cells
 #[.int .i64 a0, .int .i64 a1, .string a2, .int .i64 a3, .int .i64 a4, .string a5, .int .i64 a6, .int .i64 a7]
 72)
 b1_1 w'2 → ∀ b4_1 w'5, New w'2
 (Obj.cells
 #[.int .i64 b0, .int .i64 b1, .string b2, .int .i64 b3, .int .i64 b4, .string b5, .int .i64 b6, .int .i64 b7]
 72)
 b4_1 w'5 → RI w'5 b1_1 6 fun n7 ↦ (0 < n7 → Calls Tryd.prog 40 #[.bool true, .int .i64 4] w'5 fun e9 w10 ↦
 ∃ n11, e9 = .returned (.int .i64 n11) ∧ RI w10 b1_1 6 fun n12 ↦ RI w10 b1_1 7 fun n13 ↦ (n12 = n13 → R (.returned (.int .i64 n11)) w10) ∧ (n12 ≠ n13 → RI w10 b4_1 6 fun n16 ↦ RI w10 b4_1 7 fun n17 ↦ (n16 = n17 → R (.returned (.int .i64 n11)) w10) ∧ (n16 ≠ n17 → ∀ w'20, Drew w10 w'20 → RI w'20 b1_1 0 fun n22 ↦ RI w'20 b1_1 1 fun n23 ↦ RS w'20 b1_1 2 fun s24 ↦ RI w'20 b4_1 3 fun n25 ↦ RI w'20 b4_1 4 fun n26 ↦ RS w'20 b4_1 5 fun s27 ↦ RI w'20 b1_1 3 fun n28 ↦ RI w'20 b1_1 4 fun n29 ↦ RS w'20 b1_1 5 fun s30 ↦ RI w'20 b4_1 0 fun n31 ↦ RI w'20 b4_1 1 fun n32 ↦ RS w'20 b4_1 2 fun s33 ↦ Calls Tryd.prog 39
 #[.agg #[.int .i64 n22, .int .i64 n23, .string s24], .agg #[.int .i64 n25, .int .i64 n26, .string s27]]
 w'20 fun e34 w35 ↦
 ∃ n36, e34 = .returned (.int .i64 n36) ∧ SameTo w'20 w'20 w35 ∧ Calls Tryd.prog 39
 #[.agg #[.int .i64 n28, .int .i64 n29, .string s30], .agg #[.int .i64 n31, .int .i64 n32, .string s33]]
 w35 fun e37 w38 ↦
 ∃ n39, e37 = .returned (.int .i64 n39) ∧ (op = 9 → Calls Tryd.prog 40 #[.bool (decide (n36 ≤ 0) && decide (0 ≤ n39)), .int .i64 2] w38 fun e41 w42 ↦
 ∃ n43, e41 = .returned (.int .i64 n43) ∧ Calls Tryd.prog 40 #[.bool (!decide (n36 = 0) || !decide (n39 = 0)), .int .i64 1] w42 fun e44 w45 ↦
 ∃ n46, e44 = .returned (.int .i64 n46) ∧ R (.returned (.int .i64 (bits BinOp.or IntKind.i64 (bits BinOp.or IntKind.i64 n11 n43) n46))) w45) ∧ (op ≠ 9 → (op = 10 → Calls Tryd.prog 40 #[.bool (decide (n36 < 0)), .int .i64 2] w38 fun e49 w50 ↦
 ∃ n51, e49 = .returned (.int .i64 n51) ∧ Calls Tryd.prog 40 #[.bool (decide (0 ≤ n39)), .int .i64 1] w50 fun e52 w53 ↦
 ∃ n54, e52 = .returned (.int .i64 n54) ∧ R (.returned (.int .i64 (bits BinOp.or IntKind.i64 (bits BinOp.or IntKind.i64 n11 n51) n54))) w53) ∧ (op ≠ 10 → Calls Tryd.prog 40 #[.bool (decide (n36 ≤ 0)), .int .i64 2] w38 fun e56 w57 ↦
 ∃ n58, e56 = .returned (.int .i64 n58) ∧ Calls Tryd.prog 40 #[.bool (decide (0 < n39)), .int .i64 1] w57 fun e59 w60 ↦
 ∃ n61, e59 = .returned (.int .i64 n61) ∧ R (.returned (.int .i64 (bits BinOp.or IntKind.i64 (bits BinOp.or IntKind.i64 n11 n58) n61))) w60))))) ∧ (n7 ≤ 0 → RI w'5 b4_1 6 fun n63 ↦ Calls Tryd.prog 40 #[.bool (decide (0 < n63)), .int .i64 4] w'5 fun e64 w65 ↦
 ∃ n66, e64 = .returned (.int .i64 n66) ∧ RI w65 b1_1 6 fun n67 ↦ RI w65 b1_1 7 fun n68 ↦ (n67 = n68 → R (.returned (.int .i64 n66)) w65) ∧ (n67 ≠ n68 → RI w65 b4_1 6 fun n71 ↦ RI w65 b4_1 7 fun n72 ↦ (n71 = n72 → R (.returned (.int .i64 n66)) w65) ∧ (n71 ≠ n72 → ∀ w'75, Drew w65 w'75 → RI w'75 b1_1 0 fun n77 ↦ RI w'75 b1_1 1 fun n78 ↦ RS w'75 b1_1 2 fun s79 ↦ RI w'75 b4_1 3 fun n80 ↦ RI w'75 b4_1 4 fun n81 ↦ RS w'75 b4_1 5 fun s82 ↦ RI w'75 b1_1 3 fun n83 ↦ RI w'75 b1_1 4 fun n84 ↦ RS w'75 b1_1 5 fun s85 ↦ RI w'75 b4_1 0 fun n86 ↦ RI w'75 b4_1 1 fun n87 ↦ RS w'75 b4_1 2 fun s88 ↦ Calls Tryd.prog 39
 #[.agg #[.int .i64 n77, .int .i64 n78, .string s79], .agg #[.int .i64 n80, .int .i64 n81, .string s82]]
 w'75 fun e89 w90 ↦
 ∃ n91, e89 = .returned (.int .i64 n91) ∧ SameTo w'75 w'75 w90 ∧ Calls Tryd.prog 39
 #[.agg #[.int .i64 n83, .int .i64 n84, .string s85], .agg #[.int .i64 n86, .int .i64 n87, .string s88]]
 w90 fun e92 w93 ↦
 ∃ n94, e92 = .returned (.int .i64 n94) ∧ (op = 9 → Calls Tryd.prog 40 #[.bool (decide (n91 ≤ 0) && decide (0 ≤ n94)), .int .i64 2] w93 fun e96 w97 ↦
 ∃ n98, e96 = .returned (.int .i64 n98) ∧ Calls Tryd.prog 40 #[.bool (!decide (n91 = 0) || !decide (n94 = 0)), .int .i64 1] w97 fun e99 w100 ↦
 ∃ n101, e99 = .returned (.int .i64 n101) ∧ R (.returned (.int .i64 (bits BinOp.or IntKind.i64 (bits BinOp.or IntKind.i64 n66 n98) n101))) w100) ∧ (op ≠ 9 → (op = 10 → Calls Tryd.prog 40 #[.bool (decide (n91 < 0)), .int .i64 2] w93 fun e104 w105 ↦
 ∃ n106, e104 = .returned (.int .i64 n106) ∧ Calls Tryd.prog 40 #[.bool (decide (0 ≤ n94)), .int .i64 1] w105 fun e107 w108 ↦
 ∃ n109, e107 = .returned (.int .i64 n109) ∧ R (.returned (.int .i64 (bits BinOp.or IntKind.i64 (bits BinOp.or IntKind.i64 n66 n106) n109))) w108) ∧ (op ≠ 10 → Calls Tryd.prog 40 #[.bool (decide (n91 ≤ 0)), .int .i64 2] w93 fun e111 w112 ↦
 ∃ n113, e111 = .returned (.int .i64 n113) ∧ Calls Tryd.prog 40 #[.bool (decide (0 < n94)), .int .i64 1] w112 fun e114 w115 ↦
 ∃ n116, e114 = .returned (.int .i64 n116) ∧ R (.returned (.int .i64 (bits BinOp.or IntKind.i64 (bits BinOp.or IntKind.i64 n66 n113) n116))) w115)))))

set_option maxRecDepth 100000 in
theorem pcompared_eq (op : Int) (a0 : Int) (a1 : Int) (a2 : ByteArray) (a3 : Int) (a4 : Int) (a5 : ByteArray) (a6 : Int) (a7 : Int) (b0 : Int) (b1 : Int) (b2 : ByteArray) (b3 : Int) (b4 : Int) (b5 : ByteArray) (b6 : Int) (b7 : Int) (w : World) (R : Ending → World → Prop) : pcompared_T op a0 a1 a2 a3 a4 a5 a6 a7 b0 b1 b2 b3 b4 b5 b6 b7 w R = vcFn Tryd.prog [] [(4, [2, 4, 6, 8, 12, 14, 16, 18, 11, 20, 22, 24, 0])] Tryd.f44 [.int .i64 op, Value.agg
 #[.int .i64 a0, .int .i64 a1, .string a2, .int .i64 a3, .int .i64 a4, .string a5, .int .i64 a6, .int .i64 a7], Value.agg
 #[.int .i64 b0, .int .i64 b1, .string b2, .int .i64 b3, .int .i64 b4, .string b5, .int .i64 b6, .int .i64 b7]] w R := by kernel_rfl

set_option maxRecDepth 100000 in
theorem pcompared_vc (op : Int) (a0 : Int) (a1 : Int) (a2 : ByteArray) (a3 : Int) (a4 : Int) (a5 : ByteArray) (a6 : Int) (a7 : Int) (b0 : Int) (b1 : Int) (b2 : ByteArray) (b3 : Int) (b4 : Int) (b5 : ByteArray) (b6 : Int) (b7 : Int) (w : World) (R : Ending → World → Prop) (h : pcompared_T op a0 a1 a2 a3 a4 a5 a6 a7 b0 b1 b2 b3 b4 b5 b6 b7 w R) : Calls Tryd.prog 44 #[.int .i64 op, Value.agg
 #[.int .i64 a0, .int .i64 a1, .string a2, .int .i64 a3, .int .i64 a4, .string a5, .int .i64 a6, .int .i64 a7], Value.agg
 #[.int .i64 b0, .int .i64 b1, .string b2, .int .i64 b3, .int .i64 b4, .string b5, .int .i64 b6, .int .i64 b7]] w R :=
  calls_of_vc (args := [.int .i64 op, Value.agg
 #[.int .i64 a0, .int .i64 a1, .string a2, .int .i64 a3, .int .i64 a4, .string a5, .int .i64 a6, .int .i64 a7], Value.agg
 #[.int .i64 b0, .int .i64 b1, .string b2, .int .i64 b3, .int .i64 b4, .string b5, .int .i64 b6, .int .i64 b7]]) [] [(4, [2, 4, 6, 8, 12, 14, 16, 18, 11, 20, 22, 24, 0])] Tryd.mixed Tryd.func44 (cast (pcompared_eq _ _ _ _ _ _ _ _ _ _ _ _ _ _ _ _ _ w R) h)

set_option maxRecDepth 100000 in
def pand_T (a : Int) (b : Int) (w : World) (R : Ending → World → Prop) : Prop :=
  (a = 1 ∨ b = 1 → R (.returned (.int .i64 1)) w) ∧ (a ≠ 1 ∧ b ≠ 1 → (a = 4 ∨ b = 4 → R (.returned (.int .i64 4)) w) ∧ (a ≠ 4 ∧ b ≠ 4 → R (.returned (.int .i64 2)) w))

set_option maxRecDepth 100000 in
theorem pand_eq (a : Int) (b : Int) (w : World) (R : Ending → World → Prop) : pand_T a b w R = vcFn Tryd.prog [] [] Tryd.f66 [.int .i64 a, .int .i64 b] w R := by kernel_rfl

set_option maxRecDepth 100000 in
theorem pand_vc (a : Int) (b : Int) (w : World) (R : Ending → World → Prop) (h : pand_T a b w R) : Calls Tryd.prog 66 #[.int .i64 a, .int .i64 b] w R :=
  calls_of_vc (args := [.int .i64 a, .int .i64 b]) [] [] Tryd.mixed Tryd.func66 (cast (pand_eq _ _ w R) h)

set_option maxRecDepth 100000 in
def pnot_T (s : Int) (w : World) (R : Ending → World → Prop) : Prop :=
  Calls Tryd.prog 40 #[.bool !decide (bits BinOp.and IntKind.i64 s 1 = 0), .int .i64 2] w fun e1 w2 ↦
 ∃ n3, e1 = .returned (.int .i64 n3) ∧ Calls Tryd.prog 40 #[.bool !decide (bits BinOp.and IntKind.i64 s 2 = 0), .int .i64 1] w2 fun e4 w5 ↦
 ∃ n6, e4 = .returned (.int .i64 n6) ∧ R (.returned (.int .i64 (bits BinOp.or IntKind.i64 (bits BinOp.or IntKind.i64 (bits BinOp.and IntKind.i64 s 4) n3) n6))) w5

set_option maxRecDepth 100000 in
theorem pnot_eq (s : Int) (w : World) (R : Ending → World → Prop) : pnot_T s w R = vcFn Tryd.prog [] [] Tryd.f42 [.int .i64 s] w R := by kernel_rfl

set_option maxRecDepth 100000 in
theorem pnot_vc (s : Int) (w : World) (R : Ending → World → Prop) (h : pnot_T s w R) : Calls Tryd.prog 42 #[.int .i64 s] w R :=
  calls_of_vc (args := [.int .i64 s]) [] [] Tryd.mixed Tryd.func42 (cast (pnot_eq _ w R) h)

set_option maxRecDepth 100000 in
def pboth_T (s : Int) (t : Int) (w : World) (R : Ending → World → Prop) : Prop :=
  ∀ b1 w'2, New w (Obj.cells #[.int .i64 t] 61) b1 w'2 → ∀ b4 w'5, New w'2 (Obj.cells #[.int .i64 0] 61) b4 w'5 → CW w'5 b4 0 fun _ ↦ ∀ w'8, Put w'5 b4 0 [.int .i64 0] w'8 → Calls Tryd.prog 65 #[.int .i64 s] w'8 fun e10 w11 ↦
 ∃ v12, e10 = .returned v12 ∧ ∃ (g13 : FuncId), ∃ (lb14 : Array Value), v12 = .func (Fn.func g13) #[] lb14 ∧ enterable Tryd.prog g13 = true ∧ ∀ (r15 : Nat → Loop) (d16 l17 : Nat) (w118 : World), Began w11 r15 d16 l17 w118 → (∀ (n20 : Int) (W21 : World) (R22 : Bool → World → Prop), Rec r15 l17 0 W21 → (∀ b24 w'25, New W21 (Obj.cells #[.int .i64 0] 61) b24 w'25 → CW w'25 b24 0 fun _ ↦ ∀ w'28, Put w'25 b24 0 [.int .i64 n20] w'28 → Rec r15 l17 0 w'28 ∧ ∀ (Wb30 : World), Wb30 = turn r15 l17 1 w'28 → RI Wb30 b1 0 fun n32 ↦ Calls Tryd.prog 65 #[.int .i64 n32] Wb30 fun e33 w34 ↦
 ∃ v35, e33 = .returned v35 ∧ ∃ (g36 : FuncId), ∃ (lb37 : Array Value), v35 = .func (Fn.func g36) #[] lb37 ∧ enterable Tryd.prog g36 = true ∧ (∃ (q38 : Loop), w34.heap[l17]? = some (Obj.loop q38)) ∧ ∀ (r41 : Nat → Loop) (l42 : Nat) (w143 : World), New w34 (Obj.loop (r41 0)) l42 w143 → (∀ (n45 : Int) (W46 : World) (R47 : Bool → World → Prop), Rec r41 l42 0 W46 → (Rec r41 l42 0 W46 ∧ ∀ (Wb49 : World), Wb49 = turn r41 l42 1 W46 → ∀ w'51, Drew Wb49 w'51 → RI w'51 b4 0 fun n53 ↦ RI w'51 b24 0 fun n54 ↦ Calls Tryd.prog 66 #[.int .i64 n54, .int .i64 n45] w'51 fun e55 w56 ↦
 ∃ n57, e55 = .returned (.int .i64 n57) ∧ SameTo w'51 w'51 w56 ∧ CW w56 b4 0 fun _ ↦ ∀ w'59, Put w56 b4 0 [.int .i64 (bits BinOp.or IntKind.i64 n53 n57)] w'59 → Rec r41 l42 1 w'59 ∧ R47 true (turn r41 l42 0 w'59)) → Yield Tryd.prog l42 #[.int .i64 n45] W46 fun (b62 : Bool) (w63 : World) ↦ R47 b62 w63) → Calls Tryd.prog g36 (.func (Fn.yield l42) #[] #[] :: lb37.1).toArray w143 fun e65 w66 ↦
 (∃ v67, e65 = .returned v67) ∧ (Rec r41 l42 0 w66 ∧ Rec r15 l17 1 (turn r41 l42 2 w66) ∧ R22 true (turn r15 l17 0 (turn r41 l42 2 w66)) ∨ False)) → Yield Tryd.prog l17 #[.int .i64 n20] W21 fun (b69 : Bool) (w70 : World) ↦ R22 b69 w70) → Calls Tryd.prog g13 (.func (Fn.yield l17) #[] #[] :: lb14.1).toArray w118 fun e72 w73 ↦
 (∃ v74, e72 = .returned v74) ∧ ((Rec r15 l17 0 w73 ∧ ∃ n75, (turn r15 l17 2 w73).cell? ⟨b4, 0, none⟩ = some (.int .i64 n75) ∧ (turn r15 l17 2 w73).heap[d16]? = some (Obj.deferred (some [])) ∧ R (.returned (.int .i64 n75)) ((turn r15 l17 2 w73).putObj d16 (Obj.deferred none))) ∨
 False)

set_option maxRecDepth 100000 in
theorem pboth_eq (s : Int) (t : Int) (w : World) (R : Ending → World → Prop) : pboth_T s t w R = vcFn Tryd.prog [] [(6, [2, 4, 6, 9, 10, 12, 0])] Tryd.f43 [.int .i64 s, .int .i64 t] w R := by kernel_rfl

set_option maxRecDepth 100000 in
theorem pboth_vc (s : Int) (t : Int) (w : World) (R : Ending → World → Prop) (h : pboth_T s t w R) : Calls Tryd.prog 43 #[.int .i64 s, .int .i64 t] w R :=
  calls_of_vc (args := [.int .i64 s, .int .i64 t]) [] [(6, [2, 4, 6, 9, 10, 12, 0])] Tryd.mixed Tryd.func43 (cast (pboth_eq _ _ w R) h)

set_option maxRecDepth 100000 in
def panswers_T (t0_p : Option Addr) (t0_n : Nat) (t0_c : Nat) (t1_p : Option Addr) (t1_n : Nat) (t1_c : Nat) (t2 : Int) (x0 : Int) (x1 : ByteArray) (x2 : Int) (x3 : Int) (x4 : ByteArray) (x5_p : Option Addr) (x5_n : Nat) (x5_c : Nat) (w : World) (R : Ending → World → Prop) : Prop :=
  ∀ b1 w'2, New w (Obj.cells #[.slice t0_p t0_n t0_c, .slice t1_p t1_n t1_c, .int .i64 t2] 59) b1 w'2 → ∀ b4 w'5, New w'2 (Obj.cells #[.int .i64 x0, .string x1, .int .i64 x2, .int .i64 x3, .string x4, .slice x5_p x5_n x5_c] 28) b4
 w'5 → RI w'5 b4 0 fun n7 ↦ (n7 = 2 → ∀ w'9, Drew w'5 w'9 → RI w'9 b4 2 fun n11 ↦ RI w'9 b4 2 fun n12 ↦ RI w'9 b4 3 fun n13 ↦ 0 ≤ n13 ∧ Calls Tryd.prog 40 #[.bool (decide (n11 = Int.ofNat 0)), .int .i64 4] w'9 fun e14 w15 ↦
 ∃ n16, e14 = .returned (.int .i64 n16) ∧ SameTo w'9 w'9 w15 ∧ Calls Tryd.prog 40 #[.bool (decide (n12 = Int.ofNat 2)), .int .i64 (shlI IntKind.i64 1 n13.toNat)] w15 fun e17 w18 ↦
 ∃ n19, e17 = .returned (.int .i64 n19) ∧ R (.returned (.int .i64 (bits BinOp.or IntKind.i64 n16 n19))) w18) ∧ (n7 ≠ 2 → (n7 = 1 → RL w'5 b1 0 fun p22 n23 c24 ↦ RL w'5 b1 1 fun p25 n26 c27 ↦ RI w'5 b1 2 fun n28 ↦ RI w'5 b4 0 fun n29 ↦ RS w'5 b4 1 fun s30 ↦ RI w'5 b4 2 fun n31 ↦ RI w'5 b4 3 fun n32 ↦ RS w'5 b4 4 fun s33 ↦ RL w'5 b4 5 fun p34 n35 c36 ↦ Calls Tryd.prog 41
 #[.agg #[.slice p22 n23 c24, .slice p25 n26 c27, .int .i64 n28], .agg #[.int .i64 n29, .string s30, .int .i64 n31, .int .i64 n32, .string s33, .slice p34 n35 c36]]
 w'5 fun e37 w38 ↦
 ∃ n39, ∃ n40, ∃ s41, ∃ n42, ∃ n43, ∃ s44, ∃ n45, ∃ n46, ∃ b47, e37 =
 .returned
 (Value.tuple
 #[Value.agg
 #[.int .i64 n39, .int .i64 n40, .string s41, .int .i64 n42, .int .i64 n43, .string s44, .int .i64 n45, .int .i64 n46], .bool b47]) ∧ ∀ b48 w'49, New w38
 (Obj.cells
 #[.int .i64 0, .int .i64 0, .string ⟨#[]⟩, .int .i64 0, .int .i64 0, .string ⟨#[]⟩, .int .i64 0, .int .i64 0]
 72)
 b48 w'49 → CW w'49 b48 0 fun _ ↦ CW w'49 b48 1 fun _ ↦ CW w'49 b48 2 fun _ ↦ CW w'49 b48 3 fun _ ↦ CW w'49 b48 4 fun _ ↦ CW w'49 b48 5 fun _ ↦ CW w'49 b48 6 fun _ ↦ CW w'49 b48 7 fun _ ↦ ∀ w'59, Put w'49 b48 0
 [.int .i64 n39, .int .i64 n40, .string s41, .int .i64 n42, .int .i64 n43, .string s44, .int .i64 n45, .int .i64 n46]
 w'59 → ∀ w'61, Drew w'59 w'61 → RI w'61 b48 6 fun n63 ↦ RI w'61 b48 6 fun n64 ↦ RI w'61 b48 7 fun n65 ↦ RI w'61 b48 6 fun n66 ↦ RI w'61 b48 7 fun n67 ↦ Calls Tryd.prog 40 #[.bool (decide (Int.ofNat 0 < n63)), .int .i64 4] w'61 fun e68 w69 ↦
 ∃ n70, e68 = .returned (.int .i64 n70) ∧ SameTo w'61 w'61 w69 ∧ (n64 < n65 → RI w69 b48 1 fun n72 ↦ Calls Tryd.prog 40 #[.bool (decide (n72 = Int.ofNat 0)), .int .i64 1] w69 fun e73 w74 ↦
 ∃ n75, e73 = .returned (.int .i64 n75) ∧ SameTo w69 w69 w74 ∧ (n66 < n67 → RI w74 b48 4 fun n77 ↦ Calls Tryd.prog 40 #[.bool (decide (n77 = Int.ofNat 1)), .int .i64 2] w74 fun e78 w79 ↦
 ∃ n80, e78 = .returned (.int .i64 n80) ∧ R (.returned (.int .i64 (bits BinOp.or IntKind.i64 (bits BinOp.or IntKind.i64 n70 n75) n80))) w79) ∧ (n67 ≤ n66 → Calls Tryd.prog 40 #[.bool false, .int .i64 2] w74 fun e82 w83 ↦
 ∃ n84, e82 = .returned (.int .i64 n84) ∧ R (.returned (.int .i64 (bits BinOp.or IntKind.i64 (bits BinOp.or IntKind.i64 n70 n75) n84))) w83)) ∧ (n65 ≤ n64 → Calls Tryd.prog 40 #[.bool false, .int .i64 1] w69 fun e86 w87 ↦
 ∃ n88, e86 = .returned (.int .i64 n88) ∧ SameTo w69 w69 w87 ∧ (n66 < n67 → RI w87 b48 4 fun n90 ↦ Calls Tryd.prog 40 #[.bool (decide (n90 = Int.ofNat 1)), .int .i64 2] w87 fun e91 w92 ↦
 ∃ n93, e91 = .returned (.int .i64 n93) ∧ R (.returned (.int .i64 (bits BinOp.or IntKind.i64 (bits BinOp.or IntKind.i64 n70 n88) n93))) w92) ∧ (n67 ≤ n66 → Calls Tryd.prog 40 #[.bool false, .int .i64 2] w87 fun e95 w96 ↦
 ∃ n97, e95 = .returned (.int .i64 n97) ∧ R (.returned (.int .i64 (bits BinOp.or IntKind.i64 (bits BinOp.or IntKind.i64 n70 n88) n97))) w96))) ∧ (n7 ≠ 1 → (n7 = 14 → ∀ w'100, Drew w'5 w'100 → RL w'100 b1 0 fun p102 n103 c104 ↦ RL w'100 b1 1 fun p105 n106 c107 ↦ RI w'100 b1 2 fun n108 ↦ RL w'100 b4 5 fun p109 n110 c111 ↦ ∃ b112, ∃ o113, p109 = some ⟨b112, o113, none⟩ ∧ (0 : Int) ≤ 0 ∧ 0 < (↑n110 : Int) ∧ RI w'100 b112 (o113 + 0) fun n114 ↦ RS w'100 b112 (o113 + 0 + 1) fun s115 ↦ RI w'100 b112 (o113 + 0 + 2) fun n116 ↦ RI w'100 b112 (o113 + 0 + 3) fun n117 ↦ RS w'100 b112 (o113 + 0 + 4) fun s118 ↦ RL w'100 b112 (o113 + 0 + 5) fun p119 n120 c121 ↦ Calls Tryd.prog 23
 #[.agg #[.slice p102 n103 c104, .slice p105 n106 c107, .int .i64 n108], .agg #[.int .i64 n114, .string s115, .int .i64 n116, .int .i64 n117, .string s118, .slice p119 n120 c121]]
 w'100 fun e122 w123 ↦
 ∃ n124, e122 = .returned (.int .i64 n124) ∧ Calls Tryd.prog 42 #[.int .i64 n124] w123 fun e125 w126 ↦
 ∃ n127, e125 = .returned (.int .i64 n127) ∧ R (.returned (.int .i64 n127)) w126) ∧ (n7 ≠ 14 → (n7 = 12 → ∀ w'130, Drew w'5 w'130 → RL w'130 b1 0 fun p132 n133 c134 ↦ RL w'130 b1 1 fun p135 n136 c137 ↦ RI w'130 b1 2 fun n138 ↦ RL w'130 b4 5 fun p139 n140 c141 ↦ ∃ b142, ∃ o143, p139 = some ⟨b142, o143, none⟩ ∧ (0 : Int) ≤ 0 ∧ 0 < (↑n140 : Int) ∧ RI w'130 b142 (o143 + 0) fun n144 ↦ RS w'130 b142 (o143 + 0 + 1) fun s145 ↦ RI w'130 b142 (o143 + 0 + 2) fun n146 ↦ RI w'130 b142 (o143 + 0 + 3) fun n147 ↦ RS w'130 b142 (o143 + 0 + 4) fun s148 ↦ RL w'130 b142 (o143 + 0 + 5) fun p149 n150 c151 ↦ RL w'130 b1 0 fun p152 n153 c154 ↦ RL w'130 b1 1 fun p155 n156 c157 ↦ RI w'130 b1 2 fun n158 ↦ RL w'130 b4 5 fun p159 n160 c161 ↦ ∃ b162, ∃ o163, p159 = some ⟨b162, o163, none⟩ ∧ (0 : Int) ≤ 1 ∧ 1 < (↑n160 : Int) ∧ RI w'130 b162 (o163 + 6) fun n164 ↦ RS w'130 b162 (o163 + 6 + 1) fun s165 ↦ RI w'130 b162 (o163 + 6 + 2) fun n166 ↦ RI w'130 b162 (o163 + 6 + 3) fun n167 ↦ RS w'130 b162 (o163 + 6 + 4) fun s168 ↦ RL w'130 b162 (o163 + 6 + 5) fun p169 n170 c171 ↦ Calls Tryd.prog 23
 #[.agg #[.slice p132 n133 c134, .slice p135 n136 c137, .int .i64 n138], .agg #[.int .i64 n144, .string s145, .int .i64 n146, .int .i64 n147, .string s148, .slice p149 n150 c151]]
 w'130 fun e172 w173 ↦
 ∃ n174, e172 = .returned (.int .i64 n174) ∧ SameTo w'130 w'130 w173 ∧ Calls Tryd.prog 23
 #[.agg #[.slice p152 n153 c154, .slice p155 n156 c157, .int .i64 n158], .agg #[.int .i64 n164, .string s165, .int .i64 n166, .int .i64 n167, .string s168, .slice p169 n170 c171]]
 w173 fun e175 w176 ↦
 ∃ n177, e175 = .returned (.int .i64 n177) ∧ Calls Tryd.prog 43 #[.int .i64 n174, .int .i64 n177] w176 fun e178 w179 ↦
 ∃ n180, e178 = .returned (.int .i64 n180) ∧ R (.returned (.int .i64 n180)) w179) ∧ (n7 ≠ 12 → (n7 = 13 → ∀ w'183, Drew w'5 w'183 → RL w'183 b1 0 fun p185 n186 c187 ↦ RL w'183 b1 1 fun p188 n189 c190 ↦ RI w'183 b1 2 fun n191 ↦ RL w'183 b4 5 fun p192 n193 c194 ↦ ∃ b195, ∃ o196, p192 = some ⟨b195, o196, none⟩ ∧ (0 : Int) ≤ 0 ∧ 0 < (↑n193 : Int) ∧ RI w'183 b195 (o196 + 0) fun n197 ↦ RS w'183 b195 (o196 + 0 + 1) fun s198 ↦ RI w'183 b195 (o196 + 0 + 2) fun n199 ↦ RI w'183 b195 (o196 + 0 + 3) fun n200 ↦ RS w'183 b195 (o196 + 0 + 4) fun s201 ↦ RL w'183 b195 (o196 + 0 + 5) fun p202 n203 c204 ↦ RL w'183 b1 0 fun p205 n206 c207 ↦ RL w'183 b1 1 fun p208 n209 c210 ↦ RI w'183 b1 2 fun n211 ↦ RL w'183 b4 5 fun p212 n213 c214 ↦ ∃ b215, ∃ o216, p212 = some ⟨b215, o216, none⟩ ∧ (0 : Int) ≤ 1 ∧ 1 < (↑n213 : Int) ∧ RI w'183 b215 (o216 + 6) fun n217 ↦ RS w'183 b215 (o216 + 6 + 1) fun s218 ↦ RI w'183 b215 (o216 + 6 + 2) fun n219 ↦ RI w'183 b215 (o216 + 6 + 3) fun n220 ↦ RS w'183 b215 (o216 + 6 + 4) fun s221 ↦ RL w'183 b215 (o216 + 6 + 5) fun p222 n223 c224 ↦ Calls Tryd.prog 23
 #[.agg #[.slice p185 n186 c187, .slice p188 n189 c190, .int .i64 n191], .agg #[.int .i64 n197, .string s198, .int .i64 n199, .int .i64 n200, .string s201, .slice p202 n203 c204]]
 w'183 fun e225 w226 ↦
 ∃ n227, e225 = .returned (.int .i64 n227) ∧ SameTo w'183 w'183 w226 ∧ Calls Tryd.prog 42 #[.int .i64 n227] w226 fun e228 w229 ↦
 ∃ n230, e228 = .returned (.int .i64 n230) ∧ SameTo w'183 w226 w229 ∧ Calls Tryd.prog 23
 #[.agg #[.slice p205 n206 c207, .slice p208 n209 c210, .int .i64 n211], .agg #[.int .i64 n217, .string s218, .int .i64 n219, .int .i64 n220, .string s221, .slice p222 n223 c224]]
 w229 fun e231 w232 ↦
 ∃ n233, e231 = .returned (.int .i64 n233) ∧ Calls Tryd.prog 42 #[.int .i64 n233] w232 fun e234 w235 ↦
 ∃ n236, e234 = .returned (.int .i64 n236) ∧ Calls Tryd.prog 43 #[.int .i64 n230, .int .i64 n236] w235 fun e237 w238 ↦
 ∃ n239, e237 = .returned (.int .i64 n239) ∧ Calls Tryd.prog 42 #[.int .i64 n239] w238 fun e240 w241 ↦
 ∃ n242, e240 = .returned (.int .i64 n242) ∧ R (.returned (.int .i64 n242)) w241) ∧ (n7 ≠ 13 → (n7 = 15 → ∀ w'245, Drew w'5 w'245 → RL w'245 b1 0 fun p247 n248 c249 ↦ RL w'245 b1 1 fun p250 n251 c252 ↦ RI w'245 b1 2 fun n253 ↦ RL w'245 b4 5 fun p254 n255 c256 ↦ ∃ b257, ∃ o258, p254 = some ⟨b257, o258, none⟩ ∧ (0 : Int) ≤ 0 ∧ 0 < (↑n255 : Int) ∧ RI w'245 b257 (o258 + 0) fun n259 ↦ RS w'245 b257 (o258 + 0 + 1) fun s260 ↦ RI w'245 b257 (o258 + 0 + 2) fun n261 ↦ RI w'245 b257 (o258 + 0 + 3) fun n262 ↦ RS w'245 b257 (o258 + 0 + 4) fun s263 ↦ RL w'245 b257 (o258 + 0 + 5) fun p264 n265 c266 ↦ (Calls Tryd.prog 41
 #[.agg #[.slice p247 n248 c249, .slice p250 n251 c252, .int .i64 n253], .agg #[.int .i64 n259, .string s260, .int .i64 n261, .int .i64 n262, .string s263, .slice p264 n265 c266]]
 w'245 fun e267 w268 ↦
 ∃ n269, ∃ n270, ∃ s271, ∃ n272, ∃ n273, ∃ s274, ∃ n275, ∃ n276, ∃ b277, e267 =
 .returned
 (Value.tuple
 #[Value.agg
 #[.int .i64 n269, .int .i64 n270, .string s271, .int .i64 n272, .int .i64 n273, .string s274, .int .i64 n275, .int .i64 n276], .bool b277]) ∧ ∀ b278 w'279, New w268
 (Obj.cells
 #[.int .i64 0, .int .i64 0, .string ⟨#[]⟩, .int .i64 0, .int .i64 0, .string ⟨#[]⟩, .int .i64 0, .int .i64 0]
 72)
 b278 w'279 → SameTo w'245 w268 w'279 ∧ CW w'279 b278 0 fun _ ↦ CW w'279 b278 1 fun _ ↦ CW w'279 b278 2 fun _ ↦ CW w'279 b278 3 fun _ ↦ CW w'279 b278 4 fun _ ↦ CW w'279 b278 5 fun _ ↦ CW w'279 b278 6 fun _ ↦ CW w'279 b278 7 fun _ ↦ ∀ w'289, Put w'279 b278 0
 [.int .i64 n269, .int .i64 n270, .string s271, .int .i64 n272, .int .i64 n273, .string s274, .int .i64 n275, .int .i64 n276]
 w'289 → (b277 = true → ∀ w'292, Drew w'289 w'292 → RI w'292 b278 6 fun n294 ↦ RI w'292 b278 6 fun n295 ↦ RI w'292 b278 7 fun n296 ↦ Calls Tryd.prog 40 #[.bool (decide (Int.ofNat 0 < n294)), .int .i64 2] w'292 fun e297 w298 ↦
 ∃ n299, e297 = .returned (.int .i64 n299) ∧ SameTo w'292 w'292 w298 ∧ Calls Tryd.prog 40 #[.bool (decide (n295 < n296)), .int .i64 1] w298 fun e300 w301 ↦
 ∃ n302, e300 = .returned (.int .i64 n302) ∧ R (.returned (.int .i64 (bits BinOp.or IntKind.i64 n299 n302))) w301) ∧ (b277 = false → R (.returned (.int .i64 7)) w'289)) ∧ ∀ b304 w'305, New w'245
 (Obj.cells
 #[.int .i64 0, .int .i64 0, .string ⟨#[]⟩, .int .i64 0, .int .i64 0, .string ⟨#[]⟩, .int .i64 0, .int .i64 0]
 72)
 b304 w'305 → SameTo w'245 w'245 w'305 ∧ Calls Tryd.prog 41
 #[.agg #[.slice p247 n248 c249, .slice p250 n251 c252, .int .i64 n253], .agg #[.int .i64 n259, .string s260, .int .i64 n261, .int .i64 n262, .string s263, .slice p264 n265 c266]]
 w'305 fun e307 w308 ↦
 ∃ n309, ∃ n310, ∃ s311, ∃ n312, ∃ n313, ∃ s314, ∃ n315, ∃ n316, ∃ b317, e307 =
 .returned
 (Value.tuple
 #[Value.agg
 #[.int .i64 n309, .int .i64 n310, .string s311, .int .i64 n312, .int .i64 n313, .string s314, .int .i64 n315, .int .i64 n316], .bool b317]) ∧ CW w308 b304 0 fun _ ↦ CW w308 b304 1 fun _ ↦ CW w308 b304 2 fun _ ↦ CW w308 b304 3 fun _ ↦ CW w308 b304 4 fun _ ↦ CW w308 b304 5 fun _ ↦ CW w308 b304 6 fun _ ↦ CW w308 b304 7 fun _ ↦ ∀ w'326, Put w308 b304 0
 [.int .i64 n309, .int .i64 n310, .string s311, .int .i64 n312, .int .i64 n313, .string s314, .int .i64 n315, .int .i64 n316]
 w'326 → (b317 = true → ∀ w'329, Drew w'326 w'329 → RI w'329 b304 6 fun n331 ↦ RI w'329 b304 6 fun n332 ↦ RI w'329 b304 7 fun n333 ↦ Calls Tryd.prog 40 #[.bool (decide (Int.ofNat 0 < n331)), .int .i64 2] w'329 fun e334 w335 ↦
 ∃ n336, e334 = .returned (.int .i64 n336) ∧ SameTo w'329 w'329 w335 ∧ Calls Tryd.prog 40 #[.bool (decide (n332 < n333)), .int .i64 1] w335 fun e337 w338 ↦
 ∃ n339, e337 = .returned (.int .i64 n339) ∧ R (.returned (.int .i64 (bits BinOp.or IntKind.i64 n336 n339))) w338) ∧ (b317 = false → R (.returned (.int .i64 7)) w'326)) ∧ (n7 ≠ 15 → (n7 = 9 → (n7 = 9 → ∀ w'344, Drew w'5 w'344 → RL w'344 b1 0 fun p346 n347 c348 ↦ RL w'344 b1 1 fun p349 n350 c351 ↦ RI w'344 b1 2 fun n352 ↦ RL w'344 b4 5 fun p353 n354 c355 ↦ ∃ b356, ∃ o357, p353 = some ⟨b356, o357, none⟩ ∧ (0 : Int) ≤ 0 ∧ 0 < (↑n354 : Int) ∧ RI w'344 b356 (o357 + 0) fun n358 ↦ RS w'344 b356 (o357 + 0 + 1) fun s359 ↦ RI w'344 b356 (o357 + 0 + 2) fun n360 ↦ RI w'344 b356 (o357 + 0 + 3) fun n361 ↦ RS w'344 b356 (o357 + 0 + 4) fun s362 ↦ RL w'344 b356 (o357 + 0 + 5) fun p363 n364 c365 ↦ (Calls Tryd.prog 41
 #[.agg #[.slice p346 n347 c348, .slice p349 n350 c351, .int .i64 n352], .agg #[.int .i64 n358, .string s359, .int .i64 n360, .int .i64 n361, .string s362, .slice p363 n364 c365]]
 w'344 fun e366 w367 ↦
 ∃ n368, ∃ n369, ∃ s370, ∃ n371, ∃ n372, ∃ s373, ∃ n374, ∃ n375, ∃ b376, e366 =
 .returned
 (Value.tuple
 #[Value.agg
 #[.int .i64 n368, .int .i64 n369, .string s370, .int .i64 n371, .int .i64 n372, .string s373, .int .i64 n374, .int .i64 n375], .bool b376]) ∧ ∀ b377 w'378, New w367
 (Obj.cells
 #[.int .i64 0, .int .i64 0, .string ⟨#[]⟩, .int .i64 0, .int .i64 0, .string ⟨#[]⟩, .int .i64 0, .int .i64 0]
 72)
 b377 w'378 → SameTo w'344 w367 w'378 ∧ CW w'378 b377 0 fun _ ↦ CW w'378 b377 1 fun _ ↦ CW w'378 b377 2 fun _ ↦ CW w'378 b377 3 fun _ ↦ CW w'378 b377 4 fun _ ↦ CW w'378 b377 5 fun _ ↦ CW w'378 b377 6 fun _ ↦ CW w'378 b377 7 fun _ ↦ ∀ w'388, Put w'378 b377 0
 [.int .i64 n368, .int .i64 n369, .string s370, .int .i64 n371, .int .i64 n372, .string s373, .int .i64 n374, .int .i64 n375]
 w'388 → ∀ w'390, Drew w'388 w'390 → RL w'390 b1 0 fun p392 n393 c394 ↦ RL w'390 b1 1 fun p395 n396 c397 ↦ RI w'390 b1 2 fun n398 ↦ RL w'390 b4 5 fun p399 n400 c401 ↦ ∃ b402, ∃ o403, p399 = some ⟨b402, o403, none⟩ ∧ (0 : Int) ≤ 1 ∧ 1 < (↑n400 : Int) ∧ RI w'390 b402 (o403 + 6) fun n404 ↦ RS w'390 b402 (o403 + 6 + 1) fun s405 ↦ RI w'390 b402 (o403 + 6 + 2) fun n406 ↦ RI w'390 b402 (o403 + 6 + 3) fun n407 ↦ RS w'390 b402 (o403 + 6 + 4) fun s408 ↦ RL w'390 b402 (o403 + 6 + 5) fun p409 n410 c411 ↦ (Calls Tryd.prog 41
 #[.agg #[.slice p392 n393 c394, .slice p395 n396 c397, .int .i64 n398], .agg #[.int .i64 n404, .string s405, .int .i64 n406, .int .i64 n407, .string s408, .slice p409 n410 c411]]
 w'390 fun e412 w413 ↦
 ∃ n414, ∃ n415, ∃ s416, ∃ n417, ∃ n418, ∃ s419, ∃ n420, ∃ n421, ∃ b422, e412 =
 .returned
 (Value.tuple
 #[Value.agg
 #[.int .i64 n414, .int .i64 n415, .string s416, .int .i64 n417, .int .i64 n418, .string s419, .int .i64 n420, .int .i64 n421], .bool b422]) ∧ ∀ b423 w'424, New w413
 (Obj.cells
 #[.int .i64 0, .int .i64 0, .string ⟨#[]⟩, .int .i64 0, .int .i64 0, .string ⟨#[]⟩, .int .i64 0, .int .i64 0]
 72)
 b423 w'424 → SameTo w'390 w413 w'424 ∧ CW w'424 b423 0 fun _ ↦ CW w'424 b423 1 fun _ ↦ CW w'424 b423 2 fun _ ↦ CW w'424 b423 3 fun _ ↦ CW w'424 b423 4 fun _ ↦ CW w'424 b423 5 fun _ ↦ CW w'424 b423 6 fun _ ↦ CW w'424 b423 7 fun _ ↦ ∀ w'434, Put w'424 b423 0
 [.int .i64 n414, .int .i64 n415, .string s416, .int .i64 n417, .int .i64 n418, .string s419, .int .i64 n420, .int .i64 n421]
 w'434 → (b376 = true ∧ b422 = true → RI w'434 b4 0 fun n437 ↦ RI w'434 b377 0 fun n438 ↦ RI w'434 b377 1 fun n439 ↦ RS w'434 b377 2 fun s440 ↦ RI w'434 b377 3 fun n441 ↦ RI w'434 b377 4 fun n442 ↦ RS w'434 b377 5 fun s443 ↦ RI w'434 b377 6 fun n444 ↦ RI w'434 b377 7 fun n445 ↦ RI w'434 b423 0 fun n446 ↦ RI w'434 b423 1 fun n447 ↦ RS w'434 b423 2 fun s448 ↦ RI w'434 b423 3 fun n449 ↦ RI w'434 b423 4 fun n450 ↦ RS w'434 b423 5 fun s451 ↦ RI w'434 b423 6 fun n452 ↦ RI w'434 b423 7 fun n453 ↦ Calls Tryd.prog 44
 #[.int .i64 n437, Value.agg
 #[.int .i64 n438, .int .i64 n439, .string s440, .int .i64 n441, .int .i64 n442, .string s443, .int .i64 n444, .int .i64 n445], Value.agg
 #[.int .i64 n446, .int .i64 n447, .string s448, .int .i64 n449, .int .i64 n450, .string s451, .int .i64 n452, .int .i64 n453]]
 w'434 fun e454 w455 ↦ ∃ n456, e454 = .returned (.int .i64 n456) ∧ R (.returned (.int .i64 n456)) w455) ∧ (b376 = false ∨ b422 = false → R (.returned (.int .i64 7)) w'434)) ∧ ∀ b458 w'459, New w'390
 (Obj.cells
 #[.int .i64 0, .int .i64 0, .string ⟨#[]⟩, .int .i64 0, .int .i64 0, .string ⟨#[]⟩, .int .i64 0, .int .i64 0]
 72)
 b458 w'459 → SameTo w'390 w'390 w'459 ∧ Calls Tryd.prog 41
 #[.agg #[.slice p392 n393 c394, .slice p395 n396 c397, .int .i64 n398], .agg #[.int .i64 n404, .string s405, .int .i64 n406, .int .i64 n407, .string s408, .slice p409 n410 c411]]
 w'459 fun e461 w462 ↦
 ∃ n463, ∃ n464, ∃ s465, ∃ n466, ∃ n467, ∃ s468, ∃ n469, ∃ n470, ∃ b471, e461 =
 .returned
 (Value.tuple
 #[Value.agg
 #[.int .i64 n463, .int .i64 n464, .string s465, .int .i64 n466, .int .i64 n467, .string s468, .int .i64 n469, .int .i64 n470], .bool b471]) ∧ CW w462 b458 0 fun _ ↦ CW w462 b458 1 fun _ ↦ CW w462 b458 2 fun _ ↦ CW w462 b458 3 fun _ ↦ CW w462 b458 4 fun _ ↦ CW w462 b458 5 fun _ ↦ CW w462 b458 6 fun _ ↦ CW w462 b458 7 fun _ ↦ ∀ w'480, Put w462 b458 0
 [.int .i64 n463, .int .i64 n464, .string s465, .int .i64 n466, .int .i64 n467, .string s468, .int .i64 n469, .int .i64 n470]
 w'480 → (b376 = true ∧ b471 = true → RI w'480 b4 0 fun n483 ↦ RI w'480 b377 0 fun n484 ↦ RI w'480 b377 1 fun n485 ↦ RS w'480 b377 2 fun s486 ↦ RI w'480 b377 3 fun n487 ↦ RI w'480 b377 4 fun n488 ↦ RS w'480 b377 5 fun s489 ↦ RI w'480 b377 6 fun n490 ↦ RI w'480 b377 7 fun n491 ↦ RI w'480 b458 0 fun n492 ↦ RI w'480 b458 1 fun n493 ↦ RS w'480 b458 2 fun s494 ↦ RI w'480 b458 3 fun n495 ↦ RI w'480 b458 4 fun n496 ↦ RS w'480 b458 5 fun s497 ↦ RI w'480 b458 6 fun n498 ↦ RI w'480 b458 7 fun n499 ↦ Calls Tryd.prog 44
 #[.int .i64 n483, Value.agg
 #[.int .i64 n484, .int .i64 n485, .string s486, .int .i64 n487, .int .i64 n488, .string s489, .int .i64 n490, .int .i64 n491], Value.agg
 #[.int .i64 n492, .int .i64 n493, .string s494, .int .i64 n495, .int .i64 n496, .string s497, .int .i64 n498, .int .i64 n499]]
 w'480 fun e500 w501 ↦ ∃ n502, e500 = .returned (.int .i64 n502) ∧ R (.returned (.int .i64 n502)) w501) ∧ (b376 = false ∨ b471 = false → R (.returned (.int .i64 7)) w'480)) ∧ ∀ b504 w'505, New w'344
 (Obj.cells
 #[.int .i64 0, .int .i64 0, .string ⟨#[]⟩, .int .i64 0, .int .i64 0, .string ⟨#[]⟩, .int .i64 0, .int .i64 0]
 72)
 b504 w'505 → SameTo w'344 w'344 w'505 ∧ Calls Tryd.prog 41
 #[.agg #[.slice p346 n347 c348, .slice p349 n350 c351, .int .i64 n352], .agg #[.int .i64 n358, .string s359, .int .i64 n360, .int .i64 n361, .string s362, .slice p363 n364 c365]]
 w'505 fun e507 w508 ↦
 ∃ n509, ∃ n510, ∃ s511, ∃ n512, ∃ n513, ∃ s514, ∃ n515, ∃ n516, ∃ b517, e507 =
 .returned
 (Value.tuple
 #[Value.agg
 #[.int .i64 n509, .int .i64 n510, .string s511, .int .i64 n512, .int .i64 n513, .string s514, .int .i64 n515, .int .i64 n516], .bool b517]) ∧ CW w508 b504 0 fun _ ↦ CW w508 b504 1 fun _ ↦ CW w508 b504 2 fun _ ↦ CW w508 b504 3 fun _ ↦ CW w508 b504 4 fun _ ↦ CW w508 b504 5 fun _ ↦ CW w508 b504 6 fun _ ↦ CW w508 b504 7 fun _ ↦ ∀ w'526, Put w508 b504 0
 [.int .i64 n509, .int .i64 n510, .string s511, .int .i64 n512, .int .i64 n513, .string s514, .int .i64 n515, .int .i64 n516]
 w'526 → ∀ w'528, Drew w'526 w'528 → RL w'528 b1 0 fun p530 n531 c532 ↦ RL w'528 b1 1 fun p533 n534 c535 ↦ RI w'528 b1 2 fun n536 ↦ RL w'528 b4 5 fun p537 n538 c539 ↦ ∃ b540, ∃ o541, p537 = some ⟨b540, o541, none⟩ ∧ (0 : Int) ≤ 1 ∧ 1 < (↑n538 : Int) ∧ RI w'528 b540 (o541 + 6) fun n542 ↦ RS w'528 b540 (o541 + 6 + 1) fun s543 ↦ RI w'528 b540 (o541 + 6 + 2) fun n544 ↦ RI w'528 b540 (o541 + 6 + 3) fun n545 ↦ RS w'528 b540 (o541 + 6 + 4) fun s546 ↦ RL w'528 b540 (o541 + 6 + 5) fun p547 n548 c549 ↦ (Calls Tryd.prog 41
 #[.agg #[.slice p530 n531 c532, .slice p533 n534 c535, .int .i64 n536], .agg #[.int .i64 n542, .string s543, .int .i64 n544, .int .i64 n545, .string s546, .slice p547 n548 c549]]
 w'528 fun e550 w551 ↦
 ∃ n552, ∃ n553, ∃ s554, ∃ n555, ∃ n556, ∃ s557, ∃ n558, ∃ n559, ∃ b560, e550 =
 .returned
 (Value.tuple
 #[Value.agg
 #[.int .i64 n552, .int .i64 n553, .string s554, .int .i64 n555, .int .i64 n556, .string s557, .int .i64 n558, .int .i64 n559], .bool b560]) ∧ ∀ b561 w'562, New w551
 (Obj.cells
 #[.int .i64 0, .int .i64 0, .string ⟨#[]⟩, .int .i64 0, .int .i64 0, .string ⟨#[]⟩, .int .i64 0, .int .i64 0]
 72)
 b561 w'562 → SameTo w'528 w551 w'562 ∧ CW w'562 b561 0 fun _ ↦ CW w'562 b561 1 fun _ ↦ CW w'562 b561 2 fun _ ↦ CW w'562 b561 3 fun _ ↦ CW w'562 b561 4 fun _ ↦ CW w'562 b561 5 fun _ ↦ CW w'562 b561 6 fun _ ↦ CW w'562 b561 7 fun _ ↦ ∀ w'572, Put w'562 b561 0
 [.int .i64 n552, .int .i64 n553, .string s554, .int .i64 n555, .int .i64 n556, .string s557, .int .i64 n558, .int .i64 n559]
 w'572 → (b517 = true ∧ b560 = true → RI w'572 b4 0 fun n575 ↦ RI w'572 b504 0 fun n576 ↦ RI w'572 b504 1 fun n577 ↦ RS w'572 b504 2 fun s578 ↦ RI w'572 b504 3 fun n579 ↦ RI w'572 b504 4 fun n580 ↦ RS w'572 b504 5 fun s581 ↦ RI w'572 b504 6 fun n582 ↦ RI w'572 b504 7 fun n583 ↦ RI w'572 b561 0 fun n584 ↦ RI w'572 b561 1 fun n585 ↦ RS w'572 b561 2 fun s586 ↦ RI w'572 b561 3 fun n587 ↦ RI w'572 b561 4 fun n588 ↦ RS w'572 b561 5 fun s589 ↦ RI w'572 b561 6 fun n590 ↦ RI w'572 b561 7 fun n591 ↦ Calls Tryd.prog 44
 #[.int .i64 n575, Value.agg
 #[.int .i64 n576, .int .i64 n577, .string s578, .int .i64 n579, .int .i64 n580, .string s581, .int .i64 n582, .int .i64 n583], Value.agg
 #[.int .i64 n584, .int .i64 n585, .string s586, .int .i64 n587, .int .i64 n588, .string s589, .int .i64 n590, .int .i64 n591]]
 w'572 fun e592 w593 ↦ ∃ n594, e592 = .returned (.int .i64 n594) ∧ R (.returned (.int .i64 n594)) w593) ∧ (b517 = false ∨ b560 = false → R (.returned (.int .i64 7)) w'572)) ∧ ∀ b596 w'597, New w'528
 (Obj.cells
 #[.int .i64 0, .int .i64 0, .string ⟨#[]⟩, .int .i64 0, .int .i64 0, .string ⟨#[]⟩, .int .i64 0, .int .i64 0]
 72)
 b596 w'597 → SameTo w'528 w'528 w'597 ∧ Calls Tryd.prog 41
 #[.agg #[.slice p530 n531 c532, .slice p533 n534 c535, .int .i64 n536], .agg #[.int .i64 n542, .string s543, .int .i64 n544, .int .i64 n545, .string s546, .slice p547 n548 c549]]
 w'597 fun e599 w600 ↦
 ∃ n601, ∃ n602, ∃ s603, ∃ n604, ∃ n605, ∃ s606, ∃ n607, ∃ n608, ∃ b609, e599 =
 .returned
 (Value.tuple
 #[Value.agg
 #[.int .i64 n601, .int .i64 n602, .string s603, .int .i64 n604, .int .i64 n605, .string s606, .int .i64 n607, .int .i64 n608], .bool b609]) ∧ CW w600 b596 0 fun _ ↦ CW w600 b596 1 fun _ ↦ CW w600 b596 2 fun _ ↦ CW w600 b596 3 fun _ ↦ CW w600 b596 4 fun _ ↦ CW w600 b596 5 fun _ ↦ CW w600 b596 6 fun _ ↦ CW w600 b596 7 fun _ ↦ ∀ w'618, Put w600 b596 0
 [.int .i64 n601, .int .i64 n602, .string s603, .int .i64 n604, .int .i64 n605, .string s606, .int .i64 n607, .int .i64 n608]
 w'618 → (b517 = true ∧ b609 = true → RI w'618 b4 0 fun n621 ↦ RI w'618 b504 0 fun n622 ↦ RI w'618 b504 1 fun n623 ↦ RS w'618 b504 2 fun s624 ↦ RI w'618 b504 3 fun n625 ↦ RI w'618 b504 4 fun n626 ↦ RS w'618 b504 5 fun s627 ↦ RI w'618 b504 6 fun n628 ↦ RI w'618 b504 7 fun n629 ↦ RI w'618 b596 0 fun n630 ↦ RI w'618 b596 1 fun n631 ↦ RS w'618 b596 2 fun s632 ↦ RI w'618 b596 3 fun n633 ↦ RI w'618 b596 4 fun n634 ↦ RS w'618 b596 5 fun s635 ↦ RI w'618 b596 6 fun n636 ↦ RI w'618 b596 7 fun n637 ↦ Calls Tryd.prog 44
 #[.int .i64 n621, Value.agg
 #[.int .i64 n622, .int .i64 n623, .string s624, .int .i64 n625, .int .i64 n626, .string s627, .int .i64 n628, .int .i64 n629], Value.agg
 #[.int .i64 n630, .int .i64 n631, .string s632, .int .i64 n633, .int .i64 n634, .string s635, .int .i64 n636, .int .i64 n637]]
 w'618 fun e638 w639 ↦ ∃ n640, e638 = .returned (.int .i64 n640) ∧ R (.returned (.int .i64 n640)) w639) ∧ (b517 = false ∨ b609 = false → R (.returned (.int .i64 7)) w'618)) ∧ (n7 ≠ 9 → R (.returned (.int .i64 7)) w'5)) ∧ (n7 ≠ 9 → (n7 = 10 → (n7 = 10 → ∀ w'646, Drew w'5 w'646 → RL w'646 b1 0 fun p648 n649 c650 ↦ RL w'646 b1 1 fun p651 n652 c653 ↦ RI w'646 b1 2 fun n654 ↦ RL w'646 b4 5 fun p655 n656 c657 ↦ ∃ b658, ∃ o659, p655 = some ⟨b658, o659, none⟩ ∧ (0 : Int) ≤ 0 ∧ 0 < (↑n656 : Int) ∧ RI w'646 b658 (o659 + 0) fun n660 ↦ RS w'646 b658 (o659 + 0 + 1) fun s661 ↦ RI w'646 b658 (o659 + 0 + 2) fun n662 ↦ RI w'646 b658 (o659 + 0 + 3) fun n663 ↦ RS w'646 b658 (o659 + 0 + 4) fun s664 ↦ RL w'646 b658 (o659 + 0 + 5) fun p665 n666 c667 ↦ (Calls Tryd.prog 41
 #[.agg #[.slice p648 n649 c650, .slice p651 n652 c653, .int .i64 n654], .agg #[.int .i64 n660, .string s661, .int .i64 n662, .int .i64 n663, .string s664, .slice p665 n666 c667]]
 w'646 fun e668 w669 ↦
 ∃ n670, ∃ n671, ∃ s672, ∃ n673, ∃ n674, ∃ s675, ∃ n676, ∃ n677, ∃ b678, e668 =
 .returned
 (Value.tuple
 #[Value.agg
 #[.int .i64 n670, .int .i64 n671, .string s672, .int .i64 n673, .int .i64 n674, .string s675, .int .i64 n676, .int .i64 n677], .bool b678]) ∧ ∀ b679 w'680, New w669
 (Obj.cells
 #[.int .i64 0, .int .i64 0, .string ⟨#[]⟩, .int .i64 0, .int .i64 0, .string ⟨#[]⟩, .int .i64 0, .int .i64 0]
 72)
 b679 w'680 → SameTo w'646 w669 w'680 ∧ CW w'680 b679 0 fun _ ↦ CW w'680 b679 1 fun _ ↦ CW w'680 b679 2 fun _ ↦ CW w'680 b679 3 fun _ ↦ CW w'680 b679 4 fun _ ↦ CW w'680 b679 5 fun _ ↦ CW w'680 b679 6 fun _ ↦ CW w'680 b679 7 fun _ ↦ ∀ w'690, Put w'680 b679 0
 [.int .i64 n670, .int .i64 n671, .string s672, .int .i64 n673, .int .i64 n674, .string s675, .int .i64 n676, .int .i64 n677]
 w'690 → ∀ w'692, Drew w'690 w'692 → RL w'692 b1 0 fun p694 n695 c696 ↦ RL w'692 b1 1 fun p697 n698 c699 ↦ RI w'692 b1 2 fun n700 ↦ RL w'692 b4 5 fun p701 n702 c703 ↦ ∃ b704, ∃ o705, p701 = some ⟨b704, o705, none⟩ ∧ (0 : Int) ≤ 1 ∧ 1 < (↑n702 : Int) ∧ RI w'692 b704 (o705 + 6) fun n706 ↦ RS w'692 b704 (o705 + 6 + 1) fun s707 ↦ RI w'692 b704 (o705 + 6 + 2) fun n708 ↦ RI w'692 b704 (o705 + 6 + 3) fun n709 ↦ RS w'692 b704 (o705 + 6 + 4) fun s710 ↦ RL w'692 b704 (o705 + 6 + 5) fun p711 n712 c713 ↦ (Calls Tryd.prog 41
 #[.agg #[.slice p694 n695 c696, .slice p697 n698 c699, .int .i64 n700], .agg #[.int .i64 n706, .string s707, .int .i64 n708, .int .i64 n709, .string s710, .slice p711 n712 c713]]
 w'692 fun e714 w715 ↦
 ∃ n716, ∃ n717, ∃ s718, ∃ n719, ∃ n720, ∃ s721, ∃ n722, ∃ n723, ∃ b724, e714 =
 .returned
 (Value.tuple
 #[Value.agg
 #[.int .i64 n716, .int .i64 n717, .string s718, .int .i64 n719, .int .i64 n720, .string s721, .int .i64 n722, .int .i64 n723], .bool b724]) ∧ ∀ b725 w'726, New w715
 (Obj.cells
 #[.int .i64 0, .int .i64 0, .string ⟨#[]⟩, .int .i64 0, .int .i64 0, .string ⟨#[]⟩, .int .i64 0, .int .i64 0]
 72)
 b725 w'726 → SameTo w'692 w715 w'726 ∧ CW w'726 b725 0 fun _ ↦ CW w'726 b725 1 fun _ ↦ CW w'726 b725 2 fun _ ↦ CW w'726 b725 3 fun _ ↦ CW w'726 b725 4 fun _ ↦ CW w'726 b725 5 fun _ ↦ CW w'726 b725 6 fun _ ↦ CW w'726 b725 7 fun _ ↦ ∀ w'736, Put w'726 b725 0
 [.int .i64 n716, .int .i64 n717, .string s718, .int .i64 n719, .int .i64 n720, .string s721, .int .i64 n722, .int .i64 n723]
 w'736 → (b678 = true ∧ b724 = true → RI w'736 b4 0 fun n739 ↦ RI w'736 b679 0 fun n740 ↦ RI w'736 b679 1 fun n741 ↦ RS w'736 b679 2 fun s742 ↦ RI w'736 b679 3 fun n743 ↦ RI w'736 b679 4 fun n744 ↦ RS w'736 b679 5 fun s745 ↦ RI w'736 b679 6 fun n746 ↦ RI w'736 b679 7 fun n747 ↦ RI w'736 b725 0 fun n748 ↦ RI w'736 b725 1 fun n749 ↦ RS w'736 b725 2 fun s750 ↦ RI w'736 b725 3 fun n751 ↦ RI w'736 b725 4 fun n752 ↦ RS w'736 b725 5 fun s753 ↦ RI w'736 b725 6 fun n754 ↦ RI w'736 b725 7 fun n755 ↦ Calls Tryd.prog 44
 #[.int .i64 n739, Value.agg
 #[.int .i64 n740, .int .i64 n741, .string s742, .int .i64 n743, .int .i64 n744, .string s745, .int .i64 n746, .int .i64 n747], Value.agg
 #[.int .i64 n748, .int .i64 n749, .string s750, .int .i64 n751, .int .i64 n752, .string s753, .int .i64 n754, .int .i64 n755]]
 w'736 fun e756 w757 ↦ ∃ n758, e756 = .returned (.int .i64 n758) ∧ R (.returned (.int .i64 n758)) w757) ∧ (b678 = false ∨ b724 = false → R (.returned (.int .i64 7)) w'736)) ∧ ∀ b760 w'761, New w'692
 (Obj.cells
 #[.int .i64 0, .int .i64 0, .string ⟨#[]⟩, .int .i64 0, .int .i64 0, .string ⟨#[]⟩, .int .i64 0, .int .i64 0]
 72)
 b760 w'761 → SameTo w'692 w'692 w'761 ∧ Calls Tryd.prog 41
 #[.agg #[.slice p694 n695 c696, .slice p697 n698 c699, .int .i64 n700], .agg #[.int .i64 n706, .string s707, .int .i64 n708, .int .i64 n709, .string s710, .slice p711 n712 c713]]
 w'761 fun e763 w764 ↦
 ∃ n765, ∃ n766, ∃ s767, ∃ n768, ∃ n769, ∃ s770, ∃ n771, ∃ n772, ∃ b773, e763 =
 .returned
 (Value.tuple
 #[Value.agg
 #[.int .i64 n765, .int .i64 n766, .string s767, .int .i64 n768, .int .i64 n769, .string s770, .int .i64 n771, .int .i64 n772], .bool b773]) ∧ CW w764 b760 0 fun _ ↦ CW w764 b760 1 fun _ ↦ CW w764 b760 2 fun _ ↦ CW w764 b760 3 fun _ ↦ CW w764 b760 4 fun _ ↦ CW w764 b760 5 fun _ ↦ CW w764 b760 6 fun _ ↦ CW w764 b760 7 fun _ ↦ ∀ w'782, Put w764 b760 0
 [.int .i64 n765, .int .i64 n766, .string s767, .int .i64 n768, .int .i64 n769, .string s770, .int .i64 n771, .int .i64 n772]
 w'782 → (b678 = true ∧ b773 = true → RI w'782 b4 0 fun n785 ↦ RI w'782 b679 0 fun n786 ↦ RI w'782 b679 1 fun n787 ↦ RS w'782 b679 2 fun s788 ↦ RI w'782 b679 3 fun n789 ↦ RI w'782 b679 4 fun n790 ↦ RS w'782 b679 5 fun s791 ↦ RI w'782 b679 6 fun n792 ↦ RI w'782 b679 7 fun n793 ↦ RI w'782 b760 0 fun n794 ↦ RI w'782 b760 1 fun n795 ↦ RS w'782 b760 2 fun s796 ↦ RI w'782 b760 3 fun n797 ↦ RI w'782 b760 4 fun n798 ↦ RS w'782 b760 5 fun s799 ↦ RI w'782 b760 6 fun n800 ↦ RI w'782 b760 7 fun n801 ↦ Calls Tryd.prog 44
 #[.int .i64 n785, Value.agg
 #[.int .i64 n786, .int .i64 n787, .string s788, .int .i64 n789, .int .i64 n790, .string s791, .int .i64 n792, .int .i64 n793], Value.agg
 #[.int .i64 n794, .int .i64 n795, .string s796, .int .i64 n797, .int .i64 n798, .string s799, .int .i64 n800, .int .i64 n801]]
 w'782 fun e802 w803 ↦ ∃ n804, e802 = .returned (.int .i64 n804) ∧ R (.returned (.int .i64 n804)) w803) ∧ (b678 = false ∨ b773 = false → R (.returned (.int .i64 7)) w'782)) ∧ ∀ b806 w'807, New w'646
 (Obj.cells
 #[.int .i64 0, .int .i64 0, .string ⟨#[]⟩, .int .i64 0, .int .i64 0, .string ⟨#[]⟩, .int .i64 0, .int .i64 0]
 72)
 b806 w'807 → SameTo w'646 w'646 w'807 ∧ Calls Tryd.prog 41
 #[.agg #[.slice p648 n649 c650, .slice p651 n652 c653, .int .i64 n654], .agg #[.int .i64 n660, .string s661, .int .i64 n662, .int .i64 n663, .string s664, .slice p665 n666 c667]]
 w'807 fun e809 w810 ↦
 ∃ n811, ∃ n812, ∃ s813, ∃ n814, ∃ n815, ∃ s816, ∃ n817, ∃ n818, ∃ b819, e809 =
 .returned
 (Value.tuple
 #[Value.agg
 #[.int .i64 n811, .int .i64 n812, .string s813, .int .i64 n814, .int .i64 n815, .string s816, .int .i64 n817, .int .i64 n818], .bool b819]) ∧ CW w810 b806 0 fun _ ↦ CW w810 b806 1 fun _ ↦ CW w810 b806 2 fun _ ↦ CW w810 b806 3 fun _ ↦ CW w810 b806 4 fun _ ↦ CW w810 b806 5 fun _ ↦ CW w810 b806 6 fun _ ↦ CW w810 b806 7 fun _ ↦ ∀ w'828, Put w810 b806 0
 [.int .i64 n811, .int .i64 n812, .string s813, .int .i64 n814, .int .i64 n815, .string s816, .int .i64 n817, .int .i64 n818]
 w'828 → ∀ w'830, Drew w'828 w'830 → RL w'830 b1 0 fun p832 n833 c834 ↦ RL w'830 b1 1 fun p835 n836 c837 ↦ RI w'830 b1 2 fun n838 ↦ RL w'830 b4 5 fun p839 n840 c841 ↦ ∃ b842, ∃ o843, p839 = some ⟨b842, o843, none⟩ ∧ (0 : Int) ≤ 1 ∧ 1 < (↑n840 : Int) ∧ RI w'830 b842 (o843 + 6) fun n844 ↦ RS w'830 b842 (o843 + 6 + 1) fun s845 ↦ RI w'830 b842 (o843 + 6 + 2) fun n846 ↦ RI w'830 b842 (o843 + 6 + 3) fun n847 ↦ RS w'830 b842 (o843 + 6 + 4) fun s848 ↦ RL w'830 b842 (o843 + 6 + 5) fun p849 n850 c851 ↦ (Calls Tryd.prog 41
 #[.agg #[.slice p832 n833 c834, .slice p835 n836 c837, .int .i64 n838], .agg #[.int .i64 n844, .string s845, .int .i64 n846, .int .i64 n847, .string s848, .slice p849 n850 c851]]
 w'830 fun e852 w853 ↦
 ∃ n854, ∃ n855, ∃ s856, ∃ n857, ∃ n858, ∃ s859, ∃ n860, ∃ n861, ∃ b862, e852 =
 .returned
 (Value.tuple
 #[Value.agg
 #[.int .i64 n854, .int .i64 n855, .string s856, .int .i64 n857, .int .i64 n858, .string s859, .int .i64 n860, .int .i64 n861], .bool b862]) ∧ ∀ b863 w'864, New w853
 (Obj.cells
 #[.int .i64 0, .int .i64 0, .string ⟨#[]⟩, .int .i64 0, .int .i64 0, .string ⟨#[]⟩, .int .i64 0, .int .i64 0]
 72)
 b863 w'864 → SameTo w'830 w853 w'864 ∧ CW w'864 b863 0 fun _ ↦ CW w'864 b863 1 fun _ ↦ CW w'864 b863 2 fun _ ↦ CW w'864 b863 3 fun _ ↦ CW w'864 b863 4 fun _ ↦ CW w'864 b863 5 fun _ ↦ CW w'864 b863 6 fun _ ↦ CW w'864 b863 7 fun _ ↦ ∀ w'874, Put w'864 b863 0
 [.int .i64 n854, .int .i64 n855, .string s856, .int .i64 n857, .int .i64 n858, .string s859, .int .i64 n860, .int .i64 n861]
 w'874 → (b819 = true ∧ b862 = true → RI w'874 b4 0 fun n877 ↦ RI w'874 b806 0 fun n878 ↦ RI w'874 b806 1 fun n879 ↦ RS w'874 b806 2 fun s880 ↦ RI w'874 b806 3 fun n881 ↦ RI w'874 b806 4 fun n882 ↦ RS w'874 b806 5 fun s883 ↦ RI w'874 b806 6 fun n884 ↦ RI w'874 b806 7 fun n885 ↦ RI w'874 b863 0 fun n886 ↦ RI w'874 b863 1 fun n887 ↦ RS w'874 b863 2 fun s888 ↦ RI w'874 b863 3 fun n889 ↦ RI w'874 b863 4 fun n890 ↦ RS w'874 b863 5 fun s891 ↦ RI w'874 b863 6 fun n892 ↦ RI w'874 b863 7 fun n893 ↦ Calls Tryd.prog 44
 #[.int .i64 n877, Value.agg
 #[.int .i64 n878, .int .i64 n879, .string s880, .int .i64 n881, .int .i64 n882, .string s883, .int .i64 n884, .int .i64 n885], Value.agg
 #[.int .i64 n886, .int .i64 n887, .string s888, .int .i64 n889, .int .i64 n890, .string s891, .int .i64 n892, .int .i64 n893]]
 w'874 fun e894 w895 ↦ ∃ n896, e894 = .returned (.int .i64 n896) ∧ R (.returned (.int .i64 n896)) w895) ∧ (b819 = false ∨ b862 = false → R (.returned (.int .i64 7)) w'874)) ∧ ∀ b898 w'899, New w'830
 (Obj.cells
 #[.int .i64 0, .int .i64 0, .string ⟨#[]⟩, .int .i64 0, .int .i64 0, .string ⟨#[]⟩, .int .i64 0, .int .i64 0]
 72)
 b898 w'899 → SameTo w'830 w'830 w'899 ∧ Calls Tryd.prog 41
 #[.agg #[.slice p832 n833 c834, .slice p835 n836 c837, .int .i64 n838], .agg #[.int .i64 n844, .string s845, .int .i64 n846, .int .i64 n847, .string s848, .slice p849 n850 c851]]
 w'899 fun e901 w902 ↦
 ∃ n903, ∃ n904, ∃ s905, ∃ n906, ∃ n907, ∃ s908, ∃ n909, ∃ n910, ∃ b911, e901 =
 .returned
 (Value.tuple
 #[Value.agg
 #[.int .i64 n903, .int .i64 n904, .string s905, .int .i64 n906, .int .i64 n907, .string s908, .int .i64 n909, .int .i64 n910], .bool b911]) ∧ CW w902 b898 0 fun _ ↦ CW w902 b898 1 fun _ ↦ CW w902 b898 2 fun _ ↦ CW w902 b898 3 fun _ ↦ CW w902 b898 4 fun _ ↦ CW w902 b898 5 fun _ ↦ CW w902 b898 6 fun _ ↦ CW w902 b898 7 fun _ ↦ ∀ w'920, Put w902 b898 0
 [.int .i64 n903, .int .i64 n904, .string s905, .int .i64 n906, .int .i64 n907, .string s908, .int .i64 n909, .int .i64 n910]
 w'920 → (b819 = true ∧ b911 = true → RI w'920 b4 0 fun n923 ↦ RI w'920 b806 0 fun n924 ↦ RI w'920 b806 1 fun n925 ↦ RS w'920 b806 2 fun s926 ↦ RI w'920 b806 3 fun n927 ↦ RI w'920 b806 4 fun n928 ↦ RS w'920 b806 5 fun s929 ↦ RI w'920 b806 6 fun n930 ↦ RI w'920 b806 7 fun n931 ↦ RI w'920 b898 0 fun n932 ↦ RI w'920 b898 1 fun n933 ↦ RS w'920 b898 2 fun s934 ↦ RI w'920 b898 3 fun n935 ↦ RI w'920 b898 4 fun n936 ↦ RS w'920 b898 5 fun s937 ↦ RI w'920 b898 6 fun n938 ↦ RI w'920 b898 7 fun n939 ↦ Calls Tryd.prog 44
 #[.int .i64 n923, Value.agg
 #[.int .i64 n924, .int .i64 n925, .string s926, .int .i64 n927, .int .i64 n928, .string s929, .int .i64 n930, .int .i64 n931], Value.agg
 #[.int .i64 n932, .int .i64 n933, .string s934, .int .i64 n935, .int .i64 n936, .string s937, .int .i64 n938, .int .i64 n939]]
 w'920 fun e940 w941 ↦ ∃ n942, e940 = .returned (.int .i64 n942) ∧ R (.returned (.int .i64 n942)) w941) ∧ (b819 = false ∨ b911 = false → R (.returned (.int .i64 7)) w'920)) ∧ (n7 ≠ 10 → R (.returned (.int .i64 7)) w'5)) ∧ (n7 ≠ 10 → (n7 = 11 → ∀ w'947, Drew w'5 w'947 → RL w'947 b1 0 fun p949 n950 c951 ↦ RL w'947 b1 1 fun p952 n953 c954 ↦ RI w'947 b1 2 fun n955 ↦ RL w'947 b4 5 fun p956 n957 c958 ↦ ∃ b959, ∃ o960, p956 = some ⟨b959, o960, none⟩ ∧ (0 : Int) ≤ 0 ∧ 0 < (↑n957 : Int) ∧ RI w'947 b959 (o960 + 0) fun n961 ↦ RS w'947 b959 (o960 + 0 + 1) fun s962 ↦ RI w'947 b959 (o960 + 0 + 2) fun n963 ↦ RI w'947 b959 (o960 + 0 + 3) fun n964 ↦ RS w'947 b959 (o960 + 0 + 4) fun s965 ↦ RL w'947 b959 (o960 + 0 + 5) fun p966 n967 c968 ↦ (Calls Tryd.prog 41
 #[.agg #[.slice p949 n950 c951, .slice p952 n953 c954, .int .i64 n955], .agg #[.int .i64 n961, .string s962, .int .i64 n963, .int .i64 n964, .string s965, .slice p966 n967 c968]]
 w'947 fun e969 w970 ↦
 ∃ n971, ∃ n972, ∃ s973, ∃ n974, ∃ n975, ∃ s976, ∃ n977, ∃ n978, ∃ b979, e969 =
 .returned
 (Value.tuple
 #[Value.agg
 #[.int .i64 n971, .int .i64 n972, .string s973, .int .i64 n974, .int .i64 n975, .string s976, .int .i64 n977, .int .i64 n978], .bool b979]) ∧ ∀ b980 w'981, New w970
 (Obj.cells
 #[.int .i64 0, .int .i64 0, .string ⟨#[]⟩, .int .i64 0, .int .i64 0, .string ⟨#[]⟩, .int .i64 0, .int .i64 0]
 72)
 b980 w'981 → SameTo w'947 w970 w'981 ∧ CW w'981 b980 0 fun _ ↦ CW w'981 b980 1 fun _ ↦ CW w'981 b980 2 fun _ ↦ CW w'981 b980 3 fun _ ↦ CW w'981 b980 4 fun _ ↦ CW w'981 b980 5 fun _ ↦ CW w'981 b980 6 fun _ ↦ CW w'981 b980 7 fun _ ↦ ∀ w'991, Put w'981 b980 0
 [.int .i64 n971, .int .i64 n972, .string s973, .int .i64 n974, .int .i64 n975, .string s976, .int .i64 n977, .int .i64 n978]
 w'991 → ∀ w'993, Drew w'991 w'993 → RL w'993 b1 0 fun p995 n996 c997 ↦ RL w'993 b1 1 fun p998 n999 c1000 ↦ RI w'993 b1 2 fun n1001 ↦ RL w'993 b4 5 fun p1002 n1003 c1004 ↦ ∃ b1005, ∃ o1006, p1002 = some ⟨b1005, o1006, none⟩ ∧ (0 : Int) ≤ 1 ∧ 1 < (↑n1003 : Int) ∧ RI w'993 b1005 (o1006 + 6) fun n1007 ↦ RS w'993 b1005 (o1006 + 6 + 1) fun s1008 ↦ RI w'993 b1005 (o1006 + 6 + 2) fun n1009 ↦ RI w'993 b1005 (o1006 + 6 + 3) fun n1010 ↦ RS w'993 b1005 (o1006 + 6 + 4) fun s1011 ↦ RL w'993 b1005 (o1006 + 6 + 5) fun p1012 n1013 c1014 ↦ (Calls Tryd.prog 41
 #[.agg #[.slice p995 n996 c997, .slice p998 n999 c1000, .int .i64 n1001], .agg #[.int .i64 n1007, .string s1008, .int .i64 n1009, .int .i64 n1010, .string s1011, .slice p1012 n1013 c1014]]
 w'993 fun e1015 w1016 ↦
 ∃ n1017, ∃ n1018, ∃ s1019, ∃ n1020, ∃ n1021, ∃ s1022, ∃ n1023, ∃ n1024, ∃ b1025, e1015 =
 .returned
 (Value.tuple
 #[Value.agg
 #[.int .i64 n1017, .int .i64 n1018, .string s1019, .int .i64 n1020, .int .i64 n1021, .string s1022, .int .i64 n1023, .int .i64 n1024], .bool b1025]) ∧ ∀ b1026 w'1027, New w1016
 (Obj.cells
 #[.int .i64 0, .int .i64 0, .string ⟨#[]⟩, .int .i64 0, .int .i64 0, .string ⟨#[]⟩, .int .i64 0, .int .i64 0]
 72)
 b1026 w'1027 → SameTo w'993 w1016 w'1027 ∧ CW w'1027 b1026 0 fun _ ↦ CW w'1027 b1026 1 fun _ ↦ CW w'1027 b1026 2 fun _ ↦ CW w'1027 b1026 3 fun _ ↦ CW w'1027 b1026 4 fun _ ↦ CW w'1027 b1026 5 fun _ ↦ CW w'1027 b1026 6 fun _ ↦ CW w'1027 b1026 7 fun _ ↦ ∀ w'1037, Put w'1027 b1026 0
 [.int .i64 n1017, .int .i64 n1018, .string s1019, .int .i64 n1020, .int .i64 n1021, .string s1022, .int .i64 n1023, .int .i64 n1024]
 w'1037 → (b979 = true ∧ b1025 = true → RI w'1037 b4 0 fun n1040 ↦ RI w'1037 b980 0 fun n1041 ↦ RI w'1037 b980 1 fun n1042 ↦ RS w'1037 b980 2 fun s1043 ↦ RI w'1037 b980 3 fun n1044 ↦ RI w'1037 b980 4 fun n1045 ↦ RS w'1037 b980 5 fun s1046 ↦ RI w'1037 b980 6 fun n1047 ↦ RI w'1037 b980 7 fun n1048 ↦ RI w'1037 b1026 0 fun n1049 ↦ RI w'1037 b1026 1 fun n1050 ↦ RS w'1037 b1026 2 fun s1051 ↦ RI w'1037 b1026 3 fun n1052 ↦ RI w'1037 b1026 4 fun n1053 ↦ RS w'1037 b1026 5 fun s1054 ↦ RI w'1037 b1026 6 fun n1055 ↦ RI w'1037 b1026 7 fun n1056 ↦ Calls Tryd.prog 44
 #[.int .i64 n1040, Value.agg
 #[.int .i64 n1041, .int .i64 n1042, .string s1043, .int .i64 n1044, .int .i64 n1045, .string s1046, .int .i64 n1047, .int .i64 n1048], Value.agg
 #[.int .i64 n1049, .int .i64 n1050, .string s1051, .int .i64 n1052, .int .i64 n1053, .string s1054, .int .i64 n1055, .int .i64 n1056]]
 w'1037 fun e1057 w1058 ↦
 ∃ n1059, e1057 = .returned (.int .i64 n1059) ∧ R (.returned (.int .i64 n1059)) w1058) ∧ (b979 = false ∨ b1025 = false → R (.returned (.int .i64 7)) w'1037)) ∧ ∀ b1061 w'1062, New w'993
 (Obj.cells
 #[.int .i64 0, .int .i64 0, .string ⟨#[]⟩, .int .i64 0, .int .i64 0, .string ⟨#[]⟩, .int .i64 0, .int .i64 0]
 72)
 b1061 w'1062 → SameTo w'993 w'993 w'1062 ∧ Calls Tryd.prog 41
 #[.agg #[.slice p995 n996 c997, .slice p998 n999 c1000, .int .i64 n1001], .agg #[.int .i64 n1007, .string s1008, .int .i64 n1009, .int .i64 n1010, .string s1011, .slice p1012 n1013 c1014]]
 w'1062 fun e1064 w1065 ↦
 ∃ n1066, ∃ n1067, ∃ s1068, ∃ n1069, ∃ n1070, ∃ s1071, ∃ n1072, ∃ n1073, ∃ b1074, e1064 =
 .returned
 (Value.tuple
 #[Value.agg
 #[.int .i64 n1066, .int .i64 n1067, .string s1068, .int .i64 n1069, .int .i64 n1070, .string s1071, .int .i64 n1072, .int .i64 n1073], .bool b1074]) ∧ CW w1065 b1061 0 fun _ ↦ CW w1065 b1061 1 fun _ ↦ CW w1065 b1061 2 fun _ ↦ CW w1065 b1061 3 fun _ ↦ CW w1065 b1061 4 fun _ ↦ CW w1065 b1061 5 fun _ ↦ CW w1065 b1061 6 fun _ ↦ CW w1065 b1061 7 fun _ ↦ ∀ w'1083, Put w1065 b1061 0
 [.int .i64 n1066, .int .i64 n1067, .string s1068, .int .i64 n1069, .int .i64 n1070, .string s1071, .int .i64 n1072, .int .i64 n1073]
 w'1083 → (b979 = true ∧ b1074 = true → RI w'1083 b4 0 fun n1086 ↦ RI w'1083 b980 0 fun n1087 ↦ RI w'1083 b980 1 fun n1088 ↦ RS w'1083 b980 2 fun s1089 ↦ RI w'1083 b980 3 fun n1090 ↦ RI w'1083 b980 4 fun n1091 ↦ RS w'1083 b980 5 fun s1092 ↦ RI w'1083 b980 6 fun n1093 ↦ RI w'1083 b980 7 fun n1094 ↦ RI w'1083 b1061 0 fun n1095 ↦ RI w'1083 b1061 1 fun n1096 ↦ RS w'1083 b1061 2 fun s1097 ↦ RI w'1083 b1061 3 fun n1098 ↦ RI w'1083 b1061 4 fun n1099 ↦ RS w'1083 b1061 5 fun s1100 ↦ RI w'1083 b1061 6 fun n1101 ↦ RI w'1083 b1061 7 fun n1102 ↦ Calls Tryd.prog 44
 #[.int .i64 n1086, Value.agg
 #[.int .i64 n1087, .int .i64 n1088, .string s1089, .int .i64 n1090, .int .i64 n1091, .string s1092, .int .i64 n1093, .int .i64 n1094], Value.agg
 #[.int .i64 n1095, .int .i64 n1096, .string s1097, .int .i64 n1098, .int .i64 n1099, .string s1100, .int .i64 n1101, .int .i64 n1102]]
 w'1083 fun e1103 w1104 ↦
 ∃ n1105, e1103 = .returned (.int .i64 n1105) ∧ R (.returned (.int .i64 n1105)) w1104) ∧ (b979 = false ∨ b1074 = false → R (.returned (.int .i64 7)) w'1083)) ∧ ∀ b1107 w'1108, New w'947
 (Obj.cells
 #[.int .i64 0, .int .i64 0, .string ⟨#[]⟩, .int .i64 0, .int .i64 0, .string ⟨#[]⟩, .int .i64 0, .int .i64 0]
 72)
 b1107 w'1108 → SameTo w'947 w'947 w'1108 ∧ Calls Tryd.prog 41
 #[.agg #[.slice p949 n950 c951, .slice p952 n953 c954, .int .i64 n955], .agg #[.int .i64 n961, .string s962, .int .i64 n963, .int .i64 n964, .string s965, .slice p966 n967 c968]]
 w'1108 fun e1110 w1111 ↦
 ∃ n1112, ∃ n1113, ∃ s1114, ∃ n1115, ∃ n1116, ∃ s1117, ∃ n1118, ∃ n1119, ∃ b1120, e1110 =
 .returned
 (Value.tuple
 #[Value.agg
 #[.int .i64 n1112, .int .i64 n1113, .string s1114, .int .i64 n1115, .int .i64 n1116, .string s1117, .int .i64 n1118, .int .i64 n1119], .bool b1120]) ∧ CW w1111 b1107 0 fun _ ↦ CW w1111 b1107 1 fun _ ↦ CW w1111 b1107 2 fun _ ↦ CW w1111 b1107 3 fun _ ↦ CW w1111 b1107 4 fun _ ↦ CW w1111 b1107 5 fun _ ↦ CW w1111 b1107 6 fun _ ↦ CW w1111 b1107 7 fun _ ↦ ∀ w'1129, Put w1111 b1107 0
 [.int .i64 n1112, .int .i64 n1113, .string s1114, .int .i64 n1115, .int .i64 n1116, .string s1117, .int .i64 n1118, .int .i64 n1119]
 w'1129 → ∀ w'1131, Drew w'1129 w'1131 → RL w'1131 b1 0 fun p1133 n1134 c1135 ↦ RL w'1131 b1 1 fun p1136 n1137 c1138 ↦ RI w'1131 b1 2 fun n1139 ↦ RL w'1131 b4 5 fun p1140 n1141 c1142 ↦ ∃ b1143, ∃ o1144, p1140 = some ⟨b1143, o1144, none⟩ ∧ (0 : Int) ≤ 1 ∧ 1 < (↑n1141 : Int) ∧ RI w'1131 b1143 (o1144 + 6) fun n1145 ↦ RS w'1131 b1143 (o1144 + 6 + 1) fun s1146 ↦ RI w'1131 b1143 (o1144 + 6 + 2) fun n1147 ↦ RI w'1131 b1143 (o1144 + 6 + 3) fun n1148 ↦ RS w'1131 b1143 (o1144 + 6 + 4) fun s1149 ↦ RL w'1131 b1143 (o1144 + 6 + 5) fun p1150 n1151 c1152 ↦ (Calls Tryd.prog 41
 #[.agg #[.slice p1133 n1134 c1135, .slice p1136 n1137 c1138, .int .i64 n1139], .agg #[.int .i64 n1145, .string s1146, .int .i64 n1147, .int .i64 n1148, .string s1149, .slice p1150 n1151 c1152]]
 w'1131 fun e1153 w1154 ↦
 ∃ n1155, ∃ n1156, ∃ s1157, ∃ n1158, ∃ n1159, ∃ s1160, ∃ n1161, ∃ n1162, ∃ b1163, e1153 =
 .returned
 (Value.tuple
 #[Value.agg
 #[.int .i64 n1155, .int .i64 n1156, .string s1157, .int .i64 n1158, .int .i64 n1159, .string s1160, .int .i64 n1161, .int .i64 n1162], .bool b1163]) ∧ ∀ b1164 w'1165, New w1154
 (Obj.cells
 #[.int .i64 0, .int .i64 0, .string ⟨#[]⟩, .int .i64 0, .int .i64 0, .string ⟨#[]⟩, .int .i64 0, .int .i64 0]
 72)
 b1164 w'1165 → SameTo w'1131 w1154 w'1165 ∧ CW w'1165 b1164 0 fun _ ↦ CW w'1165 b1164 1 fun _ ↦ CW w'1165 b1164 2 fun _ ↦ CW w'1165 b1164 3 fun _ ↦ CW w'1165 b1164 4 fun _ ↦ CW w'1165 b1164 5 fun _ ↦ CW w'1165 b1164 6 fun _ ↦ CW w'1165 b1164 7 fun _ ↦ ∀ w'1175, Put w'1165 b1164 0
 [.int .i64 n1155, .int .i64 n1156, .string s1157, .int .i64 n1158, .int .i64 n1159, .string s1160, .int .i64 n1161, .int .i64 n1162]
 w'1175 → (b1120 = true ∧ b1163 = true → RI w'1175 b4 0 fun n1178 ↦ RI w'1175 b1107 0 fun n1179 ↦ RI w'1175 b1107 1 fun n1180 ↦ RS w'1175 b1107 2 fun s1181 ↦ RI w'1175 b1107 3 fun n1182 ↦ RI w'1175 b1107 4 fun n1183 ↦ RS w'1175 b1107 5 fun s1184 ↦ RI w'1175 b1107 6 fun n1185 ↦ RI w'1175 b1107 7 fun n1186 ↦ RI w'1175 b1164 0 fun n1187 ↦ RI w'1175 b1164 1 fun n1188 ↦ RS w'1175 b1164 2 fun s1189 ↦ RI w'1175 b1164 3 fun n1190 ↦ RI w'1175 b1164 4 fun n1191 ↦ RS w'1175 b1164 5 fun s1192 ↦ RI w'1175 b1164 6 fun n1193 ↦ RI w'1175 b1164 7 fun n1194 ↦ Calls Tryd.prog 44
 #[.int .i64 n1178, Value.agg
 #[.int .i64 n1179, .int .i64 n1180, .string s1181, .int .i64 n1182, .int .i64 n1183, .string s1184, .int .i64 n1185, .int .i64 n1186], Value.agg
 #[.int .i64 n1187, .int .i64 n1188, .string s1189, .int .i64 n1190, .int .i64 n1191, .string s1192, .int .i64 n1193, .int .i64 n1194]]
 w'1175 fun e1195 w1196 ↦
 ∃ n1197, e1195 = .returned (.int .i64 n1197) ∧ R (.returned (.int .i64 n1197)) w1196) ∧ (b1120 = false ∨ b1163 = false → R (.returned (.int .i64 7)) w'1175)) ∧ ∀ b1199 w'1200, New w'1131
 (Obj.cells
 #[.int .i64 0, .int .i64 0, .string ⟨#[]⟩, .int .i64 0, .int .i64 0, .string ⟨#[]⟩, .int .i64 0, .int .i64 0]
 72)
 b1199 w'1200 → SameTo w'1131 w'1131 w'1200 ∧ Calls Tryd.prog 41
 #[.agg #[.slice p1133 n1134 c1135, .slice p1136 n1137 c1138, .int .i64 n1139], .agg #[.int .i64 n1145, .string s1146, .int .i64 n1147, .int .i64 n1148, .string s1149, .slice p1150 n1151 c1152]]
 w'1200 fun e1202 w1203 ↦
 ∃ n1204, ∃ n1205, ∃ s1206, ∃ n1207, ∃ n1208, ∃ s1209, ∃ n1210, ∃ n1211, ∃ b1212, e1202 =
 .returned
 (Value.tuple
 #[Value.agg
 #[.int .i64 n1204, .int .i64 n1205, .string s1206, .int .i64 n1207, .int .i64 n1208, .string s1209, .int .i64 n1210, .int .i64 n1211], .bool b1212]) ∧ CW w1203 b1199 0 fun _ ↦ CW w1203 b1199 1 fun _ ↦ CW w1203 b1199 2 fun _ ↦ CW w1203 b1199 3 fun _ ↦ CW w1203 b1199 4 fun _ ↦ CW w1203 b1199 5 fun _ ↦ CW w1203 b1199 6 fun _ ↦ CW w1203 b1199 7 fun _ ↦ ∀ w'1221, Put w1203 b1199 0
 [.int .i64 n1204, .int .i64 n1205, .string s1206, .int .i64 n1207, .int .i64 n1208, .string s1209, .int .i64 n1210, .int .i64 n1211]
 w'1221 → (b1120 = true ∧ b1212 = true → RI w'1221 b4 0 fun n1224 ↦ RI w'1221 b1107 0 fun n1225 ↦ RI w'1221 b1107 1 fun n1226 ↦ RS w'1221 b1107 2 fun s1227 ↦ RI w'1221 b1107 3 fun n1228 ↦ RI w'1221 b1107 4 fun n1229 ↦ RS w'1221 b1107 5 fun s1230 ↦ RI w'1221 b1107 6 fun n1231 ↦ RI w'1221 b1107 7 fun n1232 ↦ RI w'1221 b1199 0 fun n1233 ↦ RI w'1221 b1199 1 fun n1234 ↦ RS w'1221 b1199 2 fun s1235 ↦ RI w'1221 b1199 3 fun n1236 ↦ RI w'1221 b1199 4 fun n1237 ↦ RS w'1221 b1199 5 fun s1238 ↦ RI w'1221 b1199 6 fun n1239 ↦ RI w'1221 b1199 7 fun n1240 ↦ Calls Tryd.prog 44
 #[.int .i64 n1224, Value.agg
 #[.int .i64 n1225, .int .i64 n1226, .string s1227, .int .i64 n1228, .int .i64 n1229, .string s1230, .int .i64 n1231, .int .i64 n1232], Value.agg
 #[.int .i64 n1233, .int .i64 n1234, .string s1235, .int .i64 n1236, .int .i64 n1237, .string s1238, .int .i64 n1239, .int .i64 n1240]]
 w'1221 fun e1241 w1242 ↦
 ∃ n1243, e1241 = .returned (.int .i64 n1243) ∧ R (.returned (.int .i64 n1243)) w1242) ∧ (b1120 = false ∨ b1212 = false → R (.returned (.int .i64 7)) w'1221)) ∧ (n7 ≠ 11 → R (.returned (.int .i64 7)) w'5)))))))))

set_option maxRecDepth 100000 in
theorem panswers_eq (t0_p : Option Addr) (t0_n : Nat) (t0_c : Nat) (t1_p : Option Addr) (t1_n : Nat) (t1_c : Nat) (t2 : Int) (x0 : Int) (x1 : ByteArray) (x2 : Int) (x3 : Int) (x4 : ByteArray) (x5_p : Option Addr) (x5_n : Nat) (x5_c : Nat) (w : World) (R : Ending → World → Prop) : panswers_T t0_p t0_n t0_c t1_p t1_n t1_c t2 x0 x1 x2 x3 x4 x5_p x5_n x5_c w R = vcFn Tryd.prog [] [(3, [2, 4, 6, 8, 12, 14, 16, 18, 20, 22, 24, 26, 11, 28, 30, 32, 0]), (6, [2, 4, 6, 10, 12, 14, 16, 18, 36, 38, 40, 42, 44, 9, 20, 22, 24, 26, 28, 30, 33, 34, 46, 48, 50, 52, 54, 56, 58, 60, 62, 0]), (8, [2, 4, 6, 8, 10, 12, 14, 16, 0]), (10, [2, 4, 6, 8, 10, 14, 16, 18, 20, 22, 13, 24, 26, 28, 0]), (12, [2, 4, 6, 8, 10, 16, 18, 20, 22, 24, 13, 15, 26, 28, 30, 32, 34, 0]), (14, [2, 4, 6, 8, 10, 1, 12, 14, 16, 18, 21, 22, 24, 0, 21, 12, 14, 16, 18, 22, 24, 0]), (16, [2, 4, 6, 10, 12, 14, 16, 18, 9, 20, 22, 24, 0]), (20, [2, 4, 6, 8, 10, 1, 12, 14, 16, 18, 21, 22, 24, 0, 21, 12, 14, 16, 18, 22, 24, 0]), (21, [2, 4, 6, 8, 10, 1, 12, 14, 16, 18, 21, 22, 24, 0, 21, 12, 14, 16, 18, 22, 24, 0])] Tryd.f23 [.agg #[.slice t0_p t0_n t0_c, .slice t1_p t1_n t1_c, .int .i64 t2], Value.agg
 #[.int .i64 x0, .string x1, .int .i64 x2, .int .i64 x3, .string x4, .slice x5_p x5_n x5_c]] w R := by kernel_rfl

set_option maxRecDepth 100000 in
theorem panswers_vc (t0_p : Option Addr) (t0_n : Nat) (t0_c : Nat) (t1_p : Option Addr) (t1_n : Nat) (t1_c : Nat) (t2 : Int) (x0 : Int) (x1 : ByteArray) (x2 : Int) (x3 : Int) (x4 : ByteArray) (x5_p : Option Addr) (x5_n : Nat) (x5_c : Nat) (w : World) (R : Ending → World → Prop) (h : panswers_T t0_p t0_n t0_c t1_p t1_n t1_c t2 x0 x1 x2 x3 x4 x5_p x5_n x5_c w R) : Calls Tryd.prog 23 #[.agg #[.slice t0_p t0_n t0_c, .slice t1_p t1_n t1_c, .int .i64 t2], Value.agg
 #[.int .i64 x0, .string x1, .int .i64 x2, .int .i64 x3, .string x4, .slice x5_p x5_n x5_c]] w R :=
  calls_of_vc (args := [.agg #[.slice t0_p t0_n t0_c, .slice t1_p t1_n t1_c, .int .i64 t2], Value.agg
 #[.int .i64 x0, .string x1, .int .i64 x2, .int .i64 x3, .string x4, .slice x5_p x5_n x5_c]]) [] [(3, [2, 4, 6, 8, 12, 14, 16, 18, 20, 22, 24, 26, 11, 28, 30, 32, 0]), (6, [2, 4, 6, 10, 12, 14, 16, 18, 36, 38, 40, 42, 44, 9, 20, 22, 24, 26, 28, 30, 33, 34, 46, 48, 50, 52, 54, 56, 58, 60, 62, 0]), (8, [2, 4, 6, 8, 10, 12, 14, 16, 0]), (10, [2, 4, 6, 8, 10, 14, 16, 18, 20, 22, 13, 24, 26, 28, 0]), (12, [2, 4, 6, 8, 10, 16, 18, 20, 22, 24, 13, 15, 26, 28, 30, 32, 34, 0]), (14, [2, 4, 6, 8, 10, 1, 12, 14, 16, 18, 21, 22, 24, 0, 21, 12, 14, 16, 18, 22, 24, 0]), (16, [2, 4, 6, 10, 12, 14, 16, 18, 9, 20, 22, 24, 0]), (20, [2, 4, 6, 8, 10, 1, 12, 14, 16, 18, 21, 22, 24, 0, 21, 12, 14, 16, 18, 22, 24, 0]), (21, [2, 4, 6, 8, 10, 1, 12, 14, 16, 18, 21, 22, 24, 0, 21, 12, 14, 16, 18, 22, 24, 0])] Tryd.mixed Tryd.func23 (cast (panswers_eq _ _ _ _ _ _ _ _ _ _ _ _ _ _ _ w R) h)

set_option maxRecDepth 100000 in
def pAnswers_T (cols_p : Option Addr) (cols_n : Nat) (cols_c : Nat) (zones_p : Option Addr) (zones_n : Nat) (zones_c : Nat) (n : Int) (x0 : Int) (x1 : ByteArray) (x2 : Int) (x3 : Int) (x4 : ByteArray) (x5_p : Option Addr) (x5_n : Nat) (x5_c : Nat) (w : World) (R : Ending → World → Prop) : Prop :=
  ∀ b1 w'2, New w (Obj.cells #[.int .i64 x0, .string x1, .int .i64 x2, .int .i64 x3, .string x4, .slice x5_p x5_n x5_c] 28) b1
 w'2 → RI w'2 b1 0 fun n4 ↦ RS w'2 b1 1 fun s5 ↦ RI w'2 b1 2 fun n6 ↦ RI w'2 b1 3 fun n7 ↦ RS w'2 b1 4 fun s8 ↦ RL w'2 b1 5 fun p9 n10 c11 ↦ Calls Tryd.prog 21
 #[.slice cols_p cols_n cols_c, .agg #[.int .i64 n4, .string s5, .int .i64 n6, .int .i64 n7, .string s8, .slice p9 n10 c11]]
 w'2 fun e12 w13 ↦
 ∃ n14, ∃ n15, e12 = .returned (.tuple #[.int .i64 n14, .int .i64 n15]) ∧ (n15 ≠ 0 → R (.returned (.tuple #[.int .i64 0, .int .i64 n15])) w13) ∧ (n15 = 0 → (n14 ≠ 2 ∧ n14 ≠ 0 → R (.returned (.tuple #[.int .i64 0, .int .i64 121])) w13) ∧ (n14 = 2 ∨ n14 = 0 → (((↑zones_n : Int) ≠ (↑cols_n : Int) ∨ n < 0) ∨ 1024 < n → R (.returned (.tuple #[.int .i64 0, .int .i64 2])) w13) ∧ (((↑zones_n : Int) = (↑cols_n : Int) ∧ 0 ≤ n) ∧ n ≤ 1024 → ∀ b22 w'23, New w13 (Obj.cells #[.slice none 0 0, .slice none 0 0, .int .i64 0] 59) b22 w'23 → CW w'23 b22 0 fun _ ↦ CW w'23 b22 1 fun _ ↦ CW w'23 b22 2 fun _ ↦ ∀ w'28, Put w'23 b22 0 [.slice cols_p cols_n cols_c, .slice zones_p zones_n zones_c, .int .i64 n] w'28 → ∃ (I30 : Int → World → Prop), ∃ (M31 : Int → World → Nat), I30 0 w'28 ∧ ∀ (n32 : Int) (w'33 : World), I30 n32 w'33 → (n32 < (↑cols_n : Int) → RL w'33 b22 0 fun p36 n37 c38 ↦ RL w'33 b22 1 fun p39 n40 c41 ↦ RI w'33 b22 2 fun n42 ↦ Calls Tryd.prog 22 #[.agg #[.slice p36 n37 c38, .slice p39 n40 c41, .int .i64 n42], .int .i64 n32] w'33
 fun e43 w44 ↦
 ∃ b45, e43 = .returned (.bool b45) ∧ (b45 = false → R (.returned (.tuple #[.int .i64 0, .int .i64 2])) w44) ∧ (b45 = true → I30 (IntKind.i64.wrap (n32 + 1)) w44 ∧ M31 (IntKind.i64.wrap (n32 + 1)) w44 < M31 n32 w'33)) ∧ ((↑cols_n : Int) ≤ n32 → (n = 0 → R (.returned (.tuple #[.int .i64 0, .int .i64 0])) w'33) ∧ (n ≠ 0 → RL w'33 b22 0 fun p51 n52 c53 ↦ RL w'33 b22 1 fun p54 n55 c56 ↦ RI w'33 b22 2 fun n57 ↦ RI w'33 b1 0 fun n58 ↦ RS w'33 b1 1 fun s59 ↦ RI w'33 b1 2 fun n60 ↦ RI w'33 b1 3 fun n61 ↦ RS w'33 b1 4 fun s62 ↦ RL w'33 b1 5 fun p63 n64 c65 ↦ Calls Tryd.prog 23
 #[.agg #[.slice p51 n52 c53, .slice p54 n55 c56, .int .i64 n57], .agg #[.int .i64 n58, .string s59, .int .i64 n60, .int .i64 n61, .string s62, .slice p63 n64 c65]]
 w'33 fun e66 w67 ↦
 ∃ n68, e66 = .returned (.int .i64 n68) ∧ R (.returned (.tuple #[.int .i64 n68, .int .i64 0])) w67)))))

set_option maxRecDepth 100000 in
theorem pAnswers_eq (cols_p : Option Addr) (cols_n : Nat) (cols_c : Nat) (zones_p : Option Addr) (zones_n : Nat) (zones_c : Nat) (n : Int) (x0 : Int) (x1 : ByteArray) (x2 : Int) (x3 : Int) (x4 : ByteArray) (x5_p : Option Addr) (x5_n : Nat) (x5_c : Nat) (w : World) (R : Ending → World → Prop) : pAnswers_T cols_p cols_n cols_c zones_p zones_n zones_c n x0 x1 x2 x3 x4 x5_p x5_n x5_c w R = vcFn Tryd.prog [] [] Tryd.f11 [.slice cols_p cols_n cols_c, .slice zones_p zones_n zones_c, .int .i64 n, Value.agg
 #[.int .i64 x0, .string x1, .int .i64 x2, .int .i64 x3, .string x4, .slice x5_p x5_n x5_c]] w R := by kernel_rfl

set_option maxRecDepth 100000 in
theorem pAnswers_vc (cols_p : Option Addr) (cols_n : Nat) (cols_c : Nat) (zones_p : Option Addr) (zones_n : Nat) (zones_c : Nat) (n : Int) (x0 : Int) (x1 : ByteArray) (x2 : Int) (x3 : Int) (x4 : ByteArray) (x5_p : Option Addr) (x5_n : Nat) (x5_c : Nat) (w : World) (R : Ending → World → Prop) (h : pAnswers_T cols_p cols_n cols_c zones_p zones_n zones_c n x0 x1 x2 x3 x4 x5_p x5_n x5_c w R) : Calls Tryd.prog 11 #[.slice cols_p cols_n cols_c, .slice zones_p zones_n zones_c, .int .i64 n, Value.agg
 #[.int .i64 x0, .string x1, .int .i64 x2, .int .i64 x3, .string x4, .slice x5_p x5_n x5_c]] w R :=
  calls_of_vc (args := [.slice cols_p cols_n cols_c, .slice zones_p zones_n zones_c, .int .i64 n, Value.agg
 #[.int .i64 x0, .string x1, .int .i64 x2, .int .i64 x3, .string x4, .slice x5_p x5_n x5_c]]) [] [] Tryd.mixed Tryd.func11 (cast (pAnswers_eq _ _ _ _ _ _ _ _ _ _ _ _ _ _ _ w R) h)

end Go.Proofs.YtpjafkcmbinjiaaDoor

/- Stable sorts, as plain laws of lists: a list that is in order, and in which those that stand alike come as they came, is one alone. -/
namespace Go.Vc

/-- A comparator: turned round its sign turns; it is transitive. -/
structure Cmp {α : Type} (c : α → α → Int) : Prop where
  anti : ∀ x y, c y x = - c x y
  trans : ∀ x y z, c x y ≤ 0 → c y z ≤ 0 → c x z ≤ 0

section
variable {α : Type} {c : α → α → Int}

theorem Cmp.self (h : Cmp c) (x : α) : c x x = 0 := by have := h.anti x x; omega
theorem Cmp.lt_of (h : Cmp c) {x y z : α} (a : c x y < 0) (b : c y z ≤ 0) : c x z < 0 := by
  have := h.trans x y z (by omega) b
  rcases Int.lt_or_eq_of_le this with h1 | h1
  · exact h1
  · have h2 := h.anti x z
    have h3 := h.trans y z x b (by omega)
    have h4 := h.anti x y
    omega
theorem Cmp.of_lt (h : Cmp c) {x y z : α} (a : c x y ≤ 0) (b : c y z < 0) : c x z < 0 := by
  have := h.trans x y z a (by omega)
  rcases Int.lt_or_eq_of_le this with h1 | h1
  · exact h1
  · have h2 := h.anti x z
    have h3 := h.trans z x y (by omega) a
    have h4 := h.anti y z
    omega
theorem Cmp.eq_trans (h : Cmp c) {x y z : α} (a : c x y = 0) (b : c y z = 0) : c x z = 0 := by
  have h1 := h.trans x y z (by omega) (by omega)
  have h2 := h.anti x y
  have h3 := h.anti y z
  have h4 := h.trans z y x (by omega) (by omega)
  have h5 := h.anti x z
  omega
theorem Cmp.eq_symm (h : Cmp c) {x y : α} (a : c x y = 0) : c y x = 0 := by have := h.anti x y; omega

def Ord (c : α → α → Int) (l : List α) : Prop := l.Pairwise fun x y => c x y ≤ 0
/-- Those of a list that stand as z does. -/
def cls (c : α → α → Int) (z : α) (l : List α) : List α := l.filter fun x => decide (c z x = 0)
def SameF (c : α → α → Int) (xs ys : List α) : Prop := ∀ z, cls c z xs = cls c z ys
/-- ys is xs in order, and stable. -/
structure Stab (c : α → α → Int) (xs ys : List α) : Prop where
  ord : Ord c ys
  same : SameF c xs ys

theorem cls_append (z : α) (a b : List α) : cls c z (a ++ b) = cls c z a ++ cls c z b := by simp [cls]
theorem SameF.rfl {a : List α} : SameF c a a := fun _ => Eq.refl _
theorem SameF.symm {a b : List α} (h : SameF c a b) : SameF c b a := fun z => (h z).symm
theorem SameF.trans {a b d : List α} (h : SameF c a b) (k : SameF c b d) : SameF c a d := fun z => (h z).trans (k z)
theorem SameF.app {a b d e : List α} (h : SameF c a b) (k : SameF c d e) : SameF c (a ++ d) (b ++ e) := fun z => by rw [cls_append, cls_append, h z, k z]
/-- Two blocks, no two of which stand alike, change places. -/
theorem SameF.swap (hc : Cmp c) {u v : List α} (h : ∀ x ∈ u, ∀ y ∈ v, c x y ≠ 0) : SameF c (u ++ v) (v ++ u) := by
  intro z
  rw [cls_append, cls_append]
  by_cases hu : cls c z u = []
  · rw [hu]; simp
  · by_cases hv : cls c z v = []
    · rw [hv]; simp
    · exfalso
      obtain ⟨x, hx⟩ := List.exists_mem_of_ne_nil _ hu
      obtain ⟨y, hy⟩ := List.exists_mem_of_ne_nil _ hv
      simp only [cls, List.mem_filter, decide_eq_true_eq] at hx hy
      exact h x hx.1 y hy.1 (hc.eq_trans (hc.eq_symm hx.2) hy.2)
theorem SameF.mem (hc : Cmp c) {a b : List α} (h : SameF c a b) {x : α} : x ∈ a ↔ x ∈ b := by
  have key : ∀ l : List α, x ∈ l ↔ x ∈ cls c x l := fun l => by simp [cls, hc.self]
  rw [key a, key b, h x]
theorem cls_split {z x : α} : ∀ {b r : List α}, cls c z b = x :: r → ∃ s t, b = s ++ x :: t ∧ cls c z s = []
  | [], r, h => by simp [cls] at h
  | y :: b, r, h => by
    by_cases hy : c z y = 0
    · have e1 : cls c z (y :: b) = y :: cls c z b := by simp [cls, hy]
      rw [e1] at h
      cases h
      exact ⟨[], b, rfl, rfl⟩
    · have e1 : ∀ l : List α, cls c z (y :: l) = cls c z l := fun l => by simp [cls, hy]
      rw [e1] at h
      obtain ⟨s, t, rfl, hs⟩ := cls_split h
      exact ⟨y :: s, t, rfl, by rw [e1, hs]⟩
theorem SameF.length (hc : Cmp c) : ∀ {a b : List α}, SameF c a b → a.length = b.length
  | [], b, h => by
    cases b with
    | nil => rfl
    | cons y b => have := (SameF.mem hc h (x := y)).2 (by simp); cases this
  | x :: a, b, h => by
    have hx := h x
    have e1 : cls c x (x :: a) = x :: cls c x a := by simp [cls, hc.self]
    rw [e1] at hx
    obtain ⟨s, t, rfl, hs⟩ := cls_split hx.symm
    have h2 : SameF c (s ++ x :: t) (x :: (s ++ t)) := by
      have : SameF c (s ++ [x] ++ t) ([x] ++ s ++ t) := by
        refine SameF.app (SameF.swap hc fun p hp q hq e => ?_) .rfl
        simp at hq; subst hq
        have : p ∈ cls c q s := by simp [cls, hp, hc.eq_symm e]
        rw [hs] at this; cases this
      simpa using this
    have h3 := h.trans h2
    have h4 : SameF c a (s ++ t) := by
      intro z
      have hz := h3 z
      by_cases hzx : c z x = 0
      · have e1 : ∀ l : List α, cls c z (x :: l) = x :: cls c z l := fun l => by simp [cls, hzx]
        rw [e1, e1] at hz
        exact (List.cons.inj hz).2
      · have e1 : ∀ l : List α, cls c z (x :: l) = cls c z l := fun l => by simp [cls, hzx]
        rwa [e1, e1] at hz
    have := SameF.length hc h4
    simp only [List.length_append, List.length_cons] at this ⊢
    omega

/-- There is one such list alone. -/
theorem Ord.unique (hc : Cmp c) : ∀ {a b : List α}, Ord c a → Ord c b → SameF c a b → a = b
  | [], b, _, _, h => by
    cases b with
    | nil => rfl
    | cons y b => have := (SameF.mem hc h (x := y)).2 (by simp); cases this
  | x :: a, [], _, _, h => by have := (SameF.mem hc h (x := x)).1 (by simp); cases this
  | x :: a, y :: b, ha, hb, h => by
    have hxb : x ∈ y :: b := (SameF.mem hc h).1 (by simp)
    have hya : y ∈ x :: a := (SameF.mem hc h).2 (by simp)
    have h1 : c y x ≤ 0 := by
      rcases List.mem_cons.1 hxb with rfl | hm
      · rw [hc.self]; exact Int.le_refl 0
      · exact (List.pairwise_cons.1 hb).1 x hm
    have h2 : c x y ≤ 0 := by
      rcases List.mem_cons.1 hya with rfl | hm
      · rw [hc.self]; exact Int.le_refl 0
      · exact (List.pairwise_cons.1 ha).1 y hm
    have h3 := hc.anti x y
    have h0 : c x y = 0 := by omega
    have hx := h x
    have e1 : cls c x (x :: a) = x :: cls c x a := by simp [cls, hc.self]
    have e2 : cls c x (y :: b) = y :: cls c x b := by simp [cls, h0]
    rw [e1, e2] at hx
    have hxy : x = y := (List.cons.inj hx).1
    subst hxy
    congr 1
    refine Ord.unique hc (List.pairwise_cons.1 ha).2 (List.pairwise_cons.1 hb).2 fun z => ?_
    have hz := h z
    by_cases hzx : c z x = 0
    · have e1 : ∀ l : List α, cls c z (x :: l) = x :: cls c z l := fun l => by simp [cls, hzx]
      rw [e1, e1] at hz
      exact (List.cons.inj hz).2
    · have e1 : ∀ l : List α, cls c z (x :: l) = cls c z l := fun l => by simp [cls, hzx]
      rwa [e1, e1] at hz
theorem Stab.unique (hc : Cmp c) {xs ys zs : List α} (h : Stab c xs ys) (k : Stab c xs zs) : ys = zs := Ord.unique hc h.ord k.ord (h.same.symm.trans k.same)
theorem Stab.mem (hc : Cmp c) {xs ys : List α} (h : Stab c xs ys) {x : α} : x ∈ ys ↔ x ∈ xs := (SameF.mem hc h.same).symm
theorem Stab.length (hc : Cmp c) {xs ys : List α} (h : Stab c xs ys) : ys.length = xs.length := (SameF.length hc h.same).symm
/-! ### Insertion -/
/-- In order already. -/
theorem Ord.app {a b : List α} (ha : Ord c a) (hb : Ord c b) (h : ∀ x ∈ a, ∀ y ∈ b, c x y ≤ 0) : Ord c (a ++ b) := List.pairwise_append.2 ⟨ha, hb, h⟩
theorem Ord.left {a b : List α} (h : Ord c (a ++ b)) : Ord c a := (List.pairwise_append.1 h).1
theorem Ord.right {a b : List α} (h : Ord c (a ++ b)) : Ord c b := (List.pairwise_append.1 h).2.1
theorem Ord.get (hc : Cmp c) {l : List α} (h : Ord c l) {i j : Nat} (hij : i ≤ j) {x y : α} (hx : l[i]? = some x) (hy : l[j]? = some y) : c x y ≤ 0 := by
  rcases Nat.lt_or_eq_of_le hij with hlt | rfl
  · obtain ⟨hi, rfl⟩ := List.getElem?_eq_some_iff.1 hx
    obtain ⟨hj, rfl⟩ := List.getElem?_eq_some_iff.1 hy
    exact List.pairwise_iff_getElem.1 h i j hi hj hlt
  · rw [hx] at hy; cases hy; rw [hc.self]; exact Int.le_refl 0
end
end Go.Vc

/- What lies in memory, in the words of the contracts: values in a row, blocks and rows of one's own, what each step leaves as it was. -/
namespace Go.Vc
open Go Go.RowKit

/-! ### Steps -/
/-- All that was there is as it was. -/
def Ext (w w' : World) : Prop := Below w.heap.size w w'

theorem Ext.below {w w' : World} (h : Ext w w') : Below w.heap.size w w' := h
theorem Ext.size {w w' : World} (h : Ext w w') : w.heap.size ≤ w'.heap.size := h.below.size
theorem Ext.block {w w' : World} (h : Ext w w') (k : Nat) (hk : k < w.heap.size) : w'.heap[k]? = w.heap[k]? := h.below.block k hk
theorem Ext.rfl {w : World} : Ext w w := Below.refl _ _
theorem Ext.trans {a b c : World} (h : Ext a b) (k : Ext b c) : Ext a c := h.below.trans (k.below.mono h.size)
theorem Ext.same {wr w w' : World} (h : Ext w w') : SameTo wr w w' := fun k _ hk => h.block k hk
theorem _root_.Go.RowKit.Below.ext {B : Nat} {a w w' : World} (h : Below B a w) (k : Ext w w') (hB : B ≤ w.heap.size) : Below B a w' := h.trans (k.below.mono hB)
theorem _root_.Go.RowKit.Below.cast {B B' : Nat} {a w : World} (h : Below B a w) (e : B = B') : Below B' a w := e ▸ h

/-- All is as it was but for block b. -/
structure But (b : Nat) (w w' : World) : Prop where
  os : w'.os = w.os
  tape : w'.tape = w.tape
  output : w'.output = w.output
  size : w.heap.size ≤ w'.heap.size
  block : ∀ k, k < w.heap.size → k ≠ b → w'.heap[k]? = w.heap[k]?

theorem Ext.but {w w' : World} (h : Ext w w') (b : Nat) : But b w w' := ⟨h.below.os, h.below.tape, h.below.output, h.size, fun k hk _ => h.block k hk⟩
theorem But.sameTo {b : Nat} {wr w w' : World} (h : But b w w') (hb : wr.heap.size ≤ b) : SameTo wr w w' := fun k hk hw => h.block k hw (by omega)
theorem But.trans {b : Nat} {x y z : World} (h : But b x y) (k : But b y z) : But b x z :=
  ⟨k.os.trans h.os, k.tape.trans h.tape, k.output.trans h.output, Nat.le_trans h.size k.size, fun i hi hne => (k.block i (Nat.lt_of_lt_of_le hi h.size) hne).trans (h.block i hi hne)⟩
theorem _root_.Go.RowKit.Below.but {B b : Nat} {a w w' : World} (h : Below B a w) (k : But b w w') (hb : B ≤ b) (hB : B ≤ w.heap.size) : Below B a w' :=
  h.trans ⟨k.os, k.tape, k.output, k.size, fun i hi => k.block i (by omega) (by omega)⟩

theorem New.ext {w w' : World} {o : Obj} {b : Nat} (h : New w o b w') : Ext w w' := by rw [h.2]; exact (Below.refl _ w).alloc (Nat.le_refl _) o
theorem New.size {w w' : World} {o : Obj} {b : Nat} (h : New w o b w') : b = w.heap.size ∧ w'.heap.size = w.heap.size + 1 := ⟨h.1, by rw [h.2]; simp⟩
theorem New.obj {w w' : World} {o : Obj} {b : Nat} (h : New w o b w') : w'.heap[b]? = some o := by rw [h.2, h.1]; exact World.alloc_heap_new w o
theorem Drew.ext {w w' : World} (h : Drew w w') : Ext w w' := by rw [h]; exact (Below.refl _ w).drew
theorem Drew.size {w w' : World} (h : Drew w w') : w'.heap.size = w.heap.size := by rw [h]; rfl
theorem setL_but : ∀ (vs : List Value) (b o j : Nat) (w : World), But b w (setL vs b o j w) ∧ (setL vs b o j w).heap.size = w.heap.size
  | [], _, _, _, w => ⟨⟨rfl, rfl, rfl, Nat.le_refl _, fun _ _ _ => rfl⟩, rfl⟩
  | v :: vs, b, o, j, w => by
    obtain ⟨h, hs⟩ := setL_but vs b o (j + 1) (w.setCell ⟨b, off o j, none⟩ v)
    have h1 : But b w (w.setCell ⟨b, off o j, none⟩ v) := ⟨rfl, rfl, rfl, by simp [World.setCell], fun k _ hne => Below.heap_setCell w _ v k hne⟩
    exact ⟨h1.trans h, by rw [setL, hs]; simp [World.setCell]⟩
theorem Put.but {w w' : World} {b o : Nat} {vs : List Value} (h : Put w b o vs w') : But b w w' := by rw [h]; exact (setL_but vs b o 0 w).1
theorem Put.size {w w' : World} {b o : Nat} {vs : List Value} (h : Put w b o vs w') : w'.heap.size = w.heap.size := by rw [h]; exact (setL_but vs b o 0 w).2
theorem grown_but {w w' : World} {b o n c : Nat} (h : w.grownBy w' (Value.slice (some ⟨b, o, none⟩) n c).ownBlock) : But b w w' := ⟨h.os, h.tape, h.output, h.size, fun k hk hne => h.block k hk (by intro e; cases e; exact hne rfl)⟩
theorem grown_nil {w w' : World} {n c : Nat} (h : w.grownBy w' (Value.slice none n c).ownBlock) : Ext w w' := ⟨h.os, h.tape, h.output, h.size, fun k hk => h.block k hk (by intro e; cases e)⟩

theorem turn_but {r : Nat → Loop} {l k : Nat} {w : World} : But l w (turn r l k w) ∧ (turn r l k w).heap.size = w.heap.size :=
  ⟨⟨rfl, rfl, rfl, by simp [turn], fun i _ hne => World.putObj_heap_other hne⟩, by simp [turn]⟩
theorem Rec.lt {r : Nat → Loop} {l k : Nat} {w : World} (h : Rec r l k w) : l < w.heap.size := (Array.getElem?_eq_some_iff.1 h).1
theorem Rec.turn {r : Nat → Loop} {l k : Nat} {w : World} (h : Rec r l k w) (k' : Nat) : Rec r l k' (turn r l k' w) := World.putObj_heap_same h.lt
theorem Rec.ext {r : Nat → Loop} {l k : Nat} {w w' : World} (h : Rec r l k w) (e : Ext w w') : Rec r l k w' := (e.block l h.lt).trans h
theorem Rec.but {r : Nat → Loop} {l k b : Nat} {w w' : World} (h : Rec r l k w) (e : But b w w') (hne : l ≠ b) : Rec r l k w' := (e.block l h.lt hne).trans h

theorem Began.ext {w w1 : World} {r : Nat → Loop} {d l : Nat} (h : Began w r d l w1) : Ext w w1 := by
  rw [h.2.2]; exact ((Below.refl _ w).alloc (Nat.le_refl _) _).alloc (by simp) _
theorem Began.sizes {w w1 : World} {r : Nat → Loop} {d l : Nat} (h : Began w r d l w1) : d = w.heap.size ∧ l = w.heap.size + 1 ∧ w1.heap.size = w.heap.size + 2 := ⟨h.1, h.2.1, by rw [h.2.2]; simp⟩
/-- The block for deferred calls is open. -/
def Dfr (d : Nat) (w : World) : Prop := w.heap[d]? = some (.deferred (some []))
theorem Began.dfr {w w1 : World} {r : Nat → Loop} {d l : Nat} (h : Began w r d l w1) : Dfr d w1 := by
  unfold Dfr
  rw [h.2.2, h.1]
  rw [Below.heap_alloc _ _ _ (by simp)]
  exact World.alloc_heap_new w _
theorem Dfr.lt {d : Nat} {w : World} (h : Dfr d w) : d < w.heap.size := (Array.getElem?_eq_some_iff.1 h).1
theorem Dfr.ext {d : Nat} {w w' : World} (h : Dfr d w) (e : Ext w w') : Dfr d w' := (e.block d h.lt).trans h
theorem Dfr.but {d b : Nat} {w w' : World} (h : Dfr d w) (e : But b w w') (hne : d ≠ b) : Dfr d w' := (e.block d h.lt hne).trans h
theorem shut_but {d : Nat} {w : World} : But d w (w.putObj d (.deferred none)) ∧ (w.putObj d (.deferred none)).heap.size = w.heap.size :=
  ⟨⟨rfl, rfl, rfl, by simp, fun i _ hne => World.putObj_heap_other hne⟩, by simp⟩

/-! ### Blocks -/
/-- Block b holds the cells cs, and none of them is frozen. -/
def Blk (w : World) (b : Nat) (t : TypeId) (cs : Array Value) : Prop := w.heap[b]? = some (.cells cs t (0, 0))

theorem Blk.new {w w' : World} {b : Nat} {t : TypeId} {cs : Array Value} (h : New w (.cells cs t) b w') : Blk w' b t cs := h.obj
theorem Blk.lt {w : World} {b : Nat} {t : TypeId} {cs : Array Value} (h : Blk w b t cs) : b < w.heap.size := (Array.getElem?_eq_some_iff.1 h).1
theorem Blk.ext {w w' : World} {b : Nat} {t : TypeId} {cs : Array Value} (h : Blk w b t cs) (e : Ext w w') : Blk w' b t cs := (e.block b h.lt).trans h
theorem Blk.but {w w' : World} {b b' : Nat} {t : TypeId} {cs : Array Value} (h : Blk w b t cs) (e : But b' w w') (hne : b ≠ b') : Blk w' b t cs := (e.block b h.lt hne).trans h
theorem Blk.cell {w : World} {b : Nat} {t : TypeId} {cs : Array Value} (h : Blk w b t cs) (i : Nat) : w.cell? ⟨b, i, none⟩ = cs[i]? := by
  unfold World.cell?
  rw [show w.heap[b]? = _ from h]
  simp
/-- The one cell of a box. -/
theorem Blk.one {w : World} {b : Nat} {t : TypeId} {v : Value} (h : Blk w b t #[v]) : w.cell? ⟨b, 0, none⟩ = some v := by rw [h.cell]; rfl
theorem Blk.frozen {w : World} {b : Nat} {t : TypeId} {cs : Array Value} (h : Blk w b t cs) (i : Nat) : w.frozen? ⟨b, i, none⟩ = false := by
  unfold World.frozen?
  rw [show w.heap[b]? = _ from h]
  simp
theorem Blk.set {w : World} {b : Nat} {t : TypeId} {cs : Array Value} (h : Blk w b t cs) (i : Nat) (v : Value) : Blk (w.setCell ⟨b, i, none⟩ v) b t (cs.setIfInBounds i v) := by
  unfold Blk World.setCell
  rw [Array.getElem?_modify, if_pos rfl, show w.heap[b]? = _ from h]
  simp
def setA : Array Value → Nat → List Value → Array Value
  | cs, _, [] => cs
  | cs, i, v :: vs => setA (cs.setIfInBounds i v) (i + 1) vs
theorem off_succ (o j : Nat) : off o (j + 1) = off o j + 1 := by cases j <;> rfl
theorem Blk.setL : ∀ (vs : List Value) {w : World} {b : Nat} {t : TypeId} {cs : Array Value} (o j : Nat), Blk w b t cs → Blk (setL vs b o j w) b t (setA cs (off o j) vs)
  | [], _, _, _, _, _, _, h => h
  | v :: vs, w, b, t, cs, o, j, h => by
    have := Blk.setL vs o (j + 1) (h.set (off o j) v)
    rw [off_succ] at this
    exact this
theorem Blk.put {w w' : World} {b : Nat} {t : TypeId} {cs : Array Value} {o : Nat} {vs : List Value} (h : Blk w b t cs) (p : Put w b o vs w') : Blk w' b t (setA cs o vs) := by
  rw [p]; exact Blk.setL vs o 0 h
theorem Blk.box {w w' : World} {b : Nat} {t : TypeId} {u v : Value} (h : Blk w b t #[u]) (p : Put w b 0 [v] w') : Blk w' b t #[v] := h.put p
theorem Blk.ne_rec {w : World} {b l k : Nat} {t : TypeId} {cs : Array Value} {r : Nat → Loop} (h : Blk w b t cs) (k' : Rec r l k w) : b ≠ l := by
  intro e; subst e; unfold Blk at h; unfold Rec at k'; rw [h] at k'; cases k'
theorem Blk.ne_dfr {w : World} {b d : Nat} {t : TypeId} {cs : Array Value} (h : Blk w b t cs) (k' : Dfr d w) : b ≠ d := by
  intro e; subst e; unfold Blk at h; unfold Dfr at k'; rw [h] at k'; cases k'
theorem Rec.ne_dfr {w : World} {l k d : Nat} {r : Nat → Loop} (h : Rec r l k w) (k' : Dfr d w) : l ≠ d := by
  intro e; subst e; unfold Rec at h; unfold Dfr at k'; rw [h] at k'; cases k'

/-! ### Values in a row -/
/-- The values vs lie at p, one behind the other. -/
def At (w : World) (p : Option Addr) (vs : List Value) : Prop :=
  vs = [] ∨ ∃ b o, p = some ⟨b, o, none⟩ ∧ ∀ i v, vs[i]? = some v → w.cell? ⟨b, o + i, none⟩ = some v

/-- Bytes as values. -/
def vB (l : List UInt8) : List Value := l.map fun x => .int .u8 ((x.toNat : Nat) : Int)
/-- Integers of a kind as values. -/
def vI (k : IntKind) (l : List Int) : List Value := l.map fun x => .int k x

theorem vI_length (k : IntKind) (l : List Int) : (vI k l).length = l.length := by simp [vI]
theorem cell_lt {w : World} {b o : Nat} {v : Value} (h : w.cell? ⟨b, o, none⟩ = some v) : b < w.heap.size := World.block_lt_of_cell? w _ h
theorem cell_of {w w' : World} {b o : Nat} {v : Value} (h : w.cell? ⟨b, o, none⟩ = some v) (hb : w'.heap[b]? = w.heap[b]?) : w'.cell? ⟨b, o, none⟩ = some v := by
  rw [← h]; simp [World.cell?, hb]
theorem cell_ext {w w' : World} {b o : Nat} {v : Value} (h : w.cell? ⟨b, o, none⟩ = some v) (e : Ext w w') : w'.cell? ⟨b, o, none⟩ = some v := cell_of h (e.block b (cell_lt h))

theorem At.nil (w : World) (p : Option Addr) : At w p [] := .inl rfl

theorem At.get {w : World} {p : Option Addr} {vs : List Value} (h : At w p vs) {i : Nat} (hi : i < vs.length) : ∃ b o, p = some ⟨b, o, none⟩ ∧ w.cell? ⟨b, o + i, none⟩ = some vs[i] := by
  rcases h with rfl | ⟨b, o, hp, hc⟩
  · simp at hi
  · exact ⟨b, o, hp, hc i _ (List.getElem?_eq_getElem hi)⟩
theorem At.getI {w : World} {p : Option Addr} {k : IntKind} {l : List Int} (h : At w p (vI k l)) {i : Nat} (hi : i < l.length) : ∃ b o, p = some ⟨b, o, none⟩ ∧ w.cell? ⟨b, o + i, none⟩ = some (.int k l[i]) := by
  obtain ⟨b, o, hp, hc⟩ := h.get (i := i) (by rw [vI_length]; exact hi)
  exact ⟨b, o, hp, by simpa [vI] using hc⟩

/-- A world in which p's block lies as it lay. -/
theorem At.kept {w w' : World} {p : Option Addr} {vs : List Value} (h : At w p vs) (hk : ∀ b o, p = some ⟨b, o, none⟩ → b < w.heap.size → w'.heap[b]? = w.heap[b]?) : At w' p vs := by
  rcases h with rfl | ⟨b, o, rfl, hc⟩
  · exact .inl rfl
  · refine .inr ⟨b, o, rfl, fun i v hv => ?_⟩
    have := hc i v hv
    exact cell_of this (hk b o rfl (cell_lt this))
theorem At.ext {w w' : World} {p : Option Addr} {vs : List Value} (h : At w p vs) (e : Ext w w') : At w' p vs := h.kept fun b _ _ hlt => e.block b hlt
theorem At.but {w w' : World} {b : Nat} {p : Option Addr} {vs : List Value} (h : At w p vs) (e : But b w w') (hne : ∀ b' o, p = some ⟨b', o, none⟩ → b' ≠ b) : At w' p vs := h.kept fun b' o hp hlt => e.block b' hlt (hne b' o hp)
theorem Blk.at {w : World} {b : Nat} {t : TypeId} {cs : Array Value} (h : Blk w b t cs) : At w (some ⟨b, 0, none⟩) cs.toList :=
  .inr ⟨b, 0, rfl, fun i v hv => by rw [h.cell, Nat.zero_add]; simpa using hv⟩
theorem New.at {w w' : World} {b : Nat} {t : TypeId} {cs : Array Value} {f : Nat × Nat} (h : New w (.cells cs t f) b w') : At w' (some ⟨b, 0, none⟩) cs.toList := by
  refine .inr ⟨b, 0, rfl, fun i v hv => ?_⟩
  rw [cell_of_row w' b (0 + i) cs t f h.obj]
  simpa using hv

theorem At.take {w : World} {p : Option Addr} {vs : List Value} (h : At w p vs) (n : Nat) : At w p (vs.take n) := by
  rcases h with rfl | ⟨b, o, rfl, hc⟩
  · exact .inl (by simp)
  · refine .inr ⟨b, o, rfl, fun i v hv => hc i v ?_⟩
    rw [List.getElem?_take] at hv
    split at hv
    · exact hv
    · cases hv

/-- s[l:k], of cells of size s. -/
theorem At.slice {w : World} {p : Option Addr} {vs : List Value} (h : At w p vs) (l k m s : Nat) (hk : k ≤ m) : At w (slBase p l m s) ((vs.take (k * s)).drop (l * s)) := by
  unfold slBase
  split
  · rename_i hm
    subst hm
    refine .inl ?_
    rw [List.drop_eq_nil_iff, List.length_take]
    have := Nat.mul_le_mul_right s hk
    omega
  · rcases h with rfl | ⟨b, o, rfl, hc⟩
    · exact .inl (by simp)
    · refine .inr ⟨b, o + l * s, ?_, fun i v hv => ?_⟩
      · simp only [Option.map, Addr.add_lit]
      · rw [List.getElem?_drop, List.getElem?_take] at hv
        split at hv
        · have := hc _ _ hv; rwa [← Nat.add_assoc] at this
        · cases hv
theorem slBase_none {p : Option Addr} {l m s : Nat} (h : slBase p l m s = none) : p = none := by
  unfold slBase at h
  split at h
  · exact h
  · cases p with
    | none => rfl
    | some y => cases h

theorem At.bytes {w : World} {p : Option Addr} {l : List UInt8} (h : At w p (vB l)) : BytesAt w p l.length l := by
  refine ⟨rfl, fun hpos => ?_⟩
  rcases h with h | ⟨b, o, rfl, hc⟩
  · have := congrArg List.length h; simp [vB] at this; subst this; simp at hpos
  · refine ⟨b, o, rfl, fun i hi => hc i _ ?_⟩
    simp [vB, hi]
theorem At.bytes' {w : World} {p : Option Addr} {l : List UInt8} {n : Nat} (h : At w p (vB l)) (hn : l.length = n) : BytesAt w p n l := hn ▸ h.bytes

/-! ### Rows of one's own -/
/-- The slice (p, n, c) of elements of s cells leads to a row of our own that holds vs, or is nil. -/
def Mine (B : Nat) (t : TypeId) (s : Nat) (w : World) (p : Option Addr) (n c : Nat) (vs : List Value) : Prop := w.ownsRow B t s (.slice p n c) n vs

section
variable {B : Nat} {t : TypeId} {s : Nat} {w w' : World} {p : Option Addr} {n c : Nat} {vs : List Value}
theorem Mine.nil (B : Nat) (t : TypeId) (s : Nat) (w : World) : Mine B t s w none 0 0 [] := World.ownsRow_nil w B t s
theorem Mine.len (h : Mine B t s w p n c vs) : vs.length = n * s := h.1
theorem Mine.at (h : Mine B t s w p n c vs) : At w p vs := by
  rcases h.2 with ⟨e, hn⟩ | ⟨g, cap, cur, e, hb, hg, h1, h2, h3, h4⟩
  · cases e; left; have := h.1; cases vs with | nil => rfl | cons _ _ => simp at this
  · cases e
    refine .inr ⟨g, 0, rfl, fun i v hv => ?_⟩
    rw [cell_of_row w g (0 + i) cur t (0, 0) hg, Nat.zero_add]
    rw [← h4, List.getElem?_take] at hv
    split at hv
    · simpa using hv
    · cases hv
theorem Mine.ge (h : Mine B t s w p n c vs) : ∀ b o, p = some ⟨b, o, none⟩ → B ≤ b ∧ b < w.heap.size := by
  intro b o hp; subst hp; exact World.ownsRow.lt h b rfl
theorem Mine.shape (h : Mine B t s w p n c vs) : (p = none ∧ n = 0 ∧ c = 0 ∧ vs = []) ∨ ∃ b, p = some ⟨b, 0, none⟩ ∧ B ≤ b ∧ b < w.heap.size := by
  rcases h.2 with ⟨e, hn⟩ | ⟨g, cap, cur, e, hb, hg, _⟩
  · cases e; left; have := h.1; exact ⟨rfl, rfl, rfl, by cases vs with | nil => rfl | cons _ _ => simp at this⟩
  · cases e; exact .inr ⟨g, rfl, hb, (Array.getElem?_eq_some_iff.1 hg).1⟩
theorem Mine.kept (h : Mine B t s w p n c vs) (hk : ∀ b o, p = some ⟨b, o, none⟩ → b < w.heap.size → w'.heap[b]? = w.heap[b]?) : Mine B t s w' p n c vs := by
  refine ⟨h.1, ?_⟩
  rcases h.2 with hn | ⟨g, cap, cur, e, hb, hg, rest⟩
  · exact .inl hn
  · cases e
    exact .inr ⟨g, c, cur, rfl, hb, (hk g 0 rfl (Array.getElem?_eq_some_iff.1 hg).1).trans hg, rest⟩
theorem Mine.ext (h : Mine B t s w p n c vs) (e : Ext w w') : Mine B t s w' p n c vs := h.kept fun b _ _ hlt => e.block b hlt
theorem Mine.but {b : Nat} (h : Mine B t s w p n c vs) (e : But b w w') (hne : ∀ b' o, p = some ⟨b', o, none⟩ → b' ≠ b) : Mine B t s w' p n c vs := h.kept fun b' o hp hlt => e.block b' hlt (hne b' o hp)
theorem Mine.mono {B' : Nat} (h : Mine B t s w p n c vs) (hB : B' ≤ B) : Mine B' t s w p n c vs := by
  refine ⟨h.1, ?_⟩
  rcases h.2 with hn | ⟨g, cap, cur, e, hb, rest⟩
  · exact .inl hn
  · exact .inr ⟨g, cap, cur, e, by omega, rest⟩
theorem Mine.cap (h : Mine B t s w p n c vs) : n ≤ c ∧ c ≤ maxLen := by
  rcases h.2 with ⟨e, hn⟩ | ⟨g, cap, cur, e, hb, _, h1, h2, _⟩
  · cases e; simp [hn]
  · cases e; exact ⟨h1, h2⟩
theorem Mine.isNil (h : Mine B t s w p n c vs) (hp : p = none) : n = 0 ∧ c = 0 := by
  rcases h.2 with ⟨e, hn⟩ | ⟨g, cap, cur, e, _⟩
  · exact ⟨(Value.slice.inj e).2.1, (Value.slice.inj e).2.2⟩
  · subst hp; have := (Value.slice.inj e).1; cases this
/-- A row just made, of which nothing is in use. -/
theorem Mine.made {b : Nat} {cur : Array Value} {cap : Nat} (h : New w (.cells cur t) b w') (hB : B ≤ w.heap.size) (hm : cap ≤ maxLen) (hs : cur.size = cap * s) : Mine B t s w' (some ⟨b, 0, none⟩) 0 cap [] := by
  obtain ⟨rfl, rfl⟩ := h
  exact World.ownsRow_made w cur cap hB hm hs
/-- A row just laid, all of it in use. -/
theorem Mine.lit {b : Nat} {cur : Array Value} {cap : Nat} (h : New w (.cells cur t) b w') (hB : B ≤ w.heap.size) (hm : cap ≤ maxLen) (hs : cur.size = cap * s) : Mine B t s w' (some ⟨b, 0, none⟩) cap cap cur.toList := by
  obtain ⟨rfl, rfl⟩ := h
  exact World.ownsRow_lit w cur cap hB hm hs
theorem Mine.ne_rec {b o l k : Nat} {r : Nat → Loop} (h : Mine B t s w p n c vs) (hp : p = some ⟨b, o, none⟩) (k' : Rec r l k w) : b ≠ l := by
  rcases h.2 with ⟨e, hn⟩ | ⟨g, cap, cur, e, hb, hg, _⟩
  · subst hp; cases e
  · subst hp; cases e; intro e; subst e; unfold Rec at k'; rw [hg] at k'; cases k'
theorem Mine.ne_dfr {b o d : Nat} (h : Mine B t s w p n c vs) (hp : p = some ⟨b, o, none⟩) (k' : Dfr d w) : b ≠ d := by
  rcases h.2 with ⟨e, hn⟩ | ⟨g, cap, cur, e, hb, hg, _⟩
  · subst hp; cases e
  · subst hp; cases e; intro e; subst e; unfold Dfr at k'; rw [hg] at k'; cases k'
/-- The row's block by itself. -/
theorem Mine.blk (h : Mine B t s w p n c vs) (hn : 0 < n ∨ p ≠ none) : ∃ b cur, p = some ⟨b, 0, none⟩ ∧ B ≤ b ∧ Blk w b t cur ∧ cur.size = c * s ∧ cur.toList.take (n * s) = vs := by
  rcases h.2 with ⟨e, hn'⟩ | ⟨g, cap, cur, e, hb, hg, h1, h2, h3, h4⟩
  · cases e; rcases hn with hn | hn
    · omega
    · exact absurd rfl hn
  · cases e; exact ⟨g, cur, rfl, hb, hg, h3, h4⟩
/-- What was written into a row of one's own. -/
theorem setA_spec : ∀ (vs : List Value) (cs : Array Value) (o : Nat), (setA cs o vs).size = cs.size ∧ ∀ i, (setA cs o vs)[i]? = if o ≤ i ∧ i < o + vs.length ∧ i < cs.size then vs[i - o]? else cs[i]?
  | [], cs, o => ⟨rfl, fun i => by rw [if_neg (by simp; omega)]; rfl⟩
  | v :: vs, cs, o => by
    obtain ⟨h1, h2⟩ := setA_spec vs (cs.setIfInBounds o v) (o + 1)
    refine ⟨by simp only [setA, h1]; simp, fun i => ?_⟩
    simp only [setA, h2, Array.size_setIfInBounds, List.length_cons, Array.getElem?_setIfInBounds]
    by_cases ho : o = i
    · subst ho
      rw [if_neg (by omega)]
      by_cases hs : o < cs.size
      · rw [if_pos rfl, if_pos hs, if_pos (by omega)]; simp
      · rw [if_pos rfl, if_neg hs, if_neg (by omega)]; rw [Array.getElem?_eq_none (by omega)]
    · by_cases hc : o + 1 ≤ i ∧ i < o + 1 + vs.length ∧ i < cs.size
      · rw [if_pos hc, if_pos (by omega), show i - o = (i - (o + 1)) + 1 by omega]; simp
      · rw [if_neg hc, if_neg ho, if_neg (by omega)]
/-- A store into a row of one's own: element i becomes us. -/
theorem Mine.put {i : Nat} {us : List Value} (h : Mine B t s w p n c vs) (hi : i < n) (hu : us.length = s) :
    ∃ b, p = some ⟨b, 0, none⟩ ∧ B ≤ b ∧ b < w.heap.size ∧ (∀ j, j < s → (∃ u, w.cell? ⟨b, i * s + j, none⟩ = some u) ∧ w.frozen? ⟨b, i * s + j, none⟩ = false) ∧
      ∀ w', Put w b (i * s) us w' → Mine B t s w' p n c (vs.take (i * s) ++ us ++ vs.drop (i * s + s)) := by
  obtain ⟨b, cur, hp, hB, hblk, hsz, htk⟩ := h.blk (.inl (by omega))
  have hcap := h.cap
  have hlen := h.len
  have h1 : i * s + s ≤ n * s := by rw [← Nat.succ_mul]; exact Nat.mul_le_mul_right s hi
  have h2 : n * s ≤ c * s := Nat.mul_le_mul_right s hcap.1
  refine ⟨b, hp, hB, hblk.lt, fun j hj => ⟨?_, hblk.frozen _⟩, fun w' hput => ?_⟩
  · rw [hblk.cell]; exact ⟨cur[i * s + j]'(by omega), by simp⟩
  · have hb' := hblk.put hput
    obtain ⟨s1, s2⟩ := setA_spec us cur (i * s)
    refine ⟨by simp only [List.length_append, List.length_take, List.length_drop, hu]; omega, .inr ⟨b, c, _, by rw [hp], hB, hb', hcap.1, hcap.2, by rw [s1, hsz], ?_⟩⟩
    apply List.ext_getElem?
    intro k
    rw [List.getElem?_take]
    have hk2 : (setA cur (i * s) us).toList[k]? = (setA cur (i * s) us)[k]? := by simp
    rw [hk2, s2]
    have hvs : ∀ k, k < n * s → vs[k]? = cur[k]? := fun k hk => by rw [← htk, List.getElem?_take, if_pos hk]; simp
    by_cases hk : k < n * s
    · rw [if_pos hk]
      by_cases hc : i * s ≤ k ∧ k < i * s + us.length ∧ k < cur.size
      · rw [if_pos hc, List.append_assoc, List.getElem?_append_right (by simp; omega), List.getElem?_append_left (by simp; omega)]
        congr 1; simp; omega
      · rw [if_neg hc, ← hvs k hk]
        rcases Nat.lt_or_ge k (i * s) with hlt | hge
        · rw [List.append_assoc, List.getElem?_append_left (by simp; omega), List.getElem?_take, if_pos hlt]
        · rw [List.getElem?_append_right (by simp; omega), List.getElem?_drop]
          congr 1; simp; omega
    · rw [if_neg hk, List.getElem?_eq_none]
      simp only [List.length_append, List.length_take, List.length_drop, hu]; omega
end

/-! ### append -/
/-- What append leaves: a row of our own with the new values behind the old ones; no other block has turned. -/
theorem append_own {P : Program} {t ty u : TypeId} {z : Ty} {B s : Nat} {w : World} {p q : Option Addr} {n c m d : Nat} {xs news : List Value} (ht : P.underlying t = some (.slice u)) (hz : tyOf P u = some z)
    (h1 : z.ls.length = s) (h0 : 0 < s) (hown : Mine B u s w p n c xs) (hat : At w q news) (hm : news.length = m * s) (hq : q = none → m = 0 ∧ d = 0) (hone : ∀ x ∈ news, x.oneCell' = true) (hB : B ≤ w.heap.size)
    (hroom : ((n + m) + (n + m) / 4 + 192) * z.bytes ≤ 281474976710656) (hlen : n + m ≤ maxLen) :
    ∃ p' c' w', (Builtin.append_ #[t, t] ty #[.slice p n c, .slice q m d]).run P w = .ok (.slice p' (n + m) c') w' ∧ Mine B u s w' p' (n + m) c' (xs ++ news) ∧ w.grownBy w' (Value.slice p n c).ownBlock := by
  obtain ⟨i, d', hi, hzz, hd, hsz, hls, hag, hby⟩ := tyOf_spec hz
  have hsize : i.size = s := by rw [hsz]; have := h1; rw [hls, length_leavesOf] at this; simpa using this
  cases q with
  | none =>
    obtain ⟨rfl, rfl⟩ := hq rfl
    have hn : news = [] := by cases news with | nil => rfl | cons _ _ => simp at hm
    subst hn
    refine ⟨p, c, w, ?_, by simpa using hown, ⟨rfl, rfl, rfl, Nat.le_refl _, fun _ _ _ => rfl⟩⟩
    have hcap := hown.cap.1
    cases p with
    | none => simp [Builtin.append_, run_underlying ht, sizeOf, typeInfo, hi, Builtin.lenOf, hcap, Builtin.firstCells]
    | some a => simp [Builtin.append_, run_underlying ht, sizeOf, typeInfo, hi, Builtin.lenOf, hcap, Builtin.firstCells, storeCells]
  | some a =>
    have hnews : ∀ j x, news[j]? = some x → w.cell? (a.add j) = some x := by
      intro j x hx
      rcases hat with rfl | ⟨b, o, hp, hc⟩
      · simp at hx
      · cases hp; rw [Addr.add_lit]; exact hc j x hx
    obtain ⟨v', w', hrun, hown', hg, _⟩ := run_append_own_wide (P := P) w B t ty u i z.zero s z.bytes ht hi hzz hsize hby.symm (by rw [← hsz]; exact hsize) h0 (.slice p n c) n xs hown a m d news hm
      hnews hone hlen hroom hB
    rcases hown'.2 with ⟨rfl, hn0⟩ | ⟨g, cap, cur, rfl, rest⟩
    · exact ⟨none, 0, w', by rw [hrun, hn0], by rw [hn0] at hown' ⊢; exact hown', hg⟩
    · exact ⟨some ⟨g, 0, none⟩, cap, w', hrun, hown', hg⟩

/-- Behind an append onto a row of one's own. -/
theorem Mine.grown {B : Nat} {t : TypeId} {s : Nat} {w w' : World} {p : Option Addr} {n c : Nat} {vs : List Value} (h : Mine B t s w p n c vs) (hg : w.grownBy w' (Value.slice p n c).ownBlock) :
    (p = none ∧ Ext w w') ∨ ∃ b, p = some ⟨b, 0, none⟩ ∧ B ≤ b ∧ But b w w' := by
  rcases h.shape with ⟨rfl, _⟩ | ⟨b, rfl, hb, _⟩
  · exact .inl ⟨rfl, grown_nil hg⟩
  · exact .inr ⟨b, rfl, hb, grown_but hg⟩
theorem Mine.below {B B0 : Nat} {t : TypeId} {s : Nat} {a w w' : World} {p : Option Addr} {n c : Nat} {vs : List Value} (h : Mine B t s w p n c vs) (hg : w.grownBy w' (Value.slice p n c).ownBlock) (hb : Below B0 a w) (hB : B0 ≤ B) (hs : B0 ≤ w.heap.size) : Below B0 a w' := by
  rcases h.grown hg with ⟨_, e⟩ | ⟨b, _, hle, e⟩
  · exact hb.ext e hs
  · exact hb.but e (by omega) hs
theorem At.grown {B : Nat} {t : TypeId} {s : Nat} {w w' : World} {p q : Option Addr} {n c : Nat} {vs us : List Value} (h : Mine B t s w p n c vs) (hg : w.grownBy w' (Value.slice p n c).ownBlock) (hq : At w q us)
    (hne : ∀ b o b' o', q = some ⟨b, o, none⟩ → p = some ⟨b', o', none⟩ → b ≠ b') : At w' q us := by
  rcases h.grown hg with ⟨_, e⟩ | ⟨b, hp, hle, e⟩
  · exact hq.ext e
  · exact hq.but e fun b' o hq' => hne b' o b 0 hq' hp

/-! ### Freezing -/
theorem cell_freeze (w : World) (a : Addr) (n : Nat) (b : Addr) : (w.freeze a n).cell? b = w.cell? b := by
  unfold World.freeze
  split
  · rfl
  · simp only [World.cell?, Array.getElem?_modify]
    by_cases h : a.block = b.block
    · rw [if_pos h]
      cases w.heap[b.block]? with
      | none => rfl
      | some o => cases o <;> rfl
    · rw [if_neg h]

theorem At.freeze {w : World} {p : Option Addr} {vs : List Value} (h : At w p vs) (a : Addr) (n : Nat) : At (w.freeze a n) p vs := by
  rcases h with rfl | ⟨b, o, rfl, hc⟩
  · exact .inl rfl
  · exact .inr ⟨b, o, rfl, fun i v hv => by rw [cell_freeze]; exact hc i v hv⟩

/-! ### Numbers -/
theorem i64_fit {n : Int} (h0 : -9223372036854775808 ≤ n) (h1 : n ≤ 9223372036854775807) : IntKind.i64.wrap n = n := by rw [IntKind.wrap_i64]; omega
/-! ### Arguments -/
theorem wf_i64 {n : Int} (h : (Lit.int .i64 n).wf = true) : -9223372036854775808 ≤ n ∧ n ≤ 9223372036854775807 := by
  simp only [Lit.wf, Bool.and_eq_true, decide_eq_true_eq] at h
  exact h
end Go.Vc

/- Numbers: bits, shifts, signed numbers as unsigned ones and back. -/
namespace Go.Vc
open Go

/-! ### Signed numbers as unsigned ones -/
def zigN (x : Int) : Nat := if x < 0 then (-2 * x - 1).toNat else (2 * x).toNat
def unzig (v : Nat) : Int := if v % 2 = 1 then -((v / 2 : Nat) : Int) - 1 else ((v / 2 : Nat) : Int)

/-! ### Texts as bytes -/
def tB (s : ByteArray) : List UInt8 := s.data.toList
theorem tB_length (s : ByteArray) : (tB s).length = s.size := Array.length_toList
theorem mk_tB (s : ByteArray) : (⟨(tB s).toArray⟩ : ByteArray) = s := by cases s; simp [tB]
theorem tB_inj {s t : ByteArray} : tB s = tB t ↔ s = t := by
  constructor
  · intro h; rw [← mk_tB s, h, mk_tB]
  · rintro rfl; rfl
theorem sEq_self (s : ByteArray) : sEq s s = true := sEq_iff.2 rfl
theorem tB_extract (s : ByteArray) (i j : Nat) : tB (s.extract i j) = ((tB s).take j).drop i := by
  show (s.extract i j).data.toList = _
  rw [ByteArray.data_extract]
  simp [tB, List.extract_eq_take_drop, List.drop_take]
theorem bAt_eq (s : ByteArray) (i : Nat) (h : i < s.size) : bAt s i = (((tB s)[i]'(by rw [tB_length]; exact h)).toNat : Int) := by
  have h' : i < s.data.toList.length := by simpa using h
  simp [bAt, tB, List.getD, List.getElem?_eq_getElem h']
end Go.Vc

/- Numbers as digits of 2^s, and how one bit more turns them: plain Lean. -/
namespace Go.Vc
open Go Go.RowKit

/-- The n digits of N, of s bits each, the least one first. -/
def digits (s n N : Nat) : List Nat := (List.range n).map fun i => N / 2 ^ (s * i) % 2 ^ s
/-- The number that digits of s bits are. -/
def value (s : Nat) : List Nat → Nat
  | [] => 0
  | x :: l => x + 2 ^ s * value s l
/-- Numbers as values. -/
def vN (k : IntKind) (l : List Nat) : List Value := l.map fun (x : Nat) => .int k (x : Int)

/-- n bytes of N. -/
def bytesOf (n N : Nat) : List UInt8 := (digits 8 n N).map UInt8.ofNat
/-- The number that bytes are. -/
def ofBytes (l : List UInt8) : Nat := value 8 (l.map UInt8.toNat)
/-! ### The machine's operations -/
theorem i64_next {n : Nat} (h : n < 9223372036854775807) : IntKind.i64.wrap ((n : Int) + 1) = ((n + 1 : Nat) : Int) := i64_fit (by omega) (by omega)
/-! ### How many bits a number needs -/
def bl (v : Nat) : Nat := if v = 0 then 0 else v.log2 + 1
/-- All numbers' bits together. -/
def orL (l : List Nat) : Nat := l.foldl (· ||| ·) 0
/-- The least width of numbers. -/
def widthN (l : List Nat) : Nat := bl (orL l)
/-! ### Numbers that lie in a row -/
/-- A slice of 64-bit numbers that came in. -/
structure Us (w : World) (p : Option Addr) (n c : Nat) (l : List Nat) : Prop where
  len : l.length = n
  cap : n ≤ c ∧ c ≤ maxLen
  lies : At w p (vN .u64 l)
  nil : p = none → n = 0 ∧ c = 0
  lt : ∀ x ∈ l, x < 18446744073709551616
theorem Us.ext {w w' : World} {p : Option Addr} {n c : Nat} {l : List Nat} (h : Us w p n c l) (e : Ext w w') : Us w' p n c l := ⟨h.len, h.cap, h.lies.ext e, h.nil, h.lt⟩
theorem Us.le {w : World} {p : Option Addr} {n c : Nat} {l : List Nat} (h : Us w p n c l) : n ≤ maxLen := Nat.le_trans h.cap.1 h.cap.2
theorem Us.nothing (w : World) : Us w none 0 0 [] := ⟨rfl, ⟨Nat.le_refl _, Nat.zero_le _⟩, .inl rfl, fun _ => ⟨rfl, rfl⟩, by simp⟩
/-- Bytes of our own; numbers of our own. -/
def OutB (B : Nat) (t : TypeId) (w : World) (p : Option Addr) (n c : Nat) (l : List UInt8) : Prop := l.length = n ∧ Mine B t 1 w p n c (vB l)
def OutU (B : Nat) (t : TypeId) (w : World) (p : Option Addr) (n c : Nat) (l : List Nat) : Prop := l.length = n ∧ (∀ x ∈ l, x < 18446744073709551616) ∧ Mine B t 1 w p n c (vN .u64 l)
/-- Bytes that came in. -/
structure InB (w : World) (p : Option Addr) (n c : Nat) (l : List UInt8) : Prop where
  len : l.length = n
  cap : n ≤ c ∧ c ≤ maxLen
  lies : At w p (vB l)
  nil : p = none → n = 0 ∧ c = 0
theorem InB.ext {w w' : World} {p : Option Addr} {n c : Nat} {l : List UInt8} (h : InB w p n c l) (e : Ext w w') : InB w' p n c l := ⟨h.len, h.cap, h.lies.ext e, h.nil⟩
theorem InB.bytes {w : World} {p : Option Addr} {n c : Nat} {l : List UInt8} (h : InB w p n c l) : BytesAt w p n l := h.lies.bytes' h.len
theorem InB.le {w : World} {p : Option Addr} {n c : Nat} {l : List UInt8} (h : InB w p n c l) : n ≤ maxLen := Nat.le_trans h.cap.1 h.cap.2
theorem OutB.ext {B : Nat} {t : TypeId} {w w' : World} {p : Option Addr} {n c : Nat} {l : List UInt8} (h : OutB B t w p n c l) (e : Ext w w') : OutB B t w' p n c l := ⟨h.1, h.2.ext e⟩
theorem OutB.bytes {B : Nat} {t : TypeId} {w : World} {p : Option Addr} {n c : Nat} {l : List UInt8} (h : OutB B t w p n c l) : BytesAt w p n l := h.2.at.bytes' h.1
theorem OutU.ext {B : Nat} {t : TypeId} {w w' : World} {p : Option Addr} {n c : Nat} {l : List Nat} (h : OutU B t w p n c l) (e : Ext w w') : OutU B t w' p n c l := ⟨h.1, h.2.1, h.2.2.ext e⟩
theorem OutU.us {B : Nat} {t : TypeId} {w : World} {p : Option Addr} {n c : Nat} {l : List Nat} (h : OutU B t w p n c l) : Us w p n c l := ⟨h.1, h.2.2.cap, h.2.2.at, h.2.2.isNil, h.2.1⟩
end Go.Vc

/- The frame: what a walk holds in memory of its own, boxes and rows, and how each step turns it. -/
namespace Go.Vc
open Go Go.RowKit

/-! ### append, and where the row then lies -/
theorem ok_inj {v v' : Value} {w w' : World} {r : Result Value} (h : r = .ok v w) (h' : r = .ok v' w') : v = v' ∧ w = w' := by
  rw [h] at h'; cases h'; exact ⟨rfl, rfl⟩

/-- As append_own; the row lies where it lay, or is new. -/
theorem append_at {P : Program} {t ty u : TypeId} {z : Ty} {B s : Nat} {w : World} {p q : Option Addr} {n c m d : Nat} {xs news : List Value} (ht : P.underlying t = some (.slice u)) (hz : tyOf P u = some z)
    (h1 : z.ls.length = s) (h0 : 0 < s) (hown : Mine B u s w p n c xs) (hat : At w q news) (hm : news.length = m * s) (hq : q = none → m = 0 ∧ d = 0) (hone : ∀ x ∈ news, x.oneCell' = true) (hB : B ≤ w.heap.size)
    (hroom : ((n + m) + (n + m) / 4 + 192) * z.bytes ≤ 281474976710656) (hlen : n + m ≤ maxLen) :
    ∃ p' c' w', (Builtin.append_ #[t, t] ty #[.slice p n c, .slice q m d]).run P w = .ok (.slice p' (n + m) c') w' ∧ Mine B u s w' p' (n + m) c' (xs ++ news) ∧ w.grownBy w' (Value.slice p n c).ownBlock ∧
      (∀ b o, p' = some ⟨b, o, none⟩ → w.heap.size ≤ b ∨ p = some ⟨b, 0, none⟩) := by
  obtain ⟨p', c', w', hrun, hmine, hg⟩ := append_own (ty := ty) ht hz h1 h0 hown hat hm hq hone hB hroom hlen
  refine ⟨p', c', w', hrun, hmine, hg, ?_⟩
  rcases hown.shape with ⟨rfl, rfl, rfl, rfl⟩ | ⟨g, rfl, hg1, hg2⟩
  · obtain ⟨p2, c2, w2, hrun2, hmine2, _⟩ := append_own (ty := ty) ht hz h1 h0 (Mine.nil w.heap.size u s w) hat hm hq hone (Nat.le_refl _) hroom hlen
    obtain ⟨e, _⟩ := ok_inj hrun hrun2
    cases e
    exact fun b o hb => .inl (hmine2.ge b o hb).1
  · obtain ⟨g', cur, hp, _, hblk, hcs, htake⟩ := hown.blk (.inr (by simp))
    cases hp
    obtain ⟨i, d', hi, hzz, hd, hsz, hls, hag, hby⟩ := tyOf_spec hz
    have hsize : i.size = s := by rw [hsz]; have := h1; rw [hls, length_leavesOf] at this; simpa using this
    subst hsize
    cases q with
    | none =>
      obtain ⟨rfl, rfl⟩ := hq rfl
      have hcap := hown.cap.1
      have hr : (Builtin.append_ #[t, t] ty #[.slice (some ⟨g, 0, none⟩) n c, .slice none 0 0]).run P w = .ok (.slice (some ⟨g, 0, none⟩) n c) w := by
        simp [Builtin.append_, run_underlying ht, sizeOf, typeInfo, hi, Builtin.lenOf, hcap, Builtin.firstCells, storeCells]
      obtain ⟨e, _⟩ := ok_inj hrun hr
      cases e
      exact fun b o hb => .inr (by cases hb; rfl)
    | some a =>
      have hnews : ∀ j x, news[j]? = some x → w.cell? (a.add j) = some x := by
        intro j x hx
        rcases hat with rfl | ⟨b, o, hp, hc⟩
        · simp at hx
        · cases hp; rw [Addr.add_lit]; exact hc j x hx
      by_cases hfit : n + m ≤ c
      · have hr := run_append_room (P := P) w t ty u i ht hi g n c cur hblk a m d news hm hnews hone hfit (by rw [hm, hcs, ← Nat.add_mul]; exact Nat.mul_le_mul_right _ hfit)
        obtain ⟨e, _⟩ := ok_inj hrun hr
        cases e
        exact fun b o hb => .inr (by cases hb; rfl)
      · have holds : ∀ j x, xs[j]? = some x → w.cell? ((⟨g, 0, none⟩ : Addr).add j) = some x := by
          intro j x hj
          rw [Addr.add_lit, hblk.cell, Nat.zero_add]
          rw [← htake, List.getElem?_take] at hj
          split at hj
          · simpa using hj
          · cases hj
        simp only [maxLen] at hlen
        have hr := run_append_grow (P := P) w t ty u i _ ht hi hzz ⟨g, 0, none⟩ n c xs hown.len holds a m d news hm hnews (by omega) (by omega) (growslice_fits_wide (by omega) (by rw [← hby]; exact hroom))
        obtain ⟨e, _⟩ := ok_inj hrun hr
        cases e
        exact fun b o hb => .inl (by cases hb; exact Nat.le_refl _)

/-! ### The frame -/
/-- A growable row of our own: its elements' type, their cells, the slice, and what it holds. -/
structure Row where
  t : TypeId
  s : Nat
  p : Option Addr
  n : Nat
  c : Nat
  vs : List Value

/-- Since w0 we have laid the blocks fs and the rows ms, all unlike; all that was there is as it was. -/
structure Hold (w0 W : World) (fs : List (Nat × Obj)) (ms : List Row) : Prop where
  ext : Ext w0 W
  ge : ∀ x ∈ fs, w0.heap.size ≤ x.1
  holds : ∀ (i : Nat) x, fs[i]? = some x → W.heap[x.1]? = some x.2
  keys : ∀ (i j : Nat) x y, fs[i]? = some x → fs[j]? = some y → i ≠ j → x.1 ≠ y.1
  own : ∀ (i : Nat) m, ms[i]? = some m → Mine w0.heap.size m.t m.s W m.p m.n m.c m.vs
  apart : ∀ (i j : Nat) x m, fs[i]? = some x → ms[j]? = some m → ∀ b o, m.p = some ⟨b, o, none⟩ → x.1 ≠ b
  rows : ∀ (i j : Nat) m m', ms[i]? = some m → ms[j]? = some m' → i ≠ j → ∀ b o b' o', m.p = some ⟨b, o, none⟩ → m'.p = some ⟨b', o', none⟩ → b ≠ b'

section
variable {w0 W W' : World} {fs : List (Nat × Obj)} {ms : List Row} {b d l k : Nat} {o : Obj} {r : Nat → Loop} {t u : TypeId} {s n c : Nat} {p : Option Addr} {vs : List Value} {cs : Array Value}

theorem Hold.start (h : Ext w0 W) : Hold w0 W [] [] := ⟨h, by simp, by simp, by simp, by simp, by simp, by simp⟩
theorem Hold.size (h : Hold w0 W fs ms) : w0.heap.size ≤ W.heap.size := h.ext.size
theorem Hold.lt (h : Hold w0 W fs ms) (i : Nat) {x : Nat × Obj} (hi : fs[i]? = some x) : x.1 < W.heap.size := (Array.getElem?_eq_some_iff.1 (h.holds i x hi)).1

/-- All of ours is as it was. -/
theorem Hold.step (h : Hold w0 W fs ms) (e : Ext W W') : Hold w0 W' fs ms :=
  ⟨h.ext.trans e, h.ge, fun i x hx => (e.block _ (h.lt i hx)).trans (h.holds i x hx), h.keys, fun i m hm => (h.own i m hm).ext e, h.apart, h.rows⟩

/-- A new block. -/
theorem Hold.new (h : Hold w0 W fs ms) (e : New W o b W') : Hold w0 W' ((b, o) :: fs) ms := by
  have h' := h.step e.ext
  obtain ⟨hb, hs⟩ := e.size
  refine ⟨h'.ext, ?_, ?_, ?_, h'.own, ?_, h'.rows⟩
  · intro x hx
    rcases List.mem_cons.1 hx with rfl | hx
    · rw [hb]; exact h.size
    · exact h.ge x hx
  · intro i x hx
    cases i with
    | zero => cases hx; exact e.obj
    | succ i => exact h'.holds i x (by simpa using hx)
  · intro i j x y hx hy hij
    cases i with
    | zero =>
      cases hx
      cases j with
      | zero => omega
      | succ j => have := h.lt j (by simpa using hy); simp only; omega
    | succ i =>
      have h1 := h.lt i (by simpa using hx)
      cases j with
      | zero => cases hy; simp only; omega
      | succ j => exact h.keys i j x y (by simpa using hx) (by simpa using hy) (by omega)
  · intro i j x m hx hm b' o' hp
    cases i with
    | zero => cases hx; have := (h.own j m hm).ge b' o' hp; simp only; omega
    | succ i => exact h.apart i j x m (by simpa using hx) hm b' o' hp

/-- Block i has turned. -/
theorem Hold.upd (h : Hold w0 W fs ms) (i : Nat) {o o' : Obj} (hi : fs[i]? = some (b, o)) (e : But b W W') (ho : W'.heap[b]? = some o') : Hold w0 W' (fs.set i (b, o')) ms := by
  have hge := h.ge _ (List.mem_of_getElem? hi)
  have key : ∀ (j : Nat) x, (fs.set i (b, o'))[j]? = some x → ∃ y, fs[j]? = some y ∧ y.1 = x.1 ∧ (j ≠ i → y = x) := by
    intro j x hx
    rw [List.getElem?_set] at hx
    split at hx
    · rename_i hij
      subst hij
      split at hx
      · cases hx; exact ⟨_, hi, rfl, fun hne => absurd rfl hne⟩
      · cases hx
    · exact ⟨x, hx, rfl, fun _ => rfl⟩
  refine ⟨h.ext.below.but e hge h.size, ?_, ?_, ?_, ?_, ?_, h.rows⟩
  · intro x hx
    obtain ⟨j, hj⟩ := List.mem_iff_getElem?.1 hx
    obtain ⟨y, hy, hyx, _⟩ := key j x hj
    rw [← hyx]; exact h.ge _ (List.mem_of_getElem? hy)
  · intro j x hx
    by_cases hij : j = i
    · subst hij
      rw [List.getElem?_set, if_pos rfl] at hx
      split at hx
      · cases hx; exact ho
      · cases hx
    · obtain ⟨y, hy, _, hyx⟩ := key j x hx
      have := hyx hij
      subst this
      rw [e.block _ (h.lt j hy) (h.keys j i _ _ hy hi hij)]
      exact h.holds j _ hy
  · intro j k x y hx hy hjk
    obtain ⟨x', hx', e1, _⟩ := key j x hx
    obtain ⟨y', hy', e2, _⟩ := key k y hy
    rw [← e1, ← e2]; exact h.keys j k _ _ hx' hy' hjk
  · intro j m hm
    exact (h.own j m hm).but e fun b' o' hp hb => h.apart i j _ m hi hm b' o' hp hb.symm
  · intro j k x m hx hm b' o' hp
    obtain ⟨x', hx', e1, _⟩ := key j x hx
    rw [← e1]; exact h.apart j k _ m hx' hm b' o' hp

theorem Hold.base (h : Hold w0 W fs ms) (i : Nat) (hi : fs[i]? = some (b, o)) : w0.heap.size ≤ b := h.ge _ (List.mem_of_getElem? hi)
theorem Hold.blk (h : Hold w0 W fs ms) (i : Nat) (hi : fs[i]? = some (b, .cells cs t (0, 0))) : Blk W b t cs := h.holds i _ hi
theorem Hold.put (h : Hold w0 W fs ms) (i : Nat) {q : Nat} (hi : fs[i]? = some (b, .cells cs t (0, 0))) (e : Put W b q vs W') : Hold w0 W' (fs.set i (b, .cells (setA cs q vs) t (0, 0))) ms :=
  h.upd i hi e.but ((h.blk i hi).put e)
theorem Hold.box (h : Hold w0 W fs ms) (i : Nat) {v v' : Value} (hi : fs[i]? = some (b, .cells #[v] t (0, 0))) (e : Put W b 0 [v'] W') : Hold w0 W' (fs.set i (b, .cells #[v'] t (0, 0))) ms := h.put i hi e
theorem Hold.loop (h : Hold w0 W fs ms) (i : Nat) (hi : fs[i]? = some (l, .loop (r k))) : Rec r l k W := h.holds i _ hi
theorem Hold.dfr (h : Hold w0 W fs ms) (i : Nat) (hi : fs[i]? = some (d, .deferred (some []))) : Dfr d W := h.holds i _ hi
theorem Hold.turn (h : Hold w0 W fs ms) (i k' : Nat) (hi : fs[i]? = some (l, .loop (r k))) : Hold w0 (Go.Vc.turn r l k' W) (fs.set i (l, .loop (r k'))) ms :=
  h.upd i hi turn_but.1 ((h.loop i hi).turn k')
theorem Hold.shut (h : Hold w0 W fs ms) (i : Nat) (hi : fs[i]? = some (d, .deferred (some []))) : Hold w0 (W.putObj d (.deferred none)) (fs.set i (d, .deferred none)) ms :=
  h.upd i hi shut_but.1 (World.putObj_heap_same (h.dfr i hi).lt)
theorem Hold.began (h : Hold w0 W fs ms) (e : Began W r d l W') : Hold w0 W' ((l, .loop (r 0)) :: (d, .deferred (some [])) :: fs) ms := by
  obtain ⟨rfl, rfl, rfl⟩ := e
  exact (h.new ⟨rfl, rfl⟩).new ⟨by simp, rfl⟩

/-- Fewer are held. -/
theorem Hold.drop (h : Hold w0 W fs ms) (fs' : List (Nat × Obj)) (f : Nat → Nat) (hf : ∀ (i : Nat) x, fs'[i]? = some x → fs[f i]? = some x) (hj : ∀ i j, f i = f j → i = j) : Hold w0 W fs' ms :=
  ⟨h.ext, fun x hx => by obtain ⟨j, hj⟩ := List.mem_iff_getElem?.1 hx; exact h.ge x (List.mem_of_getElem? (hf j x hj)), fun i x hx => h.holds _ x (hf i x hx),
    fun i j x y hx hy hij => h.keys _ _ x y (hf i x hx) (hf j y hy) fun e => hij (hj _ _ e), h.own, fun i j x m hx => h.apart _ j x m (hf i x hx), h.rows⟩
theorem Hold.tail {x : Nat × Obj} (h : Hold w0 W (x :: fs) ms) : Hold w0 W fs ms := h.drop fs (· + 1) (fun i x hx => by simpa using hx) (fun i j e => by omega)

/-- A row of ours, nil. -/
theorem Hold.nilRow (h : Hold w0 W fs ms) (t : TypeId) (s : Nat) : Hold w0 W fs (⟨t, s, none, 0, 0, []⟩ :: ms) := by
  refine ⟨h.ext, h.ge, h.holds, h.keys, ?_, ?_, ?_⟩
  · intro i m hm
    cases i with
    | zero => cases hm; exact Mine.nil _ _ _ _
    | succ i => exact h.own i m (by simpa using hm)
  · intro i j x m hx hm b o hp
    cases j with
    | zero => cases hm; cases hp
    | succ j => exact h.apart i j x m hx (by simpa using hm) b o hp
  · intro i j m m' hm hm' hij b o b' o' hp hp'
    cases i with
    | zero => cases hm; cases hp
    | succ i =>
      cases j with
      | zero => cases hm'; cases hp'
      | succ j => exact h.rows i j m m' (by simpa using hm) (by simpa using hm') (by omega) b o b' o' hp hp'

/-- A row of ours, laid by a step that left all else. -/
theorem Hold.addRow (h : Hold w0 W fs ms) (e : Ext W W') (hm : Mine W.heap.size t s W' p n c vs) : Hold w0 W' fs (⟨t, s, p, n, c, vs⟩ :: ms) := by
  have h' := h.step e
  refine ⟨h'.ext, h'.ge, h'.holds, h'.keys, ?_, ?_, ?_⟩
  · intro i m hm'
    cases i with
    | zero => cases hm'; exact hm.mono h.size
    | succ i => exact h'.own i m (by simpa using hm')
  · intro i j x m hx hm' b o hp
    cases j with
    | zero => cases hm'; have := h.lt i hx; have := hm.ge b o hp; omega
    | succ j => exact h.apart i j x m hx (by simpa using hm') b o hp
  · intro i j m m' hm1 hm2 hij b o b' o' hp hp'
    cases i with
    | zero =>
      cases hm1
      cases j with
      | zero => omega
      | succ j => have := (h.own j m' (by simpa using hm2)).ge b' o' hp'; have := hm.ge b o hp; omega
    | succ i =>
      cases j with
      | zero => cases hm2; have := (h.own i m (by simpa using hm1)).ge b o hp; have := hm.ge b' o' hp'; omega
      | succ j => exact h.rows i j m m' (by simpa using hm1) (by simpa using hm2) (by omega) b o b' o' hp hp'
theorem Hold.madeRow (h : Hold w0 W fs ms) {cap : Nat} (e : New W (.cells cs t) b W') (hm : cap ≤ maxLen) (hs : cs.size = cap * s) : Hold w0 W' fs (⟨t, s, some ⟨b, 0, none⟩, 0, cap, []⟩ :: ms) := h.addRow e.ext (Mine.made e (Nat.le_refl _) hm hs)
theorem Hold.row (h : Hold w0 W fs ms) (i : Nat) (hi : ms[i]? = some ⟨t, s, p, n, c, vs⟩) : Mine w0.heap.size t s W p n c vs := h.own i _ hi

/-- Row i has turned. -/
theorem Hold.updRow (h : Hold w0 W fs ms) (i : Nat) {p' : Option Addr} {n' c' : Nat} {vs' : List Value} (hi : ms[i]? = some ⟨t, s, p, n, c, vs⟩) (hg : (p = none ∧ Ext W W') ∨ ∃ b, p = some ⟨b, 0, none⟩ ∧ w0.heap.size ≤ b ∧ But b W W')
    (hm : Mine w0.heap.size t s W' p' n' c' vs') (hp : ∀ b o, p' = some ⟨b, o, none⟩ → W.heap.size ≤ b ∨ p = some ⟨b, 0, none⟩) : Hold w0 W' fs (ms.set i ⟨t, s, p', n', c', vs'⟩) := by
  have key : ∀ (j : Nat) m, (ms.set i ⟨t, s, p', n', c', vs'⟩)[j]? = some m → (j = i ∧ m = ⟨t, s, p', n', c', vs'⟩) ∨ (j ≠ i ∧ ms[j]? = some m) := by
    intro j m hm
    rw [List.getElem?_set] at hm
    split at hm
    · rename_i hij
      split at hm
      · cases hm; exact .inl ⟨hij.symm, rfl⟩
      · cases hm
    · rename_i hij; exact .inr ⟨fun e => hij e.symm, hm⟩
  have base : Ext w0 W' ∧ (∀ (i : Nat) x, fs[i]? = some x → W'.heap[x.1]? = some x.2) ∧ ∀ (j : Nat) m, j ≠ i → ms[j]? = some m → Mine w0.heap.size m.t m.s W' m.p m.n m.c m.vs := by
    rcases hg with ⟨_, e⟩ | ⟨b, hb, _, e⟩
    · have h' := h.step e
      exact ⟨h'.ext, h'.holds, fun j m _ hm => h'.own j m hm⟩
    · have hge := ((h.row i hi).ge b 0 hb).1
      refine ⟨h.ext.below.but e hge h.size, fun j x hx => ?_, fun j m hj hm => ?_⟩
      · rw [e.block _ (h.lt j hx) (h.apart j i x _ hx hi b 0 hb)]; exact h.holds j x hx
      · exact (h.own j m hm).but e fun b' o' hp' hbb => h.rows i j _ m hi hm (fun e => hj e.symm) b 0 b' o' hb hp' hbb.symm
  refine ⟨base.1, h.ge, base.2.1, h.keys, ?_, ?_, ?_⟩
  · intro j m hm'
    rcases key j m hm' with ⟨_, rfl⟩ | ⟨hj, hm''⟩
    · exact hm
    · exact base.2.2 j m hj hm''
  · intro j k x m hx hm' b o hb
    rcases key k m hm' with ⟨_, rfl⟩ | ⟨hj, hm''⟩
    · rcases hp b o hb with hlt | hold
      · have := h.lt j hx; omega
      · exact h.apart j i x _ hx hi b 0 hold
    · exact h.apart j k x m hx hm'' b o hb
  · intro j k m m' hm1 hm2 hjk b o b' o' hb hb'
    rcases key j m hm1 with ⟨rfl, rfl⟩ | ⟨hj, hm1'⟩
    · rcases key k m' hm2 with ⟨rfl, _⟩ | ⟨hk, hm2'⟩
      · exact absurd rfl hjk
      · rcases hp b o hb with hlt | hold
        · have := (h.own k m' hm2').ge b' o' hb'; omega
        · exact h.rows j k _ m' hi hm2' (fun e => hk e.symm) b 0 b' o' hold hb'
    · rcases key k m' hm2 with ⟨rfl, rfl⟩ | ⟨hk, hm2'⟩
      · rcases hp b' o' hb' with hlt | hold
        · have := (h.own j m hm1').ge b o hb; omega
        · exact h.rows j k m _ hm1' hi hj b o b' 0 hb hold
      · exact h.rows j k m m' hm1' hm2' hjk b o b' o' hb hb'

/-- append onto row i. -/
theorem Hold.append {P : Program} {t' ty : TypeId} {z : Ty} {q : Option Addr} {m d' : Nat} {news : List Value} (h : Hold w0 W fs ms) (i : Nat) (hi : ms[i]? = some ⟨t, s, p, n, c, vs⟩) (ht : P.underlying t' = some (.slice t)) (hz : tyOf P t = some z)
    (h1 : z.ls.length = s) (h0 : 0 < s) (hat : At W q news) (hm : news.length = m * s) (hq : q = none → m = 0 ∧ d' = 0) (hone : ∀ x ∈ news, x.oneCell' = true)
    (hroom : ((n + m) + (n + m) / 4 + 192) * z.bytes ≤ 281474976710656) (hlen : n + m ≤ maxLen) :
    ∃ p' c' W', (Builtin.append_ #[t', t'] ty #[.slice p n c, .slice q m d']).run P W = .ok (.slice p' (n + m) c') W' ∧ Hold w0 W' fs (ms.set i ⟨t, s, p', n + m, c', vs ++ news⟩) := by
  obtain ⟨p', c', W', h2, h3, h4, h5⟩ := append_at (ty := ty) ht hz h1 h0 (h.row i hi) hat hm hq hone h.size hroom hlen
  exact ⟨p', c', W', h2, h.updRow i hi ((h.row i hi).grown h4) h3 h5⟩
end
end Go.Vc

/- What is handed in, opened: of whatever depth. -/
namespace Go.Vc
open Go Go.RowKit

/-- The cells cs are a value of type t that can be read, and each string and slice in it is within the platform's reach. -/
def Arg (P : Program) (w : World) (t : TypeId) (cs : List Value) : Prop :=
  ∃ (H : Type) (enc : TypeId × Value → H) (fuel : Nat) (d : DataW H) (ps : List MemPlace), DataW.trod enc P w 0 (fun _ => true) true fuel t cs = some (d, ps) ∧ ∀ n ∈ d.weights P t, n ≤ 140737488351232

theorem mapM_some {α β : Type} {f : α → Option β} : ∀ {l : List α} {ys : List β}, l.mapM f = some ys → ys.length = l.length ∧ ∀ (i : Nat) x, l[i]? = some x → ∃ y, ys[i]? = some y ∧ f x = some y := by
  intro l
  induction l with
  | nil => intro ys h; simp at h; subst h; exact ⟨rfl, fun i x hx => by simp at hx⟩
  | cons a l ih =>
    intro ys h
    rw [List.mapM_cons] at h
    cases ha : f a with
    | none => rw [ha] at h; simp at h
    | some b =>
      rw [ha] at h
      cases hl : l.mapM f with
      | none => rw [hl] at h; simp at h
      | some zs =>
        rw [hl] at h
        simp at h
        subst h
        obtain ⟨h1, h2⟩ := ih hl
        refine ⟨by simp [h1], fun i x hx => ?_⟩
        cases i with
        | zero => simp at hx; subst hx; exact ⟨b, rfl, ha⟩
        | succ i => simp at hx; obtain ⟨y, hy, hf⟩ := h2 i x hx; exact ⟨y, by simpa using hy, hf⟩

theorem cells?_some {w : World} {b n : Nat} {a : Addr} {cs : List Value} (h : w.cells? b a n = some cs) : cs.length = n ∧ ∀ (j : Nat) v, cs[j]? = some v → w.cell? (a.add j) = some v := by
  unfold World.cells? at h
  split at h
  · obtain ⟨h1, h2⟩ := mapM_some h
    simp at h1
    refine ⟨h1, fun j v hj => ?_⟩
    have hjn : j < n := by have := (List.getElem?_eq_some_iff.1 hj).1; omega
    obtain ⟨y, hy, hf⟩ := h2 j j (by simp [hjn])
    rw [hj] at hy; cases hy
    exact hf
  · cases h

theorem weightsAll_mem {H : Type} {P : Program} {e : TypeId} : ∀ {ds : List (DataW H)} {d : DataW H}, d ∈ ds → ∀ n ∈ d.weights P e, n ∈ DataW.weightsAll P e ds := by
  intro ds
  induction ds with
  | nil => intro d h; cases h
  | cons x r ih =>
    intro d h n hn
    simp only [DataW.weightsAll, List.mem_append]
    rcases List.mem_cons.1 h with rfl | h
    · exact .inl hn
    · exact .inr (ih h n hn)

section
variable {P : Program} {w : World} {t : TypeId} {cs : List Value}

theorem Arg.int {k : IntKind} (hu : P.underlying t = some (.int k)) (h : Arg P w t cs) : ∃ n, cs = [.int k n] ∧ (Lit.int k n).wf = true := by
  obtain ⟨H, enc, fuel, d, ps, h, _⟩ := h
  cases fuel with
  | zero => cases h
  | succ f =>
    simp only [DataW.trod, hu] at h
    split at h <;> simp_all

theorem Arg.bool (hu : P.underlying t = some .bool) (h : Arg P w t cs) : ∃ b, cs = [.bool b] := by
  obtain ⟨H, enc, fuel, d, ps, h, _⟩ := h
  cases fuel with
  | zero => cases h
  | succ f =>
    simp only [DataW.trod, hu] at h
    split at h <;> simp_all

theorem Arg.string (hu : P.underlying t = some .string) (h : Arg P w t cs) : ∃ s, cs = [.string s] ∧ s.size ≤ 140737488351232 := by
  obtain ⟨H, enc, fuel, d, ps, h, hw⟩ := h
  cases fuel with
  | zero => cases h
  | succ f =>
    simp only [DataW.trod, hu] at h
    split at h <;> simp_all
    rename_i s
    obtain ⟨_, rfl, rfl⟩ := h
    exact hw _ (by simp [DataW.weights])

theorem Arg.struct {fs : Array Field} (hu : P.underlying t = some (.struct fs)) (h : Arg P w t cs) : cs.length = P.cellsOf t ∧ ∀ f ∈ fs.toList, Arg P w f.type ((cs.drop f.offset).take (P.cellsOf f.type)) := by
  obtain ⟨H, enc, fuel, d, ps, h, hw⟩ := h
  cases fuel with
  | zero => cases h
  | succ n =>
    simp only [DataW.trod, hu] at h
    split at h
    · rename_i hl
      refine ⟨hl, fun f hf => ?_⟩
      cases hm : fs.toList.mapM fun f => DataW.trod enc P w 0 (fun _ => true) true n f.type ((cs.drop f.offset).take (P.cellsOf f.type)) with
      | none => rw [hm] at h; cases h
      | some xs =>
        rw [hm] at h
        cases h
        obtain ⟨i, hi⟩ := List.mem_iff_getElem?.1 hf
        obtain ⟨h1, h2⟩ := mapM_some hm
        obtain ⟨y, hy, hfy⟩ := h2 i f hi
        refine ⟨H, enc, n, y.1, y.2, hfy, fun k hk => hw k ?_⟩
        simp only [DataW.weights, hu]
        exact DataW.weights_mem_each (j := i) (by simp [hi]) (by simp [hy]) k hk
    · cases h

theorem Arg.array {n : Nat} {e : TypeId} (hu : P.underlying t = some (.array n e)) (h : Arg P w t cs) : cs.length = P.cellsOf t ∧ ∀ i, i < n → Arg P w e ((cs.drop (i * P.cellsOf e)).take (P.cellsOf e)) := by
  obtain ⟨H, enc, fuel, d, ps, h, hw⟩ := h
  cases fuel with
  | zero => cases h
  | succ m =>
    simp only [DataW.trod, hu] at h
    split at h
    · rename_i hl
      refine ⟨hl, fun i hi => ?_⟩
      cases hm : (List.range n).mapM fun i => DataW.trod enc P w 0 (fun _ => true) true m e ((cs.drop (i * P.cellsOf e)).take (P.cellsOf e)) with
      | none => rw [hm] at h; cases h
      | some xs =>
        rw [hm] at h
        cases h
        obtain ⟨h1, h2⟩ := mapM_some hm
        obtain ⟨y, hy, hfy⟩ := h2 i i (by simp [hi])
        refine ⟨H, enc, m, y.1, y.2, hfy, fun k hk => hw k ?_⟩
        simp only [DataW.weights, hu]
        exact weightsAll_mem (List.mem_map.2 ⟨y, List.mem_of_getElem? hy, rfl⟩) k hk
    · cases h

theorem flatten_get {css : List (List Value)} {s : Nat} (hs : ∀ x ∈ css, x.length = s) {i j : Nat} (hj : j < s) : css.flatten[i * s + j]? = (css[i]?).bind fun x => x[j]? := by
  induction css generalizing i with
  | nil => simp
  | cons a r ih =>
    have ha := hs a (by simp)
    cases i with
    | zero => simp only [Nat.zero_mul, Nat.zero_add, List.flatten_cons]; rw [List.getElem?_append_left (by omega)]; rfl
    | succ i =>
      simp only [List.flatten_cons]
      rw [List.getElem?_append_right (by rw [ha, Nat.add_mul]; omega), show (i + 1) * s + j - a.length = i * s + j by rw [ha, Nat.add_mul]; omega, ih fun x hx => hs x (by simp [hx])]
      rfl

theorem Arg.slice {e : TypeId} (hu : P.underlying t = some (.slice e)) (h0 : 0 < P.cellsOf e) (h : Arg P w t cs) :
    ∃ (p : Option Addr) (n c : Nat) (css : List (List Value)), cs = [.slice p n c] ∧ n ≤ c ∧ c ≤ maxLen ∧ c * P.bytesOf e ≤ 140737488351232 ∧ css.length = c ∧ (∀ x ∈ css, x.length = P.cellsOf e ∧ Arg P w e x) ∧ At w p css.flatten ∧ (p = none → n = 0 ∧ c = 0) := by
  obtain ⟨H, enc, fuel, d, ps, h, hw⟩ := h
  cases fuel with
  | zero => cases h
  | succ m =>
    have shape : (cs = [.slice none 0 0]) ∨ ∃ a n c, cs = [.slice (some a) n c] := by
      match cs, h with
      | [], h => simp [DataW.trod, hu] at h
      | [.slice none 0 0], _ => exact .inl rfl
      | [.slice none (n + 1) c], h => simp [DataW.trod, hu] at h
      | [.slice none 0 (c + 1)], h => simp [DataW.trod, hu] at h
      | [.slice (some a) n c], _ => exact .inr ⟨a, n, c, rfl⟩
      | [.bool _], h => simp [DataW.trod, hu] at h
      | [.int _ _], h => simp [DataW.trod, hu] at h
      | [.float _ _], h => simp [DataW.trod, hu] at h
      | [.complex _ _ _], h => simp [DataW.trod, hu] at h
      | [.string _], h => simp [DataW.trod, hu] at h
      | [.pointer _], h => simp [DataW.trod, hu] at h
      | [.map _], h => simp [DataW.trod, hu] at h
      | [.chan _], h => simp [DataW.trod, hu] at h
      | [.nilFunc], h => simp [DataW.trod, hu] at h
      | [.func _ _ _], h => simp [DataW.trod, hu] at h
      | [.nilIface], h => simp [DataW.trod, hu] at h
      | [.iface _ _], h => simp [DataW.trod, hu] at h
      | [.tuple _], h => simp [DataW.trod, hu] at h
      | [.agg _], h => simp [DataW.trod, hu] at h
      | _ :: _ :: _, h => simp [DataW.trod, hu] at h
    rcases shape with rfl | ⟨a, len, cap, rfl⟩
    · exact ⟨none, 0, 0, [], rfl, Nat.le_refl _, Nat.zero_le _, by simp, rfl, fun x hx => by simp at hx, At.nil _ _, fun _ => ⟨rfl, rfl⟩⟩
    · simp only [DataW.trod, hu] at h
      split at h
      · rename_i hc
        obtain ⟨_, hlc, hcm⟩ := hc
        let elemAt : Nat → Option (DataW H × List MemPlace) := fun i => (w.cells? 0 (a.add (i * P.cellsOf e)) (P.cellsOf e)).bind (DataW.trod enc P w 0 (fun _ => true) true m e)
        change ((List.range len).mapM elemAt).bind _ = _ at h
        cases hm1 : (List.range len).mapM elemAt with
        | none => rw [hm1] at h; cases h
        | some elems =>
          rw [hm1] at h
          simp only [Option.bind_some, if_true] at h
          change ((List.range (cap - len)).mapM fun j => elemAt (len + j)).map _ = _ at h
          cases hm2 : (List.range (cap - len)).mapM fun j => elemAt (len + j) with
          | none => rw [hm2] at h; cases h
          | some rest =>
            rw [hm2] at h
            simp only [Option.map_some, Option.some.injEq, Prod.mk.injEq] at h
            obtain ⟨rfl, _⟩ := h
            obtain ⟨a1, a2⟩ := mapM_some hm1
            obtain ⟨b1, b2⟩ := mapM_some hm2
            simp only [List.length_range] at a1 b1
            simp only [DataW.weights, hu, List.length_map, List.mem_cons, List.mem_append] at hw
            have all : ∀ i, i < cap → ∃ cs, w.cells? 0 (a.add (i * P.cellsOf e)) (P.cellsOf e) = some cs ∧ Arg P w e cs := by
              intro i hi
              have key : ∃ y, elemAt i = some y ∧ ((∃ j : Nat, elems[j]? = some y) ∨ ∃ j : Nat, rest[j]? = some y) := by
                rcases Nat.lt_or_ge i len with hl | hl
                · obtain ⟨y, hy, hf⟩ := a2 i i (List.getElem?_range hl)
                  exact ⟨y, hf, .inl ⟨i, hy⟩⟩
                · obtain ⟨y, hy, hf⟩ := b2 (i - len) (i - len) (List.getElem?_range (by omega))
                  rw [show len + (i - len) = i by omega] at hf
                  exact ⟨y, hf, .inr ⟨_, hy⟩⟩
              obtain ⟨y, hf, hy⟩ := key
              have hf' : (w.cells? 0 (a.add (i * P.cellsOf e)) (P.cellsOf e)).bind (DataW.trod enc P w 0 (fun _ => true) true m e) = some y := hf
              clear hf
              cases hcs : w.cells? 0 (a.add (i * P.cellsOf e)) (P.cellsOf e) with
              | none => rw [hcs] at hf'; cases hf'
              | some cs =>
                rw [hcs] at hf'
                have hf : DataW.trod enc P w 0 (fun _ => true) true m e cs = some y := hf'
                refine ⟨cs, rfl, H, enc, m, y.1, y.2, hf, fun k hk => hw k (.inr ?_)⟩
                rcases hy with ⟨j, hy⟩ | ⟨j, hy⟩
                · exact .inl (weightsAll_mem (List.mem_map.2 ⟨y, List.mem_of_getElem? hy, rfl⟩) k hk)
                · exact .inr (weightsAll_mem (List.mem_map.2 ⟨y, List.mem_of_getElem? hy, rfl⟩) k hk)
            obtain ⟨css, hcl, hcss⟩ : ∃ css : List (List Value), css.length = cap ∧ ∀ i x, css[i]? = some x → w.cells? 0 (a.add (i * P.cellsOf e)) (P.cellsOf e) = some x ∧ Arg P w e x := by
              refine ⟨(List.range cap).map fun i => (w.cells? 0 (a.add (i * P.cellsOf e)) (P.cellsOf e)).getD [], by simp, fun i x hx => ?_⟩
              rw [List.getElem?_map] at hx
              have hi : i < cap := by
                rcases Nat.lt_or_ge i cap with h' | h'
                · exact h'
                · rw [List.getElem?_eq_none (by simpa using h')] at hx; cases hx
              rw [List.getElem?_range hi] at hx
              obtain ⟨cs, h1, h2⟩ := all i hi
              simp only [Option.map_some, h1, Option.getD_some, Option.some.injEq] at hx
              subst hx
              exact ⟨h1, h2⟩
            have hlen : ∀ x ∈ css, x.length = P.cellsOf e := fun x hx => by
              obtain ⟨i, hi⟩ := List.mem_iff_getElem?.1 hx
              exact (cells?_some (hcss i x hi).1).1
            refine ⟨some a, len, cap, css, rfl, hlc, hcm, ?_, hcl, fun x hx => ?_, ?_, fun e => by cases e⟩
            · have := hw ((elems.length + rest.length) * P.bytesOf e) (.inl rfl)
              rw [a1, b1, show len + (cap - len) = cap by omega] at this
              exact this
            · obtain ⟨i, hi⟩ := List.mem_iff_getElem?.1 hx
              exact ⟨hlen x hx, (hcss i x hi).2⟩
            · cases hcz : css with
              | nil => exact .inl rfl
              | cons c0 r =>
                rw [← hcz]
                have h00 := cells?_some (hcss 0 c0 (by rw [hcz]; rfl)).1
                have hc0 : 0 < c0.length := by rw [h00.1]; exact h0
                have hcell := h00.2 0 c0[0] (by simp [hc0])
                obtain ⟨ab, ao, ag⟩ := a
                have hs : ag = none := by
                  cases ag with
                  | none => rfl
                  | some y =>
                    have e0 : ((⟨ab, ao, some y⟩ : Addr).add (0 * P.cellsOf e)).add 0 = ⟨ab, ao, some y⟩ := by rw [Nat.zero_mul, Addr.add_zero', Addr.add_zero']
                    rw [e0] at hcell
                    simp only [World.cell?, Option.isSome_some, if_true] at hcell
                    split at hcell <;> cases hcell
                subst hs
                refine .inr ⟨ab, ao, rfl, fun i v hv => ?_⟩
                have hdm : i = i / P.cellsOf e * P.cellsOf e + i % P.cellsOf e := by rw [Nat.mul_comm]; exact (Nat.div_add_mod _ _).symm
                have hj := Nat.mod_lt i h0
                rw [hdm, flatten_get hlen hj] at hv
                cases hx : css[i / P.cellsOf e]? with
                | none => rw [hx] at hv; cases hv
                | some x =>
                  rw [hx] at hv
                  have := (cells?_some (hcss _ x hx).1).2 _ v hv
                  rw [Addr.add_lit, Addr.add_lit] at this
                  rw [hdm, ← Nat.add_assoc]; exact this
      · cases h
end

/-- An argument at the top. -/
theorem Arg.of {H : Type} {enc : TypeId × Value → H} {P : Program} {w : World} {ts : List TypeId} {ds : List (DataW H)} {t : TypeId} {v : Value} {d : DataW H} {ps : List MemPlace} {j : Nat}
    (h : DataW.Trod enc P w 0 (fun _ => true) true t v d ps) (hz : (DataW.weightsEach P ts ds).all (· ≤ reachBytes) = true) (ht : ts[j]? = some t) (hd : ds[j]? = some d) : Arg P w t v.cells.toList := by
  obtain ⟨fuel, h⟩ := h
  refine ⟨H, enc, fuel, d, ps, h, fun n hn => ?_⟩
  have := List.all_eq_true.1 hz n (DataW.weights_mem_each ht hd n hn)
  exact of_decide_eq_true this

theorem plain_cells {P : Program} {w : World} {r : Reach} {base : Nat} {t : TypeId} {v : Value} (hu : isAggD (P.underlying t) = false) (h : Value.okWide P w r base t v) (hn : P.underlying t ≠ none) : v.cells.toList = [v] := by
  have : ∀ cs, v ≠ .agg cs := by
    intro cs e
    subst e
    unfold Value.okWide at h
    split at h
    · rename_i hh; rw [hh] at hu; cases hu
    · rename_i hh; rw [hh] at hu; cases hu
    · unfold Cell.okWide at h
      split at h <;> simp_all [Cell.ok]
  cases v with
  | agg cs => exact absurd rfl (this cs)
  | _ => rfl
theorem agg_cells {P : Program} {w : World} {r : Reach} {base : Nat} {t : TypeId} {v : Value} (hu : isAggD (P.underlying t) = true) (h : Value.okWide P w r base t v) : ∃ cs, v = .agg cs ∧ v.cells.toList = cs.toList := by
  unfold Value.okWide at h
  split at h
  · obtain ⟨cs, rfl, _⟩ := h; exact ⟨cs, rfl, rfl⟩
  · obtain ⟨cs, rfl, _⟩ := h; exact ⟨cs, rfl, rfl⟩
  · rename_i h1 h2
    cases hh : P.underlying t with
    | none => rw [hh] at hu; cases hu
    | some d => cases d <;> simp_all [isAggD]

end Go.Vc

/- Values, rows and lists of rows as the memory bears them; how two values stand. Plain Lean, no program. -/
namespace Go.Vc
open Go Go.RowKit

/-! ### Numbers and texts, held against one another -/
def cmpI (x y : Int) : Int := if x < y then -1 else if y < x then 1 else 0
def cmpS (a b : ByteArray) : Int := Lib.compareBytes (tB a) (tB b)

theorem cmpI_spec (x y : Int) : (cmpI x y = -1 ∧ x < y) ∨ (cmpI x y = 0 ∧ x = y) ∨ (cmpI x y = 1 ∧ y < x) := by
  unfold cmpI
  split
  · exact .inl ⟨rfl, ‹_›⟩
  · split
    · exact .inr (.inr ⟨rfl, ‹_›⟩)
    · exact .inr (.inl ⟨rfl, by omega⟩)
theorem cmpI_cmp : Cmp cmpI := by
  refine ⟨fun x y => ?_, fun x y z h k => ?_⟩
  · have := cmpI_spec x y
    have := cmpI_spec y x
    omega
  · have := cmpI_spec x y
    have := cmpI_spec y z
    have := cmpI_spec x z
    omega
theorem cmpI_zero {x y : Int} : cmpI x y = 0 ↔ x = y := by have := cmpI_spec x y; omega
theorem compareBytes_anti : ∀ a b : List UInt8, Lib.compareBytes b a = - Lib.compareBytes a b
  | [], [] => rfl
  | [], _ :: _ => rfl
  | _ :: _, [] => rfl
  | x :: a, y :: b => by
    unfold Lib.compareBytes
    by_cases h1 : x < y
    · have h2 : ¬ y < x := UInt8.lt_asymm h1
      simp [h1, h2]
    · by_cases h2 : y < x
      · simp [h1, h2]
      · simp only [h1, h2, if_false]; exact compareBytes_anti a b
theorem u8_eq {x y : UInt8} (h1 : ¬ x < y) (h2 : ¬ y < x) : x = y := UInt8.le_antisymm (UInt8.not_lt.1 h2) (UInt8.not_lt.1 h1)
theorem compareBytes_trans : ∀ a b c : List UInt8, Lib.compareBytes a b ≤ 0 → Lib.compareBytes b c ≤ 0 → Lib.compareBytes a c ≤ 0
  | [], _, [], _, _ => by simp [Lib.compareBytes]
  | [], _, _ :: _, _, _ => by simp [Lib.compareBytes]
  | _ :: _, [], _, h, _ => by simp [Lib.compareBytes] at h
  | _ :: _, _ :: _, [], _, h => by simp [Lib.compareBytes] at h
  | x :: a, y :: b, z :: c, h, k => by
    unfold Lib.compareBytes at h k ⊢
    by_cases h1 : x < y
    · by_cases k1 : y < z
      · simp [UInt8.lt_trans h1 k1]
      · by_cases k2 : z < y
        · simp [k1, k2] at k
        · have := u8_eq k1 k2; subst this; simp [h1]
    · by_cases h2 : y < x
      · simp [h1, h2] at h
      · have := u8_eq h1 h2; subst this
        simp only [h1, if_false] at h
        by_cases k1 : x < z
        · simp [k1]
        · by_cases k2 : z < x
          · simp [k1, k2] at k
          · simp only [k1, k2, if_false] at k ⊢
            exact compareBytes_trans a b c h k
theorem compareBytes_zero : ∀ {a b : List UInt8}, Lib.compareBytes a b = 0 ↔ a = b
  | [], [] => by simp [Lib.compareBytes]
  | [], _ :: _ => by simp [Lib.compareBytes]
  | _ :: _, [] => by simp [Lib.compareBytes]
  | x :: a, y :: b => by
    unfold Lib.compareBytes
    by_cases h1 : x < y
    · have : x ≠ y := fun e => by subst e; exact UInt8.lt_irrefl _ h1
      simp [h1, this]
    · by_cases h2 : y < x
      · have : x ≠ y := fun e => by subst e; exact UInt8.lt_irrefl _ h2
        simp [h1, h2, this]
      · have := u8_eq h1 h2; subst this
        simp only [h1, if_false, List.cons.injEq, true_and]
        exact compareBytes_zero
theorem compareBytes_lt : ∀ {a b : List UInt8}, Op.bytesLess a b = true ↔ Lib.compareBytes a b < 0
  | [], [] => by simp [Lib.compareBytes, Op.bytesLess]
  | [], _ :: _ => by simp [Lib.compareBytes, Op.bytesLess]
  | _ :: _, [] => by simp [Lib.compareBytes, Op.bytesLess]
  | x :: a, y :: b => by
    unfold Lib.compareBytes Op.bytesLess
    by_cases h1 : x < y
    · simp [h1]
    · by_cases h2 : y < x
      · have : x ≠ y := fun e => by subst e; exact UInt8.lt_irrefl _ h2
        simp [h1, h2, this]
      · have := u8_eq h1 h2; subst this
        simp only [h1, if_false, decide_false, Bool.false_or, beq_self_eq_true, Bool.true_and]
        exact compareBytes_lt
theorem ba_toList (s : ByteArray) : s.toList = tB s := Lib.toList_data s
theorem cmpS_cmp : Cmp cmpS := ⟨fun a b => compareBytes_anti _ _, fun a b c => compareBytes_trans _ _ _⟩
theorem cmpS_zero {a b : ByteArray} : cmpS a b = 0 ↔ a = b := by unfold cmpS; rw [compareBytes_zero]; exact tB_inj
theorem sLt_iff {a b : ByteArray} : sLt a b = true ↔ cmpS a b < 0 := by unfold sLt cmpS; rw [ba_toList, ba_toList]; exact compareBytes_lt

section
variable {α β : Type} {c d : α → α → Int}
def lexC (c d : α → α → Int) (x y : α) : Int := if c x y ≠ 0 then c x y else d x y
theorem Cmp.lex (hc : Cmp c) (hd : Cmp d) : Cmp (lexC c d) := by
  refine ⟨fun x y => ?_, fun x y z h k => ?_⟩
  · have := hc.anti x y
    have := hd.anti x y
    unfold lexC
    split <;> split <;> omega
  · unfold lexC at h k ⊢
    by_cases h0 : c x y = 0
    · rw [if_neg (by simpa using h0)] at h
      by_cases k0 : c y z = 0
      · rw [if_neg (by simpa using k0)] at k
        rw [if_neg (by simpa using hc.eq_trans h0 k0)]
        exact hd.trans x y z h k
      · rw [if_pos k0] at k
        have : c x z < 0 := hc.of_lt (by omega) (y := y) (by omega)
        rw [if_pos (by omega)]; omega
    · rw [if_pos h0] at h
      have : c x z < 0 := by
        by_cases k0 : c y z = 0
        · exact hc.lt_of (y := y) (by omega) (by omega)
        · rw [if_pos k0] at k
          exact hc.lt_of (y := y) (by omega) k
      rw [if_pos (by omega)]; omega
theorem Cmp.on (f : β → α) (hc : Cmp c) : Cmp fun x y => c (f x) (f y) := ⟨fun _ _ => hc.anti _ _, fun _ _ _ => hc.trans _ _ _⟩
theorem Cmp.neg (hc : Cmp c) : Cmp fun x y => - c x y := by
  refine ⟨fun x y => by rw [hc.anti x y], fun x y z h k => ?_⟩
  have h1 := hc.anti x y
  have h2 := hc.anti y z
  have h3 := hc.anti x z
  have := hc.trans z y x (by omega) (by omega)
  omega
theorem Cmp.none : Cmp (fun _ _ : α => (0 : Int)) := ⟨fun _ _ => by simp, fun _ _ _ _ _ => Int.le_refl 0⟩
end

/-! ### Values -/
structure Val where
  k : Int
  n : Int
  s : ByteArray

theorem Val.ext' {a b : Val} : a = b ↔ a.k = b.k ∧ a.n = b.n ∧ a.s = b.s := by cases a; cases b; simp
instance : DecidableEq Val := fun _ _ => decidable_of_iff _ Val.ext'.symm
instance : Inhabited Val := ⟨⟨0, 0, ⟨#[]⟩⟩⟩
def nullV : Val := ⟨0, 0, ⟨#[]⟩⟩
def numV (n : Int) : Val := ⟨1, n, ⟨#[]⟩⟩

def Val.cs (v : Val) : List Value := [.int .i64 v.k, .int .i64 v.n, .string v.s]
def Val.agg (v : Val) : Value := .agg #[.int .i64 v.k, .int .i64 v.n, .string v.s]
def i64F (x : Int) : Prop := -9223372036854775808 ≤ x ∧ x ≤ 9223372036854775807
def Val.fit (v : Val) : Prop := i64F v.k ∧ i64F v.n

theorem Val.cs_length (v : Val) : v.cs.length = 3 := rfl
theorem Val.cs_one (v : Val) : ∀ u ∈ v.cs, u.oneCell' = true := by
  intro u hu
  simp only [Val.cs, List.mem_cons, List.not_mem_nil, or_false] at hu
  rcases hu with rfl | rfl | rfl <;> rfl

/-- May a value be? -/
def Val.Ok (v : Val) : Prop := (v.k = 0 ∧ v.n = 0 ∧ v.s = ⟨#[]⟩) ∨ (v.k = 1 ∧ v.s = ⟨#[]⟩) ∨ (v.k = 2 ∧ (v.n = 0 ∨ v.n = 1) ∧ v.s = ⟨#[]⟩) ∨ (v.k = 3 ∧ v.n = 0 ∧ v.s.size ≤ 1024)
instance (v : Val) : Decidable v.Ok := by unfold Val.Ok; exact inferInstance
def Val.right (v : Val) : Bool := decide v.Ok
def rightL (l : List Val) : Bool := l.all Val.right

def cmpV : Val → Val → Int := lexC (fun a b => cmpI a.k b.k) (lexC (fun a b => cmpI a.n b.n) fun a b => cmpS a.s b.s)
theorem cmpV_cmp : Cmp cmpV := (cmpI_cmp.on Val.k).lex ((cmpI_cmp.on Val.n).lex (cmpS_cmp.on Val.s))
theorem cmpV_def (a b : Val) : cmpV a b = if cmpI a.k b.k ≠ 0 then cmpI a.k b.k else if cmpI a.n b.n ≠ 0 then cmpI a.n b.n else cmpS a.s b.s := rfl
theorem cmpV_zero {a b : Val} : cmpV a b = 0 ↔ a = b := by
  have h1 := cmpI_spec a.k b.k
  have h2 := cmpI_spec a.n b.n
  rw [Val.ext', cmpV_def]
  split
  · constructor
    · intro h; omega
    · intro h; omega
  · split
    · constructor
      · intro h; omega
      · intro h; omega
    · constructor
      · intro h; exact ⟨by omega, by omega, cmpS_zero.1 h⟩
      · exact fun h => cmpS_zero.2 h.2.2

/-- The document's way to hold two values against one another. -/
def lessV (a b : Val) : Bool := if a.k ≠ b.k then decide (a.k < b.k) else if a.k = 3 then sLt a.s b.s else decide (a.n < b.n)
def rcmpV (a b : Val) : Int := if lessV a b then -1 else if lessV b a then 1 else 0
theorem cmpS_self (a : ByteArray) : cmpS a a = 0 := cmpS_zero.2 rfl
theorem cmpS_range (a b : ByteArray) : cmpS a b = -1 ∨ cmpS a b = 0 ∨ cmpS a b = 1 := by
  unfold cmpS
  generalize tB a = x
  generalize tB b = y
  induction x generalizing y with
  | nil => cases y <;> simp [Lib.compareBytes]
  | cons p x ih =>
    cases y with
    | nil => simp [Lib.compareBytes]
    | cons q y =>
      unfold Lib.compareBytes
      split
      · simp
      · split
        · simp
        · exact ih y
theorem rcmpV_eq {a b : Val} (ha : a.Ok) (hb : b.Ok) : rcmpV a b = cmpV a b := by
  have e3 := cmpS_range a.s b.s
  have e4 : cmpS b.s a.s = - cmpS a.s b.s := cmpS_cmp.anti _ _
  by_cases hk : a.k = b.k
  · by_cases h3 : a.k = 3
    · have hn : a.n = b.n := by
        unfold Val.Ok at ha hb
        omega
      have l1 : lessV a b = sLt a.s b.s := by unfold lessV; rw [if_neg (by simpa using hk), if_pos h3]
      have l2 : lessV b a = sLt b.s a.s := by unfold lessV; rw [if_neg (by simpa using hk.symm), if_pos (hk ▸ h3)]
      have c1 : cmpV a b = cmpS a.s b.s := by rw [cmpV_def]; simp [cmpI_zero.2 hk, cmpI_zero.2 hn]
      unfold rcmpV
      rw [l1, l2, c1]
      by_cases x1 : sLt a.s b.s = true
      · rw [if_pos x1]; have := sLt_iff.1 x1; omega
      · rw [if_neg x1]
        have x1' : ¬ cmpS a.s b.s < 0 := fun h => x1 (sLt_iff.2 h)
        by_cases x2 : sLt b.s a.s = true
        · rw [if_pos x2]; have := sLt_iff.1 x2; omega
        · rw [if_neg x2]
          have x2' : ¬ cmpS b.s a.s < 0 := fun h => x2 (sLt_iff.2 h)
          omega
    · have hs : a.s = b.s := by
        unfold Val.Ok at ha hb
        have ha' : a.s = ⟨#[]⟩ := by
          rcases ha with h | h | h | h
          · exact h.2.2
          · exact h.2
          · exact h.2.2
          · exact absurd h.1 h3
        have hb' : b.s = ⟨#[]⟩ := by
          rcases hb with h | h | h | h
          · exact h.2.2
          · exact h.2
          · exact h.2.2
          · exact absurd (hk.trans h.1) h3
        rw [ha', hb']
      have l1 : lessV a b = decide (a.n < b.n) := by unfold lessV; rw [if_neg (by simpa using hk), if_neg h3]
      have l2 : lessV b a = decide (b.n < a.n) := by unfold lessV; rw [if_neg (by simpa using hk.symm), if_neg (hk ▸ h3)]
      have c1 : cmpV a b = cmpI a.n b.n := by
        rw [cmpV_def, hs, cmpS_self]
        by_cases h : cmpI a.n b.n = 0 <;> simp [cmpI_zero.2 hk, h]
      unfold rcmpV
      rw [l1, l2, c1]
      unfold cmpI
      simp only [decide_eq_true_eq]
  · have l1 : lessV a b = decide (a.k < b.k) := by unfold lessV; rw [if_pos hk]
    have l2 : lessV b a = decide (b.k < a.k) := by unfold lessV; rw [if_pos (Ne.symm hk)]
    have c1 : cmpV a b = cmpI a.k b.k := by
      have : cmpI a.k b.k ≠ 0 := fun h => hk (cmpI_zero.1 h)
      rw [cmpV_def, if_pos this]
    unfold rcmpV
    rw [l1, l2, c1]
    unfold cmpI
    simp only [decide_eq_true_eq]

/-! ### Lists of things of some cells each -/
section
variable {α : Type}
structure Ls (enc : α → List Value) (w : World) (p : Option Addr) (n c : Nat) (l : List α) : Prop where
  len : l.length = n
  cap : n ≤ c ∧ c ≤ maxLen
  lies : At w p (l.flatMap enc)
  nil : p = none → n = 0 ∧ c = 0
variable {enc : α → List Value} {s : Nat} {w w' : World} {p : Option Addr} {n c : Nat} {l : List α}
theorem Ls.ext (h : Ls enc w p n c l) (e : Ext w w') : Ls enc w' p n c l := ⟨h.len, h.cap, h.lies.ext e, h.nil⟩
theorem Ls.le (h : Ls enc w p n c l) : n ≤ maxLen := Nat.le_trans h.cap.1 h.cap.2
theorem Ls.kept (h : Ls enc w p n c l) (hk : ∀ b o, p = some ⟨b, o, none⟩ → b < w.heap.size → w'.heap[b]? = w.heap[b]?) : Ls enc w' p n c l := ⟨h.len, h.cap, h.lies.kept hk, h.nil⟩
theorem Ls.nothing (enc : α → List Value) (w : World) : Ls enc w none 0 0 [] := ⟨rfl, ⟨Nat.le_refl _, Nat.zero_le _⟩, .inl rfl, fun _ => ⟨rfl, rfl⟩⟩
theorem flatMap_get {enc : α → List Value} (hs : ∀ x, (enc x).length = s) {i j : Nat} {x : α} (hi : l[i]? = some x) (hj : j < s) : (l.flatMap enc)[i * s + j]? = (enc x)[j]? := by
  rw [List.flatMap_def, flatten_get (s := s) (by intro y hy; obtain ⟨z, _, rfl⟩ := List.mem_map.1 hy; exact hs z) hj, List.getElem?_map, hi]
  rfl
/-- The cells of thing i. -/
theorem At.things (hs : ∀ x, (enc x).length = s) (h0 : 0 < s) (h : At w p (l.flatMap enc)) {i : Nat} {x : α} (hi : l[i]? = some x) :
    ∃ b o, p = some ⟨b, o, none⟩ ∧ ∀ j v, (enc x)[j]? = some v → w.cell? ⟨b, o + (i * s + j), none⟩ = some v := by
  rcases h with h | ⟨b, o, hp, hc⟩
  · have := flatMap_get (enc := enc) (s := s) hs hi h0
    rw [h] at this
    have h1 : (enc x)[0]? = some ((enc x)[0]'(by rw [hs]; exact h0)) := List.getElem?_eq_getElem _
    rw [h1] at this; simp at this
  · refine ⟨b, o, hp, fun j v hv => hc _ _ ?_⟩
    have hj : j < s := by rw [← hs x]; exact (List.getElem?_eq_some_iff.1 hv).1
    rw [flatMap_get hs hi hj, hv]
theorem flatMap_length (hs : ∀ x, (enc x).length = s) : ∀ l : List α, (l.flatMap enc).length = l.length * s
  | [] => by simp
  | x :: l => by rw [List.flatMap_cons, List.length_append, hs, flatMap_length hs l, List.length_cons, Nat.succ_mul, Nat.add_comm]
theorem flatMap_take (hs : ∀ x, (enc x).length = s) : ∀ (l : List α) (k : Nat), (l.take k).flatMap enc = (l.flatMap enc).take (k * s)
  | [], k => by simp
  | x :: l, 0 => by simp
  | x :: l, k + 1 => by
    rw [List.take_succ_cons, List.flatMap_cons, List.flatMap_cons, flatMap_take hs l k, Nat.succ_mul, Nat.add_comm, List.take_append, hs, Nat.add_sub_cancel_left, List.take_of_length_le (l := enc x) (by rw [hs]; omega)]
theorem flatMap_drop (hs : ∀ x, (enc x).length = s) : ∀ (l : List α) (k : Nat), (l.drop k).flatMap enc = (l.flatMap enc).drop (k * s)
  | [], k => by simp
  | x :: l, 0 => by simp
  | x :: l, k + 1 => by
    rw [List.drop_succ_cons, List.flatMap_cons, flatMap_drop hs l k, Nat.succ_mul, Nat.add_comm, List.drop_append, hs, Nat.add_sub_cancel_left, @List.drop_eq_nil_of_le _ (enc x) _ (by rw [hs]; omega), List.nil_append]
/-- s[lo:hi]. -/
theorem Ls.slice (hs : ∀ x, (enc x).length = s) (h : Ls enc w p n c l) {lo hi : Nat} (h1 : lo ≤ hi) (h2 : hi ≤ n) : Ls enc w (slBase p lo c s) (hi - lo) (c - lo) ((l.take hi).drop lo) := by
  have hc := h.cap
  refine ⟨by rw [List.length_drop, List.length_take, h.len]; omega, ⟨by omega, by omega⟩, ?_, fun e => ?_⟩
  · rw [flatMap_drop hs, flatMap_take hs]
    exact h.lies.slice lo hi c s (by omega)
  · have := h.nil (slBase_none e); omega
theorem Ls.take (hs : ∀ x, (enc x).length = s) (h : Ls enc w p n c l) {k : Nat} (h2 : k ≤ n) : Ls enc w p k c (l.take k) := by
  have hc := h.cap
  refine ⟨by rw [List.length_take, h.len]; omega, ⟨by omega, hc.2⟩, ?_, fun e => ?_⟩
  · rw [flatMap_take hs]; exact h.lies.take _
  · have := h.nil e; omega
/-- A row of our own that holds things. -/
theorem Mine.ls {B : Nat} {t : TypeId} (hs : ∀ x, (enc x).length = s) (h0 : 0 < s) (h : Mine B t s w p n c (l.flatMap enc)) : Ls enc w p n c l := by
  have h1 := h.len
  rw [flatMap_length hs] at h1
  exact ⟨Nat.eq_of_mul_eq_mul_right h0 h1, h.cap, h.at, h.isNil⟩
theorem flatMap_one (h : ∀ x, ∀ u ∈ enc x, u.oneCell' = true) (l : List α) : ∀ u ∈ l.flatMap enc, u.oneCell' = true := by
  intro u hu
  obtain ⟨x, _, hx⟩ := List.mem_flatMap.1 hu
  exact h x u hx

theorem list_lift {β : Type} {f : α → β} {Q : α → Prop} : ∀ {ys : List β}, (∀ y ∈ ys, ∃ a, y = f a ∧ Q a) → ∃ l : List α, ys = l.map f ∧ ∀ a ∈ l, Q a
  | [], _ => ⟨[], rfl, by simp⟩
  | y :: ys, h => by
    obtain ⟨a, rfl, ha⟩ := h y (by simp)
    obtain ⟨l, rfl, hl⟩ := list_lift (ys := ys) fun z hz => h z (by simp [hz])
    exact ⟨a :: l, rfl, fun b hb => by rcases List.mem_cons.1 hb with rfl | hb; exact ha; exact hl b hb⟩
/-- A slice that came in. -/
theorem arg_ls {P : Program} {t e : TypeId} {v : Value} {Q : α → Prop} (hu : P.underlying t = some (.slice e)) (h0 : 0 < P.cellsOf e) (hQ : ∀ x, Arg P w e x → ∃ a, x = enc a ∧ Q a) (hs : ∀ a, (enc a).length = P.cellsOf e) (h : Arg P w t [v]) :
    ∃ p n c l, v = .slice p n c ∧ Ls enc w p n c l ∧ (∀ a ∈ l, Q a) ∧ c * P.bytesOf e ≤ 140737488351232 := by
  obtain ⟨p, n, c, css, he, h1, h2, h3, h4, h5, h6, h7⟩ := Arg.slice hu h0 h
  cases he
  obtain ⟨full, rfl, hf⟩ := list_lift (f := enc) (Q := Q) (ys := css) fun x hx => hQ x (h5 x hx).2
  rw [← List.flatMap_def] at h6
  rw [List.length_map] at h4
  refine ⟨p, n, c, full.take n, rfl, ⟨by rw [List.length_take]; omega, ⟨h1, h2⟩, ?_, h7⟩, fun a ha => hf a (List.mem_of_mem_take ha), h3⟩
  rw [flatMap_take hs]
  exact h6.take _
end

theorem Blk.c3 {w : World} {b : Nat} {t : TypeId} {x y z : Value} (h : Blk w b t #[x, y, z]) : w.cell? ⟨b, 0, none⟩ = some x ∧ w.cell? ⟨b, 1, none⟩ = some y ∧ w.cell? ⟨b, 2, none⟩ = some z :=
  ⟨by rw [h.cell]; rfl, by rw [h.cell]; rfl, by rw [h.cell]; rfl⟩

theorem and1_i64 (n : Int) : bits .and .i64 n 1 = n % 2 := by
  have e : bits .and .i64 n 1 = IntKind.i64.wrap (((BitVec.ofInt 64 n &&& 1#64).toNat : Nat) : Int) := rfl
  rw [e, BitVec.toNat_and, BitVec.toNat_ofInt, show (1#64).toNat = 1 from rfl, Nat.and_one_is_mod, i64_fit (by omega) (by omega)]
  omega

/-! ### Slices as things -/
structure Sl where
  p : Option Addr
  n : Nat
  c : Nat
def Sl.v (h : Sl) : Value := .slice h.p h.n h.c
def Sl.cs (h : Sl) : List Value := [.slice h.p h.n h.c]
theorem Sl.cs_length (h : Sl) : h.cs.length = 1 := rfl
theorem Sl.cs_one (h : Sl) : ∀ u ∈ h.cs, u.oneCell' = true := by intro u hu; simp [Sl.cs] at hu; subst hu; rfl

/-- Values in a row. -/
abbrev Vs := Ls Val.cs
/-- Rows: their heads hs, what they hold. -/
structure Rws (w : World) (p : Option Addr) (n c : Nat) (hs : List Sl) (L : List (List Val)) : Prop where
  heads : Ls Sl.cs w p n c hs
  rows : ∀ (i : Nat) (h : Sl) (r : List Val), hs[i]? = some h → L[i]? = some r → Vs w h.p h.n h.c r
  len : L.length = n
section
variable {w w' : World} {p : Option Addr} {n c : Nat} {hs : List Sl} {L : List (List Val)}
theorem Rws.ext (h : Rws w p n c hs L) (e : Ext w w') : Rws w' p n c hs L := ⟨h.heads.ext e, fun i x r hx hr => (h.rows i x r hx hr).ext e, h.len⟩
theorem Rws.hlen (h : Rws w p n c hs L) : hs.length = n := h.heads.len
theorem Rws.nothing (w : World) : Rws w none 0 0 [] [] := ⟨Ls.nothing _ w, by simp, rfl⟩
theorem Rws.get (h : Rws w p n c hs L) {i : Nat} {r : List Val} (hi : L[i]? = some r) : ∃ x, hs[i]? = some x ∧ Vs w x.p x.n x.c r ∧ ∃ b o, p = some ⟨b, o, none⟩ ∧ w.cell? ⟨b, o + i, none⟩ = some (.slice x.p x.n x.c) := by
  have hlt : i < hs.length := by rw [h.hlen, ← h.len]; exact (List.getElem?_eq_some_iff.1 hi).1
  obtain ⟨b, o, hp, hc⟩ := h.heads.lies.things Sl.cs_length (by decide) (List.getElem?_eq_getElem hlt)
  refine ⟨hs[i], List.getElem?_eq_getElem hlt, h.rows i _ _ (List.getElem?_eq_getElem hlt) hi, b, o, hp, ?_⟩
  have := hc 0 _ rfl
  simpa using this
theorem Ls.val {r : List Val} (h : Vs w p n c r) {i : Nat} {v : Val} (hi : r[i]? = some v) :
    ∃ b o, p = some ⟨b, o, none⟩ ∧ w.cell? ⟨b, o + i * 3, none⟩ = some (.int .i64 v.k) ∧ w.cell? ⟨b, o + i * 3 + 1, none⟩ = some (.int .i64 v.n) ∧ w.cell? ⟨b, o + i * 3 + 2, none⟩ = some (.string v.s) := by
  obtain ⟨b, o, hp, hc⟩ := h.lies.things Val.cs_length (by decide) hi
  exact ⟨b, o, hp, by have := hc 0 _ rfl; simpa [Nat.add_assoc] using this, by have := hc 1 _ rfl; rwa [← Nat.add_assoc] at this, by have := hc 2 _ rfl; rwa [← Nat.add_assoc] at this⟩
theorem Rws.take (h : Rws w p n c hs L) {k : Nat} (hk : k ≤ n) : Rws w p k c (hs.take k) (L.take k) :=
  ⟨h.heads.take Sl.cs_length hk, fun i x r hx hr => h.rows i x r (by rw [List.getElem?_take] at hx; split at hx; exact hx; cases hx) (by rw [List.getElem?_take] at hr; split at hr; exact hr; cases hr), by rw [List.length_take, h.len]; omega⟩
theorem Rws.le (h : Rws w p n c hs L) : n ≤ maxLen := h.heads.le
end

/-- The types and the places of a struct's fields. -/
def structOf (P : Program) (t : TypeId) : Option (List (TypeId × Nat)) := match P.underlying t with
  | some (.struct fs) => some (fs.toList.map fun f => (f.type, f.offset))
  | _ => none
theorem Arg.fields {P : Program} {w : World} {t : TypeId} {cs : List Value} {l : List (TypeId × Nat)} (hu : structOf P t = some l) (h : Arg P w t cs) :
    cs.length = P.cellsOf t ∧ ∀ x ∈ l, Arg P w x.1 ((cs.drop x.2).take (P.cellsOf x.1)) := by
  unfold structOf at hu
  split at hu
  · rename_i fs hfs
    cases hu
    obtain ⟨h1, h2⟩ := Arg.struct hfs h
    refine ⟨h1, fun x hx => ?_⟩
    obtain ⟨f, hf, rfl⟩ := List.mem_map.1 hx
    exact h2 f hf
  · cases hu
theorem arg_val {P : Program} {w : World} {t ti tn ts : TypeId} {cs : List Value} (hu : structOf P t = some [(ti, 0), (tn, 1), (ts, 2)]) (hc : P.cellsOf t = 3) (h1 : P.cellsOf ti = 1) (h2 : P.cellsOf tn = 1) (h3 : P.cellsOf ts = 1)
    (u1 : P.underlying ti = some (.int .i64)) (u2 : P.underlying tn = some (.int .i64)) (u3 : P.underlying ts = some .string) (h : Arg P w t cs) : ∃ v : Val, cs = v.cs ∧ v.fit := by
  obtain ⟨hl, hf⟩ := Arg.fields hu h
  rw [hc] at hl
  obtain ⟨a, b, d, rfl⟩ : ∃ a b d, cs = [a, b, d] := by
    match cs, hl with
    | [a, b, d], _ => exact ⟨a, b, d, rfl⟩
  have f1 := hf (ti, 0) (by simp)
  have f2 := hf (tn, 1) (by simp)
  have f3 := hf (ts, 2) (by simp)
  simp only [h1, h2, h3] at f1 f2 f3
  obtain ⟨k, e1, w1⟩ := Arg.int u1 f1
  obtain ⟨n, e2, w2⟩ := Arg.int u2 f2
  obtain ⟨s, e3, _⟩ := Arg.string u3 f3
  simp at e1 e2 e3
  subst e1 e2 e3
  exact ⟨⟨k, n, s⟩, rfl, wf_i64 w1, wf_i64 w2⟩
end Go.Vc

/- Maps with texts as keys: what a lookup and an update do, over a list of what the map holds. -/
namespace Go.Vc
open Go Go.RowKit

theorem ba_beq {a b : ByteArray} : (a == b) = true ↔ a = b := by
  constructor
  · intro h
    obtain ⟨a⟩ := a
    obtain ⟨b⟩ := b
    have : (a == b) = true := h
    rw [beq_iff_eq.1 this]
  · rintro rfl
    obtain ⟨a⟩ := a
    show (a == a) = true
    rw [beq_iff_eq]
instance : LawfulBEq ByteArray where
  rfl := ba_beq.2 rfl
  eq_of_beq := ba_beq.1
theorem ba_bne {a b : ByteArray} (h : ¬ a = b) : (a == b) = false := by rw [← Bool.not_eq_true, ba_beq]; exact h
/-- The entries es are those of l: texts and what they lead to. -/
def MapL (es : Array MapEntry) (l : List (ByteArray × Value)) : Prop := es.toList.map (fun e => (e.key, e.val)) = l.map fun p => (Value.string p.1, p.2)
def lookS (l : List (ByteArray × Value)) (s : ByteArray) : Option Value := match l with
  | [] => none
  | p :: r => if p.1 = s then some p.2 else lookS r s
def setS (l : List (ByteArray × Value)) (s : ByteArray) (v : Value) : List (ByteArray × Value) := match l with
  | [] => [(s, v)]
  | p :: r => if p.1 = s then (s, v) :: r else p :: setS r s v

theorem MapL.nil : MapL #[] [] := rfl
theorem lookS_setS (l : List (ByteArray × Value)) (s : ByteArray) (v : Value) (t : ByteArray) : lookS (setS l s v) t = if s = t then some v else lookS l t := by
  induction l with
  | nil => simp [setS, lookS]
  | cons p r ih =>
    unfold setS
    by_cases h : p.1 = s
    · rw [if_pos h]
      unfold lookS
      by_cases h2 : s = t
      · simp [h2]
      · have : ¬ p.1 = t := fun e => h2 (h.symm.trans e)
        simp [h2, this]
    · rw [if_neg h]
      unfold lookS
      by_cases h2 : p.1 = t
      · have : ¬ s = t := fun e => h (h2.trans e.symm)
        simp [h2, this]
      · simp only [h2, if_false]; exact ih

theorem findNow_none {s : ByteArray} : ∀ {el : List MapEntry} {l : List (ByteArray × Value)} (i : Nat), el.map (fun e => (e.key, e.val)) = l.map (fun p => (Value.string p.1, p.2)) → lookS l s = none → Instr.findNow .string (.string s) el i = some none
  | [], l, i, _, _ => rfl
  | e :: el, [], i, h, _ => by simp at h
  | e :: el, p :: l, i, h, hl => by
    simp only [List.map_cons, List.cons.injEq, Prod.mk.injEq] at h
    unfold lookS at hl
    split at hl
    · cases hl
    · rename_i hne
      unfold Instr.findNow
      rw [h.1.1]
      have : (s == p.1) = false := ba_bne fun e => hne e.symm
      simp only [Instr.sameNow, this]
      exact findNow_none (i + 1) h.2 hl
theorem findNow_some {s : ByteArray} {v : Value} : ∀ {el : List MapEntry} {l : List (ByteArray × Value)} (i : Nat), el.map (fun e => (e.key, e.val)) = l.map (fun p => (Value.string p.1, p.2)) → lookS l s = some v →
    ∃ j e, Instr.findNow .string (.string s) el i = some (some (i + j, v)) ∧ el[j]? = some e ∧ e.key = .string s ∧ ∀ v', (el.modify j fun e => { e with key := .string s, val := v' }).map (fun e => (e.key, e.val)) = (setS l s v').map fun p => (Value.string p.1, p.2)
  | [], [], i, _, h => by cases h
  | [], p :: l, i, h, _ => by simp at h
  | e :: el, [], i, h, _ => by simp at h
  | e :: el, p :: l, i, h, hl => by
    simp only [List.map_cons, List.cons.injEq, Prod.mk.injEq] at h
    unfold lookS at hl
    split at hl
    · rename_i heq
      cases hl
      refine ⟨0, e, ?_, rfl, by rw [h.1.1, heq], fun v' => ?_⟩
      · unfold Instr.findNow
        rw [h.1.1]
        have : (s == p.1) = true := ba_beq.2 heq.symm
        simp only [Instr.sameNow, this]
        rw [h.1.2]; rfl
      · unfold setS
        rw [if_pos heq]
        simp [List.modify, h.2]
    · rename_i hne
      obtain ⟨j, e', h1, h2, h3, h4⟩ := findNow_some (i + 1) h.2 hl
      refine ⟨j + 1, e', ?_, by simpa using h2, h3, fun v' => ?_⟩
      · unfold Instr.findNow
        rw [h.1.1]
        have : (s == p.1) = false := ba_bne fun e => hne e.symm
        simp only [Instr.sameNow, this]
        rw [h1, show i + 1 + j = i + (j + 1) by omega]
      · unfold setS
        rw [if_neg hne]
        simp only [List.modify_succ_cons, List.map_cons, h4 v', h.1.1, h.1.2]

section
variable {P : Program} {t kt e : TypeId} {w : World} {b : Nat} {es : Array MapEntry} {clock : Nat} {l : List (ByteArray × Value)} {s : ByteArray}
def zeroOf (P : Program) (t : TypeId) : Option Value := match P.info? t with | some i => i.zero | none => none
theorem run_zeroOf {z : Value} (h : zeroOf P e = some z) (w : World) : (zeroValue e).run P w = .ok z w := by
  unfold zeroOf at h
  split at h
  · rename_i i hi; exact run_zeroValue hi h w
  · cases h
theorem run_checkStr (hk : P.underlying kt = some .string) (em : Bool) : (Instr.checkKey em 10000 kt (.string s)).run P w = .ok () w := by
  unfold Instr.checkKey
  simp [run_underlying hk]
/-- m[s]. -/
theorem map_look (ht : P.underlying t = some (.map kt e)) (hk : P.underlying kt = some .string) {z : Value} (hz : (zeroValue e).run P w = .ok z w) (hb : w.heap[b]? = some (.map es clock)) (hl : MapL es l) :
    (Instr.lookup t (.map (some b)) (.string s) false).run P w = .ok ((lookS l s).getD z) w := by
  cases hs : lookS l s with
  | none =>
    have := findNow_none (s := s) 0 hl hs
    simp [Instr.lookup, run_underlying ht, MapKept.run_getObj_map hb, run_checkStr hk, Instr.findKey, run_underlying hk, this, hz]
  | some v =>
    obtain ⟨j, e', h1, _, _, _⟩ := findNow_some (s := s) 0 hl hs
    simp [Instr.lookup, run_underlying ht, MapKept.run_getObj_map hb, run_checkStr hk, Instr.findKey, run_underlying hk, h1]
theorem sameBits_str (s : ByteArray) : Instr.sameBits 10000 (.string s) (.string s) = true := by
  unfold Instr.sameBits
  exact ba_beq.2 rfl
/-- m[s] = v. -/
theorem map_set (ht : P.underlying t = some (.map kt e)) (hk : P.underlying kt = some .string) (hb : w.heap[b]? = some (.map es clock)) (hl : MapL es l) (v : Value) :
    ∃ w' es' clock', (Instr.mapUpdate t (.map (some b)) (.string s) v).run P w = .ok () w' ∧ w'.heap[b]? = some (.map es' clock') ∧ MapL es' (setS l s v) ∧ But b w w' ∧ w'.heap.size = w.heap.size := by
  have hlt : b < w.heap.size := (Array.getElem?_eq_some_iff.1 hb).1
  have fin : ∀ o, But b w { w with heap := w.heap.setIfInBounds b o } ∧ ({ w with heap := w.heap.setIfInBounds b o } : World).heap.size = w.heap.size ∧ ({ w with heap := w.heap.setIfInBounds b o } : World).heap[b]? = some o := fun o =>
    ⟨⟨rfl, rfl, rfl, by simp, fun k _ hne => by simp [Array.getElem?_setIfInBounds, Ne.symm hne]⟩, by simp, by simp [hlt]⟩
  cases hs : lookS l s with
  | none =>
    have h1 := findNow_none (s := s) 0 hl hs
    refine ⟨_, es.push { key := .string s, val := v, born := clock }, clock + 1, ?_, (fin _).2.2, ?_, (fin _).1, (fin _).2.1⟩
    · simp [Instr.mapUpdate, run_underlying ht, MapKept.run_getObj_map hb, run_checkStr hk, Instr.findKey, run_underlying hk, h1, MapKept.run_setObj_map _ hb]
    · have : setS l s v = l ++ [(s, v)] := by
        clear h1 hl
        induction l with
        | nil => rfl
        | cons p r ih =>
          unfold lookS at hs
          split at hs
          · cases hs
          · rename_i hne
            unfold setS
            rw [if_neg hne, ih hs]; rfl
      unfold MapL at hl ⊢
      rw [this, Array.toList_push, List.map_append, hl, List.map_append]
      rfl
  | some v0 =>
    obtain ⟨j, e', h1, h2, h3, h4⟩ := findNow_some (s := s) 0 hl hs
    rw [Nat.zero_add] at h1
    have hj : es[j]? = some e' := by simpa using h2
    refine ⟨_, es.modify j fun e => { e with key := .string s, val := v }, clock, ?_, (fin _).2.2, ?_, (fin _).1, (fin _).2.1⟩
    · simp [Instr.mapUpdate, run_underlying ht, MapKept.run_getObj_map hb, run_checkStr hk, Instr.findKey, run_underlying hk, h1, hj, h3, Instr.keyThatStays, sameBits_str, MapKept.run_setObj_map _ hb]
    · have := h4 v
      unfold MapL
      rw [Array.toList_modify]
      exact this
end
end Go.Vc
