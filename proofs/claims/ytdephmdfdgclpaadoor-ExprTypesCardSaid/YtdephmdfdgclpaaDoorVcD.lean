/- Soundness of the generator, part D: a list of operations in the order of the text; a region that draws its order. -/
import Derived.Test.YtdephmdfdgclpaaDoorVcC
namespace Go.Vc
open Go

section
variable {P : Program} {N : Nat} {rd : Option Nat} {Q : Exit → Act → World → Prop}

theorem callsIn_FW {n : Nat} {f : FuncId} {args : Array Value} {w : World} {R : Ending → World → Prop} (h : Calls P f args w R) : CallsIn (FW rd) n P f args w R := by
  have h0 : CallsIn Fence.wide n P f args w R := callsIn_wide.2 h
  cases rd with
  | none => exact h0
  | some l => exact CallsIn.inRound l h0

theorem valOp_defer {st : St} {o : Oper} {w : World} {F : SV → World → Prop} (h : valOp P st o w F) (c : Call) : o.op ≠ .defer c := by
  intro e
  unfold valOp at h
  simp [e, pureOp] at h

theorem wpIn_of_done {o : Oper} {a c : Act} {w w' : World} {x : SV} {next : Act → World → Prop} (he : execOp c.eval o = execOp a.eval o) (hd : ∀ c, o.op ≠ .defer c) (h : Done P a o w x w') (hn : next (c.put o.dst x.den) w') :
    o.wpIn (FW rd) 0 P c w next Q := by
  refine ⟨fun _ _ => trivial, ?_⟩
  rw [Oper.semAt_eq _ _ _ hd, he]
  rcases h with h | ⟨h, rfl⟩
  · rw [h]; exact hn
  · rw [h]; exact hn

theorem run_enter {f : FuncId} {args : Array Value} {w : World} (h : enterable P f = true) : (callFunc f args).run P w = .ok (.enter f args) w := by
  unfold enterable at h
  split at h
  · cases h
  · rename_i fn hfn
    simp only [Bool.and_eq_true, Bool.not_eq_true'] at h
    obtain ⟨h1, h2⟩ := h
    have h3 : ¬ fn.body = none := by intro e; rw [e] at h1; cases h1
    have h4 : ¬ fn.name = "runtime.NumGoroutine" := by simpa using h2
    simp [callFunc, hfn, h3, h4]

theorem oneOp_sound2 {st : St} {a c : Act} {o : Oper} {w : World} {F : SV → World → Prop} {next : Act → World → Prop} (h : Agree N st a) (he : execOp c.eval o = execOp a.eval o) (hv : oneOp P st o w F)
    (hn : ∀ x w', F x w' → next (c.put o.dst x.den) w') : o.wpIn (FW rd) 0 P c w next Q := by
  have other : valOp P st o w F → o.wpIn (FW rd) 0 P c w next Q := fun hv => by
    obtain ⟨x, w', hd, hF, _⟩ := val_sound h hv
    exact wpIn_of_done he (valOp_defer hv) hd (hn _ _ hF)
  unfold oneOp at hv
  split at hv
  · rename_i cl hop
    obtain ⟨callee, as, ts⟩ := cl
    dsimp only at hv
    cases callee with
    | value f =>
      dsimp only at hv
      split at hv
      · rename_i g first cap xs hf hxs
        split at hv
        · rename_i ts' hen hres
          refine ⟨fun _ _ => trivial, ?_⟩
          rw [Oper.semAt_eq _ _ _ (fun c => by rw [hop]; simp), he]
          have e1 := ev_sound h (.nil a) hf
          have e2 := evs_sound h (.nil a) hxs
          have e3 : as.map a.eval = (dens xs).toArray := by apply Array.ext'; simpa using e2
          have hr : (execOp a.eval o).run P w = .ok (.enter g (first.toList ++ (dens xs ++ cap.toList)).toArray) w := by
            have e4 : first ++ (dens xs).toArray ++ cap = (first.toList ++ (dens xs ++ cap.toList)).toArray := by apply Array.ext'; simp
            simp only [execOp, hop, resolve, e1, SV.den, Deferred.ofValue, Sem.run_bind, Sem.run_pure, Result.andThen_ok, invoke, e3, e4, run_enter hen]
          rw [hr, Oper.uponIn_enter]
          refine ⟨fun h => by simp [FW] at h, callsIn_FW (hv.mono ?_)⟩
          intro e w' he
          obtain ⟨rs, rfl, hF⟩ := ExTs_out he
          exact hn _ _ hF
        · rename_i ts' hen hres
          obtain ⟨rs, w', hrun, hF⟩ := ExTs_out hv
          have e1 := ev_sound h (.nil a) hf
          have e2 := evs_sound h (.nil a) hxs
          have e3 : as.map a.eval = (dens xs).toArray := by apply Array.ext'; simpa using e2
          have hr : (execOp a.eval o).run P w = .ok (.value (ofResults rs).den) w' := by
            have e4 : first ++ (dens xs).toArray ++ cap = (first.toList ++ (dens xs ++ cap.toList)).toArray := by apply Array.ext'; simp
            simp only [execOp, hop, resolve, e1, SV.den, Deferred.ofValue, Sem.run_bind, Sem.run_pure, Result.andThen_ok, invoke, e3, e4, hrun]
          exact wpIn_of_done he (fun c => by rw [hop]; simp) (.inl hr) (hn _ _ hF)
        · exact hv.elim
      · rename_i l first cap xs hf hxs
        refine ⟨fun _ _ => trivial, ?_⟩
        rw [Oper.semAt_eq _ _ _ (fun c => by rw [hop]; simp), he]
        have e1 := ev_sound h (.nil a) hf
        have e2 := evs_sound h (.nil a) hxs
        have e3 : as.map a.eval = (dens xs).toArray := by apply Array.ext'; simpa using e2
        obtain ⟨fn, tmps, asg, body, hy, hround⟩ := hv rd
        have hr : (execOp a.eval o).run P w = .ok (.round l fn tmps asg body) w := by
          have e4 : first ++ (dens xs).toArray = (first.toList ++ dens xs).toArray := by apply Array.ext'; simp
          simp only [execOp, hop, resolve, e1, SV.den, Deferred.ofValue, Sem.run_bind, Sem.run_pure, Result.andThen_ok, invoke, e3, e4, hy]
        rw [hr, Oper.uponIn_round]
        refine ⟨fun h => by simp [FW] at h, hround.mono ?_⟩
        rintro e w' ⟨b, rfl, hF⟩
        exact hn _ _ hF
      · rename_i v xs hf hxs
        obtain ⟨l, rfl, hv⟩ := hv
        refine ⟨fun _ _ => trivial, ?_⟩
        rw [Oper.semAt_eq _ _ _ (fun c => by rw [hop]; simp), he]
        have e1 := ev_sound h (.nil a) hf
        have e2 := evs_sound h (.nil a) hxs
        have e3 : as.map a.eval = (dens xs).toArray := by apply Array.ext'; simpa using e2
        obtain ⟨fn, tmps, asg, body, hy, hround⟩ := hv rd
        have hr : (execOp a.eval o).run P w = .ok (.round l fn tmps asg body) w := by
          have e4 : #[] ++ (dens xs).toArray = (dens xs).toArray := by apply Array.ext'; simp
          simp only [execOp, hop, resolve, e1, SV.den, Deferred.ofValue, Sem.run_bind, Sem.run_pure, Result.andThen_ok, invoke, e3, e4, hy]
        rw [hr, Oper.uponIn_round]
        refine ⟨fun h => by simp [FW] at h, hround.mono ?_⟩
        rintro e w' ⟨b, rfl, hF⟩
        exact hn _ _ hF
      · exact hv.elim
    | _ => exact other hv
  · exact other hv

theorem oneOp_sound {st : St} {a : Act} {o : Oper} {w : World} {F : SV → World → Prop} {next : Act → World → Prop} (h : Agree N st a) (hv : oneOp P st o w F)
    (hn : ∀ x w', F x w' → next (a.put o.dst x.den) w') : o.wpIn (FW rd) 0 P a w next Q := oneOp_sound2 h rfl hv hn

/-! ### What stays of the environment -/
def Fr (ws : List (Nat × TypeId)) (st st' : St) : Prop := st'.ds = st.ds ∧ ∀ i, inW ws i = false → lkE st'.e i = lkE st.e i

theorem Fr.refl (ws : List (Nat × TypeId)) (st : St) : Fr ws st st := ⟨rfl, fun _ _ => rfl⟩
theorem Fr.trans {ws : List (Nat × TypeId)} {x y z : St} (h : Fr ws x y) (k : Fr ws y z) : Fr ws x z := ⟨k.1.trans h.1, fun i hi => (k.2 i hi).trans (h.2 i hi)⟩
theorem Fr.mono {ws ws' : List (Nat × TypeId)} {x y : St} (h : Fr ws x y) (hs : ∀ i, inW ws' i = false → inW ws i = false) : Fr ws' x y := ⟨h.1, fun i hi => h.2 i (hs i hi)⟩

theorem inW_append (a b : List (Nat × TypeId)) (i : Nat) : inW (a ++ b) i = (inW a i || inW b i) := by
  induction a with
  | nil => simp [inW]
  | cons p r ih =>
    simp only [List.cons_append, inW]
    split <;> simp_all

theorem inW_mem {ws : List (Nat × TypeId)} {p : Nat × TypeId} (h : p ∈ ws) : inW ws p.1 = true := by
  induction ws with
  | nil => cases h
  | cons q r ih =>
    unfold inW
    split
    · rfl
    · rename_i hb
      cases h with
      | head => exact absurd rfl (nbeq_no.1 hb)
      | tail _ hm => exact ih hm

theorem wrOps_mem {os : List Oper} {o : Oper} {d : Nat} (h : o ∈ os) (hd : o.dst = some d) : inW (wrOps os) d = true := by
  induction os with
  | nil => cases h
  | cons q r ih =>
    cases h with
    | head => simp [wrOps, hd, inW, nbeq.2 rfl]
    | tail _ hm =>
      unfold wrOps
      split
      · unfold inW; split
        · rfl
        · exact ih hm
      · exact ih hm

theorem Fr.put {ws : List (Nat × TypeId)} {st : St} {d : Option Nat} {x : SV} (h : ∀ k, d = some k → inW ws k = true) : Fr ws st (put st d x) := by
  cases d with
  | none => exact .refl _ _
  | some d =>
    refine ⟨rfl, fun i hi => ?_⟩
    have : d ≠ i := fun e => by subst e; rw [h d rfl] at hi; cases hi
    simp only [Vc.put, lkE, nbeq_no.2 this]

theorem Fr.putG {ws : List (Nat × TypeId)} {st : St} {d s : Nat} {t : Bool} {x : SV} (h : inW ws d = true) : Fr ws st (putG st d s t x) := by
  refine ⟨rfl, fun i hi => ?_⟩
  have : d ≠ i := fun e => by subst e; rw [h] at hi; cases hi
  simp only [Vc.putG, lkE, nbeq_no.2 this]

theorem Fr.know {ws : List (Nat × TypeId)} {st : St} {s : Nat} {u : Bool} (h : inW ws s = true) : Fr ws st (refine' st s u) := by
  refine ⟨rfl, fun i hi => ?_⟩
  have : s ≠ i := fun e => by subst e; rw [h] at hi; cases hi
  simp only [refine', lkE, nbeq_no.2 this]

/-! ### Guards -/
theorem gdst_spec : ∀ {all : List Oper} {j s : Nat}, gdst all j = some s → ∃ o ∈ all, o.dst = some s ∧ all[j]? = some o := by
  intro all
  induction all with
  | nil => intro j s h; simp [gdst] at h
  | cons o r ih =>
    intro j s h
    cases j with
    | zero => exact ⟨o, by simp, h, rfl⟩
    | succ j => obtain ⟨o', ho, hd, hj⟩ := ih (j := j) h; exact ⟨o', List.mem_cons_of_mem _ ho, hd, by simpa using hj⟩

theorem yielded_eq {all : List Oper} {a : Act} {j s : Nat} (h : gdst all j = some s) :
    yielded all.toArray a.tmps j = (match a.tmps.getD s undef with | .bool b => some b | _ => none) := by
  obtain ⟨o, _, hd, hj⟩ := gdst_spec h
  unfold yielded
  have h1 : (all.toArray[j]?).bind (·.dst) = some s := by simp [hj, hd]
  rw [h1]
  simp only [Option.bind_some, Array.getD_eq_getD_getElem?]
  cases a.tmps[s]? with
  | none => simp [undef]
  | some v => cases v <;> rfl

theorem wanted_none {o : Oper} {y : Nat → Option Bool} (h : o.guard = none) : Region.wanted o y = true := by simp [Region.wanted, h]

theorem wanted_some {o : Oper} {all : List Oper} {a : Act} {j s : Nat} {t : Bool} (hg : o.guard = some (j, t)) (h : gdst all j = some s) :
    Region.wanted o (yielded all.toArray a.tmps) = ((match a.tmps.getD s undef with | .bool b => some b | _ => none) == some t) := by
  simp only [Region.wanted, hg, yielded_eq h]

inductive GSays (a : Act) (ws : List (Nat × TypeId)) (s : Nat) (t : Bool) : GV → Prop
  | yes (h : a.tmps.getD s undef = .bool t) : GSays a ws s t .yes
  | no (h : ∀ b, a.tmps.getD s undef = .bool b → b ≠ t) : GSays a ws s t .no
  | split (s' : Nat) (g : Cnd) (h : a.tmps.getD s' undef = .bool g.val) : GSays a ws s t (.split s' g)
  | bad : GSays a ws s t .bad

theorem guardV_says {st : St} {a : Act} (ws : List (Nat × TypeId)) (h : Agree N st a) (s : Nat) (t : Bool) : GSays a ws s t (guardV st s t) := by
  unfold guardV
  split
  · rename_i u hu
    have := h.e _ _ hu
    split
    · rename_i hb; rw [bq_iff] at hb; subst hb; exact .yes this
    · rename_i hb; rw [bq_no] at hb; exact .no fun b hb' => by rw [this] at hb'; cases hb'; exact hb
  · rename_i g hg; exact .split _ _ (h.e _ _ hg)
  · rename_i g hg; exact .split _ _ (h.e _ _ hg)
  · rename_i vs hv; exact .no fun b hb => by rw [h.e _ _ hv] at hb; cases hb
  · exact .bad
  · rename_i hn
    split
    · exact .bad
    · rename_i d hd
      split
      · rename_i g hg; exact .split _ _ (h.e _ _ hg)
      · rename_i g hg; exact .split _ _ (h.e _ _ hg)
      · rename_i u hu
        have hs := h.e _ _ hu
        split
        · rename_i hb
          rw [bq_no] at hb
          have : u = !d.t := by cases u <;> cases hd' : d.t <;> simp_all
          subst this
          exact .no fun b hb' => by rw [h.u _ _ hd hn hs] at hb'; cases hb'
        · rename_i hb
          rw [bq_iff] at hb
          subst hb
          have hx := h.g _ _ hd hn hs
          split
          · rename_i u' hu'
            rw [hu'] at hx
            split
            · rename_i hb; rw [bq_iff] at hb; subst hb; exact .yes hx
            · rename_i hb; rw [bq_no] at hb; exact .no fun b hb' => by rw [hx] at hb'; cases hb'; exact hb
          · rename_i g hg; rw [hg] at hx; exact .split _ _ hx
          · rename_i g hg; rw [hg] at hx; exact .split _ _ hx
          · exact .bad
      · exact .bad

/-! ### One step -/
/-- The value of an operation that leaves the world as it is; or that is passed over. -/
def YV (P : Program) (all : List Oper) (w : World) (o : Oper) (v : Value) (a : Act) : Prop :=
  (Region.wanted o (yielded all.toArray a.tmps) = true ∧ (execOp a.eval o).run P w = .ok (.value v) w ∧ ∀ c, o.op ≠ .defer c) ∨ (Region.wanted o (yielded all.toArray a.tmps) = false ∧ v = undef)

theorem pure_defer {st : St} {c : List (Nat × Bool)} {op : Op} {x : SV} (h : pureOp P st c op = some x) (d : Call) : op ≠ .defer d := by
  intro e; subst e; simp [pureOp] at h

theorem guardV_split_ws {ws : List (Nat × TypeId)} {st : St} {s : Nat} {t : Bool} {s' : Nat} {g : Cnd} (hsw : inW ws s = true) (hgd : ∀ d ∈ st.ge, inW ws d.s = true) (hgv : guardV st s t = .split s' g) : inW ws s' = true := by
  unfold guardV at hgv
  split at hgv
  · split at hgv <;> cases hgv
  · cases hgv; exact hsw
  · cases hgv; exact hsw
  · cases hgv
  · cases hgv
  · split at hgv
    · cases hgv
    · rename_i d hd
      have hmem : d ∈ st.ge := by
        clear hgv
        generalize st.ge = ge at hd
        induction ge with
        | nil => simp [lkG] at hd
        | cons q r ih =>
          unfold lkG at hd
          split at hd
          · cases hd; simp
          · exact List.mem_cons_of_mem _ (ih hd)
      split at hgv
      · cases hgv; exact hgd d hmem
      · cases hgv; exact hgd d hmem
      · split at hgv
        · cases hgv
        · split at hgv
          · split at hgv <;> cases hgv
          · cases hgv; exact hsw
          · cases hgv; exact hsw
          · cases hgv
      · cases hgv

theorem gstep_sound {all : List Oper} {o : Oper} {K : St → World → Prop} {a : Act} {w : World} {ws : List (Nat × TypeId)} {s : Nat} {t : Bool} (hsw : inW ws s = true) (hdst : ∀ k, o.dst = some k → inW ws k = true)
    (hw : Region.wanted o (yielded all.toArray a.tmps) = ((match a.tmps.getD s undef with | .bool b => some b | _ => none) == some t)) :
    ∀ (f : List Unit) (st : St), (∀ d ∈ st.ge, inW ws d.s = true) → Agree N st a → okDst N st o.dst = true → gstep P o s t K f st w →
    (Region.wanted o (yielded all.toArray a.tmps) = true ∧ ∃ st1, Agree N st1 a ∧ Fr ws st st1 ∧ st1.ge = st.ge ∧ okDst N st1 o.dst = true ∧ oneOp P st1 o w fun x w' => K (put st1 o.dst x) w') ∨
    (∃ v st2, (∀ w1, YV P all w1 o v a) ∧ Agree N st2 (a.put o.dst v) ∧ Fr ws st st2 ∧ (∀ d ∈ st2.ge, inW ws d.s = true) ∧ K st2 w) := by
  have skipped : ∀ (st : St), (∀ d ∈ st.ge, inW ws d.s = true) → Agree N st a → okDst N st o.dst = true → (∀ b, a.tmps.getD s undef = .bool b → b ≠ t) → K (skipO st o) w →
      (∃ v st2, (∀ w1, YV P all w1 o v a) ∧ Agree N st2 (a.put o.dst v) ∧ Fr ws st st2 ∧ (∀ d ∈ st2.ge, inW ws d.s = true) ∧ K st2 w) := by
    intro st hgd h1 hok1 hno hrest
    refine ⟨undef, skipO st o, fun _ => .inr ⟨?_, rfl⟩, ?_, Fr.put hdst, ?_, hrest⟩
    · rw [hw]
      split
      · rename_i b hb; have := hno b hb; cases b <;> cases t <;> simp_all
      · rfl
    · exact h1.put hok1
    · intro d hd
      have : d ∈ st.ge := by cases hdd : o.dst <;> simpa [skipO, Vc.put, hdd] using hd
      exact hgd d this
  intro f
  induction f with
  | nil =>
    intro st hgd h hok hv
    have says := guardV_says ws h s t
    unfold gstep at hv
    split at hv
    · rename_i hgv
      rw [hgv] at says
      cases says with
      | yes hb => exact .inl ⟨by rw [hw, hb]; simp, st, h, .refl _ _, rfl, hok, hv⟩
    · rename_i hgv
      rw [hgv] at says
      cases says with
      | no hb => exact .inr (skipped st hgd h hok hb hv)
    · exact hv.elim
  | cons _ f ih =>
    intro st hgd h hok hv
    have says := guardV_says ws h s t
    unfold gstep at hv
    split at hv
    · rename_i hgv
      rw [hgv] at says
      cases says with
      | yes hb => exact .inl ⟨by rw [hw, hb]; simp, st, h, .refl _ _, rfl, hok, hv⟩
    · rename_i hgv
      rw [hgv] at says
      cases says with
      | no hb => exact .inr (skipped st hgd h hok hb hv)
    · exact hv.elim
    · rename_i s' g hgv
      rw [hgv] at says
      cases says with
      | split _ _ hb =>
      split at hv
      · rename_i d x hd hss hx
        rw [hd] at hok
        split at hv
        · exact hv.elim
        · rename_i hsd
          have hse : s = s' := nbeq.1 hss
          subst hse
          have hokd : okDst N st o.dst = true := by rw [hd]; exact hok
          have hsd' : s ≠ d := nbeq_no.1 hsd
          right
          by_cases hgt : g.val = t
          · rw [hgt] at hb
            have hrun := pure_sound (o := o) h (c := [(s, t)]) (fun p hp => by simp at hp; subst hp; exact hb) hx
            refine ⟨x.den, putG st d s t x, fun w1 => .inl ⟨by rw [hw, hb]; simp, hrun w1, fun c => pure_defer hx c⟩, ?_, Fr.putG (hdst d hd), ?_, hv⟩
            · rw [hd]; exact h.putG hok hsd' (fun _ => rfl) (fun hb' => by rw [hb] at hb'; cases t <;> cases hb')
            · intro q hq
              simp only [putG, List.mem_cons] at hq
              rcases hq with rfl | hq
              · exact hsw
              · exact hgd q hq
          · refine ⟨undef, putG st d s t x, fun _ => .inr ⟨?_, rfl⟩, ?_, Fr.putG (hdst d hd), ?_, hv⟩
            · rw [hw, hb]; cases hgv : g.val <;> cases t <;> simp_all
            · rw [hd]; exact h.putG hok hsd' (fun hb' => by rw [hb] at hb'; cases hb'; exact absurd rfl hgt) (fun _ => rfl)
            · intro q hq
              simp only [putG, List.mem_cons] at hq
              rcases hq with rfl | hq
              · exact hsw
              · exact hgd q hq
      · -- parted on the guard's Bool
        have hs'w : inW ws s' = true := guardV_split_ws hsw hgd hgv
        have h1 : Agree N (refine' st s' g.val) a := h.know hb
        have hok1 : okDst N (refine' st s' g.val) o.dst = true := by cases hdd : o.dst with | none => rfl | some d => (rw [hdd] at hok; exact hok)
        have hv' : gstep P o s t K f (refine' st s' g.val) w := by
          cases hgb : g.val with
          | true => exact hv.1 (Cnd.is_of hgb)
          | false => exact hv.2 (Cnd.is_of hgb)
        have hf1 : Fr ws st (refine' st s' g.val) := Fr.know hs'w
        rcases ih (refine' st s' g.val) hgd h1 hok1 hv' with ⟨e1, st1, e2, e3, e4, e5, e6⟩ | ⟨v, st2, e1, e2, e3, e4, e5⟩
        · exact .inl ⟨e1, st1, e2, hf1.trans e3, e4, e5, e6⟩
        · exact .inr ⟨v, st2, e1, e2, hf1.trans e3, e4, e5⟩

theorem vcOps_step {all : List Oper} {o : Oper} {rest : List Oper} {K : St → World → Prop} {st : St} {a : Act} {w : World} {ws : List (Nat × TypeId)} (hws : ∀ i, inW (wrOps all) i = true → inW ws i = true)
    (hgd : ∀ d ∈ st.ge, inW ws d.s = true) (ho : o ∈ all) (h : Agree N st a) (hv : vcOps P N all (o :: rest) K st w) :
    (Region.wanted o (yielded all.toArray a.tmps) = true ∧ ∃ st1, Agree N st1 a ∧ Fr ws st st1 ∧ st1.ge = st.ge ∧ okDst N st1 o.dst = true ∧ oneOp P st1 o w fun x w' => vcOps P N all rest K (put st1 o.dst x) w') ∨
    (∃ v st2, (∀ w1, YV P all w1 o v a) ∧ Agree N st2 (a.put o.dst v) ∧ Fr ws st st2 ∧ (∀ d ∈ st2.ge, inW ws d.s = true) ∧ vcOps P N all rest K st2 w) := by
  have hdst : ∀ k, o.dst = some k → inW ws k = true := fun k hk => hws _ (wrOps_mem ho hk)
  unfold vcOps at hv
  split at hv
  · exact hv.elim
  rename_i hok
  split at hv
  · rename_i hg
    exact .inl ⟨wanted_none hg, st, h, .refl _ _, rfl, hok, hv⟩
  · rename_i j t hg
    split at hv
    · exact hv.elim
    rename_i s hs
    obtain ⟨og, hogm, hogd, _⟩ := gdst_spec hs
    exact gstep_sound (hws _ (wrOps_mem hogm hogd)) hdst (wanted_some (a := a) hg hs) [(), (), (), ()] st hgd h hok hv

theorem put_ge (st : St) (d : Option Nat) (x : SV) : (put st d x).ge = st.ge := by cases d <;> rfl

/-- The operations of a region in the order of the text. -/
theorem vcOps_sound {all : List Oper} {K : St → World → Prop} {ws : List (Nat × TypeId)} {st0 : St} (hws : ∀ i, inW (wrOps all) i = true → inW ws i = true)
    (hq : ∀ st' a' w', Agree N st' a' → Fr ws st0 st' → K st' w' → Q .normal a' w') :
    ∀ (l : List Oper) (st : St) (a : Act) (w : World), (∀ o ∈ l, o ∈ all) → (∀ d ∈ st.ge, inW ws d.s = true) → Agree N st a → Fr ws st0 st → vcOps P N all l K st w → wpListIn (FW rd) 0 P all.toArray Q l a w := by
  intro l
  induction l with
  | nil =>
    intro st a w _ _ h hf hv
    exact hq _ _ _ h.clear ⟨hf.1, hf.2⟩ hv
  | cons o rest ih =>
    intro st a w hl hgd h hf hv
    have hrest : ∀ o ∈ rest, o ∈ all := fun x hx => hl x (List.mem_cons_of_mem _ hx)
    have ho := hl o (by simp)
    unfold wpListIn
    rcases vcOps_step hws hgd ho h hv with ⟨hw, st1, h1, hf1, hge1, hok1, hone⟩ | ⟨v, st2, hy, h2, hf2, hgd2, hr⟩
    · rw [if_pos hw]
      refine oneOp_sound h1 hone fun x w' hx => ?_
      refine ih _ _ _ hrest ?_ (h1.put hok1) ((hf.trans hf1).trans (Fr.put fun k hk => hws _ (wrOps_mem ho hk))) hx
      rw [put_ge, hge1]; exact hgd
    · rcases hy w with ⟨hw, hrun, hd⟩ | ⟨hw, rfl⟩
      · rw [if_pos hw]
        refine ⟨fun _ _ => trivial, ?_⟩
        rw [Oper.semAt_eq _ _ _ hd, hrun]
        exact ih _ _ _ hrest hgd2 h2 (hf.trans hf2) hr
      · rw [if_neg (by rw [hw]; simp)]
        exact ⟨fun _ _ => trivial, ih _ _ _ hrest hgd2 h2 (hf.trans hf2) hr⟩

end

end Go.Vc
