/- Soundness of the generator, part C: operations that read, write, or may fail; calls. -/
import Derived.Test.YtdephmdfdgclpaaDoorVcB
namespace Go.Vc
open Go

section
variable {P : Program} {N : Nat} {st : St} {a : Act}

theorem den_v (x : Value) : (SV.v x).den = x := rfl
theorem den_b (x : Bool) : (SV.b x).den = .bool x := rfl
theorem den_loc (b o : Nat) : (SV.loc b o).den = .pointer (some ⟨b, o, none⟩) := rfl

theorem Ex_out {l : Leaf} {F : Value → Prop} (h : l.Ex F) : ∃ v, F v := by
  cases l with
  | int k => obtain ⟨n, h⟩ := h; exact ⟨_, h⟩
  | bool => obtain ⟨n, h⟩ := h; exact ⟨_, h⟩
  | str => obtain ⟨n, h⟩ := h; exact ⟨_, h⟩
  | slc => obtain ⟨p, n, c, h⟩ := h; exact ⟨_, h⟩
  | ptr => obtain ⟨n, h⟩ := h; exact ⟨_, h⟩
  | map => obtain ⟨n, h⟩ := h; exact ⟨_, h⟩
  | any => obtain ⟨n, h⟩ := h; exact ⟨_, h⟩

theorem ExL_out : ∀ {ls : List Leaf} {F : List Value → Prop}, ExL ls F → ∃ vs, vs.length = ls.length ∧ F vs := by
  intro ls
  induction ls with
  | nil => intro F h; exact ⟨[], rfl, h⟩
  | cons l r ih =>
    intro F h
    obtain ⟨v, hv⟩ := Ex_out h
    obtain ⟨vs, hl, hF⟩ := ih hv
    exact ⟨v :: vs, by simp [hl], hF⟩

theorem ofCells_true {vs : List Value} {x : SV} (h : ofCells true vs = some x) : x.den = .agg vs.toArray := by
  simp only [ofCells, Option.some.injEq] at h; subst h; rfl

theorem ofCells_false {vs : List Value} {x : SV} (h : ofCells false vs = some x) : vs = [x.den] := by
  unfold ofCells at h
  split at h
  · rename_i he; cases he
  · cases h; rfl
  · cases h

theorem ExT_out {t : Ty} {F : SV → Prop} (h : ExT t F) : ∃ x, F x := by
  unfold ExT at h
  split at h
  · obtain ⟨vs, _, h⟩ := h; exact ⟨_, h⟩
  · obtain ⟨vs, _, hv⟩ := ExL_out h
    split at hv
    · exact ⟨_, hv⟩
    · exact hv.elim

theorem ExTs_out : ∀ {ts : List (Option Ty)} {F : List SV → Prop}, ExTs ts F → ∃ xs, F xs := by
  intro ts
  induction ts with
  | nil => intro F h; exact ⟨[], h⟩
  | cons t r ih =>
    intro F h
    cases t with
    | none => exact h.elim
    | some t =>
      obtain ⟨x, hx⟩ := ExT_out h
      obtain ⟨xs, hxs⟩ := ih hx
      exact ⟨_, hxs⟩

theorem asPtr_out {x : SV} {F : Nat → Nat → Prop} (h : asPtr x F) : ∃ b o, x.den = .pointer (some ⟨b, o, none⟩) ∧ F b o := by
  unfold asPtr at h
  split at h
  · exact ⟨_, _, rfl, h⟩
  · exact ⟨_, _, rfl, h⟩
  · obtain ⟨b, o, rfl, h⟩ := h; exact ⟨b, o, rfl, h⟩
  · exact h.elim

theorem loadL_out : ∀ {ls : List Leaf} {b o j : Nat} {w : World} {F : List Value → Prop}, loadL ls b o j w F →
    ∃ vs, vs.length = ls.length ∧ (∀ k v, vs[k]? = some v → w.cell? ⟨b, off o (j + k), none⟩ = some v) ∧ F vs := by
  intro ls
  induction ls with
  | nil => intro b o j w F h; exact ⟨[], rfl, fun k v hk => by simp at hk, h⟩
  | cons l r ih =>
    intro b o j w F h
    obtain ⟨v, hv, hr⟩ := Ex_out h
    obtain ⟨vs, hl, hc, hF⟩ := ih hr
    refine ⟨v :: vs, by simp [hl], fun k u hk => ?_, hF⟩
    cases k with
    | zero => simp at hk; subst hk; simpa using hv
    | succ k => simp at hk; have := hc k u hk; rwa [show j + 1 + k = j + (k + 1) by omega] at this

theorem setCell_has {w : World} {a b : Addr} {u v : Value} (h : w.cell? a = some u) (hs : b.spot = none) : ∃ u', (w.setCell b v).cell? a = some u' := by
  obtain ⟨ab, ao, as⟩ := a
  obtain ⟨bb, bo, bs⟩ := b
  simp only at hs
  subst hs
  unfold World.cell? World.setCell at *
  simp only [Array.getElem?_modify] at *
  by_cases hb : bb = ab
  · subst hb
    simp only [if_true]
    cases ho : w.heap[bb]? with
    | none => rw [ho] at h; cases h
    | some o =>
      rw [ho] at h
      cases o with
      | cells cs t fr =>
        simp only [Option.map_some] at h ⊢
        cases as with
        | none =>
          have h' : cs[ao]? = some u := by simpa using h
          have hlt : ao < cs.size := (Array.getElem?_eq_some_iff.1 h').1
          have : ao < (cs.setIfInBounds bo v).size := by simpa using hlt
          refine ⟨(cs.setIfInBounds bo v)[ao], ?_⟩
          simp only [Option.isSome_none, Bool.false_eq_true, if_false]
          exact Array.getElem?_eq_getElem this
        | some s => simp at h
      | _ => simp at h
  · rw [if_neg hb]; exact ⟨u, h⟩

theorem setCell_frozen {w : World} {a b : Addr} {v : Value} : (w.setCell b v).frozen? a = w.frozen? a := by
  obtain ⟨ab, ao, as⟩ := a
  obtain ⟨bb, bo, bs⟩ := b
  unfold World.frozen? World.setCell
  simp only [Array.getElem?_modify]
  by_cases hb : bb = ab
  · subst hb
    simp only [if_true]
    cases ho : w.heap[bb]? with
    | none => rfl
    | some o => cases o <;> simp
  · rw [if_neg hb]

theorem storeL_out : ∀ {vs : List Value} {b o j : Nat} {w w0 : World} {X : Prop}, (∀ a u, w0.cell? a = some u → ∃ u', w.cell? a = some u') → (∀ a, w.frozen? a = w0.frozen? a) → storeL vs b o j w0 X →
    (storeCells ⟨b, o, none⟩ vs j).run P w = .ok () (setL vs b o j w) ∧ X := by
  intro vs
  induction vs with
  | nil => intro b o j w w0 X _ _ h; exact ⟨by simp [storeCells, setL], h⟩
  | cons v r ih =>
    intro b o j w w0 X hc hf h
    unfold storeL at h
    split at h
    · rename_i h1
      obtain ⟨⟨u, hu⟩, hfr, hr⟩ := h
      obtain ⟨u', hu'⟩ := hc _ _ hu
      obtain ⟨hrun, hX⟩ := ih (w := w.setCell ⟨b, off o j, none⟩ v) (fun a x hx => by obtain ⟨x', hx'⟩ := hc a x hx; exact setCell_has hx' rfl) (fun a => by rw [setCell_frozen, hf a]) hr
      refine ⟨?_, hX⟩
      simp only [storeCells, Sem.run_bind, off_add, setL]
      rw [run_store P w _ v _ h1, hu']
      simp only [hf, hfr, Bool.false_eq_true, if_false, Result.andThen_ok]
      exact hrun
    · exact h.elim

theorem run_loadVar {t : TypeId} {ty : Ty} {b o : Nat} {vs : List Value} {x : SV} (hty : tyOf P t = some ty) (hl : vs.length = ty.ls.length) (w : World)
    (hc : ∀ k v, vs[k]? = some v → w.cell? ⟨b, off o (0 + k), none⟩ = some v) (hx : ofCells ty.agg vs = some x) :
    (loadVar t ⟨b, o, none⟩).run P w = .ok x.den w := by
  obtain ⟨i, d, hi, hz, hd, hsz, hls, hag, _⟩ := tyOf_spec hty
  have hlen : vs.length = i.size := by rw [hl, hls, length_leavesOf]; simp [hsz]
  simp only [loadVar, Sem.run_bind, run_isAgg hd, Result.andThen_ok, ← hag]
  cases hagg : ty.agg with
  | true =>
    rw [hagg] at hx
    have := run_loadCells_list (P := P) w ⟨b, o, none⟩ vs (fun j v hj => by rw [off_add]; simpa using hc j v hj)
    simp only [if_true, Sem.run_bind, run_sizeOf hi, Result.andThen_ok, ← hlen, this, Sem.run_pure]
    rw [ofCells_true hx]
  | false =>
    rw [hagg] at hx
    have hvs := ofCells_false hx
    have h0 := hc 0 x.den (by rw [hvs]; rfl)
    simp only [Nat.add_zero, off] at h0
    simp [h0]

theorem run_loadBig {t : TypeId} {ty : Ty} {b o : Nat} {vs : Array Value} (hty : tyOf P t = some ty) (hb : ty.big = true) (hl : vs.size = ty.n) (w : World)
    (hc : CellsAt w b o vs) : (loadVar t ⟨b, o, none⟩).run P w = .ok (.agg vs) w := by
  obtain ⟨i, d, hi, hd, hn, hag, _⟩ := tyBig_spec hty
  have := run_loadCells_list (P := P) w ⟨b, o, none⟩ vs.toList (fun j v hj => by rw [off_add, off_eq]; exact hc j v (by simpa using hj))
  have hlen : vs.toList.length = i.size := by simp [hl, hn]
  rw [hlen] at this
  simp only [loadVar, Sem.run_bind, run_isAgg hd, Result.andThen_ok, hag hb, if_true, run_sizeOf hi, this, Sem.run_pure]

theorem add_scale (b o k s : Nat) : (⟨b, o, none⟩ : Addr).add (k * s) = ⟨b, o + scale k s, none⟩ := by
  have e : scale k s = k * s := by
    unfold scale
    split
    · rename_i h; rw [nbeq.1 h]; omega
    · rfl
  rw [e, Addr.add_lit]

/-- The outcome of an operation that is no call of a Go function. -/
def Done (P : Program) (a : Act) (o : Oper) (w : World) (x : SV) (w' : World) : Prop :=
  (execOp a.eval o).run P w = .ok (.value x.den) w' ∨ ((execOp a.eval o).run P w = .ok .skip w' ∧ x = .v undef)

theorem run_sliceBounds (isSlice : Bool) (len cap : Nat) (lo hi mx : Option Value) (l h m : Int) (w : World)
    (hm : (mx = none ∧ m = cap) ∨ ∃ k, mx = some (.int k m) ∧ 0 ≤ m ∧ m ≤ cap)
    (hh : (hi = none ∧ mx = none ∧ h = len) ∨ ∃ k, hi = some (.int k h) ∧ 0 ≤ h ∧ h ≤ m)
    (hl : (lo = none ∧ l = 0) ∨ ∃ k, lo = some (.int k l) ∧ 0 ≤ l ∧ l ≤ h) :
    (Instr.sliceBounds isSlice len cap lo hi mx).run P w = .ok (l.toNat, h.toNat, m.toNat) w := by
  rcases hm with ⟨rfl, rfl⟩ | ⟨k1, rfl, m0, m1⟩ <;> rcases hh with ⟨rfl, hmx, rfl⟩ | ⟨k2, rfl, h0, h1⟩ <;> rcases hl with ⟨rfl, rfl⟩ | ⟨k3, rfl, l0, l1⟩
  all_goals first
    | (cases hmx; done)
    | skip
  all_goals try (have m0' : 0 ≤ m := by omega)
  all_goals (simp [Instr.sliceBounds, Instr.sliceBound, asIntOf, Int.toNat_of_nonneg, *] <;> try omega)
  all_goals (have a1 : max h 0 = h := by omega)
  all_goals (have a2 : max m 0 = m := by omega)
  all_goals simp [a1, a2, h1, l1]

theorem isZ_none {o : Option Operand} (h : isZ o = true) : o = none := by cases o <;> first | rfl | cases h

/-- A bound that may be left out. -/
theorem bound_spec {lo : Option Operand} {d : SV} {k : IntKind} {l : Int} (h : Agree N st a) (hb : (match lo with | none => some d | some x => ev st [] x) = some (.v (.int k l))) :
    (lo = none ∧ d = .v (.int k l)) ∨ ∃ x, lo = some x ∧ a.eval x = .int k l := by
  cases lo with
  | none => simp only [Option.some.injEq] at hb; exact .inl ⟨rfl, hb⟩
  | some x => exact .inr ⟨x, rfl, ev_sound h (.nil a) hb⟩

theorem bound_val {lo : Option Operand} {k : IntKind} {d l u : Int} (h : Agree N st a) (hb : (match lo with | none => some (.v (.int .i64 d)) | some x => ev st [] x) = some (.v (.int k l)))
    (h0 : 0 ≤ l) (h1 : l ≤ u) : (lo.map a.eval = none ∧ l = d) ∨ ∃ k, lo.map a.eval = some (.int k l) ∧ 0 ≤ l ∧ l ≤ u := by
  rcases bound_spec h hb with ⟨rfl, e⟩ | ⟨x, rfl, e⟩
  · cases e; exact .inl ⟨rfl, rfl⟩
  · exact .inr ⟨k, by simp [e], h0, h1⟩

theorem byte_at {s : ByteArray} {i : Nat} (h : i < s.size) : s[i]? = some (s.data.toList.getD i 0) := by
  have h' : i < s.data.size := h
  rw [show s[i]? = some s[i] from by simp [h]]
  congr 1
  show s.data[i] = _
  simp [List.getD, Array.getElem?_eq_getElem h']

theorem BytesAt_run {src dst e : TypeId} {p : Option Addr} {n c : Nat} {l : List UInt8} {w : World} (hs : P.underlying src = some (.slice e)) (he : P.underlying e = some (.int .u8))
    (hd : P.underlying dst = some .string) (hb : BytesAt w p n l) : (convert src dst (.slice p n c)).run P w = .ok (.string ⟨l.toArray⟩) w := by
  obtain ⟨hl, hc⟩ := hb
  subst hl
  cases p with
  | none =>
    have hz : l = [] := by
      cases l with
      | nil => rfl
      | cons x r => obtain ⟨b, o, e, _⟩ := hc (by simp); cases e
    subst hz
    show (convert src dst (.slice none 0 c)).run P w = _
    rw [run_convert_bytes_string w src dst e none 0 c hs he hd]
    simp [Conv.bytesToString]
    rfl
  | some ad =>
    refine run_convert_bytes_back w src dst e ad c l hs he hd fun j hj => ?_
    obtain ⟨b, o, e', hcell⟩ := hc (by omega)
    cases e'
    rw [Addr.add_lit]
    exact hcell j hj

theorem Same.refl (w : World) : Same w w := fun _ _ => rfl
theorem Same.cell {w w1 : World} (h : Same w w1) {ad : Addr} {v : Value} (hc : w.cell? ad = some v) : w1.cell? ad = some v := by
  have hlt : ad.block < w.heap.size := World.block_lt_of_cell? w _ hc
  rw [← hc]
  unfold World.cell?
  rw [h _ hlt]

theorem loadT_out {t : TypeId} {ty : Ty} {b o : Nat} {w : World} {F : SV → Prop} (hty : tyOf P t = some ty) (h : loadT ty b o w F) :
    ∃ r, F r ∧ ∀ w1, Same w w1 → (loadVar t ⟨b, o, none⟩).run P w1 = .ok r.den w1 := by
  unfold loadT at h
  split at h
  · rename_i hb
    obtain ⟨vs, hl, hc, h⟩ := h
    exact ⟨_, h, fun w1 hs => run_loadBig hty hb hl w1 fun k v hk => hs.cell (hc k v hk)⟩
  · split at h
    · rename_i hagg hz
      obtain ⟨v, hc, h⟩ := h
      refine ⟨_, h, fun w1 hs => ?_⟩
      obtain ⟨i, d, hi, hz', hd, hsz, hls, hag, _⟩ := tyOf_spec hty
      have hl : [v].length = ty.ls.length := by rw [hls, hz]; rfl
      exact run_loadVar (x := .v v) hty hl w1 (fun k u hk => by
        cases k with
        | zero => cases hk; exact hs.cell hc
        | succ k => simp at hk) (by rw [hagg]; rfl)
    · obtain ⟨vs, hl, hc, h⟩ := loadL_out h
      split at h
      · rename_i r hr
        exact ⟨r, h, fun w1 hs => run_loadVar hty hl w1 (fun k v hk => hs.cell (hc k v hk)) hr⟩
      · exact h.elim

theorem storeBig {b o : Nat} : ∀ (l : List Value) (j : Nat) (w w0 : World), (∀ a u, w0.cell? a = some u → ∃ u', w.cell? a = some u') → (∀ a, w.frozen? a = w0.frozen? a) →
    (∀ k v, l[k]? = some v → v.oneCell' = true ∧ (∃ u, w0.cell? ⟨b, o + (j + k), none⟩ = some u) ∧ w0.frozen? ⟨b, o + (j + k), none⟩ = false) → (storeCells ⟨b, o, none⟩ l j).run P w = .ok () (setL l b o j w) := by
  intro l
  induction l with
  | nil => intro j w w0 _ _ _; simp [storeCells, setL]
  | cons v r ih =>
    intro j w w0 hc hf h
    obtain ⟨h1, ⟨u, hu⟩, hfr⟩ := h 0 v rfl
    rw [Nat.add_zero, ← off_eq] at hu hfr
    obtain ⟨u', hu'⟩ := hc _ _ hu
    have := ih (j + 1) (w.setCell ⟨b, off o j, none⟩ v) w0 (fun a x hx => by obtain ⟨x', hx'⟩ := hc a x hx; exact setCell_has hx' rfl) (fun a => by rw [setCell_frozen, hf a])
      (fun k x hk => by have := h (k + 1) x (by simpa using hk); rwa [show j + (k + 1) = j + 1 + k by omega] at this)
    simp only [storeCells, Sem.run_bind, off_add, setL]
    rw [run_store P w _ v _ h1, hu']
    simp only [hf, hfr, Bool.false_eq_true, if_false, Result.andThen_ok]
    exact this

theorem pickL_out : ∀ {ls : List Leaf} {vs : Array Value} {o j : Nat} {F : List Value → Prop}, pickL ls vs o j F →
    ∃ xs, xs.length = ls.length ∧ (∀ k v, xs[k]? = some v → vs[o + (j + k)]? = some v) ∧ F xs := by
  intro ls
  induction ls with
  | nil => intro vs o j F h; exact ⟨[], rfl, fun k v hk => by simp at hk, h⟩
  | cons l r ih =>
    intro vs o j F h
    obtain ⟨v, hv, hr⟩ := Ex_out h
    obtain ⟨xs, hl, hc, hF⟩ := ih hr
    refine ⟨v :: xs, by simp [hl], fun k u hk => ?_, hF⟩
    cases k with
    | zero => simp at hk; subst hk; rw [off_eq] at hv; simpa using hv
    | succ k => simp at hk; have := hc k u hk; rwa [show j + 1 + k = j + (k + 1) by omega] at this

theorem pickT_out {t : TypeId} {ty : Ty} {vs : Array Value} {o : Nat} {F : SV → Prop} (hty : tyOf P t = some ty) (h : pickT ty vs o F) :
    ∃ r, F r ∧ ∀ w, (part t vs o).run P w = .ok r.den w := by
  obtain ⟨i, d, hi, hd, hn, hbg, hag⟩ := tyBig_spec hty
  obtain ⟨i', d', hi', hz, hd', hsz, hls, hag', _⟩ := tyOf_spec hty
  have hii : i' = i := by rw [hi] at hi'; cases hi'; rfl
  subst hii
  have hlen : ty.ls.length = i'.size := by rw [hls, length_leavesOf]; simp [hsz]
  unfold pickT at h
  split at h
  · rename_i hb
    exact ⟨_, h, fun w => by simp only [part, Sem.run_bind, run_isAgg hd, Result.andThen_ok, hbg hb, if_true, run_sizeOf hi, Sem.run_pure, hn, SV.den]⟩
  · obtain ⟨xs, hl, hc, h⟩ := pickL_out h
    split at h
    · rename_i r hr
      refine ⟨r, h, fun w => ?_⟩
      simp only [part, Sem.run_bind, run_isAgg hd, Result.andThen_ok, ← hag]
      cases hagg : ty.agg with
      | true =>
        rw [hagg] at hr
        rw [ofCells_true hr]
        have : vs.extract o (o + i'.size) = xs.toArray := by
          apply Array.ext'
          rw [extract_cut]
          simp only [cut]
          apply List.ext_getElem?
          intro k
          rw [List.getElem?_take]
          split
          · rename_i hk
            have hk' : k < xs.length := by omega
            have := hc k xs[k] (by simp [hk'])
            rw [Nat.zero_add] at this
            rw [List.getElem?_drop, Array.getElem?_toList, this]
            simp [hk']
          · rw [List.getElem?_eq_none (by omega)]
        simp [run_sizeOf hi, this]
      | false =>
        rw [hagg] at hr
        have hx := ofCells_false hr
        have := hc 0 r.den (by rw [hx]; rfl)
        simp at this
        simp [this]
    · exact h.elim

theorem finQ {o : Oper} {w : World} {F : SV → World → Prop} {x : SV} (hr : ∀ w1, (readsOp o.op = true → Same w w1) → (execOp a.eval o).run P w1 = .ok (.value x.den) w1) (hv : F x w) :
    ∃ x w', Done P a o w x w' ∧ F x w' ∧ (quietOp P o.op = true → w' = w ∧ ∀ w1, (readsOp o.op = true → Same w w1) → (execOp a.eval o).run P w1 = .ok (.value x.den) w1) :=
  ⟨x, w, .inl (hr w fun _ => Same.refl w), hv, fun _ => ⟨rfl, hr⟩⟩

theorem finN {o : Oper} {w w' : World} {F : SV → World → Prop} {x : SV} (hr : (execOp a.eval o).run P w = .ok (.value x.den) w') (hv : F x w') (hq : quietOp P o.op = false) :
    ∃ x w', Done P a o w x w' ∧ F x w' ∧ (quietOp P o.op = true → w' = w ∧ ∀ w1, (readsOp o.op = true → Same w w1) → (execOp a.eval o).run P w1 = .ok (.value x.den) w1) :=
  ⟨x, w', .inl hr, hv, fun h => by rw [hq] at h; cases h⟩

theorem finS {o : Oper} {w w' : World} {F : SV → World → Prop} (hr : (execOp a.eval o).run P w = .ok .skip w') (hv : F (.v undef) w') (hq : quietOp P o.op = false) :
    ∃ x w', Done P a o w x w' ∧ F x w' ∧ (quietOp P o.op = true → w' = w ∧ ∀ w1, (readsOp o.op = true → Same w w1) → (execOp a.eval o).run P w1 = .ok (.value x.den) w1) :=
  ⟨.v undef, w', .inr ⟨hr, rfl⟩, hv, fun h => by rw [hq] at h; cases h⟩

theorem val_sound {o : Oper} {w : World} {F : SV → World → Prop} (h : Agree N st a) (hv : valOp P st o w F) :
    ∃ x w', Done P a o w x w' ∧ F x w' ∧ (quietOp P o.op = true → w' = w ∧ ∀ w1, (readsOp o.op = true → Same w w1) → (execOp a.eval o).run P w1 = .ok (.value x.den) w1) := by
  unfold valOp at hv
  split at hv
  · rename_i x hx
    exact finQ (fun w1 _ => pure_sound h (.nil a) hx w1) hv
  rename_i hnp
  clear hnp
  obtain ⟨dst, op, oty, pos, after, gd⟩ := o
  cases op with
  | alloc t =>
    dsimp only at hv
    split at hv
    · rename_i ty hty
      obtain ⟨i, d, hi, hz, _⟩ := tyOf_spec hty
      have hze : zeroA P t = ty.zero.cells := by unfold zeroA; rw [hty]
      rw [hze] at hv
      split at hv
      all_goals
        refine finN ?_ (hv _ _ ⟨rfl, rfl⟩) (by simp [quietOp])
        simp [execOp, Instr.alloc, run_zeroValue hi hz, newVar, newRow, den_v, den_b, den_loc]
    · exact hv.elim
  | box t x =>
    dsimp only at hv
    split at hv
    · rename_i y hx
      refine finN ?_ (hv _ _ ⟨rfl, rfl⟩) (by simp [quietOp])
      simp [execOp, Instr.box, ev_sound h (.nil a) hx, newVar, newRow, den_v, den_b, den_loc]
    · exact hv.elim
  | load t x =>
    dsimp only at hv
    split at hv
    · rename_i y ty hx hty
      obtain ⟨b, o, hp, hv⟩ := asPtr_out hv
      obtain ⟨r, hv, hr⟩ := loadT_out hty hv
      refine finQ (fun w1 hs => ?_) hv
      simp [execOp, Instr.loadAt, ev_sound h (.nil a) hx, hp, Instr.sureAddr, hr w1 (hs rfl)]
    · exact hv.elim
  | store t x y =>
    dsimp only at hv
    split at hv
    · rename_i p v n hx hy hn
      split at hv
      · split at hv
        · rename_i vs
          obtain ⟨hsz, hv⟩ := hv
          obtain ⟨b, o, hp, hcp, hF⟩ := asPtr_out hv
          refine finS ?_ (hF _ rfl) (by simp [quietOp])
          have hrun := storeBig (P := P) (b := b) (o := o) vs.toList 0 w w (fun a u h => ⟨u, h⟩) (fun _ => rfl) (fun k v hk => by rw [Nat.zero_add]; exact hcp k v (by simpa using hk))
          have hs : (Value.agg vs).cells.size = n := hsz
          have hcl : (Value.agg vs).cells = vs := rfl
          simp [execOp, Instr.storeAt, ev_sound h (.nil a) hx, ev_sound h (.nil a) hy, hp, Instr.sureAddr, storeVar, sizeT_spec hn, hcl, hsz, den_v, hrun]
        · exact hv.elim
      split at hv
      · rename_i hsz
        obtain ⟨b, o, hp, hv⟩ := asPtr_out hv
        obtain ⟨hw', hF⟩ := storeL_out (P := P) (w := w) (fun a u h => ⟨u, h⟩) (fun _ => rfl) hv
        refine finS ?_ (hF _ rfl) (by simp [quietOp])
        have hs : v.den.cells.size = n := by have := nbeq.1 hsz; simp at this; exact this.symm
        simp [execOp, Instr.storeAt, ev_sound h (.nil a) hx, ev_sound h (.nil a) hy, hp, Instr.sureAddr, storeVar, sizeT_spec hn, hs, hw']
      · exact hv.elim
    · exact hv.elim
  | nilCheck x =>
    dsimp only at hv
    split at hv
    · rename_i p hx
      obtain ⟨b, o, rfl, hv⟩ := hv
      refine finQ (fun w1 _ => ?_) hv
      have := ev_sound h (.nil a) hx
      simp [execOp, this, den_v, den_b, den_loc]
    · exact hv.elim
  | fieldAddr s x f =>
    dsimp only at hv
    split at hv
    · rename_i k t y hf hx
      split at hv
      · rename_i n hn
        obtain ⟨b, o, hp, hv⟩ := asPtr_out hv
        refine finQ (fun w1 _ => ?_) hv
        simp [execOp, ev_sound h (.nil a) hx, hp, run_fieldAt hf hn, den_v, den_b, den_loc]
      · exact hv.elim
    · exact hv.elim
  | indexAddr t x i =>
    dsimp only at hv
    split at hv
    · rename_i p n c k i e hx hi hu
      split at hv
      · rename_i s hs
        obtain ⟨b, o, rfl, h0, h1, hv⟩ := hv
        refine finQ (fun w1 _ => ?_) hv
        have e1 := ev_sound h (.nil a) hx
        have e2 := ev_sound h (.nil a) hi
        simp [execOp, e1, e2, den_v, den_b, den_loc, Instr.indexAt, asIntOf, run_underlying hu, h0, h1, sizeT_spec hs, add_scale]
      · exact hv.elim
    · rename_i y k i n e hx hi hu
      split at hv
      · rename_i s hs
        obtain ⟨b, o, hp, h0, h1, hv⟩ := asPtr_out hv
        refine finQ (fun w1 _ => ?_) hv
        have e1 := ev_sound h (.nil a) hx
        have e2 := ev_sound h (.nil a) hi
        rw [hp] at e1
        simp [execOp, e1, e2, den_v, den_b, den_loc, Instr.indexAt, asIntOf, run_underlying hu, h0, h1, sizeT_spec hs, add_scale, Instr.sureAddr]
      · exact hv.elim
    · exact hv.elim
  | index t x i =>
    dsimp only at hv
    split at hv
    · rename_i vs k i n e hx hi hu
      split at hv
      · rename_i ty hty
        obtain ⟨h0, h1, hv⟩ := hv
        obtain ⟨r, hv, hr⟩ := pickT_out hty hv
        refine finQ (fun w1 _ => ?_) hv
        have e1 := ev_sound h (.nil a) hx
        have e2 := ev_sound h (.nil a) hi
        obtain ⟨i', d, hi', hd, hn, _, _⟩ := tyBig_spec hty
        have esc : scale i.toNat ty.n = i.toNat * i'.size := by
          rw [← hn]
          unfold scale; split
          · rename_i hb; rw [nbeq.1 hb]; omega
          · rfl
        rw [esc] at hr
        simp [execOp, e1, e2, den_v, den_b, den_loc, Instr.index, asIntOf, run_underlying hu, h0, h1, run_sizeOf hi', hr]
      · exact hv.elim
    · rename_i s k i hx hi hu
      obtain ⟨h0, h1, hv⟩ := hv
      refine finQ (fun w1 _ => ?_) hv
      have e1 := ev_sound h (.nil a) hx
      have e2 := ev_sound h (.nil a) hi
      have e3 : s[i.toNat]? = some (s.data.toList.getD i.toNat 0) := byte_at (by omega)
      simp [execOp, e1, e2, den_v, den_b, den_loc, Instr.index, asIntOf, run_underlying hu, h0, e3, bAt]
    · exact hv.elim
  | slice t x lo hi mx =>
    dsimp only at hv
    split at hv
    · rename_i s hx hu
      have e1 := ev_sound h (.nil a) hx
      split at hv
      · exact hv.elim
      · have run : ∀ (l hh : Int), ((lo.map a.eval = none ∧ l = 0) ∨ ∃ k, lo.map a.eval = some (.int k l) ∧ 0 ≤ l ∧ l ≤ hh) →
            ((hi.map a.eval = none ∧ hh = s.size) ∨ ∃ k, hi.map a.eval = some (.int k hh) ∧ 0 ≤ hh ∧ hh ≤ (s.size : Int)) → ∀ w1 : World,
            (execOp a.eval { dst := dst, op := .slice t x lo hi none, type := oty, pos := pos, after := after, guard := gd }).run P w1 = .ok (.value (.string (s.extract l.toNat hh.toNat))) w1 := by
          intro l hh hl hh' w1
          have b := run_sliceBounds (P := P) false s.size s.size (lo.map a.eval) (hi.map a.eval) none l hh s.size w1 (.inl ⟨rfl, rfl⟩)
            (by rcases hh' with ⟨q1, q2⟩ | q
                · exact .inl ⟨q1, rfl, q2⟩
                · exact .inr q) hl
          simp [execOp, e1, den_v, Instr.sliceAt, Instr.slice, run_underlying hu, b]
        split at hv
        · refine finQ (x := .v (.string s)) (fun w1 _ => ?_) hv
          have := run 0 s.size (.inl ⟨rfl, rfl⟩) (.inl ⟨rfl, rfl⟩) w1
          rw [this]
          simp [den_v]
        · rename_i lo' 
          split at hv
          · rename_i k l hl
            obtain ⟨h0, h1, hv⟩ := hv
            exact finQ (x := .v (.string _)) (fun w1 _ => run l s.size (.inr ⟨k, by simp [ev_sound h (.nil a) hl, den_v], h0, h1⟩) (.inl ⟨rfl, rfl⟩) w1) (by simpa using hv)
          · exact hv.elim
        · rename_i hi'
          split at hv
          · rename_i k hh hl
            obtain ⟨h0, h1, hv⟩ := hv
            exact finQ (x := .v (.string _)) (fun w1 _ => run 0 hh (.inl ⟨rfl, rfl⟩) (.inr ⟨k, by simp [ev_sound h (.nil a) hl, den_v], h0, h1⟩) w1) (by simpa using hv)
          · exact hv.elim
        · split at hv
          · rename_i k l k' hh hl hl'
            obtain ⟨h0, h1, h2, hv⟩ := hv
            exact finQ (x := .v (.string _)) (fun w1 _ => run l hh (.inr ⟨k, by simp [ev_sound h (.nil a) hl, den_v], h0, h1⟩) (.inr ⟨k', by simp [ev_sound h (.nil a) hl', den_v], by omega, h2⟩) w1) hv
          · exact hv.elim
    · rename_i p n c e hx hu
      have e1 := ev_sound h (.nil a) hx
      split at hv
      · exact hv.elim
      · rename_i sz hs
        have run : ∀ (l hh m : Int), ((lo.map a.eval = none ∧ l = 0) ∨ ∃ k, lo.map a.eval = some (.int k l) ∧ 0 ≤ l ∧ l ≤ hh) →
            ((hi.map a.eval = none ∧ mx.map a.eval = none ∧ hh = n) ∨ ∃ k, hi.map a.eval = some (.int k hh) ∧ 0 ≤ hh ∧ hh ≤ m) →
            ((mx.map a.eval = none ∧ m = c) ∨ ∃ k, mx.map a.eval = some (.int k m) ∧ 0 ≤ m ∧ m ≤ (c : Int)) → ∀ w1 : World,
            (execOp a.eval { dst := dst, op := .slice t x lo hi mx, type := oty, pos := pos, after := after, guard := gd }).run P w1 = .ok (.value (.slice (slBase p l.toNat m.toNat sz) (hh.toNat - l.toNat) (m.toNat - l.toNat))) w1 := by
          intro l hh m hl hh' hm w1
          have b := run_sliceBounds (P := P) true n c (lo.map a.eval) (hi.map a.eval) (mx.map a.eval) l hh m w1 hm hh' hl
          simp only [execOp, e1, den_v, Instr.sliceAt, Instr.slice, Sem.run_bind, run_underlying hu, b, sizeT_spec hs, Result.andThen_ok, Sem.run_pure]
          rfl
        have zero : ∀ m : Nat, slBase p 0 m sz = p := fun m => by cases p <;> simp [slBase, Addr.add_zero']
        split at hv
        · refine finQ (x := .v (.slice p n c)) (fun w1 _ => ?_) hv
          have := run 0 n c (.inl ⟨rfl, rfl⟩) (.inl ⟨rfl, rfl, rfl⟩) (.inl ⟨rfl, rfl⟩) w1
          rw [this]
          simp [den_v, zero]
        · split at hv
          · rename_i k l hl
            obtain ⟨h0, h1, hv⟩ := hv
            exact finQ (x := .v (.slice _ _ _)) (fun w1 _ => run l n c (.inr ⟨k, by simp [ev_sound h (.nil a) hl, den_v], h0, h1⟩) (.inl ⟨rfl, rfl, rfl⟩) (.inl ⟨rfl, rfl⟩) w1) (by simpa using hv)
          · exact hv.elim
        · split at hv
          · rename_i k hh hl
            obtain ⟨h0, h1, hv⟩ := hv
            refine finQ (x := .v (.slice p hh.toNat c)) (fun w1 _ => ?_) hv
            rw [run 0 hh c (.inl ⟨rfl, rfl⟩) (.inr ⟨k, by simp [ev_sound h (.nil a) hl, den_v], h0, h1⟩) (.inl ⟨rfl, rfl⟩) w1]
            simp [den_v, zero]
          · exact hv.elim
        · split at hv
          · rename_i k l k' hh hl hl'
            obtain ⟨h0, h1, h2, hv⟩ := hv
            exact finQ (x := .v (.slice _ _ _)) (fun w1 _ => run l hh c (.inr ⟨k, by simp [ev_sound h (.nil a) hl, den_v], h0, h1⟩) (.inr ⟨k', by simp [ev_sound h (.nil a) hl', den_v], by omega, h2⟩) (.inl ⟨rfl, rfl⟩) w1) (by simpa using hv)
          · exact hv.elim
        · split at hv
          · rename_i k hh k' m hl hl'
            obtain ⟨h0, h1, h2, hv⟩ := hv
            refine finQ (x := .v (.slice p hh.toNat m.toNat)) (fun w1 _ => ?_) hv
            rw [run 0 hh m (.inl ⟨rfl, rfl⟩) (.inr ⟨k, by simp [ev_sound h (.nil a) hl, den_v], h0, h1⟩) (.inr ⟨k', by simp [ev_sound h (.nil a) hl', den_v], by omega, h2⟩) w1]
            simp [den_v, zero]
          · exact hv.elim
        · exact hv.elim
    · rename_i y n e hx hu
      have e1 := ev_sound h (.nil a) hx
      have run : ∀ (sz b o : Nat) (l hh : Int), sizeT P e = some sz → y.den = .pointer (some ⟨b, o, none⟩) → ((lo.map a.eval = none ∧ l = 0) ∨ ∃ k, lo.map a.eval = some (.int k l) ∧ 0 ≤ l ∧ l ≤ hh) →
          ((hi.map a.eval = none ∧ hh = n) ∨ ∃ k, hi.map a.eval = some (.int k hh) ∧ 0 ≤ hh ∧ hh ≤ (n : Int)) → ∀ w1 : World,
          (execOp a.eval { dst := dst, op := .slice t x lo hi none, type := oty, pos := pos, after := after, guard := gd }).run P w1 = .ok (.value (.slice (slBase (some ⟨b, o, none⟩) l.toNat n sz) (hh.toNat - l.toNat) (n - l.toNat))) w1 := by
        intro sz b o l hh hs hp hl hh' w1
        have bb := run_sliceBounds (P := P) false n n (lo.map a.eval) (hi.map a.eval) none l hh n w1 (.inl ⟨rfl, rfl⟩)
          (by rcases hh' with ⟨q1, q2⟩ | q
              · exact .inl ⟨q1, rfl, q2⟩
              · exact .inr q) hl
        simp [execOp, e1, hp, Instr.sliceAt, run_underlying hu, bb, sizeT_spec hs, Instr.sureAddr]
        simp only [slBase, Option.map]; split <;> rfl
      split at hv
      · rename_i sz hs
        obtain ⟨b, o, hp, hv⟩ := asPtr_out hv
        refine finQ (x := .v (.slice (some ⟨b, o, none⟩) n n)) (fun w1 _ => ?_) hv
        rw [run sz b o 0 n hs hp (.inl ⟨rfl, rfl⟩) (.inl ⟨rfl, rfl⟩) w1]
        simp [den_v, slBase, Addr.add_zero']
      · rename_i sz lo' hs
        split at hv
        · rename_i k l hl
          obtain ⟨b, o, hp, h0, h1, hv⟩ := asPtr_out hv
          exact finQ (x := .v (.slice _ _ _)) (fun w1 _ => run sz b o l n hs hp (.inr ⟨k, by simp [ev_sound h (.nil a) hl, den_v], h0, h1⟩) (.inl ⟨rfl, rfl⟩) w1) (by simpa using hv)
        · exact hv.elim
      · rename_i sz hi' hs
        split at hv
        · rename_i k hh hl
          obtain ⟨b, o, hp, h0, h1, hv⟩ := asPtr_out hv
          refine finQ (x := .v (.slice (some ⟨b, o, none⟩) hh.toNat n)) (fun w1 _ => ?_) hv
          rw [run sz b o 0 hh hs hp (.inl ⟨rfl, rfl⟩) (.inr ⟨k, by simp [ev_sound h (.nil a) hl, den_v], h0, h1⟩) w1]
          simp [den_v, slBase, Addr.add_zero']
        · exact hv.elim
      · exact hv.elim
    · exact hv.elim
  | makeSlice t x y =>
    dsimp only at hv
    split at hv
    · rename_i k1 l k2 c e hx hy hu
      split at hv
      · rename_i ty hty
        obtain ⟨i, d, hi, hz, hd, hsz, hls, hag, hby⟩ := tyOf_spec hty
        obtain ⟨h0, h1, h2, h3, hv⟩ := hv
        have hlen : ty.ls.length = i.size := by rw [hls, length_leavesOf]; simp [hsz]
        refine finN ?_ (hv _ _ ⟨rfl, rfl⟩) (by simp [quietOp])
        have e1 := ev_sound h (.nil a) hx
        have e2 := ev_sound h (.nil a) hy
        have := run_make (P := P) w _ e i ty.zero hu hi hz k1 k2 l c h0 h1 (by rw [← hby]; exact h2) h3
        rw [← hlen] at this
        have esc : scale c.toNat ty.ls.length = c.toNat * ty.ls.length := by
          unfold scale; split
          · rename_i hb; rw [nbeq.1 hb]; omega
          · rfl
        rw [← esc] at this
        simp only [execOp, e1, e2, den_v, den_b, den_loc, Sem.run_bind, this, Result.andThen_ok, Sem.run_pure]
      · exact hv.elim
    · exact hv.elim
  | buildSlice t n parts =>
    dsimp only at hv
    split at hv
    · rename_i el xs hu hxs
      split at hv
      · rename_i ty hty
        obtain ⟨i, d, hi, hz, hd, hsz, hls, hag, hby⟩ := tyOf_spec hty
        have hlen : ty.ls.length = i.size := by rw [hls, length_leavesOf]; simp [hsz]
        split at hv
        · rename_i cs hle hcs
          refine finN ?_ (hv _ _ ⟨rfl, rfl⟩) (by simp [quietOp])
          have hle' := Nat.le_of_ble_eq_true hle
          have e := evParts_spec h (.nil a) hxs
          have e1 : (parts.map fun (i, x) => (i, a.eval x)).toList = xs := by simpa using e
          rw [hlen] at hle' hcs
          have hn2 : ¬ (16777216 < n * i.size) := by omega
          have hmade : ∀ z : Array Value, n * i.size = 0 → (Array.range (n * i.size)).map (fun x => z[x % z.size]!) = madeCells ty.zero.cells (n * i.size) := by
            intro z h0; rw [h0]; simp [madeCells]
          simp only [execOp, Instr.buildSlice, Sem.run_bind, run_underlying hu, run_sizeOf hi, Result.andThen_ok]
          rw [if_neg (by simpa using hn2)]
          by_cases h0 : n * i.size = 0
          · rw [if_pos h0]
            simp only [Sem.run_bind, Sem.run_pure, Result.andThen_ok]
            rw [hmade _ h0, e1, hcs]
            simp [newRow, den_v, den_b, den_loc]
          · rw [if_neg h0]
            simp only [Sem.run_bind, Sem.run_pure, run_zeroValue hi hz, Result.andThen_ok]
            rw [e1]
            have : (Array.range (n * i.size)).map (fun x => ty.zero.cells[x % ty.zero.cells.size]!) = madeCells ty.zero.cells (n * i.size) := rfl
            rw [this, hcs]
            simp [newRow, den_v, den_b, den_loc]
        · exact hv.elim
      · exact hv.elim
    · exact hv.elim
  | binOp op t x0 y0 yt =>
    dsimp only at hv
    split at hv
    · rename_i k x k' y hx hy
      have e1 := ev_sound h (.nil a) hx
      have e2 := ev_sound h (.nil a) hy
      split at hv
      · obtain ⟨h0, hv⟩ := hv
        refine finQ (fun w1 _ => ?_) hv
        have : ¬ y < 0 := by omega
        simp [execOp, e1, e2, den_v, den_b, den_loc, eqGuard_shl, binOp_shl, Op.shift, this, shlI]
      · obtain ⟨h0, hv⟩ := hv
        refine finQ (fun w1 _ => ?_) hv
        have : ¬ y < 0 := by omega
        simp [execOp, e1, e2, den_v, den_b, den_loc, eqGuard_shr, binOp_shr, Op.shift, this, shrI]
      · split at hv
        · rename_i hk
          obtain ⟨h0, hv⟩ := hv
          have := kid_inj hk; subst this
          refine finQ (fun w1 _ => ?_) hv
          simp [execOp, e1, e2, den_v, den_b, den_loc, eqGuard_quo, binOp_quo, Op.intDiv, h0, quoI]
        · exact hv.elim
      · split at hv
        · rename_i hk
          obtain ⟨h0, hv⟩ := hv
          have := kid_inj hk; subst this
          refine finQ (fun w1 _ => ?_) hv
          simp [execOp, e1, e2, den_v, den_b, den_loc, eqGuard_rem, binOp_rem, Op.intDiv, h0, remI]
        · exact hv.elim
      · exact hv.elim
    · rename_i x y hx hy
      have e1 := ev_sound h (.nil a) hx
      have e2 := ev_sound h (.nil a) hy
      split at hv
      · obtain ⟨h0, hv⟩ := hv
        refine finQ (fun w1 _ => ?_) hv
        simp only [execOp, e1, e2, den_v, den_b, den_loc, eqGuard_add, Sem.run_bind, Sem.run_pure, Result.andThen_ok, binOp]
        rw [run_string_add_sum w1 x y h0]
        rfl
      · exact hv.elim
    · rename_i x y _ _ hx hy
      have e1 := ev_sound h (.nil a) hx
      have e2 := ev_sound h (.nil a) hy
      obtain ⟨r, hr, hv⟩ := hv
      refine finQ (fun w1 _ => ?_) hv
      have : (execOp a.eval { dst := dst, op := .binOp op t x0 y0 yt, type := oty, pos := pos, after := after, guard := gd }).run P w1 = ((do eqGuard op t x0 y0 x.den y.den; binOp op t x.den y.den : Sem Value).run P w1).andThen fun v w => .ok (.value v) w := by
        simp only [execOp, e1, e2, Sem.run_bind, Sem.run_pure]
      rw [this, hr w1]
      rfl
    · exact hv.elim
  | convert src dst' x =>
    dsimp only at hv
    split at hv
    · rename_i e p n c hs hd hx
      have e1 := ev_sound h (.nil a) hx
      split at hv
      · rename_i he
        obtain ⟨l, hb, hv⟩ := hv
        refine finQ (fun w1 hsm => ?_) hv
        have hb1 : BytesAt w1 p n l := ⟨hb.1, fun hp => let ⟨b, o, e, hc⟩ := hb.2 hp; ⟨b, o, e, fun i hi => (hsm rfl).cell (hc i hi)⟩⟩
        simp only [execOp, e1, den_v, den_b, den_loc, Sem.run_bind, BytesAt_run hs he hd hb1, Result.andThen_ok, Sem.run_pure]
      · exact hv.elim
    · rename_i e s hs hd hx
      have e1 := ev_sound h (.nil a) hx
      split at hv
      · rename_i he
        have hv := hv (grownCap w s.size 0 e) _ _ (grownCap_ge w s.size 0 e) ⟨rfl, rfl⟩
        refine finN ?_ hv (by simp [quietOp, hs, hd])
        simp only [execOp, e1, den_v, den_b, den_loc, Sem.run_bind, run_bytes_of_string w _ _ e s hs hd he, Result.andThen_ok, Sem.run_pure]
        rfl
      · exact hv.elim
    · rename_i e0 e p n c hs hd hx
      have e1 := ev_sound h (.nil a) hx
      split at hv
      · rename_i he heq
        obtain ⟨b, o, cs, t, fr, rfl, hb, hv⟩ := hv
        have hsd := nbeq.1 heq
        subst hsd
        rw [hs] at hd
        cases hd
        refine finN ?_ hv (by simp [quietOp, hs])
        have hsh : w.shape? b = some (t, cs.size) := by simp [World.shape?, hb]
        simp [execOp, e1, den_v, convert, run_underlying hs, run_underlying he, markStringish, hsh]
      · exact hv.elim
    · exact hv.elim
  | makeMap t oo =>
    cases oo with
    | none =>
      refine finN ?_ (hv _ _ ⟨rfl, rfl⟩) (by simp [quietOp])
      simp [execOp, Instr.makeMap, den_v, den_b, den_loc]
    | some _ => exact hv.elim
  | lookup t x i ok =>
    dsimp only at hv
    split at hv
    · rename_i m k kt e hx hi hu
      have e1 := ev_sound h (.nil a) hx
      have e2 := ev_sound h (.nil a) hi
      split at hv
      · obtain ⟨r, hr, hv⟩ := ExT_out hv
        refine finQ (fun w1 hsm => ?_) hv
        simp only [execOp, e1, e2, Sem.run_bind, hr w1 (hsm rfl), Result.andThen_ok, Sem.run_pure]
      · obtain ⟨r, b, hr, hv⟩ := ExT_out hv
        refine finQ (fun w1 hsm => ?_) hv
        simp only [execOp, e1, e2, Sem.run_bind, hr w1 (hsm rfl), Result.andThen_ok, Sem.run_pure, den_v, den_b, den_loc]
      · exact hv.elim
    · exact hv.elim
  | mapUpdate t m k x =>
    dsimp only at hv
    split at hv
    · rename_i m k x hm hk hx
      obtain ⟨w', hr, hv⟩ := hv
      refine finS ?_ hv (by simp [quietOp])
      simp only [execOp, ev_sound h (.nil a) hm, ev_sound h (.nil a) hk, ev_sound h (.nil a) hx, Sem.run_bind, hr, Result.andThen_ok, Sem.run_pure]
    · exact hv.elim
  | call cl =>
    obtain ⟨callee, args, argTypes⟩ := cl
    dsimp only at hv
    split at hv
    · rename_i x y t u hxs hts
      obtain ⟨p, n, c, w', hr, hv⟩ := hv
      have e := evs_sound h (.nil a) hxs
      have e1 : args.map a.eval = #[x.den, y.den] := by apply Array.ext'; simpa [dens] using e
      have e2 : argTypes = #[t, u] := by apply Array.ext'; simpa using hts
      refine finN ?_ hv (by simp [quietOp, lenOp])
      simp only [execOp, resolve, invoke, builtin, e1, e2, Sem.run_bind, Sem.run_pure, Result.andThen_ok, hr, den_v, den_b, den_loc]
    · rename_i x y t u hxs hts
      obtain ⟨n, w', hr, hv⟩ := hv
      have e := evs_sound h (.nil a) hxs
      have e1 : args.map a.eval = #[x.den, y.den] := by apply Array.ext'; simpa [dens] using e
      have e2 : argTypes = #[t, u] := by apply Array.ext'; simpa using hts
      refine finN ?_ hv (by simp [quietOp, lenOp])
      simp only [execOp, resolve, invoke, builtin, e1, e2, Sem.run_bind, Sem.run_pure, Result.andThen_ok, hr, den_v, den_b, den_loc]
    · exact hv.elim
  | _ => exact hv.elim
end

end Go.Vc
