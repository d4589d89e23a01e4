/- Soundness of the generator, part A: what is known of a frame; operations without a choice. -/
import Derived.Test.YtdephmdfdgclpaaDoorVc
namespace Go.Vc
open Go

theorem bq_iff {u t : Bool} : bq u t = true ↔ u = t := by cases u <;> cases t <;> simp [bq]
theorem bq_no {u t : Bool} : bq u t = false ↔ u ≠ t := by cases u <;> cases t <;> simp [bq]
theorem nbeq {a b : Nat} : Nat.beq a b = true ↔ a = b := by rw [Nat.beq_eq]
theorem nbeq_no {a b : Nat} : Nat.beq a b = false ↔ a ≠ b := by
  constructor
  · intro h e; rw [nbeq.2 e] at h; cases h
  · intro h; cases hb : Nat.beq a b with
    | false => rfl
    | true => exact absurd (nbeq.1 hb) h

/-- What the environment says is so. -/
structure Agree (N : Nat) (st : St) (a : Act) : Prop where
  size : a.tmps.size = N
  defers : a.defers = st.ds.map fun r => { target := .collected r, args := #[] }
  e : ∀ i x, lkE st.e i = some x → a.tmps.getD i undef = x.den
  g : ∀ i d, lkG st.ge i = some d → lkE st.e i = none → a.tmps.getD d.s undef = .bool d.t → a.tmps.getD i undef = d.x.den
  u : ∀ i d, lkG st.ge i = some d → lkE st.e i = none → a.tmps.getD d.s undef = .bool (!d.t) → a.tmps.getD i undef = undef

theorem hasC_spec {c : List (Nat × Bool)} {s : Nat} {t : Bool} (h : hasC c s t = true) : (s, t) ∈ c := by
  induction c with
  | nil => simp [hasC] at h
  | cons p r ih =>
    obtain ⟨j, u⟩ := p
    unfold hasC at h
    split at h
    · rename_i h1 h2
      rw [nbeq] at h1; rw [bq_iff] at h2
      subst h1; subst h2; simp
    · exact List.mem_cons_of_mem _ (ih h)

/-- The guards of c hold. -/
def Holds (c : List (Nat × Bool)) (a : Act) : Prop := ∀ p ∈ c, a.tmps.getD p.1 undef = .bool p.2

theorem Holds.nil (a : Act) : Holds [] a := fun _ h => by cases h

theorem lk_sound {N : Nat} {st : St} {a : Act} {c : List (Nat × Bool)} {i : Nat} {x : SV} (h : Agree N st a) (hc : Holds c a) (hl : lk st c i = some x) :
    a.tmps.getD i undef = x.den := by
  unfold lk at hl
  split at hl
  · rename_i y hy
    cases hl
    exact h.e i _ hy
  · rename_i hn
    split at hl
    · cases hl
    · rename_i g hg
      split at hl
      · rename_i hh
        cases hl
        exact h.g i g hg hn (hc _ (hasC_spec hh))
      · split at hl
        · rename_i u hu
          split at hl
          · rename_i hb
            cases hl
            rw [bq_iff] at hb
            subst hb
            exact h.g i g hg hn (h.e _ _ hu)
          · cases hl
        · cases hl

theorem ofConst_den (v : Value) : (ofConst v).den = v := by cases v <;> rfl

theorem ev_sound {N : Nat} {st : St} {a : Act} {c : List (Nat × Bool)} {o : Operand} {x : SV} (h : Agree N st a) (hc : Holds c a) (hl : ev st c o = some x) :
    a.eval o = x.den := by
  cases o with
  | tmp i => exact lk_sound h hc hl
  | const v => simp only [ev, Option.some.injEq] at hl; subst hl; exact (ofConst_den v).symm
  | global g => simp only [ev, Option.some.injEq] at hl; subst hl; rfl
  | func f => simp only [ev, Option.some.injEq] at hl; subst hl; rfl

theorem evs_sound {N : Nat} {st : St} {a : Act} {c : List (Nat × Bool)} (h : Agree N st a) (hc : Holds c a) : ∀ {l : List Operand} {xs : List SV}, evs st c l = some xs →
    l.map a.eval = dens xs := by
  intro l
  induction l with
  | nil => intro xs hl; simp only [evs, Option.some.injEq] at hl; subst hl; rfl
  | cons o r ih =>
    intro xs hl
    unfold evs at hl
    split at hl
    · rename_i y ys hy hys
      cases hl
      simp only [List.map_cons, dens, ev_sound h hc hy, ih hys]
    · cases hl

theorem noG_spec {ge : List Gd} {d i : Nat} {g : Gd} (h : noG ge d = true) (hg : lkG ge i = some g) : g.s ≠ d := by
  induction ge with
  | nil => simp [lkG] at hg
  | cons k r ih =>
    unfold noG at h
    split at h
    · cases h
    · rename_i hb
      unfold lkG at hg
      split at hg
      · cases hg; exact nbeq_no.1 hb
      · exact ih h hg

theorem getD_set {l : Array Value} {d : Nat} {v : Value} (hd : d < l.size) (i : Nat) : (l.setIfInBounds d v).getD i undef = if d = i then v else l.getD i undef := by
  simp only [Array.getD_eq_getD_getElem?, Array.getElem?_setIfInBounds]
  split
  · rename_i h; subst h; simp [hd]
  · rfl

theorem okDst_some {N : Nat} {st : St} {d : Nat} (h : okDst N st (some d) = true) : d < N ∧ noG st.ge d = true := by
  simp only [okDst] at h
  split at h
  · rename_i hb; exact ⟨Nat.lt_of_succ_le (Nat.le_of_ble_eq_true hb), h⟩
  · cases h

theorem Agree.put {N : Nat} {st : St} {a : Act} {d : Option Nat} {x : SV} (h : Agree N st a) (hd : okDst N st d = true) : Agree N (put st d x) (a.put d x.den) := by
  cases d with
  | none => exact h
  | some d =>
    obtain ⟨hlt, hn⟩ := okDst_some hd
    have hs : d < a.tmps.size := by rw [h.size]; exact hlt
    refine ⟨by simp [Act.put, h.size], h.defers, ?_, ?_, ?_⟩
    · intro i y hy
      show (a.tmps.setIfInBounds d x.den).getD i undef = _
      rw [getD_set hs]
      simp only [Vc.put, lkE] at hy
      split at hy
      · rename_i hb; cases hy; rw [if_pos (nbeq.1 hb)]
      · rename_i hb; rw [if_neg (nbeq_no.1 hb)]; exact h.e i y hy
    · intro i g hg hnone hb
      change (a.tmps.setIfInBounds d x.den).getD g.s undef = _ at hb
      show (a.tmps.setIfInBounds d x.den).getD i undef = _
      rw [getD_set hs, if_neg (fun e => noG_spec hn hg e.symm)] at hb
      simp only [Vc.put, lkE] at hnone
      split at hnone
      · cases hnone
      · rename_i hb2; rw [getD_set hs, if_neg (nbeq_no.1 hb2)]; exact h.g i g hg hnone hb
    · intro i g hg hnone hb
      change (a.tmps.setIfInBounds d x.den).getD g.s undef = _ at hb
      show (a.tmps.setIfInBounds d x.den).getD i undef = _
      rw [getD_set hs, if_neg (fun e => noG_spec hn hg e.symm)] at hb
      simp only [Vc.put, lkE] at hnone
      split at hnone
      · cases hnone
      · rename_i hb2; rw [getD_set hs, if_neg (nbeq_no.1 hb2)]; exact h.u i g hg hnone hb

theorem Agree.putG {N : Nat} {st : St} {a : Act} {d s : Nat} {t : Bool} {x : SV} {v : Value} (h : Agree N st a) (hd : okDst N st (some d) = true) (hsd : s ≠ d)
    (hv : a.tmps.getD s undef = .bool t → v = x.den) (hu : a.tmps.getD s undef = .bool (!t) → v = undef) : Agree N (putG st d s t x) (a.put (some d) v) := by
  obtain ⟨hlt, hn⟩ := okDst_some hd
  have hs : d < a.tmps.size := by rw [h.size]; exact hlt
  refine ⟨by simp [Act.put, h.size], h.defers, ?_, ?_, ?_⟩
  · intro i y hy
    show (a.tmps.setIfInBounds d v).getD i undef = _
    rw [getD_set hs]
    simp only [Vc.putG, lkE] at hy
    split at hy
    · cases hy
    · rename_i hb; rw [if_neg (nbeq_no.1 hb)]; exact h.e i y hy
  · intro i g hg hnone hb
    change (a.tmps.setIfInBounds d v).getD g.s undef = _ at hb
    show (a.tmps.setIfInBounds d v).getD i undef = _
    simp only [Vc.putG, lkG] at hg
    split at hg
    · rename_i hb2
      cases hg
      simp only at hb ⊢
      rw [getD_set hs, if_neg (Ne.symm hsd)] at hb
      rw [getD_set hs, if_pos (nbeq.1 hb2)]
      exact hv hb
    · rename_i hb2
      have hdi : d ≠ i := nbeq_no.1 hb2
      rw [getD_set hs, if_neg (fun e => noG_spec hn hg e.symm)] at hb
      rw [getD_set hs, if_neg hdi]
      simp only [Vc.putG, lkE, hb2] at hnone
      exact h.g i g hg hnone hb
  · intro i g hg hnone hb
    change (a.tmps.setIfInBounds d v).getD g.s undef = _ at hb
    show (a.tmps.setIfInBounds d v).getD i undef = _
    simp only [Vc.putG, lkG] at hg
    split at hg
    · rename_i hb2
      cases hg
      simp only at hb ⊢
      rw [getD_set hs, if_neg (Ne.symm hsd)] at hb
      rw [getD_set hs, if_pos (nbeq.1 hb2)]
      exact hu hb
    · rename_i hb2
      have hdi : d ≠ i := nbeq_no.1 hb2
      rw [getD_set hs, if_neg (fun e => noG_spec hn hg e.symm)] at hb
      rw [getD_set hs, if_neg hdi]
      simp only [Vc.putG, lkE, hb2] at hnone
      exact h.u i g hg hnone hb

theorem Agree.clear {N : Nat} {st : St} {a : Act} (h : Agree N st a) : Agree N { st with ge := [] } a :=
  ⟨h.size, h.defers, h.e, fun i d hd => by simp [lkG] at hd, fun i d hd => by simp [lkG] at hd⟩

theorem Agree.know {N : Nat} {st : St} {a : Act} {s : Nat} {u : Bool} (h : Agree N st a) (hu : a.tmps.getD s undef = .bool u) : Agree N (refine' st s u) a := by
  refine ⟨h.size, h.defers, ?_, ?_, ?_⟩
  · intro i y hy
    simp only [refine', lkE] at hy
    split at hy
    · rename_i hb; cases hy; rw [← nbeq.1 hb]; exact hu
    · exact h.e i y hy
  · intro i d hd hn hb
    simp only [refine', lkE] at hn
    split at hn
    · cases hn
    · exact h.g i d hd hn hb
  · intro i d hd hn hb
    simp only [refine', lkE] at hn
    split at hn
    · cases hn
    · exact h.u i d hd hn hb

/-! ### Small facts on what the words denote -/
theorem kid_inj {k k' : IntKind} (h : Nat.beq (kid k) (kid k') = true) : k = k' := by
  rw [nbeq] at h; cases k <;> cases k' <;> first | rfl | (simp [kid] at h)

theorem sEq_iff {x y : ByteArray} : sEq x y = true ↔ x = y := by
  unfold sEq
  have hl : ∀ b : ByteArray, b.toList = b.data.toList := ByteArray.toList_eq
  constructor
  · intro h
    have h1 := of_decide_eq_true (by simpa using h : decide (x.toList = y.toList) = true)
    rw [hl, hl] at h1
    cases x; cases y; simp only at h1; congr 1; exact Array.ext' h1
  · rintro rfl; simp

theorem Cnd.is_iff (c : Cnd) : (c.is true ↔ c.val = true) ∧ (c.is false ↔ c.val = false) := by
  induction c with
  | b x => simp [Cnd.is, Cnd.val]
  | lt x y => simp [Cnd.is, Cnd.val]
  | le x y => simp [Cnd.is, Cnd.val]
  | eq x y => simp [Cnd.is, Cnd.val]
  | same x y => cases x <;> cases y <;> simp [Cnd.is, Cnd.val]
  | seq x y =>
    refine ⟨by simp only [Cnd.is, Cnd.val, sEq_iff], ?_⟩
    simp only [Cnd.is, Cnd.val]
    cases h : sEq x y with
    | true => simp [sEq_iff.1 h]
    | false => simp only [ne_eq, iff_true]; intro e; rw [sEq_iff.2 e] at h; cases h
  | not c ih => simp only [Cnd.is, Cnd.val, ih.1, ih.2]; cases c.val <;> simp
  | and c d ihc ihd => simp only [Cnd.is, Cnd.val, ihc.1, ihc.2, ihd.1, ihd.2]; cases c.val <;> cases d.val <;> simp
  | or c d ihc ihd => simp only [Cnd.is, Cnd.val, ihc.1, ihc.2, ihd.1, ihd.2]; cases c.val <;> cases d.val <;> simp

theorem Cnd.is_of {c : Cnd} {u : Bool} (h : c.val = u) : c.is u := by
  cases u with
  | false => exact c.is_iff.2.2 h
  | true => exact c.is_iff.1.2 h

theorem mkB_den {x : SV} {b : Bool} (h : mkB x = some b) : x.den = .bool b := by
  unfold mkB at h; split at h <;> first | (cases h; rfl) | cases h

theorem cndOf_den {x : SV} {c : Cnd} (h : cndOf x = some c) : x.den = .bool c.val := by
  unfold cndOf at h; split at h <;> first | (cases h; rfl) | cases h

theorem notC_val (c : Cnd) : (notC c).val = !c.val := by cases c <;> simp [notC, Cnd.val]

theorem notB_den {x y : SV} (h : notB x = some y) : ∃ b, x.den = .bool b ∧ y.den = .bool (!b) := by
  unfold notB at h
  split at h
  · cases h; rename_i b; exact ⟨b, rfl, by cases b <;> rfl⟩
  · cases h; exact ⟨_, rfl, rfl⟩
  · cases h; exact ⟨_, rfl, by simp [SV.den, notC_val]⟩
  · cases h

theorem pickV_den {c : Cnd} {x y r : SV} (h : pickV c x y = some r) : r.den = if c.val then x.den else y.den := by
  unfold pickV at h
  split at h
  · split at h
    · rename_i b hb; cases h; rw [cndOf_den hb]; cases hc : c.val <;> simp [SV.den, Cnd.val, hc]
    · cases h
  · split at h
    · rename_i b hb; cases h; rw [cndOf_den hb]; cases hc : c.val <;> simp [SV.den, Cnd.val, notC_val, hc]
    · cases h
  all_goals first
    | (cases h; cases hc : c.val <;> simp [SV.den, Cnd.val, notC_val, hc]; done)
    | skip
  · split at h
    · rename_i hk; cases h; have := kid_inj hk; subst this; cases hc : c.val <;> simp [SV.den]
    · cases h
  · cases h

section
variable {P : Program} (w : World)

theorem arith_run {op : BinOp} {k : IntKind} {a b : Int} {r : SV} (t : TypeId) (h : arith op k a b = some r) : (binOp op t (.int k a) (.int k b)).run P w = .ok r.den w := by
  cases op <;> simp only [arith, Option.some.injEq, reduceCtorEq] at h <;> subst h <;>
    first
      | (simp [binOp, Op.intArith, Op.intCmp, SV.den, Cnd.val]; done)
      | (simp [binOp, Op.intArith, Op.intCmp, SV.den, Cnd.val, bne, BEq.beq]; done)
      | (simp [binOp, Op.intBits, bits, SV.den]; done)

theorem strOp_run {op : BinOp} {a b : ByteArray} {r : SV} (t : TypeId) (h : strOp op a b = some r) : (binOp op t (.string a) (.string b)).run P w = .ok r.den w := by
  cases op <;> simp only [strOp, Option.some.injEq, reduceCtorEq] at h <;> subst h <;> simp [binOp, Op.stringOp, sEq, sLt, SV.den, Cnd.val]

theorem posNat_spec {v : Value} {n : Nat} (h : posNat v = some n) : ∃ k, v = .int k (n : Int) := by
  unfold posNat at h
  split at h
  · cases h; exact ⟨_, rfl⟩
  · cases h

theorem byConst_run {op : BinOp} {k k' : IntKind} {a z : Int} {r : SV} (t : TypeId) (h : byConst op k a (.int k' z) = some r) (hk : shiftsB op = true ∨ k = k') :
    (binOp op t (.int k a) (.int k' z)).run P w = .ok r.den w := by
  unfold byConst at h
  split at h
  · rename_i n hn
    obtain ⟨_, hv⟩ := posNat_spec hn
    cases h; cases hv
    simp [binOp, Op.shift, shlI, SV.den]
    intro hneg; omega
  · rename_i n hn
    obtain ⟨_, hv⟩ := posNat_spec hn
    cases h; cases hv
    simp [binOp, Op.shift, shrI, SV.den]
    intro hneg; omega
  · rename_i n hn
    obtain ⟨_, hv⟩ := posNat_spec hn
    rcases hk with hk | rfl
    · cases hk
    cases h; cases hv
    have : ¬ ((n : Int) + 1 = 0) := by omega
    simp [binOp, Op.intDiv, quoI, SV.den, this]
  · rename_i n hn
    obtain ⟨_, hv⟩ := posNat_spec hn
    rcases hk with hk | rfl
    · cases hk
    cases h; cases hv
    have : ¬ ((n : Int) + 1 = 0) := by omega
    simp [binOp, Op.intDiv, remI, SV.den, this]
  · cases h

theorem sameK_spec {k k' : IntKind} {x : Option SV} {r : SV} (h : sameK k k' x = some r) : k = k' ∧ x = some r := by
  unfold sameK at h
  split at h
  · rename_i hk; exact ⟨kid_inj hk, h⟩
  · cases h

theorem binPure_run {op : BinOp} {y : Operand} {a b r : SV} (t : TypeId) {st : St} {c : List (Nat × Bool)} (hy : ev st c y = some b) (h : binPure op y a b = some r) :
    (binOp op t a.den b.den).run P w = .ok r.den w := by
  unfold binPure at h
  split at h
  · rename_i k x k' z
    split at h
    · rename_i cv
      have hb : cv = .int k' z := by
        simp only [ev, Option.some.injEq] at hy
        have := congrArg SV.den hy
        rw [ofConst_den] at this
        exact this
      subst hb
      split at h
      · rename_i r' hr'
        split at h
        · rename_i hs
          cases h
          exact byConst_run w t hr' (.inl hs)
        · obtain ⟨rfl, h2⟩ := sameK_spec h
          cases h2
          exact byConst_run w t hr' (.inr rfl)
      · obtain ⟨rfl, h2⟩ := sameK_spec h
        exact arith_run w t h2
    · obtain ⟨rfl, h2⟩ := sameK_spec h
      exact arith_run w t h2
  · exact strOp_run w t h
  · cases h

theorem eqGuard_int (op : BinOp) (t : TypeId) (x y : Operand) (k : IntKind) (n : Int) (v : Value) : eqGuard op t x y (.int k n) v = pure () := eqGuard_at_int op t x y v k n

theorem binPure_guard {op : BinOp} {y : Operand} {a b r : SV} (h : binPure op y a b = some r) (t : TypeId) (x z : Operand) : eqGuard op t x z a.den b.den = pure () := by
  unfold binPure at h
  split at h
  · exact eqGuard_at_int _ _ _ _ _ _ _
  · exact eqGuard_at_string _ _ _ _ _ _
  · cases h

theorem negP_run {op : BinOp} {u : Cnd} {r : SV} (t : TypeId) {x y : Value} (heq : (Op.equal t x y).run P w = .ok u.val w)
    (he : (binOp .eql t x y).run P w = ((Op.equal t x y).run P w).andThen (fun u w => .ok (.bool u) w)) (hn : (binOp .neq t x y).run P w = ((Op.equal t x y).run P w).andThen (fun u w => .ok (.bool (!u)) w))
    (h : negP op u = some r) : (binOp op t x y).run P w = .ok r.den w := by
  cases op <;> simp only [negP, Option.some.injEq, reduceCtorEq] at h <;> subst h
  · rw [he, heq]; rfl
  · rw [hn, heq]; rfl

theorem equal_bool (t : TypeId) (a b : Bool) (h : P.underlying t = some .bool) : (Op.equal t (.bool a) (.bool b)).run P w = .ok (a == b) w := by
  have : ∀ d, (Op.equalIn (d + 1) t (.bool a) (.bool b)).run P w = .ok (a == b) w := fun d => by simp [Op.equalIn, run_underlying h]
  exact this 9999

theorem equal_ptr_nil (t e : TypeId) (a : Option Addr) (h : P.underlying t = some (.pointer e)) : (Op.equal t (.pointer a) (.pointer none)).run P w = .ok a.isNone w := by
  have : ∀ d, (Op.equalIn (d + 1) t (.pointer a) (.pointer none)).run P w = .ok a.isNone w := fun d => by cases a <;> simp [Op.equalIn, run_underlying h]
  exact this 9999

theorem equal_map_nil (t k e : TypeId) (a : Option Nat) (h : P.underlying t = some (.map k e)) : (Op.equal t (.map a) (.map none)).run P w = .ok a.isNone w := by
  have : ∀ d, (Op.equalIn (d + 1) t (.map a) (.map none)).run P w = .ok a.isNone w := fun d => by cases a <;> simp [Op.equalIn, run_underlying h]
  exact this 9999

theorem eqPure_run {op : BinOp} {a b r : SV} (t : TypeId) (x y : Operand) (h : eqPure (P.underlying t) op a b = some r) :
    eqGuard op t x y a.den b.den = pure () ∧ (binOp op t a.den b.den).run P w = .ok r.den w := by
  unfold eqPure at h
  split at h
  · rename_i hd
    split at h
    · rename_i p q hp hq
      rw [mkB_den hp, mkB_den hq]
      exact ⟨eqGuard_at_bool _ _ _ _ _ _, negP_run w t (u := .same p q) (equal_bool w t p q hd) (by simp only [binOp]; simp) (by simp only [binOp]; simp) h⟩
    · cases h
  · rename_i hd
    split at h
    · exact ⟨eqGuard_at_slice _ _ _ _ _ _ _ _, negP_run w t (u := .b _) (run_equal_slice_nil w t _ _ _ _ hd) (by simp only [SV.den, binOp]; simp) (by simp only [SV.den, binOp]; simp) h⟩
    · cases h
  · rename_i hd
    split at h
    · exact ⟨eqGuard_at_pointer _ _ _ _ _ _, negP_run w t (u := .b _) (equal_ptr_nil w t _ _ hd) (by simp only [SV.den, binOp]; simp) (by simp only [SV.den, binOp]; simp) h⟩
    · refine ⟨eqGuard_at_pointer _ _ _ _ _ _, ?_⟩
      split at h
      · cases h; exact negP_run w t (u := .b false) (equal_ptr_nil w t _ _ hd) (by simp only [SV.den, binOp]; simp) (by simp only [SV.den, binOp]; simp) (op := .eql) (r := .p (.b false)) rfl
      · cases h; exact negP_run w t (u := .b false) (equal_ptr_nil w t _ _ hd) (by simp only [SV.den, binOp]; simp) (by simp only [SV.den, binOp]; simp) (op := .neq) (r := .p (.not (.b false))) rfl
      · cases h
    · cases h
  · rename_i hd
    split at h
    · exact ⟨eqGuard_at_map _ _ _ _ _ _, negP_run w t (u := .b _) (equal_map_nil w t _ _ _ hd) (by simp only [SV.den, binOp]; simp) (by simp only [SV.den, binOp]; simp) h⟩
    · cases h
  · cases h
end

end Go.Vc
