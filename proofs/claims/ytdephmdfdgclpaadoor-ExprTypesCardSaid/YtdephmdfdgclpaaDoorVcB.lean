/- Soundness of the generator, part B: operations. -/
import Derived.Test.YtdephmdfdgclpaaDoorVcA
namespace Go.Vc
open Go

section
variable {P : Program} {N : Nat} {st : St} {a : Act} {c : List (Nat × Bool)}

theorem tyOf_spec {t : TypeId} {ty : Ty} (h : tyOf P t = some ty) :
    ∃ i d, P.info? t = some i ∧ i.zero = some ty.zero ∧ P.underlying t = some d ∧ i.size = ty.zero.cells.size ∧ ty.ls = leavesOf ty.zero.cells.toList ∧ ty.agg = isAggD (some d) ∧ ty.bytes = i.bytes := by
  unfold tyOf at h
  split at h
  · cases h
  · rename_i i hi
    split at h
    · cases h
    · rename_i z hz
      split at h
      · cases h
      · rename_i d hd
        split at h
        · rename_i hb
          cases h
          exact ⟨i, d, hi, hz, hd, by simpa using nbeq.1 hb, rfl, rfl, rfl⟩
        · cases h

theorem tyBig_spec {t : TypeId} {ty : Ty} (h : tyOf P t = some ty) : ∃ i d, P.info? t = some i ∧ P.underlying t = some d ∧ ty.n = i.size ∧ (ty.big = true → isAggD (some d) = true) ∧ ty.agg = isAggD (some d) := by
  unfold tyOf at h
  split at h
  · cases h
  · rename_i i hi
    split at h
    · cases h
    · rename_i z hz
      split at h
      · cases h
      · rename_i d hd
        split at h
        · cases h
          refine ⟨i, d, hi, hd, rfl, fun hb => ?_, rfl⟩
          simp only at hb
          cases d <;> first | rfl | (simp [bigD] at hb; done)
        · cases h

theorem length_leavesOf (l : List Value) : (leavesOf l).length = l.length := by induction l <;> simp_all [leavesOf]

theorem run_typeInfo {t : TypeId} {i : TypeInfo} (h : P.info? t = some i) (w : World) : (typeInfo t).run P w = .ok i w := by simp [typeInfo, h]
theorem run_sizeOf {t : TypeId} {i : TypeInfo} (h : P.info? t = some i) (w : World) : (sizeOf t).run P w = .ok i.size w := by simp [sizeOf, run_typeInfo h]
theorem run_zeroValue {t : TypeId} {i : TypeInfo} {z : Value} (h : P.info? t = some i) (hz : i.zero = some z) (w : World) : (zeroValue t).run P w = .ok z w := by
  simp [zeroValue, run_typeInfo h, hz]

theorem sizeT_spec {t : TypeId} {n : Nat} (h : sizeT P t = some n) (w : World) : (sizeOf t).run P w = .ok n w := by
  unfold sizeT at h
  split at h
  · rename_i i hi; cases h; exact run_sizeOf hi w
  · cases h

theorem run_isAgg {t : TypeId} {d : TypeDesc} (h : P.underlying t = some d) (w : World) : (isAgg t).run P w = .ok (isAggD (some d)) w := by
  simp only [isAgg, Sem.run_bind, run_underlying h, Result.andThen_ok]
  cases d <;> rfl

theorem nthV_eq (l : List Value) (i : Nat) : nthV l i = l[i]? := by
  induction l generalizing i with
  | nil => rfl
  | cons v r ih => cases i with
    | zero => rfl
    | succ i => simp [nthV, ih]

theorem extract_cut (cs : Array Value) (o n : Nat) : cs.extract o (o + n) = (cut cs.toList o n).toArray := by
  apply Array.ext'
  simp [cut, List.extract_eq_take_drop]

theorem partL_run {t : TypeId} {cs : Array Value} {o : Nat} {r : SV} (h : partL P t cs.toList o = some r) (w : World) : (part t cs o).run P w = .ok r.den w := by
  unfold partL at h
  split at h
  · cases h
  · rename_i ty hty
    obtain ⟨i, d, hi, hz, hd, hsz, hls, hag, _⟩ := tyOf_spec hty
    have hlen : ty.ls.length = i.size := by rw [hls, length_leavesOf]; simp [hsz]
    simp only [part, Sem.run_bind, run_isAgg hd, Result.andThen_ok, ← hag]
    split at h
    · rename_i hagg
      cases h
      simp [hagg, run_sizeOf hi, SV.den, ← hlen, extract_cut]
    · rename_i hagg
      rw [nthV_eq] at h
      split at h
      · rename_i v hb
        cases h
        have : cs[o]? = some v := by simpa using hb
        simp [hagg, this, SV.den]
      · cases h

theorem fieldAt?_spec {s : TypeId} {f : Nat} {o : Nat} {t : TypeId} (h : fieldAt? P s f = some (o, t)) :
    ∃ fs x, P.underlying s = some (.struct fs) ∧ fs[f]? = some x ∧ x.offset = o ∧ x.type = t := by
  unfold fieldAt? at h
  split at h
  · rename_i fs hfs
    split at h
    · rename_i x hx; cases h; exact ⟨fs, x, hfs, by simpa using hx, rfl, rfl⟩
    · cases h
  · cases h

theorem off_eq (o k : Nat) : off o k = o + k := by cases k <;> rfl
theorem off_add (b o k : Nat) : (⟨b, o, none⟩ : Addr).add k = ⟨b, off o k, none⟩ := by
  cases k with
  | zero => simp [Addr.add, off]
  | succ k => simp [Addr.add, off]

theorem run_fieldAt {s : TypeId} {f b q o : Nat} {t : TypeId} {n : Nat} (h : fieldAt? P s f = some (o, t)) (hn : sizeT P t = some (n + 1)) (w : World) :
    (Instr.fieldAt s (.pointer (some ⟨b, q, none⟩)) f).run P w = .ok (.pointer (some ⟨b, off q o, none⟩)) w := by
  obtain ⟨fs, x, hs, hx, rfl, rfl⟩ := fieldAt?_spec h
  simp [Instr.fieldAt, run_underlying hs, hx, Instr.sureAddr, fieldPlace, sizeT_spec hn, off_add]

theorem placesL_run : ∀ {fs : List Field} {ps : List (Nat × Nat)}, placesL P fs = some ps → ∀ w : World,
    (fs.mapM fun f => do pure (f.offset, ← sizeOf f.type) : Sem (List (Nat × Nat))).run P w = .ok ps w := by
  intro fs
  induction fs with
  | nil => intro ps h w; simp only [placesL, Option.some.injEq] at h; subst h; simp
  | cons f r ih =>
    intro ps h w
    unfold placesL at h
    split at h
    · rename_i n qs hn hqs
      cases h
      have h1 := ih hqs w
      simp only [List.mapM_cons, Sem.run_bind, sizeT_spec hn, Result.andThen_ok, Sem.run_pure]
      rw [h1]
      simp
    · cases h

theorem evParts_spec (h : Agree N st a) (hc : Holds c a) : ∀ {l : List (Nat × Operand)} {xs : List (Nat × Value)}, evParts st c l = some xs → l.map (fun (i, x) => (i, a.eval x)) = xs := by
  intro l
  induction l with
  | nil => intro xs hx; simp only [evParts, Option.some.injEq] at hx; subst hx; rfl
  | cons p r ih =>
    obtain ⟨i, o⟩ := p
    intro xs hx
    unfold evParts at hx
    split at hx
    · rename_i y ys hy hys
      cases hx
      simp only [List.map_cons, ev_sound h hc hy]
      rw [ih hys]
    · cases hx

theorem run_build_struct {t : TypeId} {ty : Ty} {fs : Array Field} {ps : List (Nat × Nat)} {parts : Array (Nat × Value)} {cs : Array Value} (hty : tyOf P t = some ty)
    (hd : P.underlying t = some (.struct fs)) (hp : placesL P fs.toList = some ps) (hf : Instr.fill (fun i => ps[i]?) ty.zero.cells parts.toList = some cs) (w : World) :
    (Instr.build t parts).run P w = .ok (.agg cs) w := by
  obtain ⟨i, d, hi, hz, _, _, _, _, _⟩ := tyOf_spec hty
  have hm : (fs.mapM fun f => do pure (f.offset, ← sizeOf f.type) : Sem (Array (Nat × Nat))).run P w = .ok ps.toArray w := by
    rw [Array.mapM_eq_mapM_toList]
    have := placesL_run hp w
    simp only [Sem.run_map, this, Result.andThen_ok]
  simp only [Instr.build, Sem.run_bind, run_zeroValue hi hz, run_underlying hd, Result.andThen_ok, hm]
  have e : (fun i : Nat => ps.toArray[i]?) = fun i : Nat => ps[i]? := by funext i; simp
  rw [e, hf]
  rfl

theorem run_build_array {t e : TypeId} {n k : Nat} {ty : Ty} {parts : Array (Nat × Value)} {cs : Array Value} (hty : tyOf P t = some ty)
    (hd : P.underlying t = some (.array k e)) (hn : sizeT P e = some n) (hf : Instr.fill (fun i => some (i * n, n)) ty.zero.cells parts.toList = some cs) (w : World) :
    (Instr.build t parts).run P w = .ok (.agg cs) w := by
  obtain ⟨i, d, hi, hz, _, _, _, _, _⟩ := tyOf_spec hty
  simp only [Instr.build, Sem.run_bind, run_zeroValue hi hz, run_underlying hd, Result.andThen_ok, sizeT_spec hn]
  rw [hf]
  rfl

theorem pickOp_run {co x y : Operand} {r : SV} (h : Agree N st a) (hc : Holds c a) (hp : pickOp st c co x y = some r) :
    ∃ b : Bool, a.eval co = .bool b ∧ (if b then a.eval x else a.eval y) = r.den := by
  unfold pickOp at hp
  split at hp
  · rename_i hco; exact ⟨true, ev_sound h hc hco, ev_sound h hc hp⟩
  · rename_i hco; exact ⟨false, ev_sound h hc hco, ev_sound h hc hp⟩
  · rename_i v _ _ hco
    split at hp
    · rename_i g hcg
      have hg : a.eval co = .bool g.val := by rw [ev_sound h hc hco, cndOf_den hcg]
      refine ⟨g.val, hg, ?_⟩
      have ha : ∀ u : Bool, g.val = u → Holds (match (generalizing := false) co with | .tmp s => (s, u) :: c | _ => c) a := by
        intro u hu
        clear hp
        cases co with
        | tmp s =>
          intro p hp'
          cases hp' with
          | head => exact hu ▸ hg
          | tail _ hm => exact hc p hm
        | _ => exact hc
      dsimp only at hp
      split at hp
      · rename_i x' y' hx hy
        rw [pickV_den hp]
        cases hgv : g.val with
        | true => exact ev_sound h (ha true hgv) hx
        | false => exact ev_sound h (ha false hgv) hy
      · cases hp
    · cases hp
  · cases hp

theorem convPure_run {src dst : TypeId} {x r : SV} {d : TypeDesc} (hs : P.underlying src = some d) (h : convPure P dst x = some r) (w : World) :
    (convert src dst x.den).run P w = .ok r.den w := by
  unfold convPure at h
  split at h
  · split at h
    · rename_i k hk
      cases h
      simp [convert, run_underlying hs, run_underlying hk, Conv.intToInt, SV.den]
    · cases h
  · split at h
    · rename_i hk
      cases h
      cases d <;> simp [convert, run_underlying hs, run_underlying hk, SV.den]
    · cases h
  · cases h

theorem lenPure_run {t ty : TypeId} {x r : SV} (h : lenPure P t x = some r) (w : World) : (Builtin.len_ #[t] ty #[x.den]).run P w = .ok r.den w := by
  unfold lenPure at h
  split at h
  · rename_i hd; cases h; simp [Builtin.len_, run_underlying hd, SV.den, goInt]
  · rename_i hd; cases h; simp [Builtin.len_, run_underlying hd, SV.den, goInt]
  · rename_i hd; cases h; simp [Builtin.len_, run_underlying hd, SV.den, goInt]
  · cases h

theorem unPure_run {u : UnOp} {x r : SV} (h : unPure u x = some r) (w : World) : (Op.unary u x.den).run P w = .ok r.den w := by
  cases u with
  | not =>
    obtain ⟨b, hb, hr⟩ := notB_den h
    simp [hb, hr, Op.unary]
  | neg =>
    dsimp only [unPure] at h
    split at h
    · cases h; simp [SV.den, Op.unary, Op.intArith]
    · cases h
  | xor =>
    dsimp only [unPure] at h
    split at h
    · cases h; simp [SV.den, Op.unary, Op.intBits, bits]
    · cases h
  | plus => cases h

theorem builtinPure_run {b : Builtin} {xs : List SV} {ts : List TypeId} {ty : TypeId} {cons : Array Bool} {r : SV} (h : builtinPure P b xs ts = some r) (w : World) :
    (builtin b ts.toArray ty cons (dens xs).toArray).run P w = .ok (.value r.den) w := by
  cases b with
  | len =>
    dsimp only [builtinPure] at h
    split at h
    · simp [builtin, dens, lenPure_run h]
    · cases h
  | cap =>
    dsimp only [builtinPure] at h
    split at h
    · split at h
      · rename_i hu
        cases h; simp [builtin, dens, Builtin.cap_, run_underlying hu, SV.den, goInt]
      · cases h
    · cases h
  | min =>
    dsimp only [builtinPure] at h
    split at h
    · cases h; simp [builtin, dens, Builtin.min_, Builtin.min2, SV.den, mmI]
    · cases h
  | max =>
    dsimp only [builtinPure] at h
    split at h
    · cases h; simp [builtin, dens, Builtin.max_, Builtin.max2, SV.den, mmI]
    · cases h
  | _ => cases h

/-! '==' at structs and arrays -/
def EqOk (P : Program) (E : TypeId → Value → Value → Option Cnd) (d : Nat) : Prop := ∀ t x y c, E t x y = some c → ∀ w : World, (Op.equalIn d t x y).run P w = .ok c.val w

theorem eqFs_run {E : TypeId → Value → Value → Option Cnd} {d : Nat} (hE : EqOk P E d) (xs ys : Array Value) : ∀ (fs : List Field) (c : Cnd), eqFs P E fs xs.toList ys.toList = some c → ∀ w : World,
    (Op.eqFields d xs ys fs).run P w = .ok c.val w := by
  intro fs
  induction fs with
  | nil => intro c h; cases h
  | cons f r ih =>
    intro c h w
    unfold eqFs at h
    split at h
    · rename_i a b hn ha hb
      have hn' : f.name ≠ "_" := by intro e; rw [e] at hn; simp at hn
      split at h
      · cases h
      · rename_i c1 hc1
        have h1 := hE _ _ _ _ hc1 w
        simp only [Op.eqFields, hn', ne_eq, not_false_eq_true, if_true, Sem.run_bind, partL_run ha, partL_run hb, Result.andThen_ok, h1, Sem.run_ite, Sem.run_pure]
        split at h
        · cases h
          cases hv : c.val <;> simp [Op.eqFields]
        · split at h
          · rename_i d' hd'
            cases h
            have h2 := ih _ hd' w
            cases hv : c1.val <;> simp [Cnd.val, hv, h2]
          · cases h
    · cases h

theorem eqEs_run {E : TypeId → Value → Value → Option Cnd} {d : Nat} (hE : EqOk P E d) (xs ys : Array Value) (e : TypeId) (s : Nat) : ∀ (n i : Nat) (c : Cnd), eqEs P E e s n i xs.toList ys.toList = some c → ∀ w : World,
    (Op.eqItems d e s xs ys (List.range' i n)).run P w = .ok c.val w := by
  intro n
  induction n with
  | zero => intro i c h; cases h
  | succ n ih =>
    intro i c h w
    unfold eqEs at h
    split at h
    · rename_i a b ha hb
      split at h
      · cases h
      · rename_i c1 hc1
        have h1 := hE _ _ _ _ hc1 w
        simp only [List.range'_succ, Op.eqItems, Sem.run_bind, partL_run ha, partL_run hb, Result.andThen_ok, h1, Sem.run_ite, Sem.run_pure]
        split at h
        · cases h
          cases hv : c.val <;> simp [Op.eqItems]
        · split at h
          · rename_i d' hd'
            cases h
            have h2 := ih _ _ hd' w
            cases hv : c1.val <;> simp [Cnd.val, hv, h2]
          · cases h
    · cases h

theorem EqOk_none (d : Nat) : EqOk P (eqV P []) d := by intro t x y c h; cases h

theorem eqV_run : ∀ (f : List Unit) (d : Nat), EqOk P (eqV P f) (d + f.length) := by
  intro f
  induction f with
  | nil => intro d; exact EqOk_none _
  | cons u f ih =>
    intro d t x y c h w
    have E := ih d
    show (Op.equalIn ((d + f.length) + 1) t x y).run P w = _
    unfold eqV at h
    split at h
    · rename_i hu; cases h; rw [run_equalIn_bool' w _ _ _ _ hu]; rfl
    · rename_i hu
      split at h
      · rename_i hk
        cases h
        have := kid_inj hk
        subst this
        rw [run_equalIn_int w _ _ _ _ _ _ hu]
        simp [Cnd.val, BEq.beq]
      · cases h
    · rename_i hu; cases h; rw [run_equalIn_string w _ _ _ _ hu]; rfl
    · rename_i fs xs ys hu
      split at h
      · cases h
      · rename_i hs
        have hf : P.fieldsOf t = fs := by simp [Program.fieldsOf, hu]
        rw [run_equalIn_agg w _ _ _ _ (by rw [hf]; exact hu) hs, hf]
        exact eqFs_run E xs ys _ _ h w
    · rename_i n e xs ys hu
      split at h
      · rename_i s hs
        unfold sizeT at hs
        split at hs
        · rename_i i hi
          cases hs
          rw [run_equalIn_array w _ xs ys hu hi, show P.cellsOf e = i.size from by simp [Program.cellsOf, hi], List.range_eq_range']
          exact eqEs_run E xs ys e _ _ _ _ h w
        · cases hs
      · cases h
    · cases h

theorem eqAgg_run {op : BinOp} {a b r : SV} (t : TypeId) (x y : Operand) (h : eqAgg P t op a b = some r) (w : World) :
    (eqGuard op t x y a.den b.den).run P w = .ok () w ∧ (binOp op t a.den b.den).run P w = .ok r.den w := by
  unfold eqAgg at h
  split at h
  · rename_i xs ys
    split at h
    · cases h
    · rename_i hg0
      have hg : P.eqGuardType P.depth t = false := by
        cases hq : P.eqGuardType P.depth t with
        | true => rw [hq] at hg0; cases hg0
        | false => rfl
      split at h
      · rename_i c hc
        have he : (Op.equalIn 10000 t (.agg xs) (.agg ys)).run P w = .ok c.val w := eqV_run [(), (), (), ()] 9996 t _ _ _ hc w
        refine ⟨run_eqGuard_agg w op t x y xs ys hg, ?_⟩
        cases op <;> simp only [negP, Option.some.injEq, reduceCtorEq] at h
        · cases h; show (binOp .eql t (.agg xs) (.agg ys)).run P w = _; rw [run_eql_struct, he]; rfl
        · cases h; show (binOp .neq t (.agg xs) (.agg ys)).run P w = _; rw [run_neq_struct, he]; rfl
      · cases h
  · cases h

/-- An operation without a choice: its value, in whatever world. -/
theorem pure_sound {o : Oper} {x : SV} (h : Agree N st a) (hc : Holds c a) (hp : pureOp P st c o.op = some x) (w : World) :
    (execOp a.eval o).run P w = .ok (.value x.den) w := by
  obtain ⟨dst, op, ty, pos, after, gd⟩ := o
  cases op with
  | move x =>
    dsimp only [pureOp] at hp
    simp [execOp, ev_sound h hc hp]
  | assign x =>
    dsimp only [pureOp] at hp
    simp [execOp, ev_sound h hc hp]
  | pick co x y =>
    dsimp only [pureOp] at hp
    obtain ⟨b, hb, hr⟩ := pickOp_run h hc hp
    simp [execOp, hb, asBool, hr]
  | binOp op t x y =>
    dsimp only [pureOp] at hp
    split at hp
    · rename_i p q hx hy
      split at hp
      · rename_i r hr
        cases hp
        simp only [execOp, Sem.run_bind, ev_sound h hc hx, ev_sound h hc hy, binPure_guard hr, Sem.run_pure, Result.andThen_ok, binPure_run w _ hy hr]
      · split at hp
        · rename_i r' hr'
          cases hp
          obtain ⟨h1, h2⟩ := eqPure_run w _ x y hr'
          simp only [execOp, Sem.run_bind, ev_sound h hc hx, ev_sound h hc hy]
          rw [h1]
          simp only [Sem.run_pure, Result.andThen_ok, h2]
        · obtain ⟨h1, h2⟩ := eqAgg_run t x y hp w
          simp only [execOp, Sem.run_bind, ev_sound h hc hx, ev_sound h hc hy, h1, Result.andThen_ok, h2, Sem.run_pure]
    · cases hp
  | unOp u t x =>
    dsimp only [pureOp] at hp
    split at hp
    · rename_i p hx
      simp only [execOp, ev_sound h hc hx, unPure_run hp w, Sem.run_bind, Result.andThen_ok, Sem.run_pure]
    · cases hp
  | convert src dst x =>
    dsimp only [pureOp] at hp
    split at hp
    · rename_i d p hs hx
      simp [execOp, ev_sound h hc hx, convPure_run hs hp w]
    · cases hp
  | extract t i =>
    dsimp only [pureOp] at hp
    split at hp
    · rename_i vs hx
      have := ev_sound h hc hx
      rw [nthV_eq] at hp
      split at hp
      · rename_i v hb
        cases hp
        have hb' : vs[i]? = some v := by simpa using hb
        simp [execOp, this, SV.den, Instr.extract, hb']
      · cases hp
    · cases hp
  | field s x f =>
    dsimp only [pureOp] at hp
    split at hp
    · rename_i o t cs hf hx
      have := ev_sound h hc hx
      obtain ⟨fs, f, hs, hff, rfl, rfl⟩ := fieldAt?_spec hf
      simp [execOp, this, SV.den, Instr.field, run_underlying hs, hff, asAgg, partL_run hp]
    · cases hp
  | fieldAddr s x f =>
    dsimp only [pureOp] at hp
    split at hp
    · rename_i o t b q hf hx
      have := ev_sound h hc hx
      split at hp
      · rename_i n hn
        cases hp
        simp [execOp, this, SV.den, run_fieldAt hf hn]
      · cases hp
    · cases hp
  | makeFunc fn A B =>
    dsimp only [pureOp] at hp
    split at hp
    · rename_i p q hx hy
      cases hp
      have h1 := evs_sound h hc hx
      have h2 := evs_sound h hc hy
      have e1 : A.map a.eval = (dens p).toArray := by apply Array.ext'; simpa using h1
      have e2 : B.map a.eval = (dens q).toArray := by apply Array.ext'; simpa using h2
      simp [execOp, Instr.makeFunc, e1, e2, SV.den]
    · cases hp
  | nilCheck x =>
    dsimp only [pureOp] at hp
    split at hp
    · rename_i b q hx
      cases hp
      have := ev_sound h hc hx
      simp [execOp, this, SV.den]
    · rename_i hx
      cases hp
      have := ev_sound h hc hx
      simp [execOp, this, SV.den]
    · rename_i hx
      cases hp
      have := ev_sound h hc hx
      simp [execOp, this, SV.den]
    · cases hp
  | call cl =>
    obtain ⟨callee, args, argTypes⟩ := cl
    dsimp only [pureOp] at hp
    split at hp
    · rename_i _ _ b xs hxs
      have e := evs_sound h hc hxs
      have e1 : args.map a.eval = (dens xs).toArray := by apply Array.ext'; simpa using e
      have := fun cons => builtinPure_run (ty := ty) (cons := cons) hp w
      rw [Array.toArray_toList] at this
      simp [execOp, resolve, invoke, e1, this]
    · cases hp
  | build t parts =>
    dsimp only [pureOp] at hp
    split at hp
    · rename_i ty' xs fs hty hxs hd
      split at hp
      · rename_i ps hps
        split at hp
        · rename_i cs hcs
          cases hp
          have e := evParts_spec h hc hxs
          have e1 : (parts.map fun (i, x) => (i, a.eval x)).toList = xs := by simpa using e
          have := run_build_struct (parts := parts.map fun (i, x) => (i, a.eval x)) hty hd hps (by rw [e1]; exact hcs) w
          simp only [execOp, Sem.run_bind, this, Result.andThen_ok, Sem.run_pure, SV.den]
        · cases hp
      · cases hp
    · rename_i ty' xs k e' hty hxs hd
      split at hp
      · rename_i n hn
        split at hp
        · rename_i cs hcs
          cases hp
          have e := evParts_spec h hc hxs
          have e1 : (parts.map fun (i, x) => (i, a.eval x)).toList = xs := by simpa using e
          have := run_build_array (parts := parts.map fun (i, x) => (i, a.eval x)) hty hd hn (by rw [e1]; exact hcs) w
          simp only [execOp, Sem.run_bind, this, Result.andThen_ok, Sem.run_pure, SV.den]
        · cases hp
      · cases hp
    · cases hp
  | _ => cases hp
end

end Go.Vc
