/- Texts of the proof, one behind the other. -/
import Derived.Test.YtpjafkcmbinjiaaDoorMd
import Derived.Lib.LaidTab
import Derived.Test.YtpjafkcmbinjiaaDoorRows
import Derived.Deep.Slices
import Derived.JoinedOf
set_option linter.unusedVariables false
set_option linter.unusedSimpArgs false
/- Tables of tables: what a row's list says of their cells. -/
namespace Go.Vc
open Go

theorem cells_of_arr {H α : Type} {enc : TypeId × Value → H} {P : Program} {w : World} {base : Nat} {sp : Nat → Bool} {held : Bool} {fuel : Nat} {t e : TypeId} {n s : Nat} {cs : List Value} {zs : List α} {p : List MemPlace} {D : α → DataW H} {C : α → List Value}
    (ht : P.underlying t = some (.array n e)) (hce : P.cellsOf e = s) (hct : P.cellsOf t = n * s) (hs : ∀ z, (C z).length = s) (h0 : 0 < s)
    (inner : ∀ fuel cs z p, cs.length = s → DataW.trod enc P w base sp held fuel e cs = some (D z, p) → cs = C z)
    (h : DataW.trod enc P w base sp held fuel t cs = some (.agg (zs.map D), p)) : cs = zs.flatMap C := by
  cases fuel with
  | zero => simp [DataW.trod] at h
  | succ fuel =>
    simp only [DataW.trod, ht, hce, hct] at h
    split at h
    · rename_i hl
      obtain ⟨xs, hm, hx⟩ := Option.map_eq_some_iff.1 h
      have hxs : xs.map (·.1) = zs.map D := by
        have := congrArg Prod.fst hx
        simpa using this
      have hxl : xs.length = n := by simpa using Lib.mapM_length hm
      have hzl : zs.length = n := by
        have := congrArg List.length hxs
        simp at this
        omega
      have key : ∀ i, i < n → ∃ z, zs[i]? = some z ∧ (cs.drop (i * s)).take s = C z := by
        intro i hi
        obtain ⟨b, hb, hf⟩ := Lib.mapM_at hm i i (by simp [hi])
        have h2 : (xs.map (·.1))[i]? = some b.1 := by simp [hb]
        rw [hxs, List.getElem?_map] at h2
        obtain ⟨z, hz, he⟩ := Option.map_eq_some_iff.1 h2
        refine ⟨z, hz, inner fuel _ z b.2 ?_ ?_⟩
        · have hmul : (i + 1) * s ≤ n * s := Nat.mul_le_mul_right _ (by omega)
          have e1 : (i + 1) * s = i * s + s := Nat.succ_mul i s
          simp only [List.length_take, List.length_drop]
          omega
        · rw [hf, he]
      -- both lists, piece by piece
      have go : ∀ (m : Nat) (zs : List α) (cs : List Value), zs.length = m → cs.length = m * s → (∀ i, i < m → ∃ z, zs[i]? = some z ∧ (cs.drop (i * s)).take s = C z) → cs = zs.flatMap C := by
        intro m
        induction m with
        | zero =>
          intro zs cs hz hc _
          rw [List.length_eq_zero_iff] at hz
          rw [Nat.zero_mul, List.length_eq_zero_iff] at hc
          rw [hz, hc]; rfl
        | succ m ih =>
          intro zs cs hz hc hk
          match zs, hz with
          | z :: r, hz =>
            have hcm : (m + 1) * s = m * s + s := Nat.succ_mul m s
            obtain ⟨z', hz', h1⟩ := hk 0 (by omega)
            cases hz'
            rw [Nat.zero_mul, List.drop_zero] at h1
            have := ih r (cs.drop s) (by simpa using hz) (by rw [List.length_drop]; omega) (fun i hi => by
              obtain ⟨y, hy, h2⟩ := hk (i + 1) (by omega)
              refine ⟨y, by simpa using hy, ?_⟩
              rw [List.drop_drop, ← h2]
              congr 2
              rw [Nat.succ_mul]; omega)
            rw [List.flatMap_cons, ← h1, ← this, List.take_append_drop]
      exact go n zs cs hzl (by simpa using hl) key
    · cases h
end Go.Vc

/- A row's list of tables, looked up by name; rows of three numbers. -/
namespace Go.Vc
open Go

theorem laid_get {P : Program} {w : World} : ∀ {laid : List (String × DataW Unit)} {ps : List MemPlace}, DataW.LaidVars P w laid ps → ∀ {n : String} {d : DataW Unit}, (n, d) ∈ laid →
    ∃ g t cs fuel p, P.globalNamed n = some g ∧ (P.globals[g]?).map (·.type) = some t ∧ w.var? P n = some cs ∧ DataW.trod (fun _ => ()) P w 0 (fun _ => true) false fuel t cs.toList = some (d, p)
  | [], _, _, n, d, hm => by cases hm
  | (m, e) :: r, ps, h, n, d, hm => by
    obtain ⟨g, t, cs, fuel, p, q, h1, h2, h3, h4, h5, _⟩ := h
    rcases List.mem_cons.1 hm with hm | hm
    · cases hm; exact ⟨g, t, cs, fuel, p, h1, h2, h3, h4⟩
    · exact laid_get h5 hm
theorem trod_three {H : Type} {enc : TypeId × Value → H} {P : Program} {w : World} {base : Nat} {sp : Nat → Bool} {held : Bool} {fuel : Nat} {e ti : TypeId} {k : IntKind} {cs : List Value} {a b c : Int} {p : List MemPlace}
    (hu : structOf P e = some [(ti, 0), (ti, 1), (ti, 2)]) (hi : P.underlying ti = some (.int k)) (h1 : P.cellsOf ti = 1) (hl : cs.length = 3)
    (h : DataW.trod enc P w base sp held fuel e cs = some (.agg [.lit (.int k a), .lit (.int k b), .lit (.int k c)], p)) : cs = [.int k a, .int k b, .int k c] := by
  cases fuel with
  | zero => simp [DataW.trod] at h
  | succ fuel =>
    unfold structOf at hu
    split at hu
    · rename_i fs hfs
      simp only [DataW.trod, hfs] at h
      split at h
      · cases hm : fs.toList.mapM fun f => DataW.trod enc P w base sp held fuel f.type ((cs.drop f.offset).take (P.cellsOf f.type)) with
        | none => rw [hm] at h; cases h
        | some xs =>
          rw [hm] at h
          simp only [Option.map_some, Option.some.injEq, Prod.mk.injEq] at h hu
          obtain ⟨hx, _⟩ := h
          replace hx : xs.map (·.1) = [.lit (.int k a), .lit (.int k b), .lit (.int k c)] := by first | exact hx | (injection hx)
          have hlen : fs.toList.length = 3 := by have := congrArg List.length hu; simpa using this
          have key : ∀ (i : Nat) (z : Int), i < 3 → (xs.map (·.1))[i]? = some (.lit (.int k z)) → cs[i]? = some (.int k z) := by
            intro i z hi3 hz
            have hf : fs.toList[i]? = some (fs.toList[i]'(by omega)) := List.getElem?_eq_getElem _
            generalize fs.toList[i]'(by omega) = f at hf
            obtain ⟨y, hy, hfy⟩ := Lib.mapM_at hm i f hf
            have hto : f.type = ti ∧ f.offset = i := by
              have := congrArg (·[i]?) hu
              simp only [List.getElem?_map, hf, Option.map_some] at this
              rcases (by omega : i = 0 ∨ i = 1 ∨ i = 2) with rfl | rfl | rfl <;> simpa using this
            rw [hto.1, hto.2, h1] at hfy
            obtain ⟨z', hc, rfl, _⟩ := DataW.trod_int hi hfy
            simp only [List.getElem?_map, hy, Option.map_some, Option.some.injEq, DataW.lit.injEq, Lit.int.injEq, true_and] at hz
            subst hz
            have := congrArg (·[0]?) hc
            simpa [List.getElem?_take, List.getElem?_drop] using this
          have c0 := key 0 a (by decide) (by rw [hx]; rfl)
          have c1 := key 1 b (by decide) (by rw [hx]; rfl)
          have c2 := key 2 c (by decide) (by rw [hx]; rfl)
          obtain ⟨x, y, z, rfl⟩ : ∃ x y z, cs = [x, y, z] := by
            match cs, hl with
            | [x, y, z], _ => exact ⟨x, y, z, rfl⟩
          cases c0
          cases c1
          cases c2
          rfl
      · cases h
    · cases hu
end Go.Vc

/- The tables of package expr, out of a row's list. -/
namespace Go.Proofs.YtpjafkcmbinjiaaDoor
open Go Go.Vc Go.RowKit
set_option maxRecDepth 20000

theorem kind3 : structOf Tryd.prog 96 = some [(3, 0), (3, 1), (3, 2)] := by kernel_rfl
def shapeD (i : Nat) : DataW Unit := .agg [.lit (.int .i64 (manyOf i)), .lit (.int .i64 (wantOf i)), .lit (.int .i64 (kindOf i))]
theorem laid_shapes : Rows.laid_stackyard_expr_shapes (H := Unit) = .agg ((List.range 17).map shapeD) := by kernel_rfl
def rowsD (l : List (List Int)) : DataW Unit := .agg (l.map (Lib.tabData .i64))
theorem u65 : Tryd.prog.underlying 97 = some (.array 17 96) := by kernel_rfl
theorem uInt : Tryd.prog.underlying 3 = some (.int .i64) := by kernel_rfl
theorem cInt : Tryd.prog.cellsOf 3 = 1 := by kernel_rfl
theorem tab_of {L : List (String × DataW Unit)} {W : World} (hm : ("stackyard/expr.shapes", Rows.laid_stackyard_expr_shapes) ∈ L) (h : laidMet Tryd.prog L W) : Tab W := by
  obtain ⟨ps, hl, _⟩ := h
  obtain ⟨g, t, cs, fuel, p, hg, ht, hv, hd⟩ := laid_get hl (n := "stackyard/expr.shapes") (d := Rows.laid_stackyard_expr_shapes) hm
  obtain rfl : g = 0 := Option.some.inj (hg.symm.trans (by kernel_rfl))
  obtain rfl : t = 97 := Option.some.inj (ht.symm.trans (by kernel_rfl))
  rw [laid_shapes] at hd
  have hc := cells_of_arr (C := shapeC) (s := 3) u65 (by kernel_rfl) (by kernel_rfl) (fun _ => rfl) (by decide) (fun fuel cs z p hl h => trod_three kind3 uInt cInt hl h) hd
  have hcs : cs = shapesA := by apply Array.ext'; rw [hc]; rfl
  intro k v hk
  rw [World.var?_cell hg hv, hcs, Nat.zero_add]; exact hk
end Go.Proofs.YtpjafkcmbinjiaaDoor

/- An argument that is an expression, opened. -/
namespace Go.Vc
open Go Go.RowKit

theorem ArgF.fields {n : Nat} {P : Program} {w : World} {t : TypeId} {cs : List Value} {l : List (TypeId × Nat)} (hu : structOf P t = some l) (h : ArgF (n + 1) P w t cs) :
    cs.length = P.cellsOf t ∧ ∀ x ∈ l, ArgF n P w x.1 ((cs.drop x.2).take (P.cellsOf x.1)) := by
  unfold structOf at hu
  split at hu
  · rename_i fs hfs
    cases hu
    obtain ⟨h1, h2⟩ := ArgF.struct hfs h
    refine ⟨h1, fun x hx => ?_⟩
    obtain ⟨f, hf, rfl⟩ := List.mem_map.1 hx
    exact h2 f hf
  · cases hu
theorem ExsAt.all {w : World} : ∀ (css : List (List Value)), (∀ c ∈ css, ∃ x, ExAt w x c ∧ ∀ y ∈ nodesT x, fitI y.v.n) → ∃ xs, ExsAt w xs css ∧ ∀ y ∈ nodesTs xs, fitI y.v.n
  | [], _ => ⟨[], by unfold ExsAt; trivial, fun y hy => by unfold nodesTs at hy; cases hy⟩
  | c :: r, h => by
    obtain ⟨x, h1, h2⟩ := h c (by simp)
    obtain ⟨xs, h3, h4⟩ := ExsAt.all r fun q hq => h q (by simp [hq])
    refine ⟨x :: xs, by unfold ExsAt; exact ⟨h1, h3⟩, fun y hy => ?_⟩
    unfold nodesTs at hy
    rcases List.mem_append.1 hy with hy | hy
    · exact h2 y hy
    · exact h4 y hy
theorem arg_ex {P : Program} {w : World} {t ti ts tv tk : TypeId} (hu : structOf P t = some [(ti, 0), (ts, 1), (tv, 2), (tk, 5)]) (hc : P.cellsOf t = 6) (h1 : P.cellsOf ti = 1) (h2 : P.cellsOf ts = 1) (h3 : P.cellsOf tv = 3) (h4 : P.cellsOf tk = 1)
    (u1 : P.underlying ti = some (.int .i64)) (u2 : P.underlying ts = some .string) (u4 : P.underlying tk = some (.slice t)) (hv : ∀ cs, Arg P w tv cs → ∃ v : Val, cs = v.cs ∧ v.fit) :
    ∀ (f : Nat) (cs : List Value), ArgF f P w t cs → ∃ x, ExAt w x cs ∧ ∀ y ∈ nodesT x, fitI y.v.n := by
  intro f
  induction f using Nat.strongRecOn with
  | ind f ih =>
  intro cs h
  obtain ⟨n, rfl⟩ := h.pos
  obtain ⟨hl, hf⟩ := h.fields hu
  rw [hc] at hl
  obtain ⟨a, b, c, d, e, g, rfl⟩ : ∃ a b c d e g, cs = [a, b, c, d, e, g] := by
    match cs, hl with
    | [a, b, c, d, e, g], _ => exact ⟨a, b, c, d, e, g, rfl⟩
  have f1 := hf (ti, 0) (by simp)
  have f2 := hf (ts, 1) (by simp)
  have f3 := hf (tv, 2) (by simp)
  have f4 := hf (tk, 5) (by simp)
  simp only [h1, h2, h3, h4] at f1 f2 f3 f4
  obtain ⟨op, e1, _⟩ := Arg.int u1 f1.arg
  obtain ⟨nm, e2, _⟩ := Arg.string u2 f2.arg
  obtain ⟨v, e3, hvf⟩ := hv _ f3.arg
  obtain ⟨m, rfl⟩ := f4.pos
  obtain ⟨p, k, cap, css, e4, hkc, hcm, _, hcl, hall, hat, hnil⟩ := ArgF.slice u4 (by omega) f4
  simp [Val.cs] at e1 e2 e3 e4
  obtain ⟨rfl, rfl, rfl⟩ := e3
  subst e1 e2 e4
  obtain ⟨xs, hxs, hxf⟩ := ExsAt.all (w := w) (css.take k) fun q hq => ih m (by omega) q (hall q (List.mem_of_mem_take hq)).2
  refine ⟨.mk op nm v xs, ?_, fun y hy => ?_⟩
  · unfold ExAt
    refine ⟨p, k, cap, css.take k, rfl, ⟨hkc, hcm⟩, hnil, by rw [List.length_take]; omega, fun q hq => by rw [(hall q (List.mem_of_mem_take hq)).1, hc], ?_, hxs⟩
    have hsplit : css.flatten = (css.take k).flatten ++ (css.drop k).flatten := by rw [← List.flatten_append, List.take_append_drop]
    have := hat.take ((css.take k).flatten.length)
    rw [hsplit, List.take_left] at this
    exact this
  · unfold nodesT at hy
    rcases List.mem_cons.1 hy with rfl | hy
    · exact hvf.2
    · exact hxf y hy
end Go.Vc

/- The arguments of law16's statements, as they are handed in; the walks. -/
namespace Go.Proofs.YtpjafkcmbinjiaaDoor
open Go Go.Vc Go.RowKit
set_option maxRecDepth 20000

theorem list3 {cs : List Value} (h : cs.length = 3) : ∃ a b d, cs = [a, b, d] := by
  match cs, h with
  | [a, b, d], _ => exact ⟨a, b, d, rfl⟩
theorem arg_value {w : World} {cs : List Value} (h : Arg Tryd.prog w 25 cs) : ∃ v : Val, cs = v.cs ∧ v.fit :=
  arg_val (ti := 3) (tn := 2) (ts := 9) (by kernel_rfl) (by kernel_rfl) (by kernel_rfl) (by kernel_rfl) (by kernel_rfl) (by kernel_rfl) (by kernel_rfl) (by kernel_rfl) h
theorem arg_col {w : World} {cs : List Value} (h : Arg Tryd.prog w 48 cs) : ∃ c : Col, cs = c.cs ∧ c.name.size ≤ 140737488351232 := by
  obtain ⟨hl, hf⟩ := Arg.fields (l := [(9, 0), (3, 1), (4, 2)]) (by kernel_rfl) h
  have h3 : Tryd.prog.cellsOf 48 = 3 := by kernel_rfl
  rw [h3] at hl
  obtain ⟨a, b, d, rfl⟩ := list3 hl
  have f1 := hf (9, 0) (by simp)
  have f2 := hf (3, 1) (by simp)
  have f3 := hf (4, 2) (by simp)
  have c1 : Tryd.prog.cellsOf 9 = 1 := by kernel_rfl
  have c2 : Tryd.prog.cellsOf 3 = 1 := by kernel_rfl
  have c3 : Tryd.prog.cellsOf 4 = 1 := by kernel_rfl
  simp only [c1, c2, c3] at f1 f2 f3
  obtain ⟨s, e1, hs⟩ := Arg.string (by kernel_rfl) f1
  obtain ⟨n, e2, _⟩ := Arg.int (k := .i64) (by kernel_rfl) f2
  obtain ⟨v, e3⟩ := Arg.bool (by kernel_rfl) f3
  simp at e1 e2 e3
  subst e1 e2 e3
  exact ⟨⟨s, n, v⟩, rfl, hs⟩
theorem arg_cols {w : World} {v : Value} (h : Arg Tryd.prog w 22 [v]) : ∃ p n c cols, v = .slice p n c ∧ Cols w p n c cols ∧ ∀ x ∈ cols, x.name.size ≤ 140737488351232 := by
  obtain ⟨p, n, c, l, e, h1, h2, _⟩ := arg_ls (e := 48) (enc := Col.cs) (Q := fun x => x.name.size ≤ 140737488351232) (by kernel_rfl) (by decide +kernel) (fun x hx => arg_col hx) (fun _ => by kernel_rfl) h
  exact ⟨p, n, c, l, e, h1, h2⟩
theorem arg_row {w : World} {v : Value} (h : Arg Tryd.prog w 32 [v]) : ∃ p n c row, v = .slice p n c ∧ Vs w p n c row ∧ ∀ x ∈ row, x.fit := by
  obtain ⟨p, n, c, l, e, h1, h2, _⟩ := arg_ls (e := 25) (enc := Val.cs) (Q := Val.fit) (by kernel_rfl) (by decide +kernel) (fun x hx => arg_value hx) (fun _ => by kernel_rfl) h
  exact ⟨p, n, c, l, e, h1, h2⟩
theorem arg_expr {w : World} {cs : List Value} (h : Arg Tryd.prog w 28 cs) : ∃ x, ExAt w x cs ∧ ∀ y ∈ nodesT x, fitI y.v.n := by
  obtain ⟨f, h⟩ := h.told
  exact arg_ex (ti := 3) (ts := 9) (tv := 25) (tk := 26) (by kernel_rfl) (by kernel_rfl) (by kernel_rfl) (by kernel_rfl) (by kernel_rfl) (by kernel_rfl) (by kernel_rfl) (by kernel_rfl) (by kernel_rfl) (fun cs h => arg_value h) f cs h

end Go.Proofs.YtpjafkcmbinjiaaDoor

/- The arguments of PruneSound's statement, where they are small; the walk. -/
namespace Go.Proofs.YtpjafkcmbinjiaaDoor
open Go Go.Vc Go.RowKit
set_option maxRecDepth 20000

/-- A slice is no longer than its bulk. -/
theorem slice_bulk {H : Type} {enc : TypeId × Value → H} {P : Program} {W : World} {base : Nat} {spare : Nat → Bool} {held : Bool} {t e : TypeId} {p : Option Addr} {n c : Nat} {d : DataW H} {ps : List MemPlace} {m : Nat}
    (ht : P.underlying t = some (.slice e)) (h : DataW.trod enc P W base spare held m t [.slice p n c] = some (d, ps)) : n ≤ Rows.uptoBulk d := by
  have len : ∀ l : List (DataW H), l.length ≤ Rows.uptoBulkAll l := by
    intro l
    induction l with
    | nil => simp [Rows.uptoBulkAll]
    | cons x r ih =>
      have : 1 ≤ Rows.uptoBulk x := by
        cases x with
        | lit l => cases l <;> simp [Rows.uptoBulk]
        | nil => simp [Rows.uptoBulk]
        | ptr d => simp [Rows.uptoBulk]
        | slice elems spare => simp [Rows.uptoBulk]
        | agg parts => simp [Rows.uptoBulk]
        | iface t d => simp [Rows.uptoBulk]
        | map entries => simp [Rows.uptoBulk]
        | held h => simp [Rows.uptoBulk]
      simp only [Rows.uptoBulkAll, List.length_cons]; omega
  rcases Go.Deep.open_slice ht h with ⟨e1, _⟩ | ⟨a, n', cap, m', k, D, Pl, e1, _, _, _, _, e2, _⟩
  · cases e1; omega
  · cases e1
    obtain ⟨rfl, _⟩ := Prod.mk.inj e2
    have := len ((List.range n).map D)
    simp only [List.length_map, List.length_range] at this
    simp only [Rows.uptoBulk]; omega

theorem list_pick {α β : Type} {Q : α → β → Prop} : ∀ {hs : List α}, (∀ x ∈ hs, ∃ r, Q x r) → ∃ L : List β, L.length = hs.length ∧ ∀ (i : Nat) x r, hs[i]? = some x → L[i]? = some r → Q x r
  | [], _ => ⟨[], rfl, fun i x r h => by simp at h⟩
  | x :: hs, h => by
    obtain ⟨r, hr⟩ := h x (by simp)
    obtain ⟨L, hlen, hL⟩ := list_pick (hs := hs) fun y hy => h y (by simp [hy])
    refine ⟨r :: L, by simp [hlen], fun i y s hy hs' => ?_⟩
    cases i with
    | zero => cases hy; cases hs'; exact hr
    | succ i => exact hL i y s (by simpa using hy) (by simpa using hs')
theorem fit_val {v : Val} (h : v.fit) : fitI v.n := by
  have := h.2; unfold i64F at this; unfold fitI; omega
theorem arg_rows {w : World} {v : Value} (h : Arg Tryd.prog w 23 [v]) : ∃ p n c hs L, v = .slice p n c ∧ Rws w p n c hs L ∧ (∀ r ∈ L, FitR r) := by
  obtain ⟨p, n, c, l, rfl, hl, hf, _⟩ := arg_ls (e := 32) (enc := Sl.cs) (Q := fun x => ∃ r, Vs w x.p x.n x.c r ∧ ∀ v ∈ r, v.fit) (by kernel_rfl) (by decide +kernel)
    (fun x hx => by
      obtain ⟨p, n, c, css, he, _⟩ := Arg.slice (e := 25) (by kernel_rfl) (by decide +kernel) hx
      subst he
      obtain ⟨p', n', c', r, he, h1, h2⟩ := arg_row hx
      cases he
      exact ⟨⟨p, n, c⟩, rfl, r, h1, h2⟩) (fun a => by rw [Sl.cs_length]; kernel_rfl) h
  obtain ⟨L, hL, hq⟩ := list_pick hf
  refine ⟨p, n, c, l, L, rfl, ⟨hl, fun i x r hx hr => (hq i x r hx hr).1, by rw [hL, hl.len]⟩, fun r hr u hu => ?_⟩
  obtain ⟨i, hi⟩ := List.mem_iff_getElem?.1 hr
  have hlt := (List.getElem?_eq_some_iff.1 hi).1
  exact fit_val ((hq i _ r (List.getElem?_eq_getElem (by omega)) hi).2 u hu)
end Go.Proofs.YtpjafkcmbinjiaaDoor

/- The law that rows of two lists together have each answer that those of one have; the walk. -/
namespace Go.Proofs.YtpjafkcmbinjiaaDoor
open Go Go.Vc Go.RowKit
set_option maxRecDepth 20000
attribute [local irreducible] Calls Put Drew New

/-- append(append(make(.., 0, len(a)+len(b)), a...), b...). -/
theorem join_rows {w w2 : World} {ap bp : Option Addr} {an ac bn bc b1 : Nat} {ha hb : List Sl} {A B : List (List Val)} (h1 : Rws w ap an ac ha A) (h2 : Rws w bp bn bc hb B) (hsm : an + bn ≤ 1099511627776)
    (hn : New w (.cells (madeCells #[.slice none 0 0] (an + bn)) 32) b1 w2) :
    ∃ p4 c6 w7 p8 c10 w11, (Builtin.append_ #[23, 23] 23 #[.slice (some ⟨b1, 0, none⟩) 0 (an + bn), .slice ap an ac]).run Tryd.prog w2 = .ok (.slice p4 an c6) w7 ∧
      (Builtin.append_ #[23, 23] 23 #[.slice p4 an c6, .slice bp bn bc]).run Tryd.prog w7 = .ok (.slice p8 (an + bn) c10) w11 ∧ Ext w w11 ∧ Rws w11 p8 (an + bn) c10 (ha ++ hb) (A ++ B) := by
  have H2 := (Hold.start (Ext.rfl (w := w))).madeRow (s := 1) (cap := an + bn) hn (by simp [maxLen]; omega) (by rw [size_madeCells]; simp)
  obtain ⟨p4, c6, w7, hrun1, H7⟩ := H2.append (ty := 23) (P := Tryd.prog) (q := ap) (m := an) (d' := ac) (news := ha.flatMap Sl.cs) 0 rfl undRows tyRow rfl (by decide) ((h1.ext H2.ext).heads.lies) (by rw [flatMap_length Sl.cs_length, h1.hlen]) h1.heads.nil
    (flatMap_one Sl.cs_one ha) (by show ((0 + an) + (0 + an) / 4 + 192) * 24 ≤ 281474976710656; omega) (by simp [maxLen]; omega)
  rw [Nat.zero_add] at hrun1 H7
  obtain ⟨p8, c10, w11, hrun2, H11⟩ := H7.append (ty := 23) (P := Tryd.prog) (q := bp) (m := bn) (d' := bc) (news := hb.flatMap Sl.cs) 0 rfl undRows tyRow rfl (by decide) ((h2.ext H7.ext).heads.lies) (by rw [flatMap_length Sl.cs_length, h2.hlen]) h2.heads.nil
    (flatMap_one Sl.cs_one hb) (by show ((an + bn) + (an + bn) / 4 + 192) * 24 ≤ 281474976710656; omega) (by simp [maxLen]; omega)
  refine ⟨p4, c6, w7, p8, c10, w11, hrun1, hrun2, H11.ext, ?_⟩
  have hm := H11.row 0 rfl
  rw [List.nil_append, ← List.flatMap_append] at hm
  have hl1 := h1.hlen
  have hl2 := h1.len
  refine ⟨hm.ls Sl.cs_length (by decide), fun i x r hx hr => ?_, by rw [List.length_append, h1.len, h2.len]⟩
  rcases Nat.lt_or_ge i an with hi | hi
  · rw [List.getElem?_append_left (by omega)] at hx hr
    exact (h1.rows i x r hx hr).ext H11.ext
  · rw [List.getElem?_append_right (by omega)] at hx hr
    rw [hl1] at hx
    rw [hl2] at hr
    exact (h2.rows _ x r hx hr).ext H11.ext

set_option maxHeartbeats 8000000 in
theorem lawWider_ok (x : Ex) {w : World} {p ap bp : Option Addr} {n c an ac bn bc : Nat} {cols : List Col} {A0 B0 : List (List Val)} {hs hs' : List Sl} {cs : List Value} (hT : Tab w) (hc : Cols w p n c cols) (hsz : ∀ y ∈ cols, y.name.size ≤ 9223372036854775807) (hcn : n ≤ 1099511627776)
    (hA : Rws w ap an ac hs A0) (hB : Rws w bp bn bc hs' B0) (hx : ExAt w x cs) (hfa0 : ∀ r ∈ A0, FitR r) (hfb0 : ∀ r ∈ B0, FitR r) :
    Calls Tryd.prog 3 #[.slice p n c, .slice ap an ac, .slice bp bn bc, .agg cs.toArray] w fun e w' => e = .returned (.bool true) ∧ Ext w w' := by
  obtain ⟨xp, xn, xc, rfl, _⟩ := hx.six
  apply lawWider_vc
  unfold lawWider_T
  intro b1 w2 h1
  have H := (Hold.start (Ext.rfl (w := w))).new h1
  refine (shown16_ok (hT.ext H.ext)).mono ?_
  rintro e W ⟨rfl, eX⟩
  replace H := H.step eX
  have hcapA := hA.heads.cap
  have hcapB := hB.heads.cap
  rw [show (100 : Int) = ((100 : Nat) : Int) from rfl]
  simp only [min_nat16, Int.toNat_natCast]
  have hR1 := hA.take (k := min an 100) (Nat.min_le_left _ _)
  have hR2 := hB.take (k := min bn 100) (Nat.min_le_left _ _)
  generalize hm1 : min an 100 = m1 at hR1
  generalize hm2 : min bn 100 = m2 at hR2
  generalize hL1 : A0.take m1 = A at hR1
  generalize hL2 : B0.take m2 = B at hR2
  have hl1 := hR1.len
  have hl2 := hR2.len
  have hfa : ∀ r ∈ A, FitR r := fun r hr => hfa0 r (by rw [← hL1] at hr; exact List.mem_of_mem_take hr)
  have hfb : ∀ r ∈ B, FitR r := fun r hr => hfb0 r (by rw [← hL2] at hr; exact List.mem_of_mem_take hr)
  have hw : IntKind.i64.wrap ((m1 : Int) + (m2 : Int)) = ((m1 + m2 : Nat) : Int) := by rw [i64_fit (by omega) (by omega)]; omega
  rw [hw]
  simp only [Int.toNat_natCast]
  refine ⟨_, rfl, by omega, by omega, by omega, by omega, by omega, by omega, by omega, by omega, ?_⟩
  intro b7 w8 hN
  obtain ⟨p4, c6, w7, p8, c10, w11, hrun1, hrun2, eJ, hJ⟩ := join_rows (hR1.ext H.ext) (hR2.ext H.ext) (by omega) hN
  replace H := H.step eJ
  refine ⟨p4, m1, c6, w7, hrun1, p8, m1 + m2, c10, w11, hrun2, ?_⟩
  have hlJ := hJ.len
  let F : List (Nat × Obj) := [(b1, .cells #[.int .i64 x.op, .string x.name, .int .i64 x.v.k, .int .i64 x.v.n, .string x.v.s, .slice xp xn xc] 28 (0, 0))]
  refine ⟨fun i W => ∃ j : Nat, i = (j : Int) ∧ j ≤ m1 + m2 ∧ (∀ r ∈ (A ++ B).take j, fitsC cols r = true) ∧ Hold w W F [] ∧ Ext w11 W, fun i _ => m1 + m2 - i.toNat, ⟨0, rfl, Nat.zero_le _, fun r h => (List.not_mem_nil h).elim, H, Ext.rfl⟩, ?_⟩
  rintro i W ⟨j, rfl, hj, hall, H, eK⟩
  refine ⟨fun hlt => ?_, fun hge => ?_⟩
  · have g : (A ++ B)[j]? = some ((A ++ B)[j]'(by omega)) := List.getElem?_eq_getElem _
    generalize (A ++ B)[j]'(by omega) = r at g
    obtain ⟨xs, _, hvs, b, o, hp, hcell⟩ := (hJ.ext eK).get g
    simp only [Int.toNat_natCast]
    refine ⟨b, o, hp, by omega, hlt, _, _, _, hcell, (r5fits_ok (hc.ext H.ext) hsz hvs).mono ?_⟩
    rintro e W1 ⟨rfl, eX⟩
    replace H := H.step eX
    refine ⟨_, rfl, fun _ => ⟨by first | rfl | trivial, H.ext⟩, fun ht => ?_⟩
    rw [i64_next (by omega)]
    refine ⟨⟨j + 1, rfl, by omega, fun q hq => ?_, H, eK.trans eX⟩, by simp only [Int.toNat_natCast]; omega⟩
    rw [List.take_add_one, g] at hq
    rcases List.mem_append.1 hq with hq | hq
    · exact hall q hq
    · simp at hq; subst hq; exact ht
  rw [List.take_of_length_le (by omega)] at hall
  have hca : ∀ r ∈ A, fitsC cols r = true := fun r hr => hall r (List.mem_append_left _ hr)
  have hcb : ∀ r ∈ B, fitsC cols r = true := fun r hr => hall r (List.mem_append_right _ hr)
  have hfl : ∀ r ∈ A ++ B, fitsL cols r = true := fun r hr => by
    have := hall r hr
    unfold fitsC at this
    rw [Bool.and_eq_true] at this
    exact this.2
  have hok : ∀ r ∈ A ++ B, ∀ u ∈ r, u.Ok := fun r hr u hu => by
    obtain ⟨i, hi⟩ := List.mem_iff_getElem?.1 hu
    have hlen := fitsL_length (hfl r hr)
    have hil := (List.getElem?_eq_some_iff.1 hi).1
    have := fitsL_get (hfl r hr) (List.getElem?_eq_getElem (by omega : i < cols.length)) hi
    unfold valFits at this
    rw [Bool.and_eq_true] at this
    exact of_decide_eq_true this.1
  have hzA : ∀ {W : World}, Ext w W → _ := fun {W} e => lzones_ok (hc.ext e) (hR1.ext e) (fun r hr => by rw [fitsL_length (hfl r (List.mem_append_left _ hr))]; exact Nat.le_refl _) (by omega) hcn (fun r hr => hok r (List.mem_append_left _ hr))
  have hzB : ∀ {W : World}, Ext w W → _ := fun {W} e => lzones_ok (hc.ext e) (hR2.ext e) (fun r hr => by rw [fitsL_length (hfl r (List.mem_append_right _ hr))]; exact Nat.le_refl _) (by omega) hcn (fun r hr => hok r (List.mem_append_right _ hr))
  refine (hzA H.ext).mono ?_
  rintro e W1 ⟨q1, k1, d1, rfl, z1, eX⟩
  replace H := H.step eX
  refine ⟨_, _, _, rfl, (hzB H.ext).mono ?_⟩
  rintro e W2 ⟨q2, k2, d2, rfl, z2, eX⟩
  replace H := H.step eX
  replace z1 := z1.ext eX
  have y1 := z1.len
  have y2 := z2.len
  have hcl := hc.len
  rw [zonesOf_len] at y1 y2
  obtain rfl : k1 = n := by omega
  obtain rfl : k2 = k1 := by omega
  have okZ : ∀ L : List (List Val), (∀ r ∈ L, r ∈ A ++ B) → L.length ≤ 100 → ∀ z ∈ zonesOf cols L, z.lo.Ok ∧ z.hi.Ok ∧ 0 ≤ z.nulls ∧ z.nulls ≤ 1000 := by
    intro L hL hn z hz
    obtain ⟨i, hi⟩ := List.mem_iff_getElem?.1 hz
    obtain ⟨c', hc', rfl⟩ := zone_at hi
    have hil := (List.getElem?_eq_some_iff.1 hc').1
    have ho : ∀ u ∈ colOf L i, u.Ok := by
      intro u hu
      obtain ⟨r, hr, rfl⟩ := List.mem_map.1 hu
      have hrl := fitsL_length (hfl r (hL r hr))
      have hir : i < r.length := by omega
      rw [List.getElem?_eq_getElem hir]
      exact hok r (hL r hr) _ (List.getElem_mem hir)
    have h1 := zs_ok ho (colOf L i).length
    have h2 := zs_nulls (colOf L i) (colOf L i).length
    rw [List.take_length] at h1 h2
    rw [colOf_len] at h2
    exact ⟨h1.1, h1.2, h2.1, by have := h2.2; unfold zoneF; omega⟩
  refine ⟨_, _, _, rfl, (lwider_ok z1 z2 hcn (okZ A (fun r hr => List.mem_append_left _ hr) (by omega)) (okZ B (fun r hr => List.mem_append_right _ hr) (by omega))).mono ?_⟩
  rintro e W3 ⟨q3, k3, d3, rfl, z3, eX⟩
  replace H := H.step eX
  refine ⟨_, _, _, rfl, ?_⟩
  intro w50 hD
  have eD := Drew.ext hD
  replace H := H.step eD
  replace z3 := z3.ext eD
  have cells : ∀ {W : World}, Hold w W F [] → W.cell? ⟨b1, 0, none⟩ = some (.int .i64 x.op) ∧ W.cell? ⟨b1, 1, none⟩ = some (.string x.name) ∧ W.cell? ⟨b1, 2, none⟩ = some (.int .i64 x.v.k) ∧ W.cell? ⟨b1, 3, none⟩ = some (.int .i64 x.v.n) ∧ W.cell? ⟨b1, 4, none⟩ = some (.string x.v.s) ∧ W.cell? ⟨b1, 5, none⟩ = some (.slice xp xn xc) := fun H => Blk.c6 (H.blk 0 rfl)
  obtain ⟨a0, a1, a2, a3, a4, a5⟩ := cells H
  refine ⟨_, a0, _, a1, _, a2, _, a3, _, a4, _, _, _, a5, ?_⟩
  refine (hzA H.ext).mono ?_
  rintro e W4 ⟨q4, k4, d4, rfl, z4, eX⟩
  replace H := H.step eX
  replace z3 := z3.ext eX
  refine ⟨_, _, _, rfl, eX.same, ?_⟩
  refine (pAnswers_ok (m := (m1 : Int)) x (hT.ext H.ext) (hc.ext H.ext) z4 (hx.ext H.ext)).mono ?_
  rintro e W5 ⟨rfl, eX⟩
  replace H := H.step eX
  replace z3 := z3.ext eX
  refine ⟨_, _, rfl, ?_⟩
  obtain ⟨a0, a1, a2, a3, a4, a5⟩ := cells H
  refine ⟨_, a0, _, a1, _, a2, _, a3, _, a4, _, _, _, a5, ?_⟩
  refine (pAnswers_ok (m := ((m1 + m2 : Nat) : Int)) x (hT.ext H.ext) (hc.ext H.ext) z3 (hx.ext H.ext)).mono ?_
  rintro e W6 ⟨rfl, eX⟩
  replace H := H.step eX
  obtain ⟨s1, s2⟩ := wider_plain (x := x) hca hfa hcb hfb (by omega) (by omega)
  rw [hlJ, hl1] at s1 s2
  refine ⟨_, _, rfl, fun _ => ⟨?_, H.ext⟩, fun h => ⟨?_, H.ext⟩⟩
  · rw [s1]; simp
  · rw [s2 h.1]; simp

theorem wider_walk (W : World) (hT : Tab W) (v0 v1 v2 : Value) (cs3 : Array Value) (a0 : Arg Tryd.prog W 22 [v0]) (a1 : Arg Tryd.prog W 23 [v1]) (a2 : Arg Tryd.prog W 23 [v2]) (a3 : Arg Tryd.prog W 28 cs3.toList)
    (b0 : ∀ p n c, v0 = .slice p n c → n ≤ 1048576) :
    Calls Tryd.prog 3 #[v0, v1, v2, .agg cs3] W fun e w' => e = .returned (.bool true) ∧ Ext W w' := by
  obtain ⟨p, n, c, cols, rfl, hc, hs⟩ := arg_cols a0
  obtain ⟨rp, rn, rc, heads, L, rfl, hR, hf⟩ := arg_rows a1
  obtain ⟨rp', rn', rc', heads', L', rfl, hR', hf'⟩ := arg_rows a2
  obtain ⟨x, hx, hxf⟩ := arg_expr a3
  have := b0 p n c rfl
  exact lawWider_ok x hT hc (fun y hy => by have := hs y hy; omega) (by omega) hR hR' hx hf hf'
theorem tabW_of {W : World} (h : laidMetH Tryd.prog Rows.pruneWiderUptoRow.laid W) : Tab W := tab_of (L := Rows.pruneWiderUptoRow.laid) (by simp [Rows.pruneWiderUptoRow]) h
end Go.Proofs.YtpjafkcmbinjiaaDoor

/- Three closed facts of the seat's program, asked once: they want much memory. -/
namespace Go.Proofs.YtpjafkcmbinjiaaDoor
set_option maxRecDepth 100000 in
theorem Tryd.entersB : (Tryd.prog.mayEnter && (false == Tryd.prog.liftsFinal) && (Tryd.prog.make == some .cut)) = true := by kernel_rfl
theorem Tryd.enters : Tryd.prog.mayEnter = true ∧ Tryd.prog.liftsFinal = false ∧ Tryd.prog.make = some .cut := by
  have h := Tryd.entersB
  simp only [Bool.and_eq_true, beq_iff_eq] at h
  exact ⟨h.1.1, h.1.2.symm, h.2⟩
end Go.Proofs.YtpjafkcmbinjiaaDoor
