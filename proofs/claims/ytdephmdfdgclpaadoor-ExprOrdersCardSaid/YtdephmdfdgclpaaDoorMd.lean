/- Texts of the proof, one behind the other. -/
import Derived.Test.YtdephmdfdgclpaaDoorMc
import Derived.Lib.Bytealg
set_option linter.unusedVariables false
set_option linter.unusedSimpArgs false
/- Schemas: names, columns, rows that fit. Plain Lean, no program. -/
namespace Go.Vc
open Go Go.RowKit

/-! ### Names -/
def letterB (c : UInt8) : Bool := decide (97 ≤ c.toNat ∧ c.toNat ≤ 122)
def otherB (c : UInt8) : Bool := letterB c || decide (48 ≤ c.toNat ∧ c.toNat ≤ 57) || decide (c.toNat = 95)
def isNameL : List UInt8 → Bool
  | [] => false
  | c :: r => letterB c && r.all otherB && decide ((c :: r).length ≤ 24)
def isName (s : ByteArray) : Bool := isNameL (tB s)

/-! ### Columns -/
structure Col where
  name : ByteArray
  kind : Int
  null : Bool
theorem Col.ext' {a b : Col} : a = b ↔ a.name = b.name ∧ a.kind = b.kind ∧ a.null = b.null := by cases a; cases b; simp
instance : DecidableEq Col := fun _ _ => decidable_of_iff _ Col.ext'.symm
def Col.cs (c : Col) : List Value := [.string c.name, .int .i64 c.kind, .bool c.null]
def Col.agg (x : Col) : Value := .agg #[.string x.name, .int .i64 x.kind, .bool x.null]
theorem Col.cs_length (c : Col) : c.cs.length = 3 := rfl
theorem Col.cs_one (v : Col) : ∀ u ∈ v.cs, u.oneCell' = true := by
  intro u hu
  simp only [Col.cs, List.mem_cons, List.not_mem_nil, or_false] at hu
  rcases hu with rfl | rfl | rfl <;> rfl
abbrev Cols := Ls Col.cs
theorem Ls.col {w : World} {p : Option Addr} {n c : Nat} {l : List Col} (h : Cols w p n c l) {i : Nat} {x : Col} (hi : l[i]? = some x) :
    ∃ b o, p = some ⟨b, o, none⟩ ∧ w.cell? ⟨b, o + i * 3, none⟩ = some (.string x.name) ∧ w.cell? ⟨b, o + i * 3 + 1, none⟩ = some (.int .i64 x.kind) ∧ w.cell? ⟨b, o + i * 3 + 2, none⟩ = some (.bool x.null) := by
  obtain ⟨b, o, hp, hc⟩ := h.lies.things Col.cs_length (by decide) hi
  exact ⟨b, o, hp, by have := hc 0 _ rfl; simpa [Nat.add_assoc] using this, by have := hc 1 _ rfl; rwa [← Nat.add_assoc] at this, by have := hc 2 _ rfl; rwa [← Nat.add_assoc] at this⟩

/-- One column, after those of the names 'met'. -/
def colOk (met : List ByteArray) (c : Col) : Bool := isName c.name && !(met.contains c.name) && decide (1 ≤ c.kind ∧ c.kind ≤ 3)
def colsOk : List ByteArray → List Col → Bool
  | _, [] => true
  | met, c :: r => colOk met c && colsOk (met ++ [c.name]) r
def rightC (cols : List Col) : Bool := decide (1 ≤ cols.length ∧ cols.length ≤ 16) && colsOk [] cols
/-- Where a column stands, or -1. -/
def findC : List Col → ByteArray → Int
  | [], _ => -1
  | c :: r, s => if c.name = s then 0 else if findC r s < 0 then -1 else findC r s + 1
theorem findC_range : ∀ (l : List Col) (s : ByteArray), -1 ≤ findC l s ∧ findC l s < (l.length : Int)
  | [], _ => by simp [findC]
  | c :: r, s => by
    have := findC_range r s
    unfold findC
    simp only [List.length_cons]
    split
    · omega
    · split <;> omega
/-- The first place that has the name. -/
theorem findC_at {l : List Col} {s : ByteArray} {k : Nat} {x : Col} (hx : l[k]? = some x) (hn : x.name = s) (hb : ∀ (j : Nat) y, j < k → l[j]? = some y → y.name ≠ s) : findC l s = (k : Int) := by
  induction l generalizing k with
  | nil => simp at hx
  | cons c r ih =>
    cases k with
    | zero => cases hx; unfold findC; rw [if_pos hn]; rfl
    | succ k =>
      have h0 := hb 0 c (by omega) rfl
      have := ih (k := k) (by simpa using hx) fun j y hj hy => hb (j + 1) y (by omega) (by simpa using hy)
      unfold findC
      rw [if_neg h0, this, if_neg (by omega)]
      omega
theorem findC_none {l : List Col} {s : ByteArray} (hb : ∀ x ∈ l, x.name ≠ s) : findC l s = -1 := by
  induction l with
  | nil => rfl
  | cons c r ih =>
    unfold findC
    rw [if_neg (hb c (by simp)), ih fun x hx => hb x (by simp [hx])]
    rfl
theorem findC_get {l : List Col} {s : ByteArray} (h : 0 ≤ findC l s) : ∃ x, l[(findC l s).toNat]? = some x ∧ x.name = s := by
  induction l with
  | nil => simp [findC] at h
  | cons c r ih =>
    unfold findC at h ⊢
    split
    · exact ⟨c, rfl, ‹_›⟩
    · rename_i hne
      rw [if_neg hne] at h
      split at h
      · omega
      · rename_i hge
        rw [if_neg hge]
        obtain ⟨x, hx, hn⟩ := ih (by omega)
        exact ⟨x, by rw [show (findC r s + 1).toNat = (findC r s).toNat + 1 by omega]; simpa using hx, hn⟩

theorem colsOk_append (met : List ByteArray) (a b : List Col) : colsOk met (a ++ b) = (colsOk met a && colsOk (met ++ a.map Col.name) b) := by
  induction a generalizing met with
  | nil => simp [colsOk]
  | cons c a ih => simp [colsOk, ih, Bool.and_assoc]
/-- The document's look at one column. -/
def colRef (cols : List Col) (i : Nat) (c : Col) : Bool := isName c.name && decide (findC cols c.name = (i : Int)) && decide (1 ≤ c.kind ∧ c.kind ≤ 3)
theorem colRef_eq {cols : List Col} {i : Nat} {c : Col} (hc : cols[i]? = some c) : colRef cols i c = colOk ((cols.take i).map Col.name) c := by
  unfold colRef colOk
  congr 2
  rw [Bool.eq_iff_iff, decide_eq_true_eq, Bool.not_eq_true', ← Bool.not_eq_true, List.contains_iff_mem]
  constructor
  · intro h hm
    obtain ⟨y, hy, hyn⟩ := List.mem_map.1 hm
    obtain ⟨j, hj⟩ := List.mem_iff_getElem?.1 hy
    rw [List.getElem?_take] at hj
    split at hj
    · rename_i hji
      -- the first place with the name is before i
      have key : ∀ (l : List Col) (j : Nat) (y : Col), l[j]? = some y → y.name = c.name → findC l c.name ≤ (j : Int) := by
        intro l
        induction l with
        | nil => intro j y h; simp at h
        | cons d r ih =>
          intro j y hj hyn
          unfold findC
          cases j with
          | zero => cases hj; rw [if_pos hyn]; simp
          | succ j =>
            have := ih j y (by simpa using hj) hyn
            split
            · omega
            · split <;> omega
      have := key cols j y hj hyn
      omega
    · cases hj
  · intro h
    refine findC_at hc rfl fun j y hj hy hyn => h ?_
    exact List.mem_map.2 ⟨y, List.mem_of_getElem? (i := j) (by rw [List.getElem?_take, if_pos hj]; exact hy), hyn⟩

/-! ### Rows that fit -/
def valFits (c : Col) (v : Val) : Bool := v.right && (decide (v.k = c.kind) || (c.null && decide (v.k = 0)))
def fitsL : List Col → List Val → Bool
  | [], [] => true
  | c :: cs, v :: vs => valFits c v && fitsL cs vs
  | _, _ => false
def fitsC (cols : List Col) (row : List Val) : Bool := rightC cols && fitsL cols row
theorem fitsL_length : ∀ {a : List Col} {b : List Val}, fitsL a b = true → a.length = b.length
  | [], [], _ => rfl
  | _ :: _, _ :: _, h => by
    unfold fitsL at h
    rw [Bool.and_eq_true] at h
    simp [fitsL_length h.2]
  | [], _ :: _, h => by cases h
  | _ :: _, [], h => by cases h
theorem fitsL_drop {a : List Col} {b : List Val} {k : Nat} {c : Col} {v : Val} (hc : a[k]? = some c) (hv : b[k]? = some v) : fitsL (a.drop k) (b.drop k) = (valFits c v && fitsL (a.drop (k + 1)) (b.drop (k + 1))) := by
  obtain ⟨h1, rfl⟩ := List.getElem?_eq_some_iff.1 hc
  obtain ⟨h2, rfl⟩ := List.getElem?_eq_some_iff.1 hv
  rw [List.drop_eq_getElem_cons h1, List.drop_eq_getElem_cons h2]
  rfl
theorem fitsL_get {a : List Col} {b : List Val} (h : fitsL a b = true) {k : Nat} {c : Col} {v : Val} (hc : a[k]? = some c) (hv : b[k]? = some v) : valFits c v = true := by
  induction a generalizing b k with
  | nil => simp at hc
  | cons x a ih =>
    cases b with
    | nil => simp at hv
    | cons y b =>
      unfold fitsL at h
      rw [Bool.and_eq_true] at h
      cases k with
      | zero => cases hc; cases hv; exact h.1
      | succ k => exact ih h.2 (by simpa using hc) (by simpa using hv)
end Go.Vc

/- What is handed in, opened, with the depth that is left: for things that hold things of their own type. -/
namespace Go.Vc
open Go Go.RowKit

/-- As 'Arg', of a depth that is told. -/
def ArgF (f : Nat) (P : Program) (w : World) (t : TypeId) (cs : List Value) : Prop :=
  ∃ (H : Type) (enc : TypeId × Value → H) (d : DataW H) (ps : List MemPlace), DataW.trod enc P w 0 (fun _ => true) true f t cs = some (d, ps) ∧ ∀ n ∈ d.weights P t, n ≤ 140737488351232
theorem Arg.told {P : Program} {w : World} {t : TypeId} {cs : List Value} (h : Arg P w t cs) : ∃ f, ArgF f P w t cs := by
  obtain ⟨H, enc, f, d, ps, h, hw⟩ := h
  exact ⟨f, H, enc, d, ps, h, hw⟩
theorem ArgF.arg {f : Nat} {P : Program} {w : World} {t : TypeId} {cs : List Value} (h : ArgF f P w t cs) : Arg P w t cs := by
  obtain ⟨H, enc, d, ps, h, hw⟩ := h
  exact ⟨H, enc, f, d, ps, h, hw⟩
theorem ArgF.pos {f : Nat} {P : Program} {w : World} {t : TypeId} {cs : List Value} (h : ArgF f P w t cs) : ∃ n, f = n + 1 := by
  obtain ⟨H, enc, d, ps, h, hw⟩ := h
  cases f with
  | zero => cases h
  | succ n => exact ⟨n, rfl⟩
section
variable {P : Program} {w : World} {t : TypeId} {cs : List Value}

theorem ArgF.struct {fs : Array Field} {n : Nat} (hu : P.underlying t = some (.struct fs)) (h : ArgF (n + 1) P w t cs) : cs.length = P.cellsOf t ∧ ∀ f ∈ fs.toList, ArgF n P w f.type ((cs.drop f.offset).take (P.cellsOf f.type)) := by
  obtain ⟨H, enc, d, ps, h, hw⟩ := h
  · simp only [DataW.trod, hu] at h
    split at h
    · rename_i hl
      refine ⟨hl, fun f hf => ?_⟩
      cases hm : fs.toList.mapM fun f => DataW.trod enc P w 0 (fun _ => true) true n f.type ((cs.drop f.offset).take (P.cellsOf f.type)) with
      | none => rw [hm] at h; cases h
      | some xs =>
        rw [hm] at h
        cases h
        obtain ⟨i, hi⟩ := List.mem_iff_getElem?.1 hf
        obtain ⟨h1, h2⟩ := mapM_some hm
        obtain ⟨y, hy, hfy⟩ := h2 i f hi
        refine ⟨H, enc, y.1, y.2, hfy, fun k hk => hw k ?_⟩
        simp only [DataW.weights, hu]
        exact DataW.weights_mem_each (j := i) (by simp [hi]) (by simp [hy]) k hk
    · cases h

theorem ArgF.slice {e : TypeId} {m : Nat} (hu : P.underlying t = some (.slice e)) (h0 : 0 < P.cellsOf e) (h : ArgF (m + 1) P w t cs) :
    ∃ (p : Option Addr) (n c : Nat) (css : List (List Value)), cs = [.slice p n c] ∧ n ≤ c ∧ c ≤ maxLen ∧ c * P.bytesOf e ≤ 140737488351232 ∧ css.length = c ∧ (∀ x ∈ css, x.length = P.cellsOf e ∧ ArgF m P w e x) ∧ At w p css.flatten ∧ (p = none → n = 0 ∧ c = 0) := by
  obtain ⟨H, enc, d, ps, h, hw⟩ := h
  · have shape : (cs = [.slice none 0 0]) ∨ ∃ a n c, cs = [.slice (some a) n c] := by
      match cs, h with
      | [], h => simp [DataW.trod, hu] at h
      | [.slice none 0 0], _ => exact .inl rfl
      | [.slice none (n + 1) c], h => simp [DataW.trod, hu] at h
      | [.slice none 0 (c + 1)], h => simp [DataW.trod, hu] at h
      | [.slice (some a) n c], _ => exact .inr ⟨a, n, c, rfl⟩
      | [.bool _], h => simp [DataW.trod, hu] at h
      | [.int _ _], h => simp [DataW.trod, hu] at h
      | [.float _ _], h => simp [DataW.trod, hu] at h
      | [.complex _ _ _], h => simp [DataW.trod, hu] at h
      | [.string _], h => simp [DataW.trod, hu] at h
      | [.pointer _], h => simp [DataW.trod, hu] at h
      | [.map _], h => simp [DataW.trod, hu] at h
      | [.chan _], h => simp [DataW.trod, hu] at h
      | [.nilFunc], h => simp [DataW.trod, hu] at h
      | [.func _ _ _], h => simp [DataW.trod, hu] at h
      | [.nilIface], h => simp [DataW.trod, hu] at h
      | [.iface _ _], h => simp [DataW.trod, hu] at h
      | [.tuple _], h => simp [DataW.trod, hu] at h
      | [.agg _], h => simp [DataW.trod, hu] at h
      | _ :: _ :: _, h => simp [DataW.trod, hu] at h
    rcases shape with rfl | ⟨a, len, cap, rfl⟩
    · exact ⟨none, 0, 0, [], rfl, Nat.le_refl _, Nat.zero_le _, by simp, rfl, fun x hx => by simp at hx, At.nil _ _, fun _ => ⟨rfl, rfl⟩⟩
    · simp only [DataW.trod, hu] at h
      split at h
      · rename_i hc
        obtain ⟨_, hlc, hcm⟩ := hc
        let elemAt : Nat → Option (DataW H × List MemPlace) := fun i => (w.cells? 0 (a.add (i * P.cellsOf e)) (P.cellsOf e)).bind (DataW.trod enc P w 0 (fun _ => true) true m e)
        change ((List.range len).mapM elemAt).bind _ = _ at h
        cases hm1 : (List.range len).mapM elemAt with
        | none => rw [hm1] at h; cases h
        | some elems =>
          rw [hm1] at h
          simp only [Option.bind_some, if_true] at h
          change ((List.range (cap - len)).mapM fun j => elemAt (len + j)).map _ = _ at h
          cases hm2 : (List.range (cap - len)).mapM fun j => elemAt (len + j) with
          | none => rw [hm2] at h; cases h
          | some rest =>
            rw [hm2] at h
            simp only [Option.map_some, Option.some.injEq, Prod.mk.injEq] at h
            obtain ⟨rfl, _⟩ := h
            obtain ⟨a1, a2⟩ := mapM_some hm1
            obtain ⟨b1, b2⟩ := mapM_some hm2
            simp only [List.length_range] at a1 b1
            simp only [DataW.weights, hu, List.length_map, List.mem_cons, List.mem_append] at hw
            have all : ∀ i, i < cap → ∃ cs, w.cells? 0 (a.add (i * P.cellsOf e)) (P.cellsOf e) = some cs ∧ ArgF m P w e cs := by
              intro i hi
              have key : ∃ y, elemAt i = some y ∧ ((∃ j : Nat, elems[j]? = some y) ∨ ∃ j : Nat, rest[j]? = some y) := by
                rcases Nat.lt_or_ge i len with hl | hl
                · obtain ⟨y, hy, hf⟩ := a2 i i (List.getElem?_range hl)
                  exact ⟨y, hf, .inl ⟨i, hy⟩⟩
                · obtain ⟨y, hy, hf⟩ := b2 (i - len) (i - len) (List.getElem?_range (by omega))
                  rw [show len + (i - len) = i by omega] at hf
                  exact ⟨y, hf, .inr ⟨_, hy⟩⟩
              obtain ⟨y, hf, hy⟩ := key
              have hf' : (w.cells? 0 (a.add (i * P.cellsOf e)) (P.cellsOf e)).bind (DataW.trod enc P w 0 (fun _ => true) true m e) = some y := hf
              clear hf
              cases hcs : w.cells? 0 (a.add (i * P.cellsOf e)) (P.cellsOf e) with
              | none => rw [hcs] at hf'; cases hf'
              | some cs =>
                rw [hcs] at hf'
                have hf : DataW.trod enc P w 0 (fun _ => true) true m e cs = some y := hf'
                refine ⟨cs, rfl, H, enc, y.1, y.2, hf, fun k hk => hw k (.inr ?_)⟩
                rcases hy with ⟨j, hy⟩ | ⟨j, hy⟩
                · exact .inl (weightsAll_mem (List.mem_map.2 ⟨y, List.mem_of_getElem? hy, rfl⟩) k hk)
                · exact .inr (weightsAll_mem (List.mem_map.2 ⟨y, List.mem_of_getElem? hy, rfl⟩) k hk)
            obtain ⟨css, hcl, hcss⟩ : ∃ css : List (List Value), css.length = cap ∧ ∀ i x, css[i]? = some x → w.cells? 0 (a.add (i * P.cellsOf e)) (P.cellsOf e) = some x ∧ ArgF m P w e x := by
              refine ⟨(List.range cap).map fun i => (w.cells? 0 (a.add (i * P.cellsOf e)) (P.cellsOf e)).getD [], by simp, fun i x hx => ?_⟩
              rw [List.getElem?_map] at hx
              have hi : i < cap := by
                rcases Nat.lt_or_ge i cap with h' | h'
                · exact h'
                · rw [List.getElem?_eq_none (by simpa using h')] at hx; cases hx
              rw [List.getElem?_range hi] at hx
              obtain ⟨cs, h1, h2⟩ := all i hi
              simp only [Option.map_some, h1, Option.getD_some, Option.some.injEq] at hx
              subst hx
              exact ⟨h1, h2⟩
            have hlen : ∀ x ∈ css, x.length = P.cellsOf e := fun x hx => by
              obtain ⟨i, hi⟩ := List.mem_iff_getElem?.1 hx
              exact (cells?_some (hcss i x hi).1).1
            refine ⟨some a, len, cap, css, rfl, hlc, hcm, ?_, hcl, fun x hx => ?_, ?_, fun e => by cases e⟩
            · have := hw ((elems.length + rest.length) * P.bytesOf e) (.inl rfl)
              rw [a1, b1, show len + (cap - len) = cap by omega] at this
              exact this
            · obtain ⟨i, hi⟩ := List.mem_iff_getElem?.1 hx
              exact ⟨hlen x hx, (hcss i x hi).2⟩
            · cases hcz : css with
              | nil => exact .inl rfl
              | cons c0 r =>
                rw [← hcz]
                have h00 := cells?_some (hcss 0 c0 (by rw [hcz]; rfl)).1
                have hc0 : 0 < c0.length := by rw [h00.1]; exact h0
                have hcell := h00.2 0 c0[0] (by simp [hc0])
                obtain ⟨ab, ao, ag⟩ := a
                have hs : ag = none := by
                  cases ag with
                  | none => rfl
                  | some y =>
                    have e0 : ((⟨ab, ao, some y⟩ : Addr).add (0 * P.cellsOf e)).add 0 = ⟨ab, ao, some y⟩ := by rw [Nat.zero_mul, Addr.add_zero', Addr.add_zero']
                    rw [e0] at hcell
                    simp only [World.cell?, Option.isSome_some, if_true] at hcell
                    split at hcell <;> cases hcell
                subst hs
                refine .inr ⟨ab, ao, rfl, fun i v hv => ?_⟩
                have hdm : i = i / P.cellsOf e * P.cellsOf e + i % P.cellsOf e := by rw [Nat.mul_comm]; exact (Nat.div_add_mod _ _).symm
                have hj := Nat.mod_lt i h0
                rw [hdm, flatten_get hlen hj] at hv
                cases hx : css[i / P.cellsOf e]? with
                | none => rw [hx] at hv; cases hv
                | some x =>
                  rw [hx] at hv
                  have := (cells?_some (hcss _ x hx).1).2 _ v hv
                  rw [Addr.add_lit, Addr.add_lit] at this
                  rw [hdm, ← Nat.add_assoc]; exact this
      · cases h
end


end Go.Vc

/- Expressions: as the memory bears them; which are well formed. Plain Lean, no program. -/
namespace Go.Vc
open Go Go.RowKit

inductive Ex where
  | mk (op : Int) (name : ByteArray) (v : Val) (kids : List Ex)
def Ex.op : Ex → Int | .mk o _ _ _ => o
def Ex.name : Ex → ByteArray | .mk _ n _ _ => n
def Ex.v : Ex → Val | .mk _ _ v _ => v
def Ex.kids : Ex → List Ex | .mk _ _ _ k => k

mutual
def ExAt (w : World) : Ex → List Value → Prop
  | .mk op name v kids, cs => ∃ (p : Option Addr) (n c : Nat) (css : List (List Value)), cs = [.int .i64 op, .string name, .int .i64 v.k, .int .i64 v.n, .string v.s, .slice p n c] ∧ (n ≤ c ∧ c ≤ maxLen) ∧ (p = none → n = 0 ∧ c = 0) ∧ css.length = n ∧
      (∀ x ∈ css, x.length = 6) ∧ At w p css.flatten ∧ ExsAt w kids css
def ExsAt (w : World) : List Ex → List (List Value) → Prop
  | [], [] => True
  | x :: xs, c :: cs => ExAt w x c ∧ ExsAt w xs cs
  | [], _ :: _ => False
  | _ :: _, [] => False
end

theorem ExsAt.length {w : World} : ∀ {xs : List Ex} {css : List (List Value)}, ExsAt w xs css → css.length = xs.length
  | [], [], _ => rfl
  | x :: xs, c :: cs, h => by
    unfold ExsAt at h
    simp [ExsAt.length h.2]
  | [], _ :: _, h => by unfold ExsAt at h; exact h.elim
  | _ :: _, [], h => by unfold ExsAt at h; exact h.elim
theorem ExsAt.get {w : World} : ∀ {xs : List Ex} {css : List (List Value)}, ExsAt w xs css → ∀ {i : Nat} {x : Ex}, xs[i]? = some x → ∃ c, css[i]? = some c ∧ ExAt w x c
  | [], [], _, i, x, hx => by simp at hx
  | x :: xs, c :: cs, h, i, y, hy => by
    unfold ExsAt at h
    cases i with
    | zero => cases hy; exact ⟨c, rfl, h.1⟩
    | succ i =>
      obtain ⟨c', h1, h2⟩ := ExsAt.get h.2 (i := i) (by simpa using hy)
      exact ⟨c', by simpa using h1, h2⟩
  | [], _ :: _, h, _, _, _ => by unfold ExsAt at h; exact h.elim
  | _ :: _, [], h, _, _, _ => by unfold ExsAt at h; exact h.elim
mutual
theorem ExAt.ext {w w' : World} (e : Ext w w') : ∀ {x : Ex} {cs : List Value}, ExAt w x cs → ExAt w' x cs
  | .mk op name v kids, cs, h => by
    unfold ExAt at h ⊢
    obtain ⟨p, n, c, css, h1, h2, h3, h4, h5, h6, h7⟩ := h
    exact ⟨p, n, c, css, h1, h2, h3, h4, h5, h6.ext e, ExsAt.ext e h7⟩
theorem ExsAt.ext {w w' : World} (e : Ext w w') : ∀ {xs : List Ex} {css : List (List Value)}, ExsAt w xs css → ExsAt w' xs css
  | [], [], _ => by unfold ExsAt; trivial
  | x :: xs, c :: cs, h => by
    unfold ExsAt at h ⊢
    exact ⟨ExAt.ext e h.1, ExsAt.ext e h.2⟩
  | [], _ :: _, h => by unfold ExsAt at h; exact h.elim
  | _ :: _, [], h => by unfold ExsAt at h; exact h.elim
end
/-- An expression's cells, and its kids. -/
theorem ExAt.cells {w : World} {x : Ex} {cs : List Value} (h : ExAt w x cs) : ∃ (p : Option Addr) (n c : Nat), cs = [.int .i64 x.op, .string x.name, .int .i64 x.v.k, .int .i64 x.v.n, .string x.v.s, .slice p n c] ∧ (n ≤ c ∧ c ≤ maxLen) ∧ x.kids.length = n ∧ (p = none → n = 0 ∧ c = 0) ∧
    ∀ {w' : World}, Ext w w' → ∀ {i : Nat} {k : Ex}, x.kids[i]? = some k → ∃ kc b o, ExAt w' k kc ∧ p = some ⟨b, o, none⟩ ∧ ∀ (j : Nat) v, kc[j]? = some v → w'.cell? ⟨b, o + (i * 6 + j), none⟩ = some v := by
  obtain ⟨op, name, v, kids⟩ := x
  unfold ExAt at h
  obtain ⟨p, n, c, css, h1, h2, h3, h4, h5, h6, h7⟩ := h
  refine ⟨p, n, c, h1, h2, by rw [← h4, h7.length]; rfl, h3, fun {w'} e {i} {k} hk => ?_⟩
  obtain ⟨kc, hkc, hx⟩ := h7.get hk
  rcases h6 with h6 | ⟨b, o, hp, hc⟩
  · exfalso
    have hl := h5 kc (List.mem_of_getElem? hkc)
    have := flatten_get (css := css) (s := 6) h5 (i := i) (j := 0) (by decide)
    rw [h6, hkc] at this
    have h0 : kc[0]? = some (kc[0]'(by omega)) := List.getElem?_eq_getElem _
    simp [h0] at this
  · refine ⟨kc, b, o, hx.ext e, hp, fun j v hv => cell_ext (hc _ _ ?_) e⟩
    have hj : j < 6 := by rw [← h5 kc (List.mem_of_getElem? hkc)]; exact (List.getElem?_eq_some_iff.1 hv).1
    rw [flatten_get h5 hj, hkc]
    exact hv

/-! ### Which are well formed -/
def manyOf (op : Int) : Int := if op = 1 ∨ op = 2 then 0 else if op = 8 ∨ op = 14 ∨ op = 15 ∨ op = 16 then 1 else if 3 ≤ op ∧ op ≤ 13 then 2 else -1
def NodeOk (x : Ex) : Prop := (x.kids.length : Int) = manyOf x.op ∧ (x.op = 1 ∨ x.name = ⟨#[]⟩) ∧ (x.op = 2 ∨ x.v = nullV) ∧ x.v.Ok
instance (x : Ex) : Decidable (NodeOk x) := by unfold NodeOk; exact inferInstance
mutual
def nodesT : Ex → List Ex
  | .mk o n v ks => .mk o n v ks :: nodesTs ks
def nodesTs : List Ex → List Ex
  | [] => []
  | k :: r => nodesT k ++ nodesTs r
end
mutual
def depthT : Ex → Nat
  | .mk _ _ _ ks => 1 + depthTs ks
def depthTs : List Ex → Nat
  | [] => 0
  | k :: r => max (depthT k) (depthTs r)
end
def FormedP (x : Ex) : Prop := (∀ y ∈ nodesT x, NodeOk y) ∧ depthT x ≤ 40 ∧ (nodesT x).length ≤ 400
instance (x : Ex) : Decidable (FormedP x) := by unfold FormedP; exact inferInstance
def formedB (x : Ex) : Bool := decide (FormedP x)

mutual
/-- The program's walk: no deeper than may be. -/
def walkT : Ex → Nat → List (Nat × Ex)
  | .mk o n v ks, d => (d, .mk o n v ks) :: (if 40 < d then [] else walkTs ks (d + 1))
def walkTs : List Ex → Nat → List (Nat × Ex)
  | [], _ => []
  | k :: r, d => walkT k d ++ walkTs r d
end
def goW : List (Nat × Ex) → Nat → Bool
  | [], _ => true
  | p :: r, m => if 40 < p.1 ∨ 400 < m + 1 ∨ ¬ NodeOk p.2 then false else goW r (m + 1)
theorem goW_iff : ∀ (l : List (Nat × Ex)) (m : Nat), m ≤ 400 → (goW l m = true ↔ (∀ p ∈ l, p.1 ≤ 40 ∧ NodeOk p.2) ∧ m + l.length ≤ 400)
  | [], m, hm => by simp [goW, hm]
  | p :: r, m, hm => by
    unfold goW
    split
    · rename_i h
      constructor
      · intro h'; cases h'
      · rintro ⟨h1, h2⟩
        have := h1 p (by simp)
        simp only [List.length_cons] at h2
        rcases h with h | h | h
        · omega
        · omega
        · exact absurd this.2 h
    · rename_i h
      have h1 : p.1 ≤ 40 := by omega
      have h2 : m + 1 ≤ 400 := by omega
      have h3 : NodeOk p.2 := Decidable.not_not.1 fun hn => h (.inr (.inr hn))
      rw [goW_iff r (m + 1) h2]
      simp only [List.length_cons, List.mem_cons, forall_eq_or_imp]
      constructor
      · rintro ⟨a, b⟩; exact ⟨⟨⟨h1, h3⟩, a⟩, by omega⟩
      · rintro ⟨⟨_, a⟩, b⟩; exact ⟨a, by omega⟩
mutual
theorem walkT_spec : ∀ (x : Ex) (d : Nat), ((∀ p ∈ walkT x d, p.1 ≤ 40) ↔ d + depthT x ≤ 41) ∧ (d + depthT x ≤ 41 → (walkT x d).map (·.2) = nodesT x)
  | .mk o n v ks, d => by
    have hk := walkTs_spec ks (d + 1)
    unfold walkT depthT nodesT
    by_cases hd : 40 < d
    · rw [if_pos hd]
      refine ⟨⟨fun h => ?_, fun h => ?_⟩, fun h => ?_⟩
      · have := h (d, .mk o n v ks) (by simp); simp at this; omega
      · omega
      · omega
    · rw [if_neg hd]
      refine ⟨⟨fun h => ?_, fun h => ?_⟩, fun h => ?_⟩
      · have := hk.1 fun p hp => h p (by simp [hp])
        omega
      · intro p hp
        rcases List.mem_cons.1 hp with rfl | hp
        · simp; omega
        · exact hk.2.1 (.inr (by omega)) p hp
      · rw [List.map_cons, hk.2.2 (.inr (by omega))]
theorem walkTs_spec : ∀ (xs : List Ex) (d : Nat), ((∀ p ∈ walkTs xs d, p.1 ≤ 40) → depthTs xs = 0 ∨ d + depthTs xs ≤ 41) ∧ ((depthTs xs = 0 ∨ d + depthTs xs ≤ 41) → ∀ p ∈ walkTs xs d, p.1 ≤ 40) ∧ ((depthTs xs = 0 ∨ d + depthTs xs ≤ 41) → (walkTs xs d).map (·.2) = nodesTs xs)
  | [], d => by simp [walkTs, depthTs, nodesTs]
  | k :: r, d => by
    have h1 := walkT_spec k d
    have h2 := walkTs_spec r d
    have hpos : 1 ≤ depthT k := by cases k; unfold depthT; omega
    unfold walkTs depthTs nodesTs
    refine ⟨fun h => ?_, fun h => ?_, fun h => ?_⟩
    · have a := h1.1.1 fun p hp => h p (List.mem_append_left _ hp)
      have b := h2.1 fun p hp => h p (List.mem_append_right _ hp)
      omega
    · intro p hp
      rcases List.mem_append.1 hp with hp | hp
      · exact h1.1.2 (by omega) p hp
      · exact h2.2.1 (by omega) p hp
    · rw [List.map_append, h1.2 (by omega), h2.2.2 (by omega)]
end
theorem goW_formed (x : Ex) : goW (walkT x 1) 0 = formedB x := by
  obtain ⟨h1, h2⟩ := walkT_spec x 1
  unfold formedB
  rw [Bool.eq_iff_iff, goW_iff _ _ (by omega), decide_eq_true_eq]
  unfold FormedP
  constructor
  · rintro ⟨a, b⟩
    have hd := h1.1 fun p hp => (a p hp).1
    have hm := h2 hd
    refine ⟨fun y hy => ?_, by omega, ?_⟩
    · rw [← hm] at hy
      obtain ⟨p, hp, rfl⟩ := List.mem_map.1 hy
      exact (a p hp).2
    · rw [← hm, List.length_map]; omega
  · rintro ⟨a, b, c⟩
    have hd : 1 + depthT x ≤ 41 := by omega
    have hm := h2 hd
    refine ⟨fun p hp => ⟨h1.2 hd p hp, a _ ?_⟩, ?_⟩
    · rw [← hm]; exact List.mem_map.2 ⟨p, hp, rfl⟩
    · rw [← hm, List.length_map] at c; omega

mutual
/-- The document's look: how many nodes are left; below 0: no. -/
def refF : Ex → Int → Int → Int
  | .mk o n v ks, d, left => if d < 1 ∨ left < 1 ∨ ¬ NodeOk (.mk o n v ks) then -1 else refFs ks (d - 1) (left - 1)
def refFs : List Ex → Int → Int → Int
  | [], _, left => left
  | k :: r, d, left => if left < 0 then left else refFs r d (refF k d left)
end
mutual
theorem refF_spec : ∀ (x : Ex) (d left : Int), (0 ≤ refF x d left ↔ (∀ y ∈ nodesT x, NodeOk y) ∧ (depthT x : Int) ≤ d ∧ ((nodesT x).length : Int) ≤ left) ∧ (0 ≤ refF x d left → refF x d left = left - (nodesT x).length)
  | .mk o n v ks, d, left => by
    have hk := refFs_spec ks (d - 1) (left - 1)
    unfold refF depthT nodesT
    simp only [List.length_cons, List.mem_cons, forall_eq_or_imp]
    split
    · rename_i h
      refine ⟨⟨fun h' => absurd h' (by decide), ?_⟩, fun h' => absurd h' (by decide)⟩
      rintro ⟨⟨a, _⟩, b, c⟩
      exfalso
      rcases h with h | h | h
      · omega
      · omega
      · exact h a
    · rename_i h
      have h1 : 1 ≤ d := by omega
      have h2 : 1 ≤ left := by omega
      have h3 : NodeOk (.mk o n v ks) := Decidable.not_not.1 fun hn => h (.inr (.inr hn))
      refine ⟨?_, fun h' => by rw [hk.2 h']; omega⟩
      rw [hk.1 (by omega)]
      constructor
      · rintro ⟨a, b, c⟩; exact ⟨⟨h3, a⟩, by omega, by omega⟩
      · rintro ⟨⟨_, a⟩, b, c⟩; exact ⟨a, by omega, by omega⟩
theorem refFs_spec : ∀ (xs : List Ex) (d left : Int), (0 ≤ left → (0 ≤ refFs xs d left ↔ (∀ y ∈ nodesTs xs, NodeOk y) ∧ (depthTs xs : Int) ≤ max d 0 ∧ ((nodesTs xs).length : Int) ≤ left)) ∧ (0 ≤ refFs xs d left → refFs xs d left = left - (nodesTs xs).length)
  | [], d, left => by
    unfold refFs nodesTs depthTs
    refine ⟨fun h => ⟨fun _ => ⟨by simp, by omega, by simpa using h⟩, fun _ => h⟩, fun _ => by simp⟩
  | k :: r, d, left => by
    have h1 := refF_spec k d left
    have h2 := refFs_spec r d (refF k d left)
    have hpos : 1 ≤ depthT k := by cases k; unfold depthT; omega
    have neg : refF k d left < 0 → refFs r d (refF k d left) < 0 := fun hn => by
      cases r with
      | nil => unfold refFs; exact hn
      | cons a b => unfold refFs; rw [if_pos hn]; exact hn
    unfold refFs nodesTs depthTs
    simp only [List.length_append, List.mem_append]
    refine ⟨fun hl => ?_, fun h => ?_⟩
    · rw [if_neg (by omega)]
      constructor
      · intro h
        have hk : 0 ≤ refF k d left := by
          rcases Int.lt_or_le (refF k d left) 0 with hlt | hge
          · have := neg hlt; omega
          · exact hge
        obtain ⟨a1, a2, a3⟩ := h1.1.1 hk
        obtain ⟨b1, b2, b3⟩ := (h2.1 hk).1 h
        have e := h1.2 hk
        refine ⟨fun y hy => ?_, by omega, by omega⟩
        rcases hy with hy | hy
        · exact a1 y hy
        · exact b1 y hy
      · rintro ⟨a, b, c⟩
        have hk : 0 ≤ refF k d left := h1.1.2 ⟨fun y hy => a y (.inl hy), by omega, by omega⟩
        have e := h1.2 hk
        exact (h2.1 hk).2 ⟨fun y hy => a y (.inr hy), by omega, by omega⟩
    · split at h
      · omega
      · rename_i hge
        rw [if_neg hge]
        have hk : 0 ≤ refF k d left := by
          rcases Int.lt_or_le (refF k d left) 0 with hlt | hge
          · have := neg hlt; omega
          · exact hge
        have e := h1.2 hk
        rw [h2.2 h]
        omega
end
theorem refF_formed (x : Ex) : decide (0 ≤ refF x 40 400) = formedB x := by
  unfold formedB
  rw [decide_eq_decide, (refF_spec x 40 400).1]
  unfold FormedP
  constructor
  · rintro ⟨a, b, c⟩; exact ⟨a, by omega, by omega⟩
  · rintro ⟨a, b, c⟩; exact ⟨a, by omega, by omega⟩
/-- An expression's cells. -/
theorem ExAt.six {w : World} {x : Ex} {cs : List Value} (h : ExAt w x cs) : ∃ (p : Option Addr) (n c : Nat), cs = [.int .i64 x.op, .string x.name, .int .i64 x.v.k, .int .i64 x.v.n, .string x.v.s, .slice p n c] ∧ x.kids.length = n ∧ n ≤ 9223372036854775807 ∧
    ∀ {w' : World}, Ext w w' → ∀ {i : Nat} {k : Ex}, x.kids[i]? = some k → ∃ kc b o, ExAt w k kc ∧ p = some ⟨b, o, none⟩ ∧ ∀ (j : Nat) v, kc[j]? = some v → w'.cell? ⟨b, o + i * 6 + j, none⟩ = some v := by
  obtain ⟨p, n, c, h1, h2, h3, h4, h5⟩ := h.cells
  refine ⟨p, n, c, h1, h3, Nat.le_trans h2.1 h2.2, fun {w'} e {i} {k} hk => ?_⟩
  obtain ⟨kc, b, o, a1, a2, a3⟩ := h5 Ext.rfl hk
  exact ⟨kc, b, o, a1, a2, fun j v hv => by rw [Nat.add_assoc]; exact cell_ext (a3 j v hv) e⟩

theorem depthTs_get : ∀ {l : List Ex} {i : Nat} {k : Ex}, l[i]? = some k → depthT k ≤ depthTs l
  | [], i, k, h => by simp at h
  | x :: r, i, k, h => by
    unfold depthTs
    cases i with
    | zero => cases h; omega
    | succ i => have := depthTs_get (l := r) (i := i) (by simpa using h); omega
theorem walkTs_take {l : List Ex} {i : Nat} {k : Ex} (d : Nat) (h : l[i]? = some k) : walkTs (l.take (i + 1)) d = walkTs (l.take i) d ++ walkT k d := by
  induction l generalizing i with
  | nil => simp at h
  | cons x r ih =>
    cases i with
    | zero => cases h; simp [walkTs]
    | succ i => simp [walkTs, ih (i := i) (by simpa using h)]
theorem walkTs_pre {l : List Ex} (i : Nat) (d : Nat) : ∃ r, walkTs l d = walkTs (l.take i) d ++ r := by
  induction l generalizing i with
  | nil => exact ⟨[], by simp [walkTs]⟩
  | cons x r ih =>
    cases i with
    | zero => exact ⟨walkTs (x :: r) d, by simp [walkTs]⟩
    | succ i => obtain ⟨q, hq⟩ := ih i; exact ⟨q, by simp [walkTs, hq]⟩
theorem walkTs_at {l : List Ex} {i : Nat} {k : Ex} {d j : Nat} {p : Nat × Ex} (h : l[i]? = some k) (hp : (walkT k d)[j]? = some p) : (walkTs l d)[(walkTs (l.take i) d).length + j]? = some p := by
  obtain ⟨r, hr⟩ := walkTs_pre (l := l) (i + 1) d
  rw [hr, walkTs_take d h, List.append_assoc, List.getElem?_append_right (by omega), Nat.add_sub_cancel_left, List.getElem?_append_left (List.getElem?_eq_some_iff.1 hp).1, hp]


/-! ### The table of shapes -/
def wantOf (op : Int) : Int := if 3 ≤ op ∧ op ≤ 8 then 1 else if 12 ≤ op ∧ op ≤ 14 then 2 else if op = 16 then 3 else 0
def kindOf (op : Int) : Int := if 3 ≤ op ∧ op ≤ 8 ∨ op = 16 then 1 else if 9 ≤ op ∧ op ≤ 15 then 2 else 0
def shapeC (i : Nat) : List Value := [.int .i64 (manyOf i), .int .i64 (wantOf i), .int .i64 (kindOf i)]
def shapesA : Array Value := ((List.range 17).flatMap shapeC).toArray
theorem shapes_at {i : Nat} (h : i < 17) : shapesA[i * 3]? = some (.int .i64 (manyOf i)) ∧ shapesA[i * 3 + 1]? = some (.int .i64 (wantOf i)) ∧ shapesA[i * 3 + 2]? = some (.int .i64 (kindOf i)) := by
  have hi : (List.range 17)[i]? = some i := List.getElem?_range h
  have hs : ∀ x, (shapeC x).length = 3 := fun x => rfl
  have key : ∀ j : Nat, j < 3 → shapesA[i * 3 + j]? = (shapeC i)[j]? := fun j hj => by
    have := flatMap_get hs hi hj
    unfold shapesA
    rw [List.getElem?_toArray]; exact this
  exact ⟨key 0 (by decide), key 1 (by decide), key 2 (by decide)⟩
theorem many_range {op : Int} (h : 0 ≤ manyOf op) : 1 ≤ op ∧ op ≤ 16 := by
  unfold manyOf at h
  split at h
  · omega
  · split at h
    · omega
    · split at h <;> omega
end Go.Vc

/- The frame, its blocks in any order; blocks for deferred calls that are not known one by one. -/
namespace Go.Vc
open Go Go.RowKit

section
variable {w0 W W' : World} {fs fs' gs : List (Nat × Obj)} {B d : Nat} {ds : List Nat} {ms : List Row}

theorem Hold.mem (h : Hold w0 W fs ms) {x : Nat × Obj} (hx : x ∈ fs) : W.heap[x.1]? = some x.2 := by
  obtain ⟨i, hi⟩ := List.mem_iff_getElem?.1 hx
  exact h.holds i x hi
theorem Hold.ltM (h : Hold w0 W fs ms) {x : Nat × Obj} (hx : x ∈ fs) : x.1 < W.heap.size := (Array.getElem?_eq_some_iff.1 (h.mem hx)).1
theorem Hold.blkM {b : Nat} {cs : Array Value} {t : TypeId} (h : Hold w0 W fs ms) (hx : (b, Obj.cells cs t (0, 0)) ∈ fs) : Blk W b t cs := h.mem hx
theorem Hold.nodup (h : Hold w0 W fs ms) : (fs.map (·.1)).Nodup := by
  rw [List.Nodup, List.pairwise_iff_getElem]
  intro i j hi hj hij
  simp only [List.getElem_map]
  simp only [List.length_map] at hi hj
  exact h.keys i j _ _ (List.getElem?_eq_getElem hi) (List.getElem?_eq_getElem hj) (by omega)
theorem Hold.make (e : Ext w0 W) (h : ∀ x ∈ fs, w0.heap.size ≤ x.1 ∧ W.heap[x.1]? = some x.2) (hn : (fs.map (·.1)).Nodup) : Hold w0 W fs [] := by
  refine ⟨e, fun x hx => (h x hx).1, fun i x hx => (h x (List.mem_of_getElem? hx)).2, fun i j x y hx hy hij => ?_, by simp, by simp, by simp⟩
  rw [List.Nodup, List.pairwise_iff_getElem] at hn
  obtain ⟨hi, rfl⟩ := List.getElem?_eq_some_iff.1 hx
  obtain ⟨hj, rfl⟩ := List.getElem?_eq_some_iff.1 hy
  rcases Nat.lt_or_ge i j with hlt | hge
  · have := hn i j (by simpa) (by simpa) hlt
    rwa [List.getElem_map, List.getElem_map] at this
  · have := hn j i (by simpa) (by simpa) (by omega)
    rw [List.getElem_map, List.getElem_map] at this
    exact this.symm
theorem Hold.perm (h : Hold w0 W fs []) (hp : fs.Perm fs') : Hold w0 W fs' [] :=
  Hold.make h.ext (fun x hx => ⟨h.ge x (hp.mem_iff.2 hx), h.mem (hp.mem_iff.2 hx)⟩) ((hp.map _).nodup_iff.1 h.nodup)
theorem Hold.sub (h : Hold w0 W fs []) (hp : fs'.Sublist fs) : Hold w0 W fs' [] :=
  Hold.make h.ext (fun x hx => ⟨h.ge x (hp.subset hx), h.mem (hp.subset hx)⟩) (h.nodup.sublist (hp.map _))
theorem Hold.swap {a b c : List (Nat × Obj)} (h : Hold w0 W ((a ++ b) ++ c) []) : Hold w0 W (b ++ (a ++ c)) [] := by
  rw [← List.append_assoc]
  exact h.perm (List.perm_append_comm.append_right c)
theorem Hold.left {a b : List (Nat × Obj)} (h : Hold w0 W (a ++ b) []) : Hold w0 W a [] := h.sub (List.sublist_append_left _ _)
theorem Hold.right {a b : List (Nat × Obj)} (h : Hold w0 W (a ++ b) []) : Hold w0 W b [] := h.sub (List.sublist_append_right _ _)
theorem Hold.but {b : Nat} (h : Hold w0 W fs []) (e : But b W W') (hb : w0.heap.size ≤ b) (hf : ∀ x ∈ fs, x.1 ≠ b) : Hold w0 W' fs [] :=
  Hold.make (h.ext.below.but e hb h.size) (fun x hx => ⟨h.ge x hx, (e.block _ (h.ltM hx) (hf x hx)).trans (h.mem hx)⟩) h.nodup

/-- Open blocks as held ones. -/
def dfs (ds : List Nat) : List (Nat × Obj) := ds.map fun d => (d, .deferred (some []))
theorem dfs_cons (d : Nat) (ds : List Nat) : dfs (d :: ds) = (d, .deferred (some [])) :: dfs ds := rfl
theorem Hold.addOpen (h : Hold w0 W fs []) (ho : Go.Vc.Open B ds W) (hB : w0.heap.size ≤ B) (hf : ∀ x ∈ fs, x.1 < B ∨ x.2 ≠ .deferred (some [])) : Hold w0 W (dfs ds ++ fs) [] := by
  refine Hold.make h.ext (fun x hx => ?_) ?_
  · rcases List.mem_append.1 hx with hx | hx
    · obtain ⟨d, hd, rfl⟩ := List.mem_map.1 hx
      obtain ⟨h1, h2⟩ := ho.2 d hd
      exact ⟨Nat.le_trans hB h1, h2⟩
    · exact ⟨h.ge x hx, h.mem hx⟩
  · rw [List.map_append, List.nodup_append]
    refine ⟨?_, h.nodup, ?_⟩
    · have : (dfs ds).map (·.1) = ds := by unfold dfs; rw [List.map_map]; exact List.map_id _
      rw [this]; exact ho.1
    · intro a ha b hb
      obtain ⟨x, hx, rfl⟩ := List.mem_map.1 ha
      obtain ⟨d, hd, rfl⟩ := List.mem_map.1 hx
      obtain ⟨y, hy, rfl⟩ := List.mem_map.1 hb
      intro e
      simp only at e
      obtain ⟨h1, h2⟩ := ho.2 d hd
      rcases hf y hy with hlt | hne
      · omega
      · have := h.mem hy
        rw [← e, h2] at this
        exact hne (Option.some.inj this).symm
theorem Hold.opened (h : Hold w0 W (dfs ds ++ fs) []) (hB : ∀ d ∈ ds, B ≤ d) : Go.Vc.Open B ds W := by
  constructor
  · have := h.left.nodup
    have e : (dfs ds).map (·.1) = ds := by unfold dfs; rw [List.map_map]; exact List.map_id _
    rwa [e] at this
  · intro d hd
    exact ⟨hB d hd, h.mem (x := (d, .deferred (some []))) (List.mem_append_left _ (List.mem_map.2 ⟨d, hd, rfl⟩))⟩
/-- The open blocks are taken: what is held below them is as it was. -/
theorem unD_hold {F : World → Prop} (hB : w0.heap.size ≤ B) (hf : ∀ x ∈ fs, x.1 < B) (hF : ∀ W', Hold w0 W' fs [] → F W') : ∀ (ds : List Nat) (W : World), Go.Vc.Open B ds W → Hold w0 W fs [] → unD ds W F := by
  intro ds
  induction ds with
  | nil => intro W _ h; exact hF W h
  | cons d r ih =>
    intro W ho h
    obtain ⟨h1, h2⟩ := ho.2 d (by simp)
    have hn := List.nodup_cons.1 ho.1
    refine ⟨h2, ih _ ⟨hn.2, fun x hx => ?_⟩ (h.but shut_but.1 (by omega) fun x hx e => ?_)⟩
    · obtain ⟨k1, k2⟩ := ho.2 x (by simp [hx])
      refine ⟨k1, (shut_but.1.block x (Array.getElem?_eq_some_iff.1 k2).1 fun e => ?_).trans k2⟩
      subst e; exact hn.1 hx
    · have := hf x hx; omega
end

theorem Blk.c6 {w : World} {b : Nat} {t : TypeId} {x y z u v q : Value} (h : Blk w b t #[x, y, z, u, v, q]) : w.cell? ⟨b, 0, none⟩ = some x ∧ w.cell? ⟨b, 1, none⟩ = some y ∧ w.cell? ⟨b, 2, none⟩ = some z ∧
    w.cell? ⟨b, 3, none⟩ = some u ∧ w.cell? ⟨b, 4, none⟩ = some v ∧ w.cell? ⟨b, 5, none⟩ = some q := by
  refine ⟨?_, ?_, ?_, ?_, ?_, ?_⟩ <;> (rw [h.cell]; rfl)
/-- A block of six cells can be written. -/
theorem Blk.w6 {w : World} {b : Nat} {t : TypeId} {x y z u v q : Value} (h : Blk w b t #[x, y, z, u, v, q]) {X : Prop} (hX : X) : (∃ u, w.cell? ⟨b, 0, none⟩ = some u) ∧ w.frozen? ⟨b, 0, none⟩ = false ∧ (∃ u, w.cell? ⟨b, 1, none⟩ = some u) ∧ w.frozen? ⟨b, 1, none⟩ = false ∧
    (∃ u, w.cell? ⟨b, 2, none⟩ = some u) ∧ w.frozen? ⟨b, 2, none⟩ = false ∧ (∃ u, w.cell? ⟨b, 3, none⟩ = some u) ∧ w.frozen? ⟨b, 3, none⟩ = false ∧ (∃ u, w.cell? ⟨b, 4, none⟩ = some u) ∧ w.frozen? ⟨b, 4, none⟩ = false ∧
    (∃ u, w.cell? ⟨b, 5, none⟩ = some u) ∧ w.frozen? ⟨b, 5, none⟩ = false ∧ X := by
  obtain ⟨a0, a1, a2, a3, a4, a5⟩ := h.c6
  exact ⟨⟨_, a0⟩, h.frozen _, ⟨_, a1⟩, h.frozen _, ⟨_, a2⟩, h.frozen _, ⟨_, a3⟩, h.frozen _, ⟨_, a4⟩, h.frozen _, ⟨_, a5⟩, h.frozen _, hX⟩
end Go.Vc
namespace Go.Vc
open Go Go.RowKit
/-- A value of three cells is written into a variable and read out of it. -/
theorem Hold.ret3 {w0 W : World} {fs : List (Nat × Obj)} {ms : List Row} {b : Nat} {t : TypeId} {x y z : Value} {X : Int → Int → ByteArray → World → Prop} (H : Hold w0 W fs ms) (i : Nat) (hi : fs[i]? = some (b, .cells #[x, y, z] t (0, 0))) (k n : Int) (s : ByteArray)
    (hX : ∀ W', Ext w0 W' → X k n s W') : (∃ u, W.cell? ⟨b, 0, none⟩ = some u) ∧ W.frozen? ⟨b, 0, none⟩ = false ∧ (∃ u, W.cell? ⟨b, 1, none⟩ = some u) ∧ W.frozen? ⟨b, 1, none⟩ = false ∧ (∃ u, W.cell? ⟨b, 2, none⟩ = some u) ∧ W.frozen? ⟨b, 2, none⟩ = false ∧
    ∀ W' : World, Put W b 0 [.int .i64 k, .int .i64 n, .string s] W' → ∃ k' : Int, W'.cell? ⟨b, 0, none⟩ = some (.int .i64 k') ∧ ∃ n' : Int, W'.cell? ⟨b, 1, none⟩ = some (.int .i64 n') ∧ ∃ s' : ByteArray, W'.cell? ⟨b, 2, none⟩ = some (.string s') ∧ X k' n' s' W' := by
  have B := H.blk i hi
  have c0 : W.cell? ⟨b, 0, none⟩ = some x := by rw [B.cell]; rfl
  have c1 : W.cell? ⟨b, 1, none⟩ = some y := by rw [B.cell]; rfl
  have c2 : W.cell? ⟨b, 2, none⟩ = some z := by rw [B.cell]; rfl
  refine ⟨⟨_, c0⟩, B.frozen _, ⟨_, c1⟩, B.frozen _, ⟨_, c2⟩, B.frozen _, fun W' h => ?_⟩
  have H' := H.put i hi h
  have B' : Blk W' b t #[.int .i64 k, .int .i64 n, .string s] := B.put h
  exact ⟨k, by rw [B'.cell]; rfl, n, by rw [B'.cell]; rfl, s, by rw [B'.cell]; rfl, hX W' H'.ext⟩
end Go.Vc

/- The verification conditions of the functions, evaluated: printed by program. -/
namespace Go.Proofs.YtdephmdfdgclpaaDoor
open Go Go.Vc

set_option maxRecDepth 100000 in
def vright_T (v0 : Int) (v1 : Int) (v2 : ByteArray) (w : World) (R : Ending → World → Prop) : Prop :=
  ∀ (b1 : Nat) (w'2 : World),
 New w (Obj.cells #[Value.int IntKind.i64 v0, Value.int IntKind.i64 v1, Value.string v2] 26) b1 w'2 →
 ∃ (n4 : Int),
 w'2.cell? (Addr.mk b1 0 none) = some (Value.int IntKind.i64 n4) ∧
 ∀ (b5 : Nat) (w'6 : World),
 New w'2 (Obj.cells #[Value.int IntKind.i64 0, Value.int IntKind.i64 0, Value.string (ByteArray.mk #[])] 26) b5 w'6 →
 (∃ (u8 : Value), w'6.cell? (Addr.mk b5 0 none) = some u8) ∧
 w'6.frozen? (Addr.mk b5 0 none) = false ∧
 (∃ (u9 : Value), w'6.cell? (Addr.mk b5 1 none) = some u9) ∧
 w'6.frozen? (Addr.mk b5 1 none) = false ∧
 (∃ (u10 : Value), w'6.cell? (Addr.mk b5 2 none) = some u10) ∧
 w'6.frozen? (Addr.mk b5 2 none) = false ∧
 ∀ (w'11 : World),
 Put w'6 b5 0 [Value.int IntKind.i64 n4, Value.int IntKind.i64 0, Value.string (ByteArray.mk #[])] w'11 →
 ∃ (n13 : Int),
 w'11.cell? (Addr.mk b1 0 none) = some (Value.int IntKind.i64 n13) ∧
 (n13 = 0 →
 ∃ (n15 : Int),
 w'11.cell? (Addr.mk b1 0 none) = some (Value.int IntKind.i64 n15) ∧
 (0 ≤ n15 →
 ∃ (n17 : Int),
 w'11.cell? (Addr.mk b1 0 none) = some (Value.int IntKind.i64 n17) ∧
 (n17 < 4 →
 ∃ (n19 : Int),
 w'11.cell? (Addr.mk b1 0 none) = some (Value.int IntKind.i64 n19) ∧
 ∃ (n20 : Int),
 w'11.cell? (Addr.mk b1 1 none) = some (Value.int IntKind.i64 n20) ∧
 ∃ (s21 : ByteArray),
 w'11.cell? (Addr.mk b1 2 none) = some (Value.string s21) ∧
 ∃ (n22 : Int),
 w'11.cell? (Addr.mk b5 0 none) = some (Value.int IntKind.i64 n22) ∧
 ∃ (n23 : Int),
 w'11.cell? (Addr.mk b5 1 none) = some (Value.int IntKind.i64 n23) ∧
 ∃ (s24 : ByteArray),
 w'11.cell? (Addr.mk b5 2 none) = some (Value.string s24) ∧
 (n19 = n22 ∧ n20 = n23 ∧ s21 = s24 →
 ∃ (s26 : ByteArray), w'11.cell? (Addr.mk b1 2 none) = some (Value.string s26) ∧ R (Ending.returned (Value.bool (decide ((↑s26.size : Int) ≤ 1024)))) w'11) ∧
 (n19 ≠ n22 ∨ n20 ≠ n23 ∨ s21 ≠ s24 → R (Ending.returned (Value.bool false)) w'11)) ∧
 (4 ≤ n17 → R (Ending.returned (Value.bool false)) w'11)) ∧
 (n15 < 0 → R (Ending.returned (Value.bool false)) w'11)) ∧
 (n13 ≠ 0 →
 (n13 = 1 →
 ∃ (n32 : Int),
 w'11.cell? (Addr.mk b1 1 none) = some (Value.int IntKind.i64 n32) ∧
 (∃ (u33 : Value), w'11.cell? (Addr.mk b5 1 none) = some u33) ∧
 w'11.frozen? (Addr.mk b5 1 none) = false ∧
 ∀ (w'34 : World),
 Put w'11 b5 1 [Value.int IntKind.i64 n32] w'34 →
 ∃ (n36 : Int),
 w'34.cell? (Addr.mk b1 0 none) = some (Value.int IntKind.i64 n36) ∧
 (0 ≤ n36 →
 ∃ (n38 : Int),
 w'34.cell? (Addr.mk b1 0 none) = some (Value.int IntKind.i64 n38) ∧
 (n38 < 4 →
 ∃ (n40 : Int),
 w'34.cell? (Addr.mk b1 0 none) = some (Value.int IntKind.i64 n40) ∧
 ∃ (n41 : Int),
 w'34.cell? (Addr.mk b1 1 none) = some (Value.int IntKind.i64 n41) ∧
 ∃ (s42 : ByteArray),
 w'34.cell? (Addr.mk b1 2 none) = some (Value.string s42) ∧
 ∃ (n43 : Int),
 w'34.cell? (Addr.mk b5 0 none) = some (Value.int IntKind.i64 n43) ∧
 ∃ (n44 : Int),
 w'34.cell? (Addr.mk b5 1 none) = some (Value.int IntKind.i64 n44) ∧
 ∃ (s45 : ByteArray),
 w'34.cell? (Addr.mk b5 2 none) = some (Value.string s45) ∧
 (n40 = n43 ∧ n41 = n44 ∧ s42 = s45 →
 ∃ (s47 : ByteArray), w'34.cell? (Addr.mk b1 2 none) = some (Value.string s47) ∧ R (Ending.returned (Value.bool (decide ((↑s47.size : Int) ≤ 1024)))) w'34) ∧
 (n40 ≠ n43 ∨ n41 ≠ n44 ∨ s42 ≠ s45 → R (Ending.returned (Value.bool false)) w'34)) ∧
 (4 ≤ n38 → R (Ending.returned (Value.bool false)) w'34)) ∧
 (n36 < 0 → R (Ending.returned (Value.bool false)) w'34)) ∧
 (n13 ≠ 1 →
 (n13 = 2 →
 ∃ (n53 : Int),
 w'11.cell? (Addr.mk b1 1 none) = some (Value.int IntKind.i64 n53) ∧
 (∃ (u54 : Value), w'11.cell? (Addr.mk b5 1 none) = some u54) ∧
 w'11.frozen? (Addr.mk b5 1 none) = false ∧
 ∀ (w'55 : World),
 Put w'11 b5 1 [Value.int IntKind.i64 (bits BinOp.and IntKind.i64 n53 1)] w'55 →
 ∃ (n57 : Int),
 w'55.cell? (Addr.mk b1 0 none) = some (Value.int IntKind.i64 n57) ∧
 (0 ≤ n57 →
 ∃ (n59 : Int),
 w'55.cell? (Addr.mk b1 0 none) = some (Value.int IntKind.i64 n59) ∧
 (n59 < 4 →
 ∃ (n61 : Int),
 w'55.cell? (Addr.mk b1 0 none) = some (Value.int IntKind.i64 n61) ∧
 ∃ (n62 : Int),
 w'55.cell? (Addr.mk b1 1 none) = some (Value.int IntKind.i64 n62) ∧
 ∃ (s63 : ByteArray),
 w'55.cell? (Addr.mk b1 2 none) = some (Value.string s63) ∧
 ∃ (n64 : Int),
 w'55.cell? (Addr.mk b5 0 none) = some (Value.int IntKind.i64 n64) ∧
 ∃ (n65 : Int),
 w'55.cell? (Addr.mk b5 1 none) = some (Value.int IntKind.i64 n65) ∧
 ∃ (s66 : ByteArray),
 w'55.cell? (Addr.mk b5 2 none) = some (Value.string s66) ∧
 (n61 = n64 ∧ n62 = n65 ∧ s63 = s66 →
 ∃ (s68 : ByteArray), w'55.cell? (Addr.mk b1 2 none) = some (Value.string s68) ∧ R (Ending.returned (Value.bool (decide ((↑s68.size : Int) ≤ 1024)))) w'55) ∧
 (n61 ≠ n64 ∨ n62 ≠ n65 ∨ s63 ≠ s66 → R (Ending.returned (Value.bool false)) w'55)) ∧
 (4 ≤ n59 → R (Ending.returned (Value.bool false)) w'55)) ∧
 (n57 < 0 → R (Ending.returned (Value.bool false)) w'55)) ∧
 (n13 ≠ 2 →
 (n13 = 3 →
 ∃ (s74 : ByteArray),
 w'11.cell? (Addr.mk b1 2 none) = some (Value.string s74) ∧
 (∃ (u75 : Value), w'11.cell? (Addr.mk b5 2 none) = some u75) ∧
 w'11.frozen? (Addr.mk b5 2 none) = false ∧
 ∀ (w'76 : World),
 Put w'11 b5 2 [Value.string s74] w'76 →
 ∃ (n78 : Int),
 w'76.cell? (Addr.mk b1 0 none) = some (Value.int IntKind.i64 n78) ∧
 (0 ≤ n78 →
 ∃ (n80 : Int),
 w'76.cell? (Addr.mk b1 0 none) = some (Value.int IntKind.i64 n80) ∧
 (n80 < 4 →
 ∃ (n82 : Int),
 w'76.cell? (Addr.mk b1 0 none) = some (Value.int IntKind.i64 n82) ∧
 ∃ (n83 : Int),
 w'76.cell? (Addr.mk b1 1 none) = some (Value.int IntKind.i64 n83) ∧
 ∃ (s84 : ByteArray),
 w'76.cell? (Addr.mk b1 2 none) = some (Value.string s84) ∧
 ∃ (n85 : Int),
 w'76.cell? (Addr.mk b5 0 none) = some (Value.int IntKind.i64 n85) ∧
 ∃ (n86 : Int),
 w'76.cell? (Addr.mk b5 1 none) = some (Value.int IntKind.i64 n86) ∧
 ∃ (s87 : ByteArray),
 w'76.cell? (Addr.mk b5 2 none) = some (Value.string s87) ∧
 (n82 = n85 ∧ n83 = n86 ∧ s84 = s87 →
 ∃ (s89 : ByteArray), w'76.cell? (Addr.mk b1 2 none) = some (Value.string s89) ∧ R (Ending.returned (Value.bool (decide ((↑s89.size : Int) ≤ 1024)))) w'76) ∧
 (n82 ≠ n85 ∨ n83 ≠ n86 ∨ s84 ≠ s87 → R (Ending.returned (Value.bool false)) w'76)) ∧
 (4 ≤ n80 → R (Ending.returned (Value.bool false)) w'76)) ∧
 (n78 < 0 → R (Ending.returned (Value.bool false)) w'76)) ∧
 (n13 ≠ 3 →
 ∃ (n94 : Int),
 w'11.cell? (Addr.mk b1 0 none) = some (Value.int IntKind.i64 n94) ∧
 (0 ≤ n94 →
 ∃ (n96 : Int),
 w'11.cell? (Addr.mk b1 0 none) = some (Value.int IntKind.i64 n96) ∧
 (n96 < 4 →
 ∃ (n98 : Int),
 w'11.cell? (Addr.mk b1 0 none) = some (Value.int IntKind.i64 n98) ∧
 ∃ (n99 : Int),
 w'11.cell? (Addr.mk b1 1 none) = some (Value.int IntKind.i64 n99) ∧
 ∃ (s100 : ByteArray),
 w'11.cell? (Addr.mk b1 2 none) = some (Value.string s100) ∧
 ∃ (n101 : Int),
 w'11.cell? (Addr.mk b5 0 none) = some (Value.int IntKind.i64 n101) ∧
 ∃ (n102 : Int),
 w'11.cell? (Addr.mk b5 1 none) = some (Value.int IntKind.i64 n102) ∧
 ∃ (s103 : ByteArray),
 w'11.cell? (Addr.mk b5 2 none) = some (Value.string s103) ∧
 (n98 = n101 ∧ n99 = n102 ∧ s100 = s103 →
 ∃ (s105 : ByteArray), w'11.cell? (Addr.mk b1 2 none) = some (Value.string s105) ∧ R (Ending.returned (Value.bool (decide ((↑s105.size : Int) ≤ 1024)))) w'11) ∧
 (n98 ≠ n101 ∨ n99 ≠ n102 ∨ s100 ≠ s103 → R (Ending.returned (Value.bool false)) w'11)) ∧
 (4 ≤ n96 → R (Ending.returned (Value.bool false)) w'11)) ∧
 (n94 < 0 → R (Ending.returned (Value.bool false)) w'11)))))

set_option maxRecDepth 100000 in
theorem vright_eq (v0 : Int) (v1 : Int) (v2 : ByteArray) (w : World) (R : Ending → World → Prop) : vright_T v0 v1 v2 w R = vcFn Tryd.prog [] [] Tryd.f43 [Value.agg #[Value.int IntKind.i64 v0, Value.int IntKind.i64 v1, Value.string v2]] w R := by kernel_rfl

set_option maxRecDepth 100000 in
theorem vright_vc (v0 : Int) (v1 : Int) (v2 : ByteArray) (w : World) (R : Ending → World → Prop) (h : vright_T v0 v1 v2 w R) : Calls Tryd.prog 43 #[Value.agg #[Value.int IntKind.i64 v0, Value.int IntKind.i64 v1, Value.string v2]] w R :=
  calls_of_vc (args := [Value.agg #[Value.int IntKind.i64 v0, Value.int IntKind.i64 v1, Value.string v2]]) [] [] Tryd.mixed Tryd.func43 (cast (vright_eq _ _ _ w R) h)

set_option maxRecDepth 100000 in
def vcompare_T (a0 : Int) (a1 : Int) (a2 : ByteArray) (b0 : Int) (b1 : Int) (b2 : ByteArray) (w : World) (R : Ending → World → Prop) : Prop :=
  ∀ (b1_1 : Nat) (w'2 : World),
 New w (Obj.cells #[Value.int IntKind.i64 a0, Value.int IntKind.i64 a1, Value.string a2] 26) b1_1 w'2 →
 ∀ (b4 : Nat) (w'5 : World),
 New w'2 (Obj.cells #[Value.int IntKind.i64 b0, Value.int IntKind.i64 b1, Value.string b2] 26) b4 w'5 →
 ∀ (w'7 : World),
 Drew w'5 w'7 →
 ∃ (n9 : Int),
 w'7.cell? (Addr.mk b1_1 0 none) = some (Value.int IntKind.i64 n9) ∧
 ∃ (n10 : Int),
 w'7.cell? (Addr.mk b4 0 none) = some (Value.int IntKind.i64 n10) ∧
 ∃ (n11 : Int),
 w'7.cell? (Addr.mk b1_1 1 none) = some (Value.int IntKind.i64 n11) ∧
 ∃ (n12 : Int),
 w'7.cell? (Addr.mk b4 1 none) = some (Value.int IntKind.i64 n12) ∧
 ∃ (s13 : ByteArray),
 w'7.cell? (Addr.mk b1_1 2 none) = some (Value.string s13) ∧
 ∃ (s14 : ByteArray),
 w'7.cell? (Addr.mk b4 2 none) = some (Value.string s14) ∧
 Calls Tryd.prog 101 #[Value.int IntKind.i64 n9, Value.int IntKind.i64 n10] w'7 fun (e15 : Ending) (w16 : World) ↦
 ∃ (n17 : Int),
 e15 = Ending.returned (Value.int IntKind.i64 n17) ∧
 Same w'7 w16 ∧
 Calls Tryd.prog 102 #[Value.int IntKind.i64 n11, Value.int IntKind.i64 n12] w16 fun (e18 : Ending) (w19 : World) ↦
 ∃ (n20 : Int),
 e18 = Ending.returned (Value.int IntKind.i64 n20) ∧
 Same w16 w19 ∧
 Calls Tryd.prog 103 #[Value.string s13, Value.string s14] w19 fun (e21 : Ending) (w22 : World) ↦
 ∃ (n23 : Int),
 e21 = Ending.returned (Value.int IntKind.i64 n23) ∧
 ∀ (b24 : Nat) (w'25 : World),
 New w22 (Obj.cells #[Value.int IntKind.i64 n17, Value.int IntKind.i64 n20, Value.int IntKind.i64 n23] 3) b24 w'25 →
 Calls Tryd.prog 100 #[Value.slice (some (Addr.mk b24 0 none)) 3 3] w'25 fun (e27 : Ending) (w28 : World) ↦
 ∃ (n29 : Int), e27 = Ending.returned (Value.int IntKind.i64 n29) ∧ R (Ending.returned (Value.int IntKind.i64 n29)) w28

set_option maxRecDepth 100000 in
theorem vcompare_eq (a0 : Int) (a1 : Int) (a2 : ByteArray) (b0 : Int) (b1 : Int) (b2 : ByteArray) (w : World) (R : Ending → World → Prop) : vcompare_T a0 a1 a2 b0 b1 b2 w R = vcFn Tryd.prog [] [(1, [2, 4, 6, 8, 12, 14, 16, 18, 22, 24, 26, 28, 11, 21, 30, 32, 34, 36, 0])] Tryd.f79 [Value.agg #[Value.int IntKind.i64 a0, Value.int IntKind.i64 a1, Value.string a2], Value.agg #[Value.int IntKind.i64 b0, Value.int IntKind.i64 b1, Value.string b2]] w R := by kernel_rfl

set_option maxRecDepth 100000 in
theorem vcompare_vc (a0 : Int) (a1 : Int) (a2 : ByteArray) (b0 : Int) (b1 : Int) (b2 : ByteArray) (w : World) (R : Ending → World → Prop) (h : vcompare_T a0 a1 a2 b0 b1 b2 w R) : Calls Tryd.prog 79 #[Value.agg #[Value.int IntKind.i64 a0, Value.int IntKind.i64 a1, Value.string a2], Value.agg #[Value.int IntKind.i64 b0, Value.int IntKind.i64 b1, Value.string b2]] w R :=
  calls_of_vc (args := [Value.agg #[Value.int IntKind.i64 a0, Value.int IntKind.i64 a1, Value.string a2], Value.agg #[Value.int IntKind.i64 b0, Value.int IntKind.i64 b1, Value.string b2]]) [] [(1, [2, 4, 6, 8, 12, 14, 16, 18, 22, 24, 26, 28, 11, 21, 30, 32, 34, 36, 0])] Tryd.mixed Tryd.func79 (cast (vcompare_eq _ _ _ _ _ _ w R) h)

set_option maxRecDepth 100000 in
def rvright_T (v0 : Int) (v1 : Int) (v2 : ByteArray) (w : World) (R : Ending → World → Prop) : Prop :=
  ∀ (b1 : Nat) (w'2 : World),
 New w (Obj.cells #[Value.int IntKind.i64 v0, Value.int IntKind.i64 v1, Value.string v2] 26) b1 w'2 →
 ∃ (n4 : Int),
 w'2.cell? (Addr.mk b1 0 none) = some (Value.int IntKind.i64 n4) ∧
 (n4 = 0 →
 ∃ (n6 : Int),
 w'2.cell? (Addr.mk b1 1 none) = some (Value.int IntKind.i64 n6) ∧
 (n6 = 0 → ∃ (s8 : ByteArray), w'2.cell? (Addr.mk b1 2 none) = some (Value.string s8) ∧ R (Ending.returned (Value.bool (sEq s8 (ByteArray.mk #[])))) w'2) ∧
 (n6 ≠ 0 → R (Ending.returned (Value.bool false)) w'2)) ∧
 (n4 ≠ 0 →
 (n4 = 1 → ∃ (s12 : ByteArray), w'2.cell? (Addr.mk b1 2 none) = some (Value.string s12) ∧ R (Ending.returned (Value.bool (sEq s12 (ByteArray.mk #[])))) w'2) ∧
 (n4 ≠ 1 →
 (n4 = 2 →
 ∃ (n15 : Int),
 w'2.cell? (Addr.mk b1 1 none) = some (Value.int IntKind.i64 n15) ∧
 (n15 = 0 → ∃ (s17 : ByteArray), w'2.cell? (Addr.mk b1 2 none) = some (Value.string s17) ∧ R (Ending.returned (Value.bool (sEq s17 (ByteArray.mk #[])))) w'2) ∧
 (n15 ≠ 0 →
 ∃ (n19 : Int),
 w'2.cell? (Addr.mk b1 1 none) = some (Value.int IntKind.i64 n19) ∧
 (n19 = 1 → ∃ (s21 : ByteArray), w'2.cell? (Addr.mk b1 2 none) = some (Value.string s21) ∧ R (Ending.returned (Value.bool (sEq s21 (ByteArray.mk #[])))) w'2) ∧
 (n19 ≠ 1 → R (Ending.returned (Value.bool false)) w'2))) ∧
 (n4 ≠ 2 →
 (n4 = 3 →
 ∃ (n25 : Int),
 w'2.cell? (Addr.mk b1 1 none) = some (Value.int IntKind.i64 n25) ∧
 (n25 = 0 → ∃ (s27 : ByteArray), w'2.cell? (Addr.mk b1 2 none) = some (Value.string s27) ∧ R (Ending.returned (Value.bool (decide ((↑s27.size : Int) ≤ 1024)))) w'2) ∧
 (n25 ≠ 0 → R (Ending.returned (Value.bool false)) w'2)) ∧
 (n4 ≠ 3 → R (Ending.returned (Value.bool false)) w'2))))

set_option maxRecDepth 100000 in
theorem rvright_eq (v0 : Int) (v1 : Int) (v2 : ByteArray) (w : World) (R : Ending → World → Prop) : rvright_T v0 v1 v2 w R = vcFn Tryd.prog [] [] Tryd.f30 [Value.agg #[Value.int IntKind.i64 v0, Value.int IntKind.i64 v1, Value.string v2]] w R := by kernel_rfl

set_option maxRecDepth 100000 in
theorem rvright_vc (v0 : Int) (v1 : Int) (v2 : ByteArray) (w : World) (R : Ending → World → Prop) (h : rvright_T v0 v1 v2 w R) : Calls Tryd.prog 30 #[Value.agg #[Value.int IntKind.i64 v0, Value.int IntKind.i64 v1, Value.string v2]] w R :=
  calls_of_vc (args := [Value.agg #[Value.int IntKind.i64 v0, Value.int IntKind.i64 v1, Value.string v2]]) [] [] Tryd.mixed Tryd.func30 (cast (rvright_eq _ _ _ w R) h)

set_option maxRecDepth 100000 in
def rvcompare_T (a0 : Int) (a1 : Int) (a2 : ByteArray) (b0 : Int) (b1 : Int) (b2 : ByteArray) (w : World) (R : Ending → World → Prop) : Prop :=
  ∀ (b1_1 : Nat) (w'2 : World),
 New w (Obj.cells #[Value.int IntKind.i64 a0, Value.int IntKind.i64 a1, Value.string a2] 26) b1_1 w'2 →
 ∀ (b4 : Nat) (w'5 : World),
 New w'2 (Obj.cells #[Value.int IntKind.i64 b0, Value.int IntKind.i64 b1, Value.string b2] 26) b4 w'5 →
 ∃ (n7 : Int),
 w'5.cell? (Addr.mk b1_1 0 none) = some (Value.int IntKind.i64 n7) ∧
 ∃ (n8 : Int),
 w'5.cell? (Addr.mk b1_1 1 none) = some (Value.int IntKind.i64 n8) ∧
 ∃ (s9 : ByteArray),
 w'5.cell? (Addr.mk b1_1 2 none) = some (Value.string s9) ∧
 ∃ (n10 : Int),
 w'5.cell? (Addr.mk b4 0 none) = some (Value.int IntKind.i64 n10) ∧
 ∃ (n11 : Int),
 w'5.cell? (Addr.mk b4 1 none) = some (Value.int IntKind.i64 n11) ∧
 ∃ (s12 : ByteArray),
 w'5.cell? (Addr.mk b4 2 none) = some (Value.string s12) ∧
 Calls Tryd.prog 105
 #[Value.agg #[Value.int IntKind.i64 n7, Value.int IntKind.i64 n8, Value.string s9], Value.agg #[Value.int IntKind.i64 n10, Value.int IntKind.i64 n11, Value.string s12]]
 w'5 fun (e13 : Ending) (w14 : World) ↦
 ∃ (b15 : Bool),
 e13 = Ending.returned (Value.bool b15) ∧
 ∃ (n16 : Int),
 w14.cell? (Addr.mk b4 0 none) = some (Value.int IntKind.i64 n16) ∧
 ∃ (n17 : Int),
 w14.cell? (Addr.mk b4 1 none) = some (Value.int IntKind.i64 n17) ∧
 ∃ (s18 : ByteArray),
 w14.cell? (Addr.mk b4 2 none) = some (Value.string s18) ∧
 ∃ (n19 : Int),
 w14.cell? (Addr.mk b1_1 0 none) = some (Value.int IntKind.i64 n19) ∧
 ∃ (n20 : Int),
 w14.cell? (Addr.mk b1_1 1 none) = some (Value.int IntKind.i64 n20) ∧
 ∃ (s21 : ByteArray),
 w14.cell? (Addr.mk b1_1 2 none) = some (Value.string s21) ∧
 Calls Tryd.prog 105
 #[Value.agg #[Value.int IntKind.i64 n16, Value.int IntKind.i64 n17, Value.string s18],
 Value.agg #[Value.int IntKind.i64 n19, Value.int IntKind.i64 n20, Value.string s21]]
 w14 fun (e22 : Ending) (w23 : World) ↦
 ∃ (b24 : Bool),
 e22 = Ending.returned (Value.bool b24) ∧
 (b15 = true → R (Ending.returned (Value.int IntKind.i64 (-1))) w23) ∧
 (b15 = false → (b24 = true → R (Ending.returned (Value.int IntKind.i64 1)) w23) ∧ (b24 = false → R (Ending.returned (Value.int IntKind.i64 0)) w23))

set_option maxRecDepth 100000 in
theorem rvcompare_eq (a0 : Int) (a1 : Int) (a2 : ByteArray) (b0 : Int) (b1 : Int) (b2 : ByteArray) (w : World) (R : Ending → World → Prop) : rvcompare_T a0 a1 a2 b0 b1 b2 w R = vcFn Tryd.prog [] [] Tryd.f83 [Value.agg #[Value.int IntKind.i64 a0, Value.int IntKind.i64 a1, Value.string a2], Value.agg #[Value.int IntKind.i64 b0, Value.int IntKind.i64 b1, Value.string b2]] w R := by kernel_rfl

set_option maxRecDepth 100000 in
theorem rvcompare_vc (a0 : Int) (a1 : Int) (a2 : ByteArray) (b0 : Int) (b1 : Int) (b2 : ByteArray) (w : World) (R : Ending → World → Prop) (h : rvcompare_T a0 a1 a2 b0 b1 b2 w R) : Calls Tryd.prog 83 #[Value.agg #[Value.int IntKind.i64 a0, Value.int IntKind.i64 a1, Value.string a2], Value.agg #[Value.int IntKind.i64 b0, Value.int IntKind.i64 b1, Value.string b2]] w R :=
  calls_of_vc (args := [Value.agg #[Value.int IntKind.i64 a0, Value.int IntKind.i64 a1, Value.string a2], Value.agg #[Value.int IntKind.i64 b0, Value.int IntKind.i64 b1, Value.string b2]]) [] [] Tryd.mixed Tryd.func83 (cast (rvcompare_eq _ _ _ _ _ _ w R) h)

set_option maxRecDepth 100000 in
def rvless_T (a0 : Int) (a1 : Int) (a2 : ByteArray) (b0 : Int) (b1 : Int) (b2 : ByteArray) (w : World) (R : Ending → World → Prop) : Prop :=
  ∀ (b1_1 : Nat) (w'2 : World),
 New w (Obj.cells #[Value.int IntKind.i64 a0, Value.int IntKind.i64 a1, Value.string a2] 26) b1_1 w'2 →
 ∀ (b4 : Nat) (w'5 : World),
 New w'2 (Obj.cells #[Value.int IntKind.i64 b0, Value.int IntKind.i64 b1, Value.string b2] 26) b4 w'5 →
 ∃ (n7 : Int),
 w'5.cell? (Addr.mk b1_1 0 none) = some (Value.int IntKind.i64 n7) ∧
 ∃ (n8 : Int),
 w'5.cell? (Addr.mk b4 0 none) = some (Value.int IntKind.i64 n8) ∧
 (n7 ≠ n8 →
 ∃ (n10 : Int),
 w'5.cell? (Addr.mk b1_1 0 none) = some (Value.int IntKind.i64 n10) ∧
 ∃ (n11 : Int), w'5.cell? (Addr.mk b4 0 none) = some (Value.int IntKind.i64 n11) ∧ R (Ending.returned (Value.bool (decide (n10 < n11)))) w'5) ∧
 (n7 = n8 →
 ∃ (n13 : Int),
 w'5.cell? (Addr.mk b1_1 0 none) = some (Value.int IntKind.i64 n13) ∧
 (n13 = 3 →
 ∃ (s15 : ByteArray),
 w'5.cell? (Addr.mk b1_1 2 none) = some (Value.string s15) ∧
 ∃ (s16 : ByteArray), w'5.cell? (Addr.mk b4 2 none) = some (Value.string s16) ∧ R (Ending.returned (Value.bool (sLt s15 s16))) w'5) ∧
 (n13 ≠ 3 →
 ∃ (n18 : Int),
 w'5.cell? (Addr.mk b1_1 1 none) = some (Value.int IntKind.i64 n18) ∧
 ∃ (n19 : Int), w'5.cell? (Addr.mk b4 1 none) = some (Value.int IntKind.i64 n19) ∧ R (Ending.returned (Value.bool (decide (n18 < n19)))) w'5))

set_option maxRecDepth 100000 in
theorem rvless_eq (a0 : Int) (a1 : Int) (a2 : ByteArray) (b0 : Int) (b1 : Int) (b2 : ByteArray) (w : World) (R : Ending → World → Prop) : rvless_T a0 a1 a2 b0 b1 b2 w R = vcFn Tryd.prog [] [] Tryd.f105 [Value.agg #[Value.int IntKind.i64 a0, Value.int IntKind.i64 a1, Value.string a2], Value.agg #[Value.int IntKind.i64 b0, Value.int IntKind.i64 b1, Value.string b2]] w R := by kernel_rfl

set_option maxRecDepth 100000 in
theorem rvless_vc (a0 : Int) (a1 : Int) (a2 : ByteArray) (b0 : Int) (b1 : Int) (b2 : ByteArray) (w : World) (R : Ending → World → Prop) (h : rvless_T a0 a1 a2 b0 b1 b2 w R) : Calls Tryd.prog 105 #[Value.agg #[Value.int IntKind.i64 a0, Value.int IntKind.i64 a1, Value.string a2], Value.agg #[Value.int IntKind.i64 b0, Value.int IntKind.i64 b1, Value.string b2]] w R :=
  calls_of_vc (args := [Value.agg #[Value.int IntKind.i64 a0, Value.int IntKind.i64 a1, Value.string a2], Value.agg #[Value.int IntKind.i64 b0, Value.int IntKind.i64 b1, Value.string b2]]) [] [] Tryd.mixed Tryd.func105 (cast (rvless_eq _ _ _ _ _ _ w R) h)

set_option maxRecDepth 100000 in
def cmpor_T (vals_p : Option Addr) (vals_n : Nat) (vals_c : Nat) (w : World) (R : Ending → World → Prop) : Prop :=
  ∃ (I1 : Int → World → Prop),
 ∃ (M2 : Int → World → Nat),
 I1 0 w ∧
 ∀ (n3 : Int) (w'4 : World),
 I1 n3 w'4 →
 (n3 < (↑vals_n : Int) →
 ∃ (b7 : Nat),
 ∃ (o8 : Nat),
 vals_p = some (Addr.mk b7 o8 none) ∧
 0 ≤ n3 ∧
 n3 < (↑vals_n : Int) ∧
 ∃ (n9 : Int),
 w'4.cell? (Addr.mk b7 (o8 + n3.toNat) none) = some (Value.int IntKind.i64 n9) ∧
 (n9 ≠ 0 → R (Ending.returned (Value.int IntKind.i64 n9)) w'4) ∧ (n9 = 0 → I1 (IntKind.i64.wrap (n3 + 1)) w'4 ∧ M2 (IntKind.i64.wrap (n3 + 1)) w'4 < M2 n3 w'4)) ∧
 ((↑vals_n : Int) ≤ n3 → R (Ending.returned (Value.int IntKind.i64 0)) w'4)

set_option maxRecDepth 100000 in
theorem cmpor_eq (vals_p : Option Addr) (vals_n : Nat) (vals_c : Nat) (w : World) (R : Ending → World → Prop) : cmpor_T vals_p vals_n vals_c w R = vcFn Tryd.prog [] [] Tryd.f100 [Value.slice vals_p vals_n vals_c] w R := by kernel_rfl

set_option maxRecDepth 100000 in
theorem cmpor_vc (vals_p : Option Addr) (vals_n : Nat) (vals_c : Nat) (w : World) (R : Ending → World → Prop) (h : cmpor_T vals_p vals_n vals_c w R) : Calls Tryd.prog 100 #[Value.slice vals_p vals_n vals_c] w R :=
  calls_of_vc (args := [Value.slice vals_p vals_n vals_c]) [] [] Tryd.mixed Tryd.func100 (cast (cmpor_eq _ _ _ w R) h)

set_option maxRecDepth 100000 in
def cmpint_T (x : Int) (y : Int) (w : World) (R : Ending → World → Prop) : Prop :=
  Calls Tryd.prog 112 #[Value.int IntKind.i64 x] w fun (e1 : Ending) (w2 : World) ↦
 ∃ (b3 : Bool),
 e1 = Ending.returned (Value.bool b3) ∧
 Calls Tryd.prog 112 #[Value.int IntKind.i64 y] w2 fun (e4 : Ending) (w5 : World) ↦
 ∃ (b6 : Bool),
 e4 = Ending.returned (Value.bool b6) ∧
 (b3 = true → (b6 = true → R (Ending.returned (Value.int IntKind.i64 0)) w5) ∧ (b6 = false → R (Ending.returned (Value.int IntKind.i64 (-1))) w5)) ∧
 (b3 = false →
 (b6 = true → R (Ending.returned (Value.int IntKind.i64 1)) w5) ∧
 (b6 = false →
 (x < y → R (Ending.returned (Value.int IntKind.i64 (-1))) w5) ∧
 (y ≤ x → (y < x → R (Ending.returned (Value.int IntKind.i64 1)) w5) ∧ (x ≤ y → R (Ending.returned (Value.int IntKind.i64 0)) w5))))

set_option maxRecDepth 100000 in
theorem cmpint_eq (x : Int) (y : Int) (w : World) (R : Ending → World → Prop) : cmpint_T x y w R = vcFn Tryd.prog [] [] Tryd.f101 [Value.int IntKind.i64 x, Value.int IntKind.i64 y] w R := by kernel_rfl

set_option maxRecDepth 100000 in
theorem cmpint_vc (x : Int) (y : Int) (w : World) (R : Ending → World → Prop) (h : cmpint_T x y w R) : Calls Tryd.prog 101 #[Value.int IntKind.i64 x, Value.int IntKind.i64 y] w R :=
  calls_of_vc (args := [Value.int IntKind.i64 x, Value.int IntKind.i64 y]) [] [] Tryd.mixed Tryd.func101 (cast (cmpint_eq _ _ w R) h)

set_option maxRecDepth 100000 in
def cmpint64_T (x : Int) (y : Int) (w : World) (R : Ending → World → Prop) : Prop :=
  Calls Tryd.prog 113 #[Value.int IntKind.i64 x] w fun (e1 : Ending) (w2 : World) ↦
 ∃ (b3 : Bool),
 e1 = Ending.returned (Value.bool b3) ∧
 Calls Tryd.prog 113 #[Value.int IntKind.i64 y] w2 fun (e4 : Ending) (w5 : World) ↦
 ∃ (b6 : Bool),
 e4 = Ending.returned (Value.bool b6) ∧
 (b3 = true → (b6 = true → R (Ending.returned (Value.int IntKind.i64 0)) w5) ∧ (b6 = false → R (Ending.returned (Value.int IntKind.i64 (-1))) w5)) ∧
 (b3 = false →
 (b6 = true → R (Ending.returned (Value.int IntKind.i64 1)) w5) ∧
 (b6 = false →
 (x < y → R (Ending.returned (Value.int IntKind.i64 (-1))) w5) ∧
 (y ≤ x → (y < x → R (Ending.returned (Value.int IntKind.i64 1)) w5) ∧ (x ≤ y → R (Ending.returned (Value.int IntKind.i64 0)) w5))))

set_option maxRecDepth 100000 in
theorem cmpint64_eq (x : Int) (y : Int) (w : World) (R : Ending → World → Prop) : cmpint64_T x y w R = vcFn Tryd.prog [] [] Tryd.f102 [Value.int IntKind.i64 x, Value.int IntKind.i64 y] w R := by kernel_rfl

set_option maxRecDepth 100000 in
theorem cmpint64_vc (x : Int) (y : Int) (w : World) (R : Ending → World → Prop) (h : cmpint64_T x y w R) : Calls Tryd.prog 102 #[Value.int IntKind.i64 x, Value.int IntKind.i64 y] w R :=
  calls_of_vc (args := [Value.int IntKind.i64 x, Value.int IntKind.i64 y]) [] [] Tryd.mixed Tryd.func102 (cast (cmpint64_eq _ _ w R) h)

set_option maxRecDepth 100000 in
def isnani_T (x : Int) (w : World) (R : Ending → World → Prop) : Prop :=
  R (Ending.returned (Value.bool !decide (x = x))) w

set_option maxRecDepth 100000 in
theorem isnani_eq (x : Int) (w : World) (R : Ending → World → Prop) : isnani_T x w R = vcFn Tryd.prog [] [] Tryd.f112 [Value.int IntKind.i64 x] w R := by kernel_rfl

set_option maxRecDepth 100000 in
theorem isnani_vc (x : Int) (w : World) (R : Ending → World → Prop) (h : isnani_T x w R) : Calls Tryd.prog 112 #[Value.int IntKind.i64 x] w R :=
  calls_of_vc (args := [Value.int IntKind.i64 x]) [] [] Tryd.mixed Tryd.func112 (cast (isnani_eq _ w R) h)

set_option maxRecDepth 100000 in
def isnani64_T (x : Int) (w : World) (R : Ending → World → Prop) : Prop :=
  R (Ending.returned (Value.bool !decide (x = x))) w

set_option maxRecDepth 100000 in
theorem isnani64_eq (x : Int) (w : World) (R : Ending → World → Prop) : isnani64_T x w R = vcFn Tryd.prog [] [] Tryd.f113 [Value.int IntKind.i64 x] w R := by kernel_rfl

set_option maxRecDepth 100000 in
theorem isnani64_vc (x : Int) (w : World) (R : Ending → World → Prop) (h : isnani64_T x w R) : Calls Tryd.prog 113 #[Value.int IntKind.i64 x] w R :=
  calls_of_vc (args := [Value.int IntKind.i64 x]) [] [] Tryd.mixed Tryd.func113 (cast (isnani64_eq _ w R) h)

set_option maxRecDepth 100000 in
def strcmp_T (a : ByteArray) (b : ByteArray) (w : World) (R : Ending → World → Prop) : Prop :=
  Calls Tryd.prog 114 #[Value.string a, Value.string b] w fun (e1 : Ending) (w2 : World) ↦
 ∃ (n3 : Int), e1 = Ending.returned (Value.int IntKind.i64 n3) ∧ R (Ending.returned (Value.int IntKind.i64 n3)) w2

set_option maxRecDepth 100000 in
theorem strcmp_eq (a : ByteArray) (b : ByteArray) (w : World) (R : Ending → World → Prop) : strcmp_T a b w R = vcFn Tryd.prog [] [] Tryd.f103 [Value.string a, Value.string b] w R := by kernel_rfl

set_option maxRecDepth 100000 in
theorem strcmp_vc (a : ByteArray) (b : ByteArray) (w : World) (R : Ending → World → Prop) (h : strcmp_T a b w R) : Calls Tryd.prog 103 #[Value.string a, Value.string b] w R :=
  calls_of_vc (args := [Value.string a, Value.string b]) [] [] Tryd.mixed Tryd.func103 (cast (strcmp_eq _ _ w R) h)

set_option maxRecDepth 100000 in
def strcmp0_T (a : ByteArray) (b : ByteArray) (w : World) (R : Ending → World → Prop) : Prop :=
  ∃ (n1 : Int),
 ∃ (w'2 : World),
 Sem.run Tryd.prog (callFunc 120 #[Value.string a, Value.string b]) w = Result.ok (Next.value (Value.int IntKind.i64 n1)) w'2 ∧
 R (Ending.returned (Value.int IntKind.i64 n1)) w'2

set_option maxRecDepth 100000 in
theorem strcmp0_eq (a : ByteArray) (b : ByteArray) (w : World) (R : Ending → World → Prop) : strcmp0_T a b w R = vcFn Tryd.prog [] [] Tryd.f114 [Value.string a, Value.string b] w R := by kernel_rfl

set_option maxRecDepth 100000 in
theorem strcmp0_vc (a : ByteArray) (b : ByteArray) (w : World) (R : Ending → World → Prop) (h : strcmp0_T a b w R) : Calls Tryd.prog 114 #[Value.string a, Value.string b] w R :=
  calls_of_vc (args := [Value.string a, Value.string b]) [] [] Tryd.mixed Tryd.func114 (cast (strcmp0_eq _ _ w R) h)


end Go.Proofs.YtdephmdfdgclpaaDoor

/- The contracts of package value, of the document's answer for it, and of the words that hold rows against one another. -/
namespace Go.Proofs.YtdephmdfdgclpaaDoor
open Go Go.Vc Go.RowKit

theorem strcmp0_ok (a b : ByteArray) (w : World) : Calls Tryd.prog 114 #[.string a, .string b] w fun e w' => e = .returned (.int .i64 (cmpS a b)) ∧ w' = w := by
  apply strcmp0_vc
  unfold strcmp0_T
  refine ⟨_, _, ?_, rfl, rfl⟩
  rw [run_callFunc_extern Tryd.func120 (by kernel_rfl) (by kernel_rfl) (by kernel_rfl) (e := Extern.BytealgCompare.compare) (by kernel_rfl), Lib.run_compareString]
  rfl
theorem strcmp_ok (a b : ByteArray) (w : World) : Calls Tryd.prog 103 #[.string a, .string b] w fun e w' => e = .returned (.int .i64 (cmpS a b)) ∧ Ext w w' := by
  apply strcmp_vc
  unfold strcmp_T
  refine (strcmp0_ok a b w).mono ?_
  rintro e w' ⟨rfl, rfl⟩
  exact ⟨_, rfl, rfl, .rfl⟩
theorem isnani_ok (x : Int) (w : World) : Calls Tryd.prog 112 #[.int .i64 x] w fun e w' => e = .returned (.bool false) ∧ Ext w w' := by
  apply isnani_vc
  unfold isnani_T
  exact ⟨by simp, .rfl⟩
theorem isnani64_ok (x : Int) (w : World) : Calls Tryd.prog 113 #[.int .i64 x] w fun e w' => e = .returned (.bool false) ∧ Ext w w' := by
  apply isnani64_vc
  unfold isnani64_T
  exact ⟨by simp, .rfl⟩
theorem cmpint_ok (x y : Int) (w : World) : Calls Tryd.prog 101 #[.int .i64 x, .int .i64 y] w fun e w' => e = .returned (.int .i64 (cmpI x y)) ∧ Ext w w' := by
  apply cmpint_vc
  unfold cmpint_T
  refine (isnani_ok x w).mono ?_
  rintro e w1 ⟨rfl, e1⟩
  refine ⟨_, rfl, (isnani_ok y w1).mono ?_⟩
  rintro e w2 ⟨rfl, e2⟩
  have e12 := e1.trans e2
  refine ⟨_, rfl, ⟨fun h => (by cases h), fun _ => ⟨fun h => (by cases h), fun _ => ⟨fun h => ⟨?_, e12⟩, fun h => ⟨fun h' => ⟨?_, e12⟩, fun h' => ⟨?_, e12⟩⟩⟩⟩⟩⟩
  · unfold cmpI; rw [if_pos h]
  · unfold cmpI; rw [if_neg (by omega), if_pos h']
  · unfold cmpI; rw [if_neg (by omega), if_neg (by omega)]
theorem cmpint64_ok (x y : Int) (w : World) : Calls Tryd.prog 102 #[.int .i64 x, .int .i64 y] w fun e w' => e = .returned (.int .i64 (cmpI x y)) ∧ Ext w w' := by
  apply cmpint64_vc
  unfold cmpint64_T
  refine (isnani64_ok x w).mono ?_
  rintro e w1 ⟨rfl, e1⟩
  refine ⟨_, rfl, (isnani64_ok y w1).mono ?_⟩
  rintro e w2 ⟨rfl, e2⟩
  have e12 := e1.trans e2
  refine ⟨_, rfl, ⟨fun h => (by cases h), fun _ => ⟨fun h => (by cases h), fun _ => ⟨fun h => ⟨?_, e12⟩, fun h => ⟨fun h' => ⟨?_, e12⟩, fun h' => ⟨?_, e12⟩⟩⟩⟩⟩⟩
  · unfold cmpI; rw [if_pos h]
  · unfold cmpI; rw [if_neg (by omega), if_pos h']
  · unfold cmpI; rw [if_neg (by omega), if_neg (by omega)]

/-- The first of the numbers that is not 0. -/
def orI : List Int → Int
  | [] => 0
  | x :: l => if x ≠ 0 then x else orI l
theorem orI_drop {l : List Int} {k : Nat} {x : Int} (h : l[k]? = some x) : orI (l.drop k) = if x ≠ 0 then x else orI (l.drop (k + 1)) := by
  obtain ⟨hk, rfl⟩ := List.getElem?_eq_some_iff.1 h
  rw [List.drop_eq_getElem_cons hk, orI]
theorem cmpor_ok (w : World) {p : Option Addr} {n c : Nat} {l : List Int} (hl : l.length = n) (hn : n < 9223372036854775807) (h : At w p (vI .i64 l)) : Calls Tryd.prog 100 #[.slice p n c] w fun e w' => e = .returned (.int .i64 (orI l)) ∧ Ext w w' := by
  apply cmpor_vc
  unfold cmpor_T
  refine ⟨fun i w' => ∃ k : Nat, i = (k : Int) ∧ k ≤ n ∧ orI (l.drop k) = orI l ∧ Ext w w', fun i _ => n - i.toNat, ⟨0, rfl, Nat.zero_le _, rfl, .rfl⟩, ?_⟩
  rintro i w' ⟨k, rfl, hk, ho, hx⟩
  refine ⟨fun hlt => ?_, fun hge => ⟨?_, hx⟩⟩
  · obtain ⟨b, o, hp, hc⟩ := (h.ext hx).getI (i := k) (by omega)
    have hd := orI_drop (l := l) (k := k) (List.getElem?_eq_getElem (by omega))
    refine ⟨b, o, hp, by omega, by omega, _, by rw [Int.toNat_natCast]; exact hc, fun hne => ⟨?_, hx⟩, fun he => ?_⟩
    · rw [← ho, hd, if_pos hne]
    · rw [i64_next (by omega)]
      refine ⟨⟨k + 1, rfl, by omega, ?_, hx⟩, by simp only [Int.toNat_natCast]; omega⟩
      rw [← ho, hd, if_neg (by simpa using he)]
  · rw [← ho, List.drop_eq_nil_of_le (by omega)]; rfl

theorem nil_size : (ByteArray.mk #[]).size = 0 := rfl
theorem vright_ok (v : Val) (w : World) : Calls Tryd.prog 43 #[v.agg] w fun e w' => e = .returned (.bool v.right) ∧ Ext w w' := by
  apply vright_vc
  unfold vright_T
  intro b1 w2 h1
  have H1 := (Hold.start (Ext.rfl (w := w))).new h1
  obtain ⟨p0, p1, p2⟩ := (H1.blk 0 rfl).c3
  refine ⟨_, p0, fun b5 w6 h5 => ?_⟩
  have H5 := H1.new h5
  obtain ⟨q0, q1, q2⟩ := (H5.blk 0 rfl).c3
  refine ⟨⟨_, q0⟩, (H5.blk 0 rfl).frozen _, ⟨_, q1⟩, (H5.blk 0 rfl).frozen _, ⟨_, q2⟩, (H5.blk 0 rfl).frozen _, fun w11 h11 => ?_⟩
  have H11 := H5.put 0 rfl h11
  have B1 : Blk w11 b1 26 #[.int .i64 v.k, .int .i64 v.n, .string v.s] := H11.blk 1 rfl
  have B5 : Blk w11 b5 26 #[.int .i64 v.k, .int .i64 0, .string ⟨#[]⟩] := H11.blk 0 rfl
  obtain ⟨a0, a1, a2⟩ := B1.c3
  obtain ⟨d0, d1, d2⟩ := B5.c3
  have hx := H11.ext
  have key : ∀ (b : Bool) w', Ext w w' → (b = true ↔ v.Ok) → Ending.returned (Value.bool b) = Ending.returned (Value.bool v.right) ∧ Ext w w' := by
    intro b w' hx hb
    refine ⟨?_, hx⟩
    have : b = v.right := by unfold Val.right; rw [Bool.eq_iff_iff, hb]; simp
    rw [this]
  refine ⟨_, a0, fun hk => ?_, fun hk0 => ⟨fun hk => ?_, fun hk1 => ⟨fun hk => ?_, fun hk2 => ⟨fun hk => ?_, fun hk3 => ?_⟩⟩⟩⟩
  · refine ⟨_, a0, fun _ => ⟨_, a0, fun _ => ⟨_, a0, _, a1, _, a2, _, d0, _, d1, _, d2, fun he => ⟨_, a2, key _ _ hx ?_⟩, fun he => key _ _ hx ?_⟩, fun _ => by omega⟩, fun _ => by omega⟩
    · unfold Val.Ok; rw [he.2.2]; simp [hk, he.2.1, nil_size]
    · unfold Val.Ok; constructor
      · intro h; cases h
      · intro h; rcases h with h | h | h | h
        · rcases he with e | e | e
          · exact absurd rfl e
          · exact absurd h.2.1 e
          · exact absurd h.2.2 e
        · omega
        · omega
        · omega
  · refine ⟨_, a1, ⟨_, d1⟩, B5.frozen _, fun w34 h34 => ?_⟩
    have H34 := H11.put 0 rfl h34
    have B1' : Blk w34 b1 26 #[.int .i64 v.k, .int .i64 v.n, .string v.s] := H34.blk 1 rfl
    have B5' : Blk w34 b5 26 #[.int .i64 v.k, .int .i64 v.n, .string ⟨#[]⟩] := H34.blk 0 rfl
    obtain ⟨a0, a1, a2⟩ := B1'.c3
    obtain ⟨d0, d1, d2⟩ := B5'.c3
    refine ⟨_, a0, fun _ => ⟨_, a0, fun _ => ⟨_, a0, _, a1, _, a2, _, d0, _, d1, _, d2, fun he => ⟨_, a2, key _ _ H34.ext ?_⟩, fun he => key _ _ H34.ext ?_⟩, fun _ => by omega⟩, fun _ => by omega⟩
    · unfold Val.Ok; rw [he.2.2]; simp [hk, nil_size]
    · unfold Val.Ok; constructor
      · intro h; cases h
      · intro h; rcases h with h | h | h | h
        · omega
        · rcases he with e | e | e
          · exact absurd rfl e
          · exact absurd rfl e
          · exact absurd h.2 e
        · omega
        · omega
  · refine ⟨_, a1, ⟨_, d1⟩, B5.frozen _, fun w34 h34 => ?_⟩
    have H34 := H11.put 0 rfl h34
    have B1' : Blk w34 b1 26 #[.int .i64 v.k, .int .i64 v.n, .string v.s] := H34.blk 1 rfl
    have B5' : Blk w34 b5 26 #[.int .i64 v.k, .int .i64 (bits .and .i64 v.n 1), .string ⟨#[]⟩] := H34.blk 0 rfl
    rw [and1_i64] at B5'
    obtain ⟨a0, a1, a2⟩ := B1'.c3
    obtain ⟨d0, d1, d2⟩ := B5'.c3
    refine ⟨_, a0, fun _ => ⟨_, a0, fun _ => ⟨_, a0, _, a1, _, a2, _, d0, _, d1, _, d2, fun he => ⟨_, a2, key _ _ H34.ext ?_⟩, fun he => key _ _ H34.ext ?_⟩, fun _ => by omega⟩, fun _ => by omega⟩
    · unfold Val.Ok
      have : v.n = 0 ∨ v.n = 1 := by omega
      rw [he.2.2]; simp [hk, this, nil_size]
    · unfold Val.Ok; constructor
      · intro h; cases h
      · intro h; rcases h with h | h | h | h
        · omega
        · omega
        · rcases he with e | e | e
          · exact absurd rfl e
          · omega
          · exact absurd h.2.2 e
        · omega
  · refine ⟨_, a2, ⟨_, d2⟩, B5.frozen _, fun w34 h34 => ?_⟩
    have H34 := H11.put 0 rfl h34
    have B1' : Blk w34 b1 26 #[.int .i64 v.k, .int .i64 v.n, .string v.s] := H34.blk 1 rfl
    have B5' : Blk w34 b5 26 #[.int .i64 v.k, .int .i64 0, .string v.s] := H34.blk 0 rfl
    obtain ⟨a0, a1, a2⟩ := B1'.c3
    obtain ⟨d0, d1, d2⟩ := B5'.c3
    refine ⟨_, a0, fun _ => ⟨_, a0, fun _ => ⟨_, a0, _, a1, _, a2, _, d0, _, d1, _, d2, fun he => ⟨_, a2, key _ _ H34.ext ?_⟩, fun he => key _ _ H34.ext ?_⟩, fun _ => by omega⟩, fun _ => by omega⟩
    · unfold Val.Ok; simp only [decide_eq_true_eq]
      constructor
      · intro h; exact .inr (.inr (.inr ⟨hk, he.2.1, by omega⟩))
      · intro h; rcases h with h | h | h | h <;> omega
    · unfold Val.Ok; constructor
      · intro h; cases h
      · intro h; rcases h with h | h | h | h
        · omega
        · omega
        · omega
        · rcases he with e | e | e
          · exact absurd rfl e
          · exact absurd h.2.1 e
          · exact absurd rfl e
  · have no : ¬ v.Ok := by unfold Val.Ok; omega
    refine ⟨_, a0, fun _ => ⟨_, a0, fun _ => ⟨_, a0, _, a1, _, a2, _, d0, _, d1, _, d2, fun he => by omega, fun he => key _ _ hx (by simp [no])⟩, fun _ => key _ _ hx (by simp [no])⟩, fun _ => key _ _ hx (by simp [no])⟩

theorem rvright_ok (v : Val) (w : World) : Calls Tryd.prog 30 #[v.agg] w fun e w' => e = .returned (.bool v.right) ∧ Ext w w' := by
  apply rvright_vc
  unfold rvright_T
  intro b1 w2 h1
  have hx := h1.ext
  obtain ⟨p0, p1, p2⟩ := (Blk.new h1).c3
  have key : ∀ (b : Bool) w', Ext w w' → (b = true ↔ v.Ok) → Ending.returned (Value.bool b) = Ending.returned (Value.bool v.right) ∧ Ext w w' := by
    intro b w' hx hb
    refine ⟨?_, hx⟩
    have : b = v.right := by unfold Val.right; rw [Bool.eq_iff_iff, hb]; simp
    rw [this]
  have f : ∀ {b : Bool}, b = false → ¬ v.Ok → (b = true ↔ v.Ok) := fun hb hn => by simp [hb, hn]
  refine ⟨_, p0, fun hk => ⟨_, p1, fun hn => ⟨_, p2, key _ _ hx ?_⟩, fun hn => key _ _ hx ?_⟩, fun hk0 => ⟨fun hk => ⟨_, p2, key _ _ hx ?_⟩, fun hk1 => ⟨fun hk => ⟨_, p1, fun hn => ⟨_, p2, key _ _ hx ?_⟩, fun hn => ⟨_, p1, fun hn1 => ⟨_, p2, key _ _ hx ?_⟩, fun hn1 => key _ _ hx ?_⟩⟩,
    fun hk2 => ⟨fun hk => ⟨_, p1, fun hn => ⟨_, p2, key _ _ hx ?_⟩, fun hn => key _ _ hx ?_⟩, fun hk3 => key _ _ hx ?_⟩⟩⟩⟩
  all_goals (unfold Val.Ok; try rw [sEq_iff])
  · exact ⟨fun h => .inl ⟨hk, hn, h⟩, fun h => by rcases h with h | h | h | h <;> first | exact h.2.2 | omega⟩
  · exact ⟨fun h => (by cases h), fun h => by omega⟩
  · exact ⟨fun h => .inr (.inl ⟨hk, h⟩), fun h => by rcases h with h | h | h | h <;> first | exact h.2 | omega⟩
  · exact ⟨fun h => .inr (.inr (.inl ⟨hk, .inl hn, h⟩)), fun h => by rcases h with h | h | h | h <;> first | exact h.2.2 | omega⟩
  · exact ⟨fun h => .inr (.inr (.inl ⟨hk, .inr hn1, h⟩)), fun h => by rcases h with h | h | h | h <;> first | exact h.2.2 | omega⟩
  · exact ⟨fun h => (by cases h), fun h => by omega⟩
  · rw [decide_eq_true_eq]
    exact ⟨fun h => .inr (.inr (.inr ⟨hk, hn, by omega⟩)), fun h => by rcases h with h | h | h | h <;> omega⟩
  · exact ⟨fun h => (by cases h), fun h => by omega⟩
  · exact ⟨fun h => (by cases h), fun h => by omega⟩

theorem vcompare_ok (a b : Val) (w : World) : Calls Tryd.prog 79 #[a.agg, b.agg] w fun e w' => e = .returned (.int .i64 (cmpV a b)) ∧ Ext w w' := by
  apply vcompare_vc
  unfold vcompare_T
  intro b1 w2 h1 b4 w5 h4 w7 h7
  have H := (((Hold.start (Ext.rfl (w := w))).new h1).new h4).step h7.ext
  obtain ⟨p0, p1, p2⟩ := (H.blk 1 rfl).c3
  obtain ⟨q0, q1, q2⟩ := (H.blk 0 rfl).c3
  refine ⟨_, p0, _, q0, _, p1, _, q1, _, p2, _, q2, (cmpint_ok _ _ w7).mono ?_⟩
  rintro e w16 ⟨rfl, e16⟩
  refine ⟨_, rfl, e16.same, (cmpint64_ok _ _ w16).mono ?_⟩
  rintro e w19 ⟨rfl, e19⟩
  refine ⟨_, rfl, e19.same, (strcmp_ok _ _ w19).mono ?_⟩
  rintro e w22 ⟨rfl, e22⟩
  refine ⟨_, rfl, fun b24 w25 h24 => ?_⟩
  have H25 := ((H.step e16).step e19).step e22
  have H26 := H25.new h24
  refine (cmpor_ok (l := [cmpI a.k b.k, cmpI a.n b.n, cmpS a.s b.s]) w25 rfl (by simp) h24.at).mono ?_
  rintro e w28 ⟨rfl, e28⟩
  refine ⟨_, rfl, ?_, (H26.step e28).ext⟩
  have : orI [cmpI a.k b.k, cmpI a.n b.n, cmpS a.s b.s] = cmpV a b := by
    rw [cmpV_def]
    simp only [orI]
    congr 1
    congr 1
    by_cases h : cmpS a.s b.s = 0 <;> simp [h]
  rw [this]

theorem rvless_ok (a b : Val) (w : World) : Calls Tryd.prog 105 #[a.agg, b.agg] w fun e w' => e = .returned (.bool (lessV a b)) ∧ Ext w w' := by
  apply rvless_vc
  unfold rvless_T
  intro b1 w2 h1 b4 w5 h4
  have H := ((Hold.start (Ext.rfl (w := w))).new h1).new h4
  obtain ⟨p0, p1, p2⟩ := (H.blk 1 rfl).c3
  obtain ⟨q0, q1, q2⟩ := (H.blk 0 rfl).c3
  refine ⟨_, p0, _, q0, fun hk => ⟨_, p0, _, q0, ?_, H.ext⟩, fun hk => ⟨_, p0, fun h3 => ⟨_, p2, _, q2, ?_, H.ext⟩, fun h3 => ⟨_, p1, _, q1, ?_, H.ext⟩⟩⟩
  · unfold lessV; rw [if_pos hk]
  · unfold lessV; rw [if_neg (by simpa using hk), if_pos h3]
  · unfold lessV; rw [if_neg (by simpa using hk), if_neg h3]
theorem rvcompare_ok (a b : Val) (w : World) : Calls Tryd.prog 83 #[a.agg, b.agg] w fun e w' => e = .returned (.int .i64 (rcmpV a b)) ∧ Ext w w' := by
  apply rvcompare_vc
  unfold rvcompare_T
  intro b1 w2 h1 b4 w5 h4
  have H := ((Hold.start (Ext.rfl (w := w))).new h1).new h4
  obtain ⟨p0, p1, p2⟩ := (H.blk 1 rfl).c3
  obtain ⟨q0, q1, q2⟩ := (H.blk 0 rfl).c3
  refine ⟨_, p0, _, p1, _, p2, _, q0, _, q1, _, q2, (rvless_ok a b w5).mono ?_⟩
  rintro e w8 ⟨rfl, e8⟩
  have H8 := H.step e8
  obtain ⟨p0, p1, p2⟩ := (H8.blk 1 rfl).c3
  obtain ⟨q0, q1, q2⟩ := (H8.blk 0 rfl).c3
  refine ⟨_, rfl, _, q0, _, q1, _, q2, _, p0, _, p1, _, p2, (rvless_ok b a w8).mono ?_⟩
  rintro e w9 ⟨rfl, e9⟩
  have hx := (H8.step e9).ext
  refine ⟨_, rfl, fun h => ⟨?_, hx⟩, fun h => ⟨fun h' => ⟨?_, hx⟩, fun h' => ⟨?_, hx⟩⟩⟩
  · unfold rcmpV; rw [if_pos h]
  · unfold rcmpV; rw [if_neg (by simp [h]), if_pos h']
  · unfold rcmpV; rw [if_neg (by simp [h]), if_neg (by simp [h'])]

end Go.Proofs.YtdephmdfdgclpaaDoor

/- The contracts of package expr: the walk over an expression's nodes. -/
namespace Go.Proofs.YtdephmdfdgclpaaDoor
open Go Go.Vc Go.RowKit

/-- What a caller of the walk promises: each node may be handed to it, whatever else is held. -/
def Rounds (L : List (Nat × Ex)) (l0 : Nat) (wc : World) (Q : Nat → List (Nat × Obj) → Prop) (S : List (Nat × Obj) → Prop) : Prop :=
  ∀ (k : Nat) (p : Nat × Ex) (ncs : List Value) (gs fs : List (Nat × Obj)) (W : World) (R : Bool → World → Prop), L[k]? = some p → ExAt wc p.2 ncs → Q k fs → Hold wc W (fs ++ gs) [] →
    (∀ fs' W', Q (k + 1) fs' → Hold wc W' (fs' ++ gs) [] → R true W') → (∀ fs' W', S fs' → Hold wc W' (fs' ++ gs) [] → R false W') → Yield Tryd.prog l0 #[.int .i64 (p.1 : Int), .agg ncs.toArray] W R

theorem nodes_ok (x : Ex) {cs : List Value} {w w0 : World} (h : ExAt w0 x cs) (d : Int) : Calls Tryd.prog 31 #[.agg cs.toArray, .int .i64 d] w fun e w' => ∃ b1 b4, e = .returned (.func (.func 47) #[] #[.pointer (some ⟨b4, 0, none⟩), .pointer (some ⟨b1, 0, none⟩)]) ∧
    ∀ fs ms w0, Hold w0 w fs ms → Hold w0 w' ((b4, .cells #[.int .i64 d] 3) :: (b1, .cells cs.toArray 29) :: fs) ms := by
  obtain ⟨p, n, c, rfl, _⟩ := h.six
  apply nodes_vc
  unfold nodes_T
  intro b1 w2 h1 b4 w5 h4
  exact ⟨b1, b4, rfl, fun fs ms w0 h => (h.new h1).new h4⟩

theorem perm3 {α : Type} (a b c : List α) : (a ++ (b ++ c)).Perm (b ++ (a ++ c)) := by
  rw [← List.append_assoc, ← List.append_assoc]
  exact List.perm_append_comm.append_right c
set_option maxHeartbeats 4000000 in
theorem nodes1_ok : ∀ (N : Nat) (x : Ex) (d l0 fv0 fv1 : Nat) (wc : World) (cs : List Value) (Q : Nat → List (Nat × Obj) → Prop) (S : List (Nat × Obj) → Prop) (gs fs : List (Nat × Obj)) (w : World) (M : Nat), depthT x ≤ N → d ≤ 41 → ExAt wc x cs →
    (∀ k fs, Q k fs → (∀ y ∈ fs, y.1 < M) ∧ (fv0, .cells #[.int .i64 (d : Int)] 3 (0, 0)) ∈ fs ∧ (fv1, .cells cs.toArray 29 (0, 0)) ∈ fs) → (∀ fs, S fs → ∀ y ∈ fs, y.1 < M) → M ≤ w.heap.size →
    Rounds (walkT x d) l0 wc Q S → Q 0 fs → Hold wc w (fs ++ gs) [] →
    Calls Tryd.prog 47 #[.func (.yield l0) #[] #[], .pointer (some ⟨fv0, 0, none⟩), .pointer (some ⟨fv1, 0, none⟩)] w fun e W' => e = .returned (.tuple #[]) ∧ ((∃ fs', Q (walkT x d).length fs' ∧ Hold wc W' (fs' ++ gs) []) ∨ ∃ fs', S fs' ∧ Hold wc W' (fs' ++ gs) []) := by
  intro N
  induction N with
  | zero => intro x d l0 fv0 fv1 wc cs Q S gs fs w M hd; cases x; unfold depthT at hd; omega
  | succ N ih =>
  intro x d l0 fv0 fv1 wc cs Q S gs fs w M hdep hd hx hQ hS hM hR q0 hH
  obtain ⟨p, n, c, rfl, hkl, hn, hkid⟩ := hx.six
  apply nodes1_vc
  unfold nodes1_T
  intro b1 w2 h1
  have hb1 : b1 = w.heap.size := h1.1
  have H2 := hH.new h1
  have gsM : ∀ y ∈ gs, y.1 < w.heap.size := fun y hy => hH.ltM (List.mem_append_right _ hy)
  obtain ⟨_, m0, m1⟩ := hQ 0 fs q0
  have B0 := H2.blkM (List.mem_cons_of_mem _ (List.mem_append_left gs m0))
  have B1 := H2.blkM (List.mem_cons_of_mem _ (List.mem_append_left gs m1))
  obtain ⟨c0, c1, c2, c3, c4, c5⟩ := B1.c6
  have hhead : (walkT x d)[0]? = some (d, x) := by cases x; rfl
  refine ⟨_, (H2.blk 0 rfl).one, _, B0.one, _, c0, _, c1, _, c2, _, c3, _, c4, _, _, _, c5, l0, rfl, ?_⟩
  refine hR 0 (d, x) _ ((b1, .cells #[.func (.yield l0) #[] #[]] 68 (0, 0)) :: gs) fs w2 _ hhead hx q0 (Hold.swap (a := [_]) H2) (fun fs' W' q H => ⟨fun h => (by cases h), fun _ => ?_⟩)
    (fun fs' W' s H => ⟨fun _ => ⟨rfl, .inr ⟨fs', s, H.sub ((List.Sublist.refl fs').append (List.sublist_cons_self _ _))⟩⟩, fun h => (by cases h)⟩)
  obtain ⟨_, m0, m1⟩ := hQ 1 fs' q
  have B0 := H.blkM (List.mem_append_left _ m0)
  have B1 := H.blkM (List.mem_append_left _ m1)
  obtain ⟨_, _, _, _, _, c5⟩ := B1.c6
  refine ⟨_, B0.one, fun hgt => ⟨rfl, .inl ⟨fs', ?_, H.sub ((List.Sublist.refl fs').append (List.sublist_cons_self _ _))⟩⟩, fun hle => ?_⟩
  · have : (walkT x d).length = 1 := by cases x; unfold walkT; rw [if_pos (by omega)]; rfl
    rw [this]; exact q
  have hL : walkT x d = (d, x) :: walkTs x.kids (d + 1) := by cases x; unfold walkT; rw [if_neg (by omega)]; rfl
  let Y : Nat × Obj := (b1, .cells #[.func (.yield l0) #[] #[]] 68 (0, 0))
  let off : Nat → Nat := fun j => 1 + (walkTs (x.kids.take j) (d + 1)).length
  have H' : Hold wc W' (Y :: (fs' ++ gs)) [] := H.perm List.perm_middle
  refine ⟨_, _, _, c5, fun i W => ∃ (j : Nat) (fs : List (Nat × Obj)), i = (j : Int) ∧ j ≤ n ∧ Q (off j) fs ∧ Hold wc W (Y :: (fs ++ gs)) [], fun i _ => n - i.toNat, w.heap.size, ⟨0, fs', rfl, Nat.zero_le _, by simpa [off, walkTs] using q, H'⟩, ⟨by simp, by simp⟩, ?_⟩
  clear H' H B0 B1 c5 q m0 m1 c0 c1 c2 c3 c4 hhead
  rintro i W ⟨j, fs, rfl, hj, q, H⟩ ds ho
  have hwc : wc.heap.size ≤ w.heap.size := hH.size
  have low : ∀ k fs, Q k fs → ∀ y ∈ fs ++ gs, y.1 < w.heap.size := fun k fs q y hy => by
    rcases List.mem_append.1 hy with hy | hy
    · have := (hQ k fs q).1 y hy; omega
    · exact gsM y hy
  have lowS : ∀ fs, S fs → ∀ y ∈ fs ++ gs, y.1 < w.heap.size := fun fs s y hy => by
    rcases List.mem_append.1 hy with hy | hy
    · have := hS fs s y hy; omega
    · exact gsM y hy
  refine ⟨fun hlt => ?_, fun hge => ?_⟩
  · have g : x.kids[j]? = some (x.kids[j]'(by omega)) := List.getElem?_eq_getElem _
    generalize x.kids[j]'(by omega) = k at g
    obtain ⟨kc, b, o, hk, hp, hc⟩ := hkid H.ext g
    obtain ⟨kp, kn, kcap, hkc, _⟩ := hk.six
    simp only [Int.toNat_natCast]
    have e0 := hc 0 _ (by rw [hkc]; rfl)
    have e1 := hc 1 _ (by rw [hkc]; rfl)
    have e2 := hc 2 _ (by rw [hkc]; rfl)
    have e3 := hc 3 _ (by rw [hkc]; rfl)
    have e4 := hc 4 _ (by rw [hkc]; rfl)
    have e5 := hc 5 _ (by rw [hkc]; rfl)
    have Ho : Hold wc W (dfs ds ++ (Y :: (fs ++ gs))) [] := H.addOpen ho hwc fun y hy => by
      rcases List.mem_cons.1 hy with rfl | hy
      · exact .inr (by simp [Y])
      · exact .inl (low _ _ q y hy)
    have Ho : Hold wc W (Y :: (fs ++ (dfs ds ++ gs))) [] := by
      refine Ho.perm ?_
      refine List.perm_middle.trans (List.Perm.cons _ ?_)
      rw [← List.append_assoc, ← List.append_assoc]
      exact List.perm_append_comm.append_right gs
    refine ⟨b, o, hp, by omega, by omega, _, e0, _, e1, _, e2, _, e3, _, e4, _, _, _, e5, fun b43 w44 h43 => ?_⟩
    have H44 := Ho.new h43
    refine (H44.blk 0 rfl).w6 fun w52 h52 => ?_
    have H52 := H44.put 0 rfl h52
    have Bk : Blk w52 b43 29 #[.int .i64 k.op, .string k.name, .int .i64 k.v.k, .int .i64 k.v.n, .string k.v.s, .slice kp kn kcap] := H52.blk 0 rfl
    obtain ⟨a0, a1, a2, a3, a4, a5⟩ := Bk.c6
    obtain ⟨_, m0, m1⟩ := hQ _ fs q
    have Bd := H52.blkM (List.mem_cons_of_mem _ (List.mem_cons_of_mem _ (List.mem_append_left (dfs ds ++ gs) m0)))
    refine ⟨_, a0, _, a1, _, a2, _, a3, _, a4, _, _, _, a5, _, Bd.one, ?_⟩
    rw [i64_next (by omega)]
    subst hkc
    refine (nodes_ok k hk ((d + 1 : Nat) : Int)).mono ?_
    rintro e w64 ⟨bx, bd, rfl, hH64⟩
    have H64 := hH64 _ _ _ H52
    refine ⟨_, rfl, _, _, rfl, by kernel_rfl, fun r d70 l71 w171 hB hY => ?_⟩
    have HB := H64.began hB
    have hd70 : w.heap.size ≤ d70 := by
      have h3 : b1 < w64.heap.size := H64.lt 3 rfl
      have := hB.sizes.1
      omega
    let own : Nat → List (Nat × Obj) := fun q => [(l71, .loop (r q)), (d70, .deferred (some [])), (bd, .cells #[.int .i64 ((d + 1 : Nat) : Int)] 3 (0, 0)),
      (bx, .cells #[.int .i64 k.op, .string k.name, .int .i64 k.v.k, .int .i64 k.v.n, .string k.v.s, .slice kp kn kcap] 29 (0, 0)),
      (b43, .cells #[.int .i64 k.op, .string k.name, .int .i64 k.v.k, .int .i64 k.v.n, .string k.v.s, .slice kp kn kcap] 29 (0, 0)), Y]
    have HB : Hold wc w171 ((own 0 ++ fs) ++ (dfs ds ++ gs)) [] := HB
    have ownM : ∀ q, ∀ y ∈ own q, y.1 < w171.heap.size := by
      intro q y hy
      have : ∀ y ∈ own 0, y.1 < w171.heap.size := fun y hy => HB.ltM (List.mem_append_left _ (List.mem_append_left _ hy))
      simp only [own, List.mem_cons, List.not_mem_nil, or_false] at hy this
      rcases hy with rfl | hy
      · exact this (l71, .loop (r 0)) (.inl rfl)
      · exact this y (.inr hy)
    have hMw : M ≤ w171.heap.size := by
      have := HB.ltM (x := Y) (by simp [own])
      have : b1 < w171.heap.size := this
      omega
    refine (ih k (d + 1) l71 bd bx wc _ (fun k' fs2 => ∃ fs, Q (off j + k') fs ∧ fs2 = own 0 ++ fs) (fun fs2 => ∃ fs, S fs ∧ fs2 = own 3 ++ fs) (dfs ds ++ gs) _ w171 w171.heap.size ?_ (by omega) hk ?_ ?_ (Nat.le_refl _) ?_ ⟨fs, q, rfl⟩ HB).mono ?_
    · have := depthTs_get g
      cases x
      unfold depthT at hdep
      simp only [Ex.kids] at this
      omega
    · rintro k' fs2 ⟨fs3, q3, rfl⟩
      refine ⟨fun y hy => ?_, by simp [own], by simp [own]⟩
      rcases List.mem_append.1 hy with hy | hy
      · exact ownM 0 y hy
      · have := (hQ _ _ q3).1 y hy; omega
    · rintro fs2 ⟨fs3, s3, rfl⟩ y hy
      rcases List.mem_append.1 hy with hy | hy
      · exact ownM 3 y hy
      · have := hS _ s3 y hy; omega
    · rintro k' pn ncs gs2 fs2 W2 R2 hLk hE ⟨fs3, q3, rfl⟩ H2 yes no
      obtain ⟨np, nn, ncap, rfl, _⟩ := hE.six
      refine hY _ _ _ _ _ _ _ _ _ W2 R2 (H2.loop 0 rfl) fun b85 w86 h86 => ?_
      have H86 := H2.new h86
      refine (H86.blk 0 rfl).w6 fun w94 h94 => ?_
      have H94 := H86.put 0 rfl h94
      refine ⟨H94.loop 1 rfl, ?_⟩
      rintro Wb rfl
      have H96 := H94.turn 1 1 rfl
      let nb : Nat × Obj := (b85, .cells #[.int .i64 pn.2.op, .string pn.2.name, .int .i64 pn.2.v.k, .int .i64 pn.2.v.n, .string pn.2.v.s, .slice np nn ncap] 29 (0, 0))
      have H96 : Hold wc (turn r l71 1 w94) (([nb] ++ own 1 ++ fs3) ++ gs2) [] := H96
      have Bn : Blk (turn r l71 1 w94) b85 29 #[.int .i64 pn.2.op, .string pn.2.name, .int .i64 pn.2.v.k, .int .i64 pn.2.v.n, .string pn.2.v.s, .slice np nn ncap] := H96.blk 0 rfl
      obtain ⟨a0, a1, a2, a3, a4, a5⟩ := Bn.c6
      refine ⟨_, (H96.blk 6 rfl).one, _, a0, _, a1, _, a2, _, a3, _, a4, _, _, _, a5, l0, rfl, ?_⟩
      have hLk' : (walkT x d)[off j + k']? = some pn := by
        rw [hL, show off j + k' = ((walkTs (x.kids.take j) (d + 1)).length + k') + 1 by simp only [off]; omega, List.getElem?_cons_succ]
        exact walkTs_at g hLk
      refine hR (off j + k') pn _ (([nb] ++ own 1) ++ gs2) fs3 _ _ hLk' hE q3 H96.swap (fun fs' W' q' H' => ⟨fun h => (by cases h), fun _ => ?_⟩) (fun fs' W' s' H' => ⟨fun _ => ?_, fun h => (by cases h)⟩)
      · have H' : Hold wc W' (([nb] ++ own 1) ++ (fs' ++ gs2)) [] := by
          rw [← List.append_assoc] at H'
          exact H'.swap
        refine ⟨H'.loop 1 rfl, yes _ _ ⟨fs', q', rfl⟩ ?_⟩
        exact (H'.turn 1 0 rfl).tail
      · have H' : Hold wc W' (([nb] ++ own 1) ++ (fs' ++ gs2)) [] := by
          rw [← List.append_assoc] at H'
          exact H'.swap
        refine ⟨H'.loop 1 rfl, no _ _ ⟨fs', s', rfl⟩ ?_⟩
        exact (H'.turn 1 3 rfl).tail
    · rintro e W3 ⟨rfl, hI | hS3⟩
      · obtain ⟨_, ⟨fs3, q3, rfl⟩, H3⟩ := hI
        refine ⟨⟨_, rfl⟩, .inl ⟨H3.loop 0 rfl, ?_⟩⟩
        have H4 := H3.turn 0 2 rfl
        have H4 : Hold wc (turn r l71 2 W3) ((own 2 ++ fs3) ++ (dfs ds ++ gs)) [] := H4
        have hop : Vc.Open w.heap.size (d70 :: ds) (turn r l71 2 W3) := by
          refine Hold.opened (w0 := wc) (fs := ((l71, Obj.loop (r 2)) :: ((own 2).drop 2 ++ fs3)) ++ gs) ?_ fun y hy => ?_
          · exact H4.perm ((List.Perm.swap _ _ _).trans (List.Perm.cons _ (perm3 ((l71, Obj.loop (r 2)) :: ((own 2).drop 2 ++ fs3)) (dfs ds) gs)))
          · rcases List.mem_cons.1 hy with rfl | hy
            · exact hd70
            · exact (ho.2 y hy).1
        refine ⟨hop, ⟨j + 1, fs3, by rw [i64_next (by omega)], by omega, ?_, ?_⟩, ?_⟩
        · have : off (j + 1) = off j + (walkT k (d + 1)).length := by
            simp only [off]; rw [walkTs_take _ g, List.length_append]; omega
          rw [this]; exact q3
        · exact H4.tail.tail.tail.tail.tail.sub (((List.Sublist.refl fs3).append (List.sublist_append_right _ _)).cons_cons Y)
        · rw [i64_next (by omega)]; simp only [Int.toNat_natCast]; omega
      · obtain ⟨_, ⟨fs3, s3, rfl⟩, H3⟩ := hS3
        refine ⟨⟨_, rfl⟩, .inr (.inl ⟨H3.loop 0 rfl, ?_⟩)⟩
        have H4 := H3.turn 0 4 rfl
        have H5 := H4.shut 1 rfl
        have H5 : Hold wc _ (((l71, .loop (r 4)) :: (d70, .deferred none) :: ((own 3).drop 2 ++ fs3)) ++ (dfs ds ++ gs)) [] := H5
        refine ⟨H4.dfr 1 rfl, unD_hold (w0 := wc) (fs := fs3 ++ gs) hwc (lowS _ s3) (fun W' H' => ⟨by trivial, .inr ⟨fs3, s3, H'⟩⟩) ds _ (Hold.opened (w0 := wc) (H5.perm (perm3 _ _ _)) fun y hy => (ho.2 y hy).1) ?_⟩
        exact H5.tail.tail.tail.tail.tail.tail.sub ((List.Sublist.refl fs3).append (List.sublist_append_right _ _))
  · have hjn : j = n := by omega
    refine unD_hold (w0 := wc) (fs := fs ++ gs) hwc (low _ _ q) (fun W' H' => ⟨rfl, .inl ⟨fs, ?_, H'⟩⟩) ds W ho H.tail
    have : (walkT x d).length = off j := by
      rw [hL, hjn, ← hkl]; simp [off]; omega
    rw [this]; exact q
end Go.Proofs.YtdephmdfdgclpaaDoor

/- The contracts of package expr: which expressions are well formed. -/
namespace Go.Proofs.YtdephmdfdgclpaaDoor
open Go Go.Vc Go.RowKit

/-- The table of shapes lies in memory. -/
def Tab (w : World) : Prop := CellsAt w 0 0 shapesA
theorem Tab.ext {w w' : World} (h : Tab w) (e : Ext w w') : Tab w' := fun k v hk => cell_ext (h k v hk) e
theorem Tab.at {w : World} (h : Tab w) {op : Int} (h1 : 0 ≤ op) (h2 : op < 17) : w.cell? ⟨0, 0 + op.toNat * 3, none⟩ = some (.int .i64 (manyOf op)) ∧ w.cell? ⟨0, 0 + op.toNat * 3 + 1, none⟩ = some (.int .i64 (wantOf op)) ∧
    w.cell? ⟨0, 0 + op.toNat * 3 + 2, none⟩ = some (.int .i64 (kindOf op)) := by
  obtain ⟨i, rfl⟩ := Int.eq_ofNat_of_zero_le h1
  obtain ⟨a, b, c⟩ := shapes_at (i := i) (by omega)
  rw [Int.toNat_natCast]
  exact ⟨h _ _ a, by rw [Nat.add_assoc]; exact h _ _ b, by rw [Nat.add_assoc]; exact h _ _ c⟩

set_option maxHeartbeats 4000000 in
theorem xformed_ok {w : World} (hT : Tab w) (x : Ex) {cs : List Value} (hx : ExAt w x cs) : Calls Tryd.prog 27 #[.agg cs.toArray] w fun e w' => e = .returned (.bool (formedB x)) ∧ Ext w w' := by
  obtain ⟨p, n, c, rfl, hkl, hn, hkid⟩ := hx.six
  apply xformed_vc
  unfold xformed_T
  intro b1 w2 h1 b4 w5 h4 b7 w8 h7
  have H8 := (((Hold.start (Ext.rfl (w := w))).new h1).new h4).new h7
  refine ⟨⟨_, (H8.blk 0 rfl).one⟩, (H8.blk 0 rfl).frozen 0, fun w11 h11 => ?_⟩
  have H11 := H8.box 0 rfl h11
  have B1 : Blk w11 b1 29 #[.int .i64 x.op, .string x.name, .int .i64 x.v.k, .int .i64 x.v.n, .string x.v.s, .slice p n c] := H11.blk 2 rfl
  obtain ⟨a0, a1, a2, a3, a4, a5⟩ := B1.c6
  refine ⟨_, a0, _, a1, _, a2, _, a3, _, a4, _, _, _, a5, (nodes_ok x hx 1).mono ?_⟩
  rintro e w22 ⟨bx, bd, rfl, hH⟩
  have H22 := hH _ _ _ H11
  refine ⟨_, rfl, _, _, rfl, by kernel_rfl, fun r d l w29 hB hY => ?_⟩
  have HB := H22.began hB
  let fs : Nat → Int → List (Nat × Obj) := fun q m => [(l, .loop (r q)), (d, .deferred (some [])), (bd, .cells #[.int .i64 1] 3 (0, 0)), (bx, .cells #[.int .i64 x.op, .string x.name, .int .i64 x.v.k, .int .i64 x.v.n, .string x.v.s, .slice p n c] 29 (0, 0)),
    (b7, .cells #[.int .i64 m] 3 (0, 0)), (b4, .cells #[.bool false] 4 (0, 0)), (b1, .cells #[.int .i64 x.op, .string x.name, .int .i64 x.v.k, .int .i64 x.v.n, .string x.v.s, .slice p n c] 29 (0, 0))]
  have HB : Hold w w29 (fs 0 0 ++ []) [] := HB
  have fsM : ∀ q m, ∀ y ∈ fs q m, y.1 < w29.heap.size := by
    intro q m y hy
    have : ∀ y ∈ fs 0 0, y.1 < w29.heap.size := fun y hy => HB.ltM (List.mem_append_left _ hy)
    simp only [fs, List.mem_cons, List.not_mem_nil, or_false] at hy this
    rcases hy with rfl | rfl | rfl | rfl | rfl | rfl | rfl
    · exact this (l, .loop (r 0)) (.inl rfl)
    · exact this _ (.inr (.inl rfl))
    · exact this _ (.inr (.inr (.inl rfl)))
    · exact this _ (.inr (.inr (.inr (.inl rfl))))
    · exact this (b7, .cells #[.int .i64 0] 3 (0, 0)) (.inr (.inr (.inr (.inr (.inl rfl)))))
    · exact this _ (.inr (.inr (.inr (.inr (.inr (.inl rfl))))))
    · exact this _ (.inr (.inr (.inr (.inr (.inr (.inr rfl))))))
  refine (nodes1_ok (depthT x) x 1 l bd bx w _ (fun k f => f = fs 0 (k : Int) ∧ k ≤ 400 ∧ goW ((walkT x 1).drop k) k = formedB x) (fun f => (∃ m, f = fs 3 m) ∧ formedB x = false) [] (fs 0 0) w29 w29.heap.size (Nat.le_refl _) (by omega) hx ?_ ?_ (Nat.le_refl _) ?_ ⟨rfl, by omega, goW_formed x⟩ HB).mono ?_
  · rintro k f ⟨rfl, _, _⟩
    exact ⟨fsM _ _, by simp [fs], by simp [fs]⟩
  · rintro f ⟨⟨m, rfl⟩, _⟩ y hy
    exact fsM _ _ y hy
  · rintro k pn ncs gs f W R hL hE ⟨rfl, hk, hg⟩ H yes no
    obtain ⟨np, nn, ncap, rfl, hkn, _⟩ := hE.six
    have hgd : goW ((walkT x 1).drop k) k = if 40 < pn.1 ∨ 400 < k + 1 ∨ ¬ NodeOk pn.2 then false else goW ((walkT x 1).drop (k + 1)) (k + 1) := by
      obtain ⟨hk', rfl⟩ := List.getElem?_eq_some_iff.1 hL
      rw [List.drop_eq_getElem_cons hk']; rfl
    refine hY _ _ _ _ _ _ _ _ _ W R (H.loop 0 rfl) fun b43 w44 h43 => ?_
    have H44 := H.new h43
    refine (H44.blk 0 rfl).w6 fun w52 h52 => ?_
    have H52 := H44.put 0 rfl h52
    refine ⟨H52.loop 1 rfl, ?_⟩
    rintro Wb rfl
    have H54 := H52.turn 1 1 rfl
    refine ⟨_, (H54.blk 5 rfl).one, ⟨_, (H54.blk 5 rfl).one⟩, (H54.blk 5 rfl).frozen 0, fun w58 h58 w60 h60 => ?_⟩
    have H60 := (H54.box 5 rfl h58).step h60.ext
    rw [i64_next (by omega)] at H60
    let nb : Nat × Obj := (b43, .cells #[.int .i64 pn.2.op, .string pn.2.name, .int .i64 pn.2.v.k, .int .i64 pn.2.v.n, .string pn.2.v.s, .slice np nn ncap] 29 (0, 0))
    have H60 : Hold w w60 (nb :: (fs 1 ((k + 1 : Nat) : Int) ++ gs)) [] := H60
    -- the walk is left
    have stop : ∀ W', Ext w60 W' → formedB x = false → (∃ u, W'.cell? ⟨b4, 0, none⟩ = some u) ∧ W'.frozen? ⟨b4, 0, none⟩ = false ∧ ∀ w64 : World, Put W' b4 0 [.bool false] w64 → Rec r l 1 w64 ∧ R false (turn r l 3 w64) := by
      intro W' e hf
      have HW := H60.step e
      refine ⟨⟨_, (HW.blk 6 rfl).one⟩, (HW.blk 6 rfl).frozen 0, fun w64 h64 => ?_⟩
      have H64 := HW.box 6 rfl h64
      exact ⟨H64.loop 1 rfl, no _ _ ⟨⟨_, rfl⟩, hf⟩ (H64.turn 1 3 rfl).tail⟩
    have go : ∀ W', Ext w60 W' → pn.1 ≤ 40 → k + 1 ≤ 400 → NodeOk pn.2 → Rec r l 1 W' ∧ R true (turn r l 0 W') := by
      intro W' e h1 h2 h3
      have HW := H60.step e
      refine ⟨HW.loop 1 rfl, yes _ _ ⟨rfl, h2, ?_⟩ (HW.turn 1 0 rfl).tail⟩
      rw [← hg, hgd, if_neg]
      rintro (h | h | h)
      · omega
      · omega
      · exact h h3
    have hf : (40 < pn.1 ∨ 400 < k + 1 ∨ ¬ NodeOk pn.2) → formedB x = false := fun h => by rw [← hg, hgd, if_pos h]
    have bad : ¬ NodeOk pn.2 → formedB x = false := fun h => hf (.inr (.inr h))
    have B : Blk w60 b43 29 #[.int .i64 pn.2.op, .string pn.2.name, .int .i64 pn.2.v.k, .int .i64 pn.2.v.n, .string pn.2.v.s, .slice np nn ncap] := H60.blk 0 rfl
    obtain ⟨a0, a1, a2, a3, a4, a5⟩ := B.c6
    have hT60 := hT.ext H60.ext
    refine ⟨fun hd => stop w60 .rfl (hf (.inl (by omega))), fun hd => ⟨_, (H60.blk 5 rfl).one, fun hm => stop w60 .rfl (hf (.inr (.inl (by omega)))), fun hm => ⟨_, a0, fun ho => stop w60 .rfl (bad ?_), fun ho => ⟨_, a0, fun ho' => stop w60 .rfl (bad ?_), fun ho' => ?_⟩⟩⟩⟩
    · rintro ⟨h, _⟩
      have := many_range (op := pn.2.op) (by omega)
      omega
    · rintro ⟨h, _⟩
      have := many_range (op := pn.2.op) (by omega)
      omega
    · obtain ⟨t0, _, _⟩ := hT60.at (op := pn.2.op) (by omega) ho'
      refine ⟨_, _, _, a5, _, a0, by omega, ho', _, t0, fun hne => stop w60 .rfl (bad ?_), fun he => ?_⟩
      · rintro ⟨h, _⟩; omega
      have vcall : ∀ (hnm : pn.2.op = 1 ∨ pn.2.name = ⟨#[]⟩) (hvv : pn.2.op = 2 ∨ pn.2.v = nullV), Calls Tryd.prog 43 #[.agg #[.int .i64 pn.2.v.k, .int .i64 pn.2.v.n, .string pn.2.v.s]] w60 fun (e : Ending) (w' : World) => ∃ b : Bool, e = .returned (.bool b) ∧
          (b = false → (∃ u, w'.cell? ⟨b4, 0, none⟩ = some u) ∧ w'.frozen? ⟨b4, 0, none⟩ = false ∧ ∀ w64 : World, Put w' b4 0 [.bool false] w64 → Rec r l 1 w64 ∧ R false (turn r l 3 w64)) ∧ (b = true → Rec r l 1 w' ∧ R true (turn r l 0 w')) := by
        intro hnm hvv
        refine (vright_ok pn.2.v w60).mono ?_
        rintro e w' ⟨rfl, e'⟩
        refine ⟨_, rfl, fun hb => stop w' e' (bad ?_), fun hb => go w' e' (by omega) (by omega) ⟨by omega, hnm, hvv, of_decide_eq_true hb⟩⟩
        rintro ⟨_, _, _, h⟩
        exact absurd h (of_decide_eq_false hb)
      have nullI : pn.2.v = nullV ↔ pn.2.v.k = 0 ∧ pn.2.v.n = 0 ∧ pn.2.v.s = ⟨#[]⟩ := Val.ext'
      refine ⟨_, a0, fun h1 => ⟨_, a1, fun hnm => stop w60 .rfl (bad ?_), fun hnm => ⟨_, a0, fun h2 => ⟨_, a2, _, a3, _, a4, fun hv => stop w60 .rfl (bad ?_), fun hv => ⟨_, a2, _, a3, _, a4, vcall (.inr hnm) (.inr (nullI.2 hv))⟩⟩, fun h2 => ⟨_, a2, _, a3, _, a4, vcall (.inr hnm) (.inl h2)⟩⟩⟩,
        fun h1 => ⟨_, a0, fun h2 => ⟨_, a2, _, a3, _, a4, fun hv => stop w60 .rfl (bad ?_), fun hv => ⟨_, a2, _, a3, _, a4, vcall (.inl h1) (.inr (nullI.2 hv))⟩⟩, fun h2 => ⟨_, a2, _, a3, _, a4, vcall (.inl h1) (.inl h2)⟩⟩⟩
      · rintro ⟨_, h, _⟩
        rcases h with h | h
        · exact h1 h
        · exact hnm h
      · rintro ⟨_, _, h, _⟩
        rcases h with h | h
        · exact h2 h
        · have := nullI.1 h
          rcases hv with hv | hv | hv
          · exact hv this.1
          · exact hv this.2.1
          · exact hv this.2.2
      · rintro ⟨_, _, h, _⟩
        rcases h with h | h
        · exact h2 h
        · have := nullI.1 h
          rcases hv with hv | hv | hv
          · exact hv this.1
          · exact hv this.2.1
          · exact hv this.2.2
  · rintro e W ⟨rfl, hI | hS⟩
    · obtain ⟨_, ⟨rfl, hk, hg⟩, H⟩ := hI
      refine ⟨⟨_, rfl⟩, .inl ⟨H.loop 0 rfl, ?_⟩⟩
      have H2 := H.turn 0 2 rfl
      refine ⟨⟨_, (H2.blk 5 rfl).one⟩, (H2.blk 5 rfl).frozen 0, fun w82 h82 => ?_⟩
      have H82 := H2.box 5 rfl h82
      have H83 := H82.shut 1 rfl
      refine ⟨H82.dfr 1 rfl, _, (H83.blk 5 rfl).one, ?_, H83.ext⟩
      rw [List.drop_length] at hg
      rw [← hg]; rfl
    · obtain ⟨_, ⟨⟨m, rfl⟩, hf⟩, H⟩ := hS
      refine ⟨⟨_, rfl⟩, .inr (.inl ⟨H.loop 0 rfl, ?_⟩)⟩
      have H2 := H.turn 0 4 rfl
      have H83 := H2.shut 1 rfl
      refine ⟨H2.dfr 1 rfl, _, (H83.blk 5 rfl).one, ?_, H83.ext⟩
      rw [hf]
end Go.Proofs.YtdephmdfdgclpaaDoor

/- Numbers: signs of bitwise operations; products of 64 bits; which results are numbers of 64 bits. -/
namespace Go.Vc
open Go

theorem wrap_bv (v : BitVec 64) : IntKind.i64.wrap ((v.toNat : Nat) : Int) = v.toInt := by
  rw [IntKind.wrap_i64, BitVec.toInt_eq_toNat_cond]
  have := v.isLt
  split <;> omega
theorem toInt_of {a : Int} (h0 : -9223372036854775808 ≤ a) (h1 : a ≤ 9223372036854775807) : (BitVec.ofInt 64 a).toInt = a := by
  rw [BitVec.toInt_ofInt, Int.bmod_def]
  split <;> omega
theorem and_i64_bv (a b : Int) : bits .and .i64 a b = (BitVec.ofInt 64 a &&& BitVec.ofInt 64 b).toInt := by
  rw [← wrap_bv]; rfl
theorem xor_i64_bv (a b : Int) : bits .xor .i64 a b = (BitVec.ofInt 64 a ^^^ BitVec.ofInt 64 b).toInt := by
  rw [← wrap_bv]; rfl
theorem i64_range (v : BitVec 64) : -9223372036854775808 ≤ v.toInt ∧ v.toInt ≤ 9223372036854775807 := by
  rw [BitVec.toInt_eq_toNat_cond]
  have := v.isLt
  split <;> omega
theorem and_neg {a b : Int} (a0 : -9223372036854775808 ≤ a) (a1 : a ≤ 9223372036854775807) (b0 : -9223372036854775808 ≤ b) (b1 : b ≤ 9223372036854775807) : bits .and .i64 a b < 0 ↔ a < 0 ∧ b < 0 := by
  have h := BitVec.msb_and (x := BitVec.ofInt 64 a) (y := BitVec.ofInt 64 b)
  rw [BitVec.msb_eq_toInt, BitVec.msb_eq_toInt, BitVec.msb_eq_toInt, toInt_of a0 a1, toInt_of b0 b1] at h
  rw [and_i64_bv, ← decide_eq_true_iff (p := BitVec.toInt _ < 0), h]; simp
theorem xor_neg {a b : Int} (a0 : -9223372036854775808 ≤ a) (a1 : a ≤ 9223372036854775807) (b0 : -9223372036854775808 ≤ b) (b1 : b ≤ 9223372036854775807) : bits .xor .i64 a b < 0 ↔ ¬ (a < 0 ↔ b < 0) := by
  have h := BitVec.msb_xor (x := BitVec.ofInt 64 a) (y := BitVec.ofInt 64 b)
  rw [BitVec.msb_eq_toInt, BitVec.msb_eq_toInt, BitVec.msb_eq_toInt, toInt_of a0 a1, toInt_of b0 b1] at h
  rw [xor_i64_bv, ← decide_eq_true_iff (p := BitVec.toInt _ < 0), h]
  by_cases ha : a < 0 <;> by_cases hb : b < 0 <;> simp [ha, hb]
theorem xor_range (a b : Int) : -9223372036854775808 ≤ bits .xor .i64 a b ∧ bits .xor .i64 a b ≤ 9223372036854775807 := by rw [xor_i64_bv]; exact i64_range _

/-- A number of 64 bits. -/
def fitI (x : Int) : Prop := -9223372036854775808 ≤ x ∧ x ≤ 9223372036854775807
instance (x : Int) : Decidable (fitI x) := by unfold fitI; exact inferInstance
theorem add_over {a b : Int} (ha : fitI a) (hb : fitI b) : bits .and .i64 (bits .xor .i64 a (IntKind.i64.wrap (a + b))) (bits .xor .i64 b (IntKind.i64.wrap (a + b))) < 0 ↔ ¬ fitI (a + b) := by
  unfold fitI at *
  have hw := IntKind.wrap_i64 (a + b)
  obtain ⟨x0, x1⟩ := xor_range a (IntKind.i64.wrap (a + b))
  obtain ⟨y0, y1⟩ := xor_range b (IntKind.i64.wrap (a + b))
  rw [and_neg x0 x1 y0 y1, xor_neg ha.1 ha.2 (by omega) (by omega), xor_neg hb.1 hb.2 (by omega) (by omega)]
  omega
theorem sub_over {a b : Int} (ha : fitI a) (hb : fitI b) : bits .and .i64 (bits .xor .i64 a b) (bits .xor .i64 a (IntKind.i64.wrap (a - b))) < 0 ↔ ¬ fitI (a - b) := by
  unfold fitI at *
  have hw := IntKind.wrap_i64 (a - b)
  obtain ⟨x0, x1⟩ := xor_range a b
  obtain ⟨y0, y1⟩ := xor_range a (IntKind.i64.wrap (a - b))
  rw [and_neg x0 x1 y0 y1, xor_neg ha.1 ha.2 hb.1 hb.2, xor_neg ha.1 ha.2 (by omega) (by omega)]
  omega

theorem shr32_u64 (v : Nat) : shrI .u64 (v : Int) 32 = ((v / 4294967296 : Nat) : Int) := by
  have : shrI .u64 (v : Int) 32 = Int.fdiv (v : Int) 4294967296 := rfl
  rw [this, Int.fdiv_eq_ediv_of_nonneg _ (by decide)]; omega
theorem and32_u64 {v : Nat} (h : v < 18446744073709551616) : bits .and .u64 (v : Int) 4294967295 = ((v % 4294967296 : Nat) : Int) := by
  have := bits_mask .u64 64 (by decide) (fun m h0 h1 => by simp [IntKind.wrap, IntKind.bits, IntKind.signed]; omega) 32 (by decide) (v : Int) (by omega) (by show (v : Int) < 18446744073709551616; omega)
  rw [show ((2 : Int) ^ 32 - 1) = 4294967295 from rfl, show ((2 : Int) ^ 32) = 4294967296 from rfl] at this
  rw [this]; omega
/-- The product of two numbers of 64 bits, in two words. -/
theorem mul64_hi {x y : Nat} (hx : x < 18446744073709551616) (hy : y < 18446744073709551616) :
    (IntKind.u64.wrap (IntKind.u64.wrap (IntKind.u64.wrap (shrI .u64 (x : Int) 32 * shrI .u64 (y : Int) 32) + shrI .u64 (IntKind.u64.wrap (IntKind.u64.wrap (shrI .u64 (x : Int) 32 * bits .and .u64 (y : Int) 4294967295) + shrI .u64 (IntKind.u64.wrap (bits .and .u64 (x : Int) 4294967295 * bits .and .u64 (y : Int) 4294967295)) 32)) 32) +
      shrI .u64 (IntKind.u64.wrap (bits .and .u64 (IntKind.u64.wrap (IntKind.u64.wrap (shrI .u64 (x : Int) 32 * bits .and .u64 (y : Int) 4294967295) + shrI .u64 (IntKind.u64.wrap (bits .and .u64 (x : Int) 4294967295 * bits .and .u64 (y : Int) 4294967295)) 32)) 4294967295 + IntKind.u64.wrap (bits .and .u64 (x : Int) 4294967295 * shrI .u64 (y : Int) 32))) 32)) = ((x * y / 18446744073709551616 : Nat) : Int) := by
  rw [shr32_u64, shr32_u64, and32_u64 hx, and32_u64 hy]
  have hxd : x = x / 4294967296 * 4294967296 + x % 4294967296 := by omega
  have hyd : y = y / 4294967296 * 4294967296 + y % 4294967296 := by omega
  have hx1 : x / 4294967296 ≤ 4294967295 := by omega
  have hy1 : y / 4294967296 ≤ 4294967295 := by omega
  have hx0 : x % 4294967296 ≤ 4294967295 := by omega
  have hy0 : y % 4294967296 ≤ 4294967295 := by omega
  generalize x / 4294967296 = a at *
  generalize x % 4294967296 = b at *
  generalize y / 4294967296 = c at *
  generalize y % 4294967296 = d at *
  have p11 := Nat.mul_le_mul hx1 hy1
  have p10 := Nat.mul_le_mul hx1 hy0
  have p01 := Nat.mul_le_mul hx0 hy1
  have p00 := Nat.mul_le_mul hx0 hy0
  have hxy : x * y = a * c * 18446744073709551616 + (a * d + b * c) * 4294967296 + b * d := by
    rw [hxd, hyd]
    simp only [Nat.add_mul, Nat.mul_add]
    have e1 : a * 4294967296 * (c * 4294967296) = a * c * 18446744073709551616 := by rw [Nat.mul_mul_mul_comm]
    have e2 : a * 4294967296 * d = a * d * 4294967296 := by rw [Nat.mul_right_comm]
    have e3 : b * (c * 4294967296) = b * c * 4294967296 := by rw [Nat.mul_assoc]
    rw [e1, e2, e3]; omega
  rw [hxy, ← Int.natCast_mul, ← Int.natCast_mul, ← Int.natCast_mul, ← Int.natCast_mul]
  generalize a * c = p at *
  generalize a * d = q at *
  generalize b * c = r at *
  generalize b * d = s at *
  rw [u64_fit (n := (s : Int)) (by omega) (by omega), shr32_u64, u64_fit (n := (q : Int)) (by omega) (by omega), ← Int.natCast_add, u64_fit (n := ((q + s / 4294967296 : Nat) : Int)) (by omega) (by omega), shr32_u64, and32_u64 (by omega), u64_fit (n := (r : Int)) (by omega) (by omega), ← Int.natCast_add,
    u64_fit (n := (((q + s / 4294967296) % 4294967296 + r : Nat) : Int)) (by omega) (by omega), shr32_u64, u64_fit (n := (p : Int)) (by omega) (by omega)]
  rw [← Int.natCast_add, u64_fit (n := ((p + (q + s / 4294967296) / 4294967296 : Nat) : Int)) (by omega) (by omega), ← Int.natCast_add, u64_fit (by omega) (by omega)]
  omega
end Go.Vc

/- What expressions come to: kinds and values. Plain Lean, no program. -/
namespace Go.Vc
open Go Go.RowKit

/-! ### One behind the other, till one has an error -/
section
variable {α : Type} {f : Ex → α × Int}
def runL (f : Ex → α × Int) : List Ex → List α × Int
  | [] => ([], 0)
  | k :: r => if (f k).2 ≠ 0 then ([], (f k).2) else if (runL f r).2 ≠ 0 then ([], (runL f r).2) else ((f k).1 :: (runL f r).1, 0)
theorem runL_snoc (l : List Ex) (k : Ex) (h : (runL f l).2 = 0) : runL f (l ++ [k]) = if (f k).2 ≠ 0 then ([], (f k).2) else ((runL f l).1 ++ [(f k).1], 0) := by
  induction l with
  | nil => simp [runL]
  | cons x r ih =>
    unfold runL at h
    split at h
    · rename_i hx; exact absurd h hx
    · rename_i hx
      split at h
      · rename_i hr; exact absurd h hr
      · rename_i hr
        have := ih (by omega)
        rw [List.cons_append, runL, if_neg hx, this, runL, if_neg hx, if_neg hr]
        split
        · rename_i hk; simp
        · simp
theorem runL_take {l : List Ex} {j : Nat} {k : Ex} (hk : l[j]? = some k) (h : (runL f (l.take j)).2 = 0) : runL f (l.take (j + 1)) = if (f k).2 ≠ 0 then ([], (f k).2) else ((runL f (l.take j)).1 ++ [(f k).1], 0) := by
  have : l.take (j + 1) = l.take j ++ [k] := by rw [List.take_add_one, hk]; rfl
  rw [this, runL_snoc _ _ h]
theorem runL_err (a b : List Ex) (h : (runL f a).2 ≠ 0) : runL f (a ++ b) = ([], (runL f a).2) := by
  induction a with
  | nil => exact absurd rfl h
  | cons x r ih =>
    rw [List.cons_append]
    unfold runL at h ⊢
    split
    · rfl
    · rename_i hx
      rw [if_neg hx] at h
      split at h
      · rename_i hr
        rw [ih hr]; simp [hr]
      · exact absurd rfl h
theorem runL_stop {l : List Ex} {j : Nat} {k : Ex} (hk : l[j]? = some k) (h : (runL f (l.take j)).2 = 0) (he : (f k).2 ≠ 0) : runL f l = ([], (f k).2) := by
  have h1 := runL_take (f := f) hk h
  rw [if_pos he] at h1
  have h2 := runL_err (f := f) (l.take (j + 1)) (l.drop (j + 1)) (by rw [h1]; exact he)
  rw [List.take_append_drop, h1] at h2
  exact h2
theorem runL_len {l : List Ex} (h : (runL f l).2 = 0) : (runL f l).1.length = l.length := by
  induction l with
  | nil => rfl
  | cons x r ih =>
    unfold runL at h ⊢
    split at h
    · rename_i hx; exact absurd h hx
    · rename_i hx
      split at h
      · rename_i hr; exact absurd h hr
      · rename_i hr
        rw [if_neg hx, if_neg hr]
        simp [ih (by omega)]
theorem runL_get {l : List Ex} (h : (runL f l).2 = 0) {i : Nat} {k : Ex} (hk : l[i]? = some k) : (f k).2 = 0 ∧ (runL f l).1[i]? = some (f k).1 := by
  induction l generalizing i with
  | nil => simp at hk
  | cons x r ih =>
    unfold runL at h ⊢
    split at h
    · rename_i hx; exact absurd h hx
    · rename_i hx
      split at h
      · rename_i hr; exact absurd h hr
      · rename_i hr
        rw [if_neg hx, if_neg hr]
        cases i with
        | zero => cases hk; exact ⟨by omega, rfl⟩
        | succ i => simpa using ih (by omega) (i := i) (by simpa using hk)
theorem runL_nil {l : List Ex} (h : (runL f l).2 ≠ 0) : (runL f l).1 = [] := by
  cases l with
  | nil => rfl
  | cons x r =>
    unfold runL at h ⊢
    split
    · rfl
    · rename_i hx
      split
      · rfl
      · rename_i hr
        rw [if_neg hx, if_neg hr] at h
        exact absurd rfl h
end

/-! ### Kinds -/
def alikeB (a b : Int) : Bool := decide (a = b) || decide (a = 0) || decide (b = 0)
def kindN (cols : List Col) (op : Int) (name : ByteArray) (v : Val) (l : List Int) : Int × Int :=
  if wantOf op ≠ 0 ∧ ¬ (∀ g ∈ l, alikeB g (wantOf op) = true) then (0, 121)
  else if op = 1 then (if findC cols name < 0 then (0, 120) else (((cols[(findC cols name).toNat]?).map Col.kind).getD 0, 0))
  else if op = 2 then (v.k, 0)
  else if (op = 9 ∨ op = 10 ∨ op = 11) ∧ alikeB (l.getD 0 0) (l.getD 1 0) = false then (0, 121)
  else (kindOf op, 0)
mutual
def kindF (cols : List Col) : Ex → Int × Int
  | .mk op name v ks => if (kindsF cols ks).2 ≠ 0 then (0, (kindsF cols ks).2) else kindN cols op name v (kindsF cols ks).1
def kindsF (cols : List Col) : List Ex → List Int × Int
  | [] => ([], 0)
  | k :: r => if (kindF cols k).2 ≠ 0 then ([], (kindF cols k).2) else if (kindsF cols r).2 ≠ 0 then ([], (kindsF cols r).2) else ((kindF cols k).1 :: (kindsF cols r).1, 0)
end
theorem kindsF_eq (cols : List Col) (l : List Ex) : kindsF cols l = runL (kindF cols) l := by
  induction l with
  | nil => simp [kindsF, runL]
  | cons k r ih => rw [kindsF, runL, ih]
theorem kindF_eq (cols : List Col) (x : Ex) : kindF cols x = if (runL (kindF cols) x.kids).2 ≠ 0 then (0, (runL (kindF cols) x.kids).2) else kindN cols x.op x.name x.v (runL (kindF cols) x.kids).1 := by
  cases x; rw [kindF, kindsF_eq]; rfl

/-! ### Values -/
def truthV (b : Bool) : Val := ⟨2, if b then 1 else 0, ⟨#[]⟩⟩
def thirdI (v : Val) : Int := if v.k = 0 then 2 else v.n
def answerV (n : Int) : Val := if n = 2 then nullV else truthV (decide (n = 1))
def andI (i j : Int) : Int := if i = 0 ∨ j = 0 then 0 else if i = 2 ∨ j = 2 then 2 else 1
def orJ (i j : Int) : Int := if i = 1 ∨ j = 1 then 1 else if i = 2 ∨ j = 2 then 2 else 0
def tabA (f : Int → Int → Int) : Array Value := ((List.range 9).map fun i => Value.int .i64 (f ((i / 3 : Nat) : Int) ((i % 3 : Nat) : Int))).toArray
theorem tabA_at (f : Int → Int → Int) {i j : Nat} (hi : i < 3) (hj : j < 3) : (tabA f)[i * 3 + j]? = some (.int .i64 (f i j)) := by
  unfold tabA
  rw [List.getElem?_toArray, List.getElem?_map, List.getElem?_range (by omega)]
  simp only [Option.map_some]
  rw [show (i * 3 + j) / 3 = i by omega, show (i * 3 + j) % 3 = j by omega]
def overF (x : Int) : Int × Int := if fitI x then (x, 0) else (0, 100)
def arithF (op a b : Int) : Int × Int :=
  if (op = 6 ∨ op = 7) ∧ b = 0 then (0, 101) else if op = 3 then overF (a + b) else if op = 4 then overF (a - b) else if op = 5 then overF (a * b) else if op = 6 then overF (a.tdiv b) else if op = 7 then (a.tmod b, 0) else (0, 0)
def pairF (op : Int) (a b : Val) : Val × Int :=
  if op = 12 then (answerV (andI (thirdI a) (thirdI b)), 0) else if op = 13 then (answerV (orJ (thirdI a) (thirdI b)), 0)
  else if a.k = 0 ∨ b.k = 0 then (nullV, 0)
  else if op = 9 then (truthV (decide (cmpV a b = 0)), 0) else if op = 10 then (truthV (decide (cmpV a b < 0)), 0) else if op = 11 then (truthV (decide (cmpV a b ≤ 0)), 0)
  else if (arithF op a.n b.n).2 ≠ 0 then (nullV, (arithF op a.n b.n).2) else (numV (arithF op a.n b.n).1, 0)
def singleF (op : Int) (v : Val) : Val × Int :=
  if op = 15 then (truthV (decide (v.k = 0)), 0) else if v.k = 0 then (v, 0) else if op = 14 then (truthV (decide (v.n = 0)), 0)
  else if op = 16 then (numV v.s.size, 0) else pairF 4 (numV 0) v
def valueN (cols : List Col) (row : List Val) (op : Int) (name : ByteArray) (v : Val) (l : List Val) : Val × Int :=
  if op = 1 then ((row[(findC cols name).toNat]?).getD nullV, 0) else if op = 2 then (v, 0) else if l.length = 1 then singleF op (l.getD 0 nullV) else pairF op (l.getD 0 nullV) (l.getD 1 nullV)
mutual
def valueF (cols : List Col) (row : List Val) : Ex → Val × Int
  | .mk op name v ks => if (valuesF cols row ks).2 ≠ 0 then (nullV, (valuesF cols row ks).2) else valueN cols row op name v (valuesF cols row ks).1
def valuesF (cols : List Col) (row : List Val) : List Ex → List Val × Int
  | [] => ([], 0)
  | k :: r => if (valueF cols row k).2 ≠ 0 then ([], (valueF cols row k).2) else if (valuesF cols row r).2 ≠ 0 then ([], (valuesF cols row r).2) else ((valueF cols row k).1 :: (valuesF cols row r).1, 0)
end
theorem valuesF_eq (cols : List Col) (row : List Val) (l : List Ex) : valuesF cols row l = runL (valueF cols row) l := by
  induction l with
  | nil => simp [valuesF, runL]
  | cons k r ih => rw [valuesF, runL, ih]
theorem valueF_eq (cols : List Col) (row : List Val) (x : Ex) : valueF cols row x = if (runL (valueF cols row) x.kids).2 ≠ 0 then (nullV, (runL (valueF cols row) x.kids).2) else valueN cols row x.op x.name x.v (runL (valueF cols row) x.kids).1 := by
  cases x; rw [valueF, valuesF_eq]; rfl

/-! ### Type and Eval -/
def typeF (cols : List Col) (x : Ex) : Int × Int := if rightC cols = false then (0, 50) else if formedB x = false then (0, 122) else kindF cols x
def evalF (cols : List Col) (row : List Val) (x : Ex) : Val × Int := if (typeF cols x).2 ≠ 0 then (nullV, (typeF cols x).2) else if fitsC cols row = false then (nullV, 2) else valueF cols row x

/-! ### Quotients -/
theorem tdiv_fit {a b : Int} (ha : fitI a) (hb : b ≠ 0) : fitI (a.tdiv b) ↔ ¬ (a = -9223372036854775808 ∧ b = -1) := by
  unfold fitI at *
  by_cases h1 : b = -1
  · subst h1
    rw [Int.tdiv_neg, Int.tdiv_one]; omega
  · have hn : (a.tdiv b).natAbs = a.natAbs / b.natAbs := Int.natAbs_tdiv a b
    have : ¬ (a = -9223372036854775808 ∧ b = -1) := fun h => h1 h.2
    simp only [this, not_false_eq_true, iff_true]
    by_cases h2 : b = 1
    · subst h2; rw [Int.tdiv_one]; exact ha
    · have hb2 : 2 ≤ b.natAbs := by omega
      have : a.natAbs / b.natAbs ≤ a.natAbs / 2 := Nat.div_le_div_left hb2 (by decide)
      omega
theorem tmod_fit {a b : Int} (hb : fitI b) (h0 : b ≠ 0) : fitI (a.tmod b) := by
  unfold fitI at *
  have : (a.tmod b).natAbs = a.natAbs % b.natAbs := Int.natAbs_tmod a b
  have h2 := Nat.mod_lt a.natAbs (y := b.natAbs) (by omega)
  omega
end Go.Vc

/- The contracts of package expr: numbers, truths, one node. -/
namespace Go.Proofs.YtdephmdfdgclpaaDoor
open Go Go.Vc Go.RowKit

/-- The tables of and, or. -/
def Tab2 (w : World) : Prop := CellsAt w 1 0 (tabA andI) ∧ CellsAt w 2 0 (tabA orJ)
theorem Tab2.ext {w w' : World} (h : Tab2 w) (e : Ext w w') : Tab2 w' := ⟨fun k v hk => cell_ext (h.1 k v hk) e, fun k v hk => cell_ext (h.2 k v hk) e⟩

theorem xtruth_ok (b : Bool) (w : World) : Calls Tryd.prog 76 #[.bool b] w fun e w' => e = .returned (truthV b).agg ∧ Ext w w' := by
  apply xtruth_vc
  unfold xtruth_T
  intro b1 w2 h1
  have H := (Hold.start (Ext.rfl (w := w))).new h1
  obtain ⟨q0, q1, q2⟩ := (H.blk 0 rfl).c3
  refine ⟨fun hb => ⟨⟨_, q0⟩, (H.blk 0 rfl).frozen _, ⟨_, q1⟩, (H.blk 0 rfl).frozen _, ⟨_, q2⟩, (H.blk 0 rfl).frozen _, fun w8 h8 => ?_⟩, fun hb => ⟨⟨_, q0⟩, (H.blk 0 rfl).frozen _, ⟨_, q1⟩, (H.blk 0 rfl).frozen _, ⟨_, q2⟩, (H.blk 0 rfl).frozen _, fun w8 h8 => ?_⟩⟩
  · have H8 := H.put 0 rfl h8
    have B : Blk w8 b1 26 #[.int .i64 2, .int .i64 1, .string ⟨#[]⟩] := H8.blk 0 rfl
    obtain ⟨q0, q1, q2⟩ := B.c3
    exact ⟨_, q0, _, q1, _, q2, by rw [hb]; rfl, H8.ext⟩
  · have H8 := H.put 0 rfl h8
    have B : Blk w8 b1 26 #[.int .i64 2, .int .i64 0, .string ⟨#[]⟩] := H8.blk 0 rfl
    obtain ⟨q0, q1, q2⟩ := B.c3
    exact ⟨_, q0, _, q1, _, q2, by rw [hb]; rfl, H8.ext⟩

theorem times1_ok {n : Int} (h : fitI n) (w : World) : Calls Tryd.prog 115 #[.int .i64 n] w fun e w' => e = .returned (.int .u64 ((n.natAbs : Nat) : Int)) ∧ Ext w w' := by
  apply times1_vc
  unfold times1_T
  unfold fitI at h
  refine ⟨fun hn => ⟨?_, .rfl⟩, fun hn => ⟨?_, .rfl⟩⟩
  · rw [u64_wrap, u64_wrap, show (0 - n % 18446744073709551616) % 18446744073709551616 = ((n.natAbs : Nat) : Int) by omega]
  · rw [u64_wrap, show n % 18446744073709551616 = ((n.natAbs : Nat) : Int) by omega]
theorem mul64_ok {x y : Nat} (hx : x < 18446744073709551616) (hy : y < 18446744073709551616) (w : World) :
    Calls Tryd.prog 116 #[.int .u64 (x : Int), .int .u64 (y : Int)] w fun e w' => e = .returned (.tuple #[.int .u64 ((x * y / 18446744073709551616 : Nat) : Int), .int .u64 ((x * y % 18446744073709551616 : Nat) : Int)]) ∧ Ext w w' := by
  apply mul64_vc
  unfold mul64_T
  refine ⟨?_, .rfl⟩
  rw [mul64_hi hx hy, u64_wrap, ← Int.natCast_mul]
  rfl
theorem mul_abs (a b : Int) : (decide (a < 0) ≠ decide (b < 0) → a * b = -((a.natAbs * b.natAbs : Nat) : Int)) ∧ (decide (a < 0) = decide (b < 0) → a * b = ((a.natAbs * b.natAbs : Nat) : Int)) := by
  rw [Int.natCast_mul]
  rcases Int.lt_or_le a 0 with ha | ha <;> rcases Int.lt_or_le b 0 with hb | hb
  · rw [Int.ofNat_natAbs_of_nonpos (by omega), Int.ofNat_natAbs_of_nonpos (by omega), Int.neg_mul_neg]
    simp [ha, hb]
  · rw [Int.ofNat_natAbs_of_nonpos (by omega), Int.natAbs_of_nonneg hb, Int.neg_mul, Int.neg_neg]
    have : ¬ b < 0 := by omega
    simp [ha, this]
  · rw [Int.natAbs_of_nonneg ha, Int.ofNat_natAbs_of_nonpos (by omega), Int.mul_neg, Int.neg_neg]
    have : ¬ a < 0 := by omega
    simp [hb, this]
  · rw [Int.natAbs_of_nonneg ha, Int.natAbs_of_nonneg hb]
    simp [Int.not_lt.2 ha, Int.not_lt.2 hb]
theorem times_ok {a b : Int} (ha : fitI a) (hb : fitI b) (w : World) : Calls Tryd.prog 104 #[.int .i64 a, .int .i64 b] w fun e w' => ∃ n : Int, e = .returned (.tuple #[.int .i64 n, .bool (decide (fitI (a * b)))]) ∧ (fitI (a * b) → n = a * b) ∧ Ext w w' := by
  apply times_vc
  unfold times_T
  have ha' : a.natAbs ≤ 9223372036854775808 := by unfold fitI at ha; omega
  have hb' : b.natAbs ≤ 9223372036854775808 := by unfold fitI at hb; omega
  refine (times1_ok ha w).mono ?_
  rintro e w2 ⟨rfl, e2⟩
  refine ⟨_, rfl, (times1_ok hb w2).mono ?_⟩
  rintro e w5 ⟨rfl, e5⟩
  refine ⟨_, rfl, (mul64_ok (by omega) (by omega) w5).mono ?_⟩
  rintro e w8 ⟨rfl, e8⟩
  have hx := (e2.trans e5).trans e8
  obtain ⟨m1, m2⟩ := mul_abs a b
  generalize a.natAbs * b.natAbs = P at m1 m2
  refine ⟨_, _, rfl, fun hne => ⟨0, ?_, fun hf => ?_, hx⟩, fun h0 => ⟨fun hs => ⟨IntKind.i64.wrap (0 - IntKind.i64.wrap ((P % 18446744073709551616 : Nat) : Int)), ?_, fun hf => ?_, hx⟩, fun hs => ⟨IntKind.i64.wrap ((P % 18446744073709551616 : Nat) : Int), ?_, fun hf => ?_, hx⟩⟩⟩
  · have : ¬ fitI (a * b) := by
      unfold fitI
      by_cases hs : decide (a < 0) = decide (b < 0)
      · rw [m2 hs]; omega
      · rw [m1 hs]; omega
    rw [decide_eq_false this]
  · unfold fitI at hf
    exfalso
    by_cases hs : decide (a < 0) = decide (b < 0)
    · rw [m2 hs] at hf; omega
    · rw [m1 hs] at hf; omega
  · have hP : P % 18446744073709551616 = P := by omega
    have : decide (((P % 18446744073709551616 : Nat) : Int) ≤ 9223372036854775808) = decide (fitI (a * b)) := by
      rw [m1 hs, hP, decide_eq_decide]; unfold fitI; omega
    rw [this]
  · rw [m1 hs] at hf ⊢
    unfold fitI at hf
    rw [IntKind.wrap_i64, IntKind.wrap_i64]; omega
  · have hP : P % 18446744073709551616 = P := by omega
    have : decide (((P % 18446744073709551616 : Nat) : Int) < 9223372036854775808) = decide (fitI (a * b)) := by
      rw [m2 hs, hP, decide_eq_decide]; unfold fitI; omega
    rw [this]
  · rw [m2 hs] at hf ⊢
    unfold fitI at hf
    rw [IntKind.wrap_i64]; omega

theorem xarith_ok (op : Int) {a b : Int} (ha : fitI a) (hb : fitI b) (w : World) : Calls Tryd.prog 80 #[.int .i64 op, .int .i64 a, .int .i64 b] w fun e w' => e = .returned (.tuple #[.int .i64 (arithF op a b).1, .int .i64 (arithF op a b).2]) ∧ Ext w w' := by
  apply xarith_vc
  unfold xarith_T
  have ew : ∀ x, fitI x → IntKind.i64.wrap x = x := fun x hx => by unfold fitI at hx; exact i64_fit hx.1 hx.2
  refine ⟨fun h => ⟨?_, .rfl⟩, fun hz => ⟨fun h3 => ⟨fun h => ⟨?_, .rfl⟩, fun h => ⟨?_, .rfl⟩⟩, fun h3 => ⟨fun h4 => ⟨fun h => ⟨?_, .rfl⟩, fun h => ⟨?_, .rfl⟩⟩, fun h4 => ⟨fun h5 => (times_ok ha hb w).mono ?_, fun h5 => ⟨fun h6 => ⟨?_, fun h => ⟨?_, .rfl⟩, fun h => ⟨?_, .rfl⟩⟩, fun h6 => ⟨fun h7 => ⟨?_, ?_, .rfl⟩, fun h7 => ⟨?_, .rfl⟩⟩⟩⟩⟩⟩⟩
  · unfold arithF; rw [if_pos h]
  · have := (add_over ha hb).1 h
    unfold arithF overF; rw [if_neg (by omega), if_pos h3, if_neg this]
  · have : fitI (a + b) := Decidable.not_not.1 fun hn => by have := (add_over ha hb).2 hn; omega
    rw [ew _ this]
    unfold arithF overF; rw [if_neg (by omega), if_pos h3, if_pos this]
  · have := (sub_over ha hb).1 h
    unfold arithF overF; rw [if_neg (by omega), if_neg h3, if_pos h4, if_neg this]
  · have : fitI (a - b) := Decidable.not_not.1 fun hn => by have := (sub_over ha hb).2 hn; omega
    rw [ew _ this]
    unfold arithF overF; rw [if_neg (by omega), if_neg h3, if_pos h4, if_pos this]
  · rintro e w13 ⟨n, rfl, hn, e13⟩
    refine ⟨_, _, rfl, fun hf => ⟨?_, e13⟩, fun hf => ⟨?_, e13⟩⟩
    · unfold arithF overF; rw [if_neg (by omega), if_neg h3, if_neg h4, if_pos h5, if_neg (of_decide_eq_false hf)]
    · rw [hn (of_decide_eq_true hf)]
      unfold arithF overF; rw [if_neg (by omega), if_neg h3, if_neg h4, if_pos h5, if_pos (of_decide_eq_true hf)]
  · omega
  · have : ¬ fitI (a.tdiv b) := fun hf => ((tdiv_fit ha (by omega)).1 hf) h
    unfold arithF overF; rw [if_neg (by omega), if_neg h3, if_neg h4, if_neg h5, if_pos h6, if_neg this]
  · have : fitI (a.tdiv b) := (tdiv_fit ha (by omega)).2 (by omega)
    unfold quoI
    rw [ew _ this]
    unfold arithF overF; rw [if_neg (by omega), if_neg h3, if_neg h4, if_neg h5, if_pos h6, if_pos this]
  · omega
  · unfold arithF remI; rw [if_neg (by omega), if_neg h3, if_neg h4, if_neg h5, if_neg h6, if_pos h7]
  · unfold arithF; rw [if_neg (by omega), if_neg h3, if_neg h4, if_neg h5, if_neg h6, if_neg h7]

theorem third_ok (v : Val) (w : World) : Calls Tryd.prog 78 #[v.agg] w fun e w' => e = .returned (.int .i64 (thirdI v)) ∧ Ext w w' := by
  apply third_vc
  unfold third_T
  intro b1 w2 h1
  obtain ⟨q0, q1, q2⟩ := (Blk.new h1).c3
  refine ⟨_, q0, fun h => ⟨?_, h1.ext⟩, fun h => ⟨_, q1, ?_, h1.ext⟩⟩
  · unfold thirdI; rw [if_pos h]
  · unfold thirdI; rw [if_neg h]
theorem answer_ok (n : Int) (w : World) : Calls Tryd.prog 77 #[.int .i64 n] w fun e w' => e = .returned (answerV n).agg ∧ Ext w w' := by
  apply answer_vc
  unfold answer_T
  intro b1 w2 h1
  have H := (Hold.start (Ext.rfl (w := w))).new h1
  obtain ⟨q0, q1, q2⟩ := (H.blk 0 rfl).c3
  refine ⟨fun h => ⟨⟨_, q0⟩, (H.blk 0 rfl).frozen _, ⟨_, q1⟩, (H.blk 0 rfl).frozen _, ⟨_, q2⟩, (H.blk 0 rfl).frozen _, fun w8 h8 => ?_⟩, fun h => (xtruth_ok _ w2).mono ?_⟩
  · have H8 := H.put 0 rfl h8
    have B : Blk w8 b1 26 #[.int .i64 0, .int .i64 0, .string ⟨#[]⟩] := H8.blk 0 rfl
    obtain ⟨q0, q1, q2⟩ := B.c3
    exact ⟨_, q0, _, q1, _, q2, by unfold answerV; rw [if_pos h]; rfl, H8.ext⟩
  · rintro e w15 ⟨rfl, e15⟩
    have H15 := H.step e15
    obtain ⟨q0, q1, q2⟩ := (H15.blk 0 rfl).c3
    refine ⟨_, _, _, rfl, ⟨_, q0⟩, (H15.blk 0 rfl).frozen _, ⟨_, q1⟩, (H15.blk 0 rfl).frozen _, ⟨_, q2⟩, (H15.blk 0 rfl).frozen _, fun w22 h22 => ?_⟩
    have H22 := H15.put 0 rfl h22
    have B : Blk w22 b1 26 #[.int .i64 (truthV (decide (n = 1))).k, .int .i64 (truthV (decide (n = 1))).n, .string (truthV (decide (n = 1))).s] := H22.blk 0 rfl
    obtain ⟨q0, q1, q2⟩ := B.c3
    exact ⟨_, q0, _, q1, _, q2, by unfold answerV; rw [if_neg h]; rfl, H22.ext⟩
end Go.Proofs.YtdephmdfdgclpaaDoor

/- The contracts of package expr: a node of one kid, of two. -/
namespace Go.Proofs.YtdephmdfdgclpaaDoor
open Go Go.Vc Go.RowKit

def trio (i : Int) : Prop := 0 ≤ i ∧ i < 3
theorem Tab2.and {w : World} (h : Tab2 w) {i j : Int} (hi : trio i) (hj : trio j) : w.cell? ⟨1, 0 + i.toNat * 3 + j.toNat, none⟩ = some (.int .i64 (andI i j)) := by
  obtain ⟨a, rfl⟩ := Int.eq_ofNat_of_zero_le hi.1
  obtain ⟨b, rfl⟩ := Int.eq_ofNat_of_zero_le hj.1
  unfold trio at hi hj
  rw [Int.toNat_natCast, Int.toNat_natCast, Nat.add_assoc]
  exact h.1 _ _ (tabA_at andI (by omega) (by omega))
theorem Tab2.or {w : World} (h : Tab2 w) {i j : Int} (hi : trio i) (hj : trio j) : w.cell? ⟨2, 0 + i.toNat * 3 + j.toNat, none⟩ = some (.int .i64 (orJ i j)) := by
  obtain ⟨a, rfl⟩ := Int.eq_ofNat_of_zero_le hi.1
  obtain ⟨b, rfl⟩ := Int.eq_ofNat_of_zero_le hj.1
  unfold trio at hi hj
  rw [Int.toNat_natCast, Int.toNat_natCast, Nat.add_assoc]
  exact h.2 _ _ (tabA_at orJ (by omega) (by omega))

theorem xpair_ok (op : Int) (a b : Val) (w : World) (hT : Tab2 w) (ha : fitI a.n) (hb : fitI b.n) (ht : op = 12 ∨ op = 13 → trio (thirdI a) ∧ trio (thirdI b)) :
    Calls Tryd.prog 52 #[.int .i64 op, a.agg, b.agg] w fun e w' => e = .returned (.tuple #[(pairF op a b).1.agg, .int .i64 (pairF op a b).2]) ∧ Ext w w' := by
  apply xpair_vc
  unfold xpair_T
  intro ba w2 h1 bb w5 h4 br w8 h7
  have H8 := (((Hold.start (Ext.rfl (w := w))).new h1).new h4).new h7
  have hT8 := hT.ext H8.ext
  have Ba : Blk w8 ba 26 #[.int .i64 a.k, .int .i64 a.n, .string a.s] := H8.blk 2 rfl
  have Bb : Blk w8 bb 26 #[.int .i64 b.k, .int .i64 b.n, .string b.s] := H8.blk 1 rfl
  refine ⟨fun hop w11 h11 => ?_, fun h12 => ⟨fun hop w11 h11 => ?_, fun h13 => ?_⟩⟩
  · obtain ⟨t1, t2⟩ := ht (.inl hop)
    have H11 := H8.step h11.ext
    obtain ⟨a0, a1, a2⟩ := (Ba.ext h11.ext).c3
    obtain ⟨b0, b1, b2⟩ := (Bb.ext h11.ext).c3
    refine ⟨_, a0, _, a1, _, a2, _, b0, _, b1, _, b2, (third_ok a w11).mono ?_⟩
    rintro e w20 ⟨rfl, e20⟩
    refine ⟨_, rfl, e20.same, t1.1, t1.2, (third_ok b w20).mono ?_⟩
    rintro e w23 ⟨rfl, e23⟩
    have H23 := (H11.step e20).step e23
    refine ⟨_, rfl, t2.1, t2.2, _, (hT.ext H23.ext).and t1 t2, (answer_ok _ w23).mono ?_⟩
    rintro e w27 ⟨rfl, e27⟩
    refine ⟨_, _, _, rfl, (H23.step e27).ret3 0 rfl _ _ _ fun W' hx => ⟨?_, hx⟩⟩
    unfold pairF; rw [if_pos hop]; rfl
  · obtain ⟨t1, t2⟩ := ht (.inr hop)
    have H11 := H8.step h11.ext
    obtain ⟨a0, a1, a2⟩ := (Ba.ext h11.ext).c3
    obtain ⟨b0, b1, b2⟩ := (Bb.ext h11.ext).c3
    refine ⟨_, a0, _, a1, _, a2, _, b0, _, b1, _, b2, (third_ok a w11).mono ?_⟩
    rintro e w20 ⟨rfl, e20⟩
    refine ⟨_, rfl, e20.same, t1.1, t1.2, (third_ok b w20).mono ?_⟩
    rintro e w23 ⟨rfl, e23⟩
    have H23 := (H11.step e20).step e23
    refine ⟨_, rfl, t2.1, t2.2, _, (hT.ext H23.ext).or t1 t2, (answer_ok _ w23).mono ?_⟩
    rintro e w27 ⟨rfl, e27⟩
    refine ⟨_, _, _, rfl, (H23.step e27).ret3 0 rfl _ _ _ fun W' hx => ⟨?_, hx⟩⟩
    unfold pairF; rw [if_neg h12, if_pos hop]; rfl
  · obtain ⟨a0, a1, a2⟩ := Ba.c3
    obtain ⟨b0, b1, b2⟩ := Bb.c3
    refine ⟨_, a0, fun hz => H8.ret3 0 rfl _ _ _ fun W' hx => ⟨?_, hx⟩, fun hz => ⟨_, b0, fun hz' => H8.ret3 0 rfl _ _ _ fun W' hx => ⟨?_, hx⟩, fun hz' => ⟨_, a0, _, a1, _, a2, _, b0, _, b1, _, b2, (vcompare_ok a b w8).mono ?_⟩⟩⟩
    · unfold pairF; rw [if_neg h12, if_neg h13, if_pos (.inl hz)]; rfl
    · unfold pairF; rw [if_neg h12, if_neg h13, if_pos (.inr hz')]; rfl
    rintro e w99 ⟨rfl, e99⟩
    have H99 := H8.step e99
    have hz2 : ¬ (a.k = 0 ∨ b.k = 0) := by omega
    refine ⟨_, rfl, fun h9 => (xtruth_ok _ w99).mono ?_, fun h9 => ⟨fun h10 => (xtruth_ok _ w99).mono ?_, fun h10 => ⟨fun h11 => (xtruth_ok _ w99).mono ?_, fun h11 => ?_⟩⟩⟩
    · rintro e w103 ⟨rfl, e103⟩
      refine ⟨_, _, _, rfl, (H99.step e103).ret3 0 rfl _ _ _ fun W' hx => ⟨?_, hx⟩⟩
      unfold pairF; rw [if_neg h12, if_neg h13, if_neg hz2, if_pos h9]; rfl
    · rintro e w103 ⟨rfl, e103⟩
      refine ⟨_, _, _, rfl, (H99.step e103).ret3 0 rfl _ _ _ fun W' hx => ⟨?_, hx⟩⟩
      unfold pairF; rw [if_neg h12, if_neg h13, if_neg hz2, if_neg h9, if_pos h10]; rfl
    · rintro e w103 ⟨rfl, e103⟩
      refine ⟨_, _, _, rfl, (H99.step e103).ret3 0 rfl _ _ _ fun W' hx => ⟨?_, hx⟩⟩
      unfold pairF; rw [if_neg h12, if_neg h13, if_neg hz2, if_neg h9, if_neg h10, if_pos h11]; rfl
    · refine ⟨_, cell_ext a1 e99, _, cell_ext b1 e99, (xarith_ok op ha hb w99).mono ?_⟩
      rintro e w149 ⟨rfl, e149⟩
      refine ⟨_, _, rfl, fun hne => (H99.step e149).ret3 0 rfl _ _ _ fun W' hx => ⟨?_, hx⟩, fun he => (H99.step e149).ret3 0 rfl _ _ _ fun W' hx => ⟨?_, hx⟩⟩
      · unfold pairF; rw [if_neg h12, if_neg h13, if_neg hz2, if_neg h9, if_neg h10, if_neg h11, if_pos hne]; rfl
      · unfold pairF; rw [if_neg h12, if_neg h13, if_neg hz2, if_neg h9, if_neg h10, if_neg h11, if_neg (by simpa using he)]; rfl

theorem xsingle_ok (op : Int) (v : Val) (w : World) (hT : Tab2 w) (hv : fitI v.n) :
    Calls Tryd.prog 51 #[.int .i64 op, v.agg] w fun e w' => e = .returned (.tuple #[(singleF op v).1.agg, .int .i64 (singleF op v).2]) ∧ Ext w w' := by
  apply xsingle_vc
  unfold xsingle_T
  intro bv w2 h1 br w5 h4
  have H5 := ((Hold.start (Ext.rfl (w := w))).new h1).new h4
  have Bv : Blk w5 bv 26 #[.int .i64 v.k, .int .i64 v.n, .string v.s] := H5.blk 1 rfl
  obtain ⟨a0, a1, a2⟩ := Bv.c3
  refine ⟨fun h15 => ⟨_, a0, (xtruth_ok _ w5).mono ?_⟩, fun h15 => ⟨_, a0, fun hz => ⟨_, a0, _, a1, _, a2, H5.ret3 0 rfl _ _ _ fun W' hx => ⟨?_, hx⟩⟩, fun hz => ⟨fun h14 => ⟨_, a1, (xtruth_ok _ w5).mono ?_⟩, fun h14 => ⟨fun h16 => ⟨_, a2, H5.ret3 0 rfl _ _ _ fun W' hx => ⟨?_, hx⟩⟩,
    fun h16 => ⟨_, a0, _, a1, _, a2, (xpair_ok 4 (numV 0) v w5 (hT.ext H5.ext) (by decide) hv (fun h => by omega)).mono ?_⟩⟩⟩⟩⟩
  · rintro e w10 ⟨rfl, e10⟩
    refine ⟨_, _, _, rfl, (H5.step e10).ret3 0 rfl _ _ _ fun W' hx => ⟨?_, hx⟩⟩
    unfold singleF; rw [if_pos h15]; rfl
  · unfold singleF; rw [if_neg h15, if_pos hz]; rfl
  · rintro e w10 ⟨rfl, e10⟩
    refine ⟨_, _, _, rfl, (H5.step e10).ret3 0 rfl _ _ _ fun W' hx => ⟨?_, hx⟩⟩
    unfold singleF; rw [if_neg h15, if_neg hz, if_pos h14]; rfl
  · unfold singleF; rw [if_neg h15, if_neg hz, if_neg h14, if_pos h16]; rfl
  · rintro e w68 ⟨rfl, e68⟩
    refine ⟨_, _, _, _, rfl, (H5.step e68).ret3 0 rfl _ _ _ fun W' hx => ⟨?_, hx⟩⟩
    unfold singleF; rw [if_neg h15, if_neg hz, if_neg h14, if_neg h16]; rfl
end Go.Proofs.YtdephmdfdgclpaaDoor

/- An expression that has a kind has a value of that kind, or null, or one of two errors. Plain Lean, no program. -/
namespace Go.Vc
open Go Go.RowKit

theorem self_node (x : Ex) : x ∈ nodesT x := by cases x; unfold nodesT; exact List.mem_cons_self
theorem nodesTs_mem : ∀ {l : List Ex} {i : Nat} {k y : Ex}, l[i]? = some k → y ∈ nodesT k → y ∈ nodesTs l
  | [], i, k, y, h, _ => by simp at h
  | x :: r, i, k, y, h, hy => by
    unfold nodesTs
    cases i with
    | zero => cases h; exact List.mem_append_left _ hy
    | succ i => exact List.mem_append_right _ (nodesTs_mem (i := i) (by simpa using h) hy)
theorem kid_node {x k y : Ex} {i : Nat} (h : x.kids[i]? = some k) (hy : y ∈ nodesT k) : y ∈ nodesT x := by
  cases x; unfold nodesT; exact List.mem_cons_of_mem _ (nodesTs_mem h hy)
theorem kid_depth {x k : Ex} {i : Nat} (h : x.kids[i]? = some k) : depthT k + 1 ≤ depthT x := by
  have := depthTs_get h
  obtain ⟨o, n, v, ks⟩ := x
  have e : depthT (.mk o n v ks) = 1 + depthTs ks := by rw [depthT]
  simp only [Ex.kids] at this
  omega

/-- A value of kind k (or null), or an error. -/
def GoodV (k : Int) (v : Val) : Prop := v.Ok ∧ fitI v.n ∧ (v.k = 0 ∨ v.k = k)
def Good (k : Int) (q : Val × Int) : Prop := (q.2 = 0 ∧ GoodV k q.1) ∨ ((q.2 = 100 ∨ q.2 = 101) ∧ q.1 = nullV)
theorem null_ok : nullV.Ok := .inl ⟨rfl, rfl, rfl⟩
theorem GoodV.null (k : Int) : GoodV k nullV := ⟨null_ok, by unfold fitI nullV; decide, .inl rfl⟩
theorem GoodV.truth (b : Bool) : GoodV 2 (truthV b) := by
  refine ⟨.inr (.inr (.inl ⟨rfl, ?_, rfl⟩)), ?_, .inr rfl⟩
  · cases b
    · exact .inl rfl
    · exact .inr rfl
  · cases b <;> (unfold fitI truthV; decide)
theorem GoodV.num {n : Int} (h : fitI n) : GoodV 1 (numV n) := ⟨.inr (.inl ⟨rfl, rfl⟩), h, .inr rfl⟩
theorem GoodV.answer (n : Int) : GoodV 2 (answerV n) := by
  unfold answerV
  split
  · exact .null 2
  · exact .truth _
theorem GoodV.trio {v : Val} (h : GoodV 2 v) : 0 ≤ thirdI v ∧ thirdI v < 3 := by
  obtain ⟨ho, _, hk⟩ := h
  unfold thirdI
  unfold Val.Ok at ho
  split
  · omega
  · rcases ho with ho | ho | ho | ho <;> omega
theorem overF_spec (x : Int) : ((overF x).2 = 0 ∧ fitI (overF x).1) ∨ (overF x).2 = 100 := by
  unfold overF
  split
  · exact .inl ⟨rfl, ‹_›⟩
  · exact .inr rfl
theorem arithF_spec (op a b : Int) (hb : fitI b) : ((arithF op a b).2 = 0 ∧ fitI (arithF op a b).1) ∨ (arithF op a b).2 = 100 ∨ (arithF op a b).2 = 101 := by
  have z : fitI 0 := by unfold fitI; decide
  unfold arithF
  split
  · exact .inr (.inr rfl)
  · rename_i h0
    split
    · rcases overF_spec (a + b) with h | h
      · exact .inl h
      · exact .inr (.inl h)
    · split
      · rcases overF_spec (a - b) with h | h
        · exact .inl h
        · exact .inr (.inl h)
      · split
        · rcases overF_spec (a * b) with h | h
          · exact .inl h
          · exact .inr (.inl h)
        · split
          · rcases overF_spec (a.tdiv b) with h | h
            · exact .inl h
            · exact .inr (.inl h)
          · split
            · exact .inl ⟨rfl, tmod_fit hb (by omega)⟩
            · exact .inl ⟨rfl, z⟩
theorem pairF_arith {op : Int} (h12 : op ≠ 12) (h13 : op ≠ 13) (h9 : op ≠ 9) (h10 : op ≠ 10) (h11 : op ≠ 11) (a b : Val) (hb : fitI b.n) : Good 1 (pairF op a b) := by
  unfold pairF
  rw [if_neg h12, if_neg h13]
  by_cases hz : a.k = 0 ∨ b.k = 0
  · rw [if_pos hz]; exact .inl ⟨rfl, .null 1⟩
  · rw [if_neg hz, if_neg h9, if_neg h10, if_neg h11]
    split
    · rename_i he
      rcases arithF_spec op a.n b.n hb with h | h
      · exact absurd h.1 he
      · exact .inr ⟨h, rfl⟩
    · rename_i he
      rcases arithF_spec op a.n b.n hb with h | h
      · exact .inl ⟨rfl, .num h.2⟩
      · exfalso; omega

theorem alike_want {g w : Int} (h : alikeB g w = true) (hw : w ≠ 0) : g = w ∨ g = 0 := by
  unfold alikeB at h
  simp only [Bool.or_eq_true, decide_eq_true_eq] at h
  omega
/-- One node, its kids being reckoned. -/
theorem node_good {cols : List Col} {row : List Val} {op : Int} {name : ByteArray} {v : Val} {l : List Int} {vl : List Val} (hm : (vl.length : Int) = manyOf op) (hl : l.length = vl.length) (hv : v.Ok) (hvn : fitI v.n)
    (hrel : ∀ (i : Nat) g u, l[i]? = some g → vl[i]? = some u → GoodV g u) (hk : (kindN cols op name v l).2 = 0) (hf : fitsL cols row = true) (hr : ∀ u ∈ row, fitI u.n) :
    Good (kindN cols op name v l).1 (valueN cols row op name v vl) ∧ (op = 12 ∨ op = 13 → (∀ u ∈ vl, GoodV 2 u)) ∧ (op = 1 → 0 ≤ findC cols name ∧ findC cols name < (row.length : Int)) := by
  have hop := many_range (op := op) (by omega)
  have hrel' : ∀ u ∈ vl, wantOf op ≠ 0 → GoodV (wantOf op) u := by
    intro u hu hw
    obtain ⟨i, hi⟩ := List.mem_iff_getElem?.1 hu
    have hi' : i < l.length := by rw [hl]; exact (List.getElem?_eq_some_iff.1 hi).1
    obtain ⟨h1, h2, h3⟩ := hrel i l[i] u (List.getElem?_eq_getElem hi') hi
    refine ⟨h1, h2, ?_⟩
    unfold kindN at hk
    split at hk
    · exact absurd hk (by decide)
    · rename_i hal
      have := Decidable.not_not.1 fun hn => hal ⟨hw, hn⟩
      rcases alike_want (this l[i] (List.getElem_mem hi')) hw with h | h <;> omega
  have hwant : ¬ (wantOf op ≠ 0 ∧ ¬ (∀ g ∈ l, alikeB g (wantOf op) = true)) := by
    intro h
    unfold kindN at hk
    rw [if_pos h] at hk
    cases hk
  unfold kindN at hk ⊢
  rw [if_neg hwant] at hk ⊢
  unfold valueN
  by_cases h1 : op = 1
  · rw [if_pos h1] at hk ⊢
    rw [if_pos h1]
    split at hk
    · exact absurd hk (by decide)
    · rename_i hge
      rw [if_neg hge]
      obtain ⟨c, hc, hn⟩ := findC_get (l := cols) (s := name) (by omega)
      have hrange := findC_range cols name
      have hlen := fitsL_length hf
      have hu : row[(findC cols name).toNat]? = some (row[(findC cols name).toNat]'(by omega)) := List.getElem?_eq_getElem _
      generalize row[(findC cols name).toNat]'(by omega) = u at hu
      have hfit := fitsL_get hf hc hu
      unfold valFits at hfit
      simp only [Bool.and_eq_true, Bool.or_eq_true, decide_eq_true_eq] at hfit
      refine ⟨.inl ⟨rfl, ?_⟩, fun h => by omega, fun _ => by omega⟩
      rw [hc, hu]
      exact ⟨of_decide_eq_true hfit.1, hr u (List.mem_of_getElem? hu), by rcases hfit.2 with h | h <;> simp [h]⟩
  rw [if_neg h1] at hk ⊢
  rw [if_neg h1]
  by_cases h2 : op = 2
  · rw [if_pos h2] at hk ⊢
    rw [if_pos h2]
    exact ⟨.inl ⟨rfl, hv, hvn, .inr rfl⟩, fun h => by omega, fun h => absurd h h1⟩
  rw [if_neg h2] at hk ⊢
  rw [if_neg h2]
  split at hk
  · exact absurd hk (by decide)
  rename_i h9
  rw [if_neg h9]
  have h2nd : op = 12 ∨ op = 13 → ∀ u ∈ vl, GoodV 2 u := by
    intro h u hu
    have hw : wantOf op = 2 := by unfold wantOf; rw [if_neg (by omega), if_pos (by omega)]
    have := hrel' u hu (by omega)
    rwa [hw] at this
  refine ⟨?_, h2nd, fun h => absurd h h1⟩
  by_cases hone : vl.length = 1
  · rw [if_pos hone]
    obtain ⟨a, rfl⟩ := List.length_eq_one_iff.1 hone
    have hm1 : op = 8 ∨ op = 14 ∨ op = 15 ∨ op = 16 := by
      unfold manyOf at hm
      simp only [List.length_cons, List.length_nil] at hm
      split at hm
      · omega
      · split at hm
        · assumption
        · split at hm <;> omega
    show Good (kindOf op) (singleF op a)
    have ga := hrel' a (by simp)
    obtain ⟨ga1, ga2, _⟩ := hrel 0 (l[0]'(by rw [hl]; simp)) a (List.getElem?_eq_getElem _) rfl
    unfold singleF
    by_cases h15 : op = 15
    · rw [if_pos h15]
      have : kindOf op = 2 := by unfold kindOf; rw [if_neg (by omega), if_pos (by omega)]
      rw [this]; exact .inl ⟨rfl, .truth _⟩
    rw [if_neg h15]
    by_cases hz : a.k = 0
    · rw [if_pos hz]; exact .inl ⟨rfl, ga1, ga2, .inl hz⟩
    rw [if_neg hz]
    by_cases h14 : op = 14
    · rw [if_pos h14]
      have : kindOf op = 2 := by unfold kindOf; rw [if_neg (by omega), if_pos (by omega)]
      rw [this]; exact .inl ⟨rfl, .truth _⟩
    rw [if_neg h14]
    have hk1 : kindOf op = 1 := by unfold kindOf; rw [if_pos (by omega)]
    rw [hk1]
    by_cases h16 : op = 16
    · rw [if_pos h16]
      have hw : wantOf op = 3 := by unfold wantOf; rw [if_neg (by omega), if_neg (by omega), if_pos h16]
      have := ga (by omega)
      rw [hw] at this
      obtain ⟨ho, _, hk3⟩ := this
      refine .inl ⟨rfl, .num ?_⟩
      unfold Val.Ok at ho
      unfold fitI
      rcases ho with ho | ho | ho | ho <;> omega
    · rw [if_neg h16]
      exact pairF_arith (by decide) (by decide) (by decide) (by decide) (by decide) _ _ ga2
  · rw [if_neg hone]
    have hm2 : (3 ≤ op ∧ op ≤ 7) ∨ (9 ≤ op ∧ op ≤ 13) := by
      unfold manyOf at hm
      split at hm
      · omega
      · split at hm
        · exfalso; omega
        · split at hm <;> omega
    have htwo : vl.length = 2 := by
      unfold manyOf at hm
      rw [if_neg (by omega), if_neg (by omega), if_pos (by omega)] at hm
      omega
    match vl, htwo with
    | [a, b], _ =>
      show Good (kindOf op) (pairF op a b)
      obtain ⟨b1, b2, _⟩ := hrel 1 (l[1]'(by rw [hl]; simp)) b (List.getElem?_eq_getElem _) rfl
      rcases hm2 with h | h
      · have hk1 : kindOf op = 1 := by unfold kindOf; rw [if_pos (by omega)]
        rw [hk1]
        exact pairF_arith (by omega) (by omega) (by omega) (by omega) (by omega) _ _ b2
      · have hk2 : kindOf op = 2 := by unfold kindOf; rw [if_neg (by omega), if_pos (by omega)]
        rw [hk2]
        unfold pairF
        split
        · exact .inl ⟨rfl, .answer _⟩
        · split
          · exact .inl ⟨rfl, .answer _⟩
          · split
            · exact .inl ⟨rfl, .null 2⟩
            · split
              · exact .inl ⟨rfl, .truth _⟩
              · split
                · exact .inl ⟨rfl, .truth _⟩
                · split
                  · exact .inl ⟨rfl, .truth _⟩
                  · exfalso; omega

/-- The kinds and the values of the kids. -/
theorem kids_kinds {cols : List Col} {x : Ex} (h : (kindF cols x).2 = 0) : (runL (kindF cols) x.kids).2 = 0 ∧ kindF cols x = kindN cols x.op x.name x.v (runL (kindF cols) x.kids).1 := by
  rw [kindF_eq] at h ⊢
  split at h
  · rename_i hn; exact absurd h hn
  · rename_i hn
    exact ⟨by omega, by rw [if_neg hn]⟩
theorem typed {cols : List Col} {row : List Val} (hf : fitsL cols row = true) (hr : ∀ u ∈ row, fitI u.n) : ∀ (N : Nat) (x : Ex), depthT x ≤ N → (∀ y ∈ nodesT x, NodeOk y ∧ fitI y.v.n) → (kindF cols x).2 = 0 → Good (kindF cols x).1 (valueF cols row x) := by
  intro N
  induction N with
  | zero => intro x hd; cases x; unfold depthT at hd; omega
  | succ N ih =>
    intro x hd hn hk
    obtain ⟨hk1, hk2⟩ := kids_kinds hk
    have hkid : ∀ (i : Nat) k, x.kids[i]? = some k → Good (kindF cols k).1 (valueF cols row k) := fun i k hi =>
      ih k (by have := kid_depth hi; omega) (fun y hy => hn y (kid_node hi hy)) (runL_get hk1 hi).1
    rw [valueF_eq]
    split
    · rename_i he
      -- some kid has an error
      have : (runL (valueF cols row) x.kids).2 = 100 ∨ (runL (valueF cols row) x.kids).2 = 101 := by
        have key : ∀ l : List Ex, (∀ k ∈ l, (valueF cols row k).2 = 0 ∨ (valueF cols row k).2 = 100 ∨ (valueF cols row k).2 = 101) → (runL (valueF cols row) l).2 = 0 ∨ (runL (valueF cols row) l).2 = 100 ∨ (runL (valueF cols row) l).2 = 101 := by
          intro l
          induction l with
          | nil => intro _; exact .inl rfl
          | cons k r ih2 =>
            intro h
            have h1 := h k (by simp)
            have h2 := ih2 fun q hq => h q (by simp [hq])
            unfold runL
            split
            · rename_i hne; rcases h1 with h1 | h1
              · exact absurd h1 hne
              · exact .inr h1
            · split
              · rename_i hne; rcases h2 with h2 | h2
                · exact absurd h2 hne
                · exact .inr h2
              · exact .inl rfl
        rcases key x.kids (fun k hk => by
          obtain ⟨i, hi⟩ := List.mem_iff_getElem?.1 hk
          rcases hkid i k hi with h | h
          · exact .inl h.1
          · exact .inr h.1) with h | h
        · exact absurd h he
        · exact h
      exact .inr ⟨this, rfl⟩
    · rename_i he
      have hv1 : (runL (valueF cols row) x.kids).2 = 0 := by omega
      obtain ⟨hno, hnf⟩ := hn x (self_node x)
      rw [hk2]
      have hlv := runL_len hv1
      have hlk := runL_len hk1
      refine (node_good (by rw [hlv]; exact hno.1) (by omega) hno.2.2.2 hnf (fun i g u hg hu => ?_) (by rw [← hk2]; exact hk) hf hr).1
      have hi : i < x.kids.length := by rw [← hlk]; exact (List.getElem?_eq_some_iff.1 hg).1
      have hki : x.kids[i]? = some x.kids[i] := List.getElem?_eq_getElem hi
      have e1 := runL_get hk1 hki
      have e2 := runL_get hv1 hki
      rw [hg] at e1
      rw [hu] at e2
      have := hkid i _ hki
      cases e1.2
      cases e2.2
      rcases this with h | h
      · exact h.2
      · have := e2.1; omega
end Go.Vc

/- The verification conditions of the functions, evaluated: printed by program. -/
namespace Go.Proofs.YtdephmdfdgclpaaDoor
open Go Go.Vc

set_option maxRecDepth 100000 in
def sisname_T (s : ByteArray) (w : World) (R : Ending → World → Prop) : Prop :=
  (s ≠ ByteArray.mk #[] ∧ (↑s.size : Int) ≤ 24 →
 (0 : Int) ≤ 0 ∧
 0 < (↑s.size : Int) ∧
 Calls Tryd.prog 60
 #[Value.string (ByteArray.mk #[97, 98, 99, 100, 101, 102, 103, 104, 105, 106, 107, 108, 109, 110, 111, 112, 113, 114, 115, 116, 117, 118, 119, 120, 121, 122]),
 Value.int IntKind.u8 (bAt s 0)]
 w fun (e2 : Ending) (w3 : World) ↦
 ∃ (n4 : Int),
 e2 = Ending.returned (Value.int IntKind.i64 n4) ∧
 (0 ≤ n4 →
 Calls Tryd.prog 61
 #[Value.string s,
 Value.string
 (ByteArray.mk
 #[97, 98, 99, 100, 101, 102, 103, 104, 105, 106, 107, 108, 109, 110, 111, 112, 113, 114, 115, 116, 117, 118, 119, 120, 121, 122, 48, 49, 50, 51, 52, 53, 54, 55, 56, 57,
 95])]
 w3 fun (e6 : Ending) (w7 : World) ↦ ∃ (s8 : ByteArray), e6 = Ending.returned (Value.string s8) ∧ R (Ending.returned (Value.bool (sEq s8 (ByteArray.mk #[])))) w7) ∧
 (n4 < 0 → R (Ending.returned (Value.bool false)) w3)) ∧
 (s = ByteArray.mk #[] ∨ 24 < (↑s.size : Int) → R (Ending.returned (Value.bool false)) w)

set_option maxRecDepth 100000 in
theorem sisname_eq (s : ByteArray) (w : World) (R : Ending → World → Prop) : sisname_T s w R = vcFn Tryd.prog [] [] Tryd.f42 [Value.string s] w R := by kernel_rfl

set_option maxRecDepth 100000 in
theorem sisname_vc (s : ByteArray) (w : World) (R : Ending → World → Prop) (h : sisname_T s w R) : Calls Tryd.prog 42 #[Value.string s] w R :=
  calls_of_vc (args := [Value.string s]) [] [] Tryd.mixed Tryd.func42 (cast (sisname_eq _ w R) h)

set_option maxRecDepth 100000 in
def sidxb_T (s : ByteArray) (c : Int) (w : World) (R : Ending → World → Prop) : Prop :=
  Calls Tryd.prog 85 #[Value.string s, Value.int IntKind.u8 c] w fun (e1 : Ending) (w2 : World) ↦
 ∃ (n3 : Int), e1 = Ending.returned (Value.int IntKind.i64 n3) ∧ R (Ending.returned (Value.int IntKind.i64 n3)) w2

set_option maxRecDepth 100000 in
theorem sidxb_eq (s : ByteArray) (c : Int) (w : World) (R : Ending → World → Prop) : sidxb_T s c w R = vcFn Tryd.prog [] [] Tryd.f60 [Value.string s, Value.int IntKind.u8 c] w R := by kernel_rfl

set_option maxRecDepth 100000 in
theorem sidxb_vc (s : ByteArray) (c : Int) (w : World) (R : Ending → World → Prop) (h : sidxb_T s c w R) : Calls Tryd.prog 60 #[Value.string s, Value.int IntKind.u8 c] w R :=
  calls_of_vc (args := [Value.string s, Value.int IntKind.u8 c]) [] [] Tryd.mixed Tryd.func60 (cast (sidxb_eq _ _ w R) h)

set_option maxRecDepth 100000 in
def slidxb_T (s : ByteArray) (c : Int) (w : World) (R : Ending → World → Prop) : Prop :=
  ∃ (n1 : Int),
 ∃ (w'2 : World),
 Sem.run Tryd.prog (callFunc 106 #[Value.string s, Value.int IntKind.u8 c]) w = Result.ok (Next.value (Value.int IntKind.i64 n1)) w'2 ∧
 R (Ending.returned (Value.int IntKind.i64 n1)) w'2

set_option maxRecDepth 100000 in
theorem slidxb_eq (s : ByteArray) (c : Int) (w : World) (R : Ending → World → Prop) : slidxb_T s c w R = vcFn Tryd.prog [] [] Tryd.f85 [Value.string s, Value.int IntKind.u8 c] w R := by kernel_rfl

set_option maxRecDepth 100000 in
theorem slidxb_vc (s : ByteArray) (c : Int) (w : World) (R : Ending → World → Prop) (h : slidxb_T s c w R) : Calls Tryd.prog 85 #[Value.string s, Value.int IntKind.u8 c] w R :=
  calls_of_vc (args := [Value.string s, Value.int IntKind.u8 c]) [] [] Tryd.mixed Tryd.func85 (cast (slidxb_eq _ _ w R) h)

set_option maxRecDepth 100000 in
def strim_T (s : ByteArray) (cutset : ByteArray) (w : World) (R : Ending → World → Prop) : Prop :=
  (s = ByteArray.mk #[] ∨ cutset = ByteArray.mk #[] → R (Ending.returned (Value.string s)) w) ∧
 (s ≠ ByteArray.mk #[] ∧ cutset ≠ ByteArray.mk #[] →
 ((↑cutset.size : Int) = 1 →
 (0 : Int) ≤ 0 ∧
 0 < (↑cutset.size : Int) ∧
 (bAt cutset 0 < 128 →
 ∀ (w'5 : World),
 Drew w w'5 →
 (0 : Int) ≤ 0 ∧
 0 < (↑cutset.size : Int) ∧
 (0 : Int) ≤ 0 ∧
 0 < (↑cutset.size : Int) ∧
 Calls Tryd.prog 87 #[Value.string s, Value.int IntKind.u8 (bAt cutset 0)] w'5 fun (e7 : Ending) (w8 : World) ↦
 ∃ (s9 : ByteArray),
 e7 = Ending.returned (Value.string s9) ∧
 Calls Tryd.prog 86 #[Value.string s9, Value.int IntKind.u8 (bAt cutset 0)] w8 fun (e10 : Ending) (w11 : World) ↦
 ∃ (s12 : ByteArray), e10 = Ending.returned (Value.string s12) ∧ R (Ending.returned (Value.string s12)) w11) ∧
 (128 ≤ bAt cutset 0 →
 Calls Tryd.prog 88 #[Value.string cutset] w fun (e14 : Ending) (w15 : World) ↦
 ∃ (vs16 : Array Value),
 vs16.size = 256 ∧
 ∃ (b17 : Bool),
 e14 = Ending.returned (Value.tuple #[Value.agg vs16, Value.bool b17]) ∧
 ∀ (b18 : Nat) (w'19 : World),
 New w15 (Obj.cells (zeroA Tryd.prog 112) 112) b18 w'19 →
 vs16.size = 256 ∧
 CanPut w'19 b18 0 vs16 ∧
 ∀ (w'21 : World),
 Put w'19 b18 0 vs16.1 w'21 →
 (b17 = true →
 Calls Tryd.prog 90 #[Value.string s, Value.pointer (some (Addr.mk b18 0 none))] w'21 fun (e24 : Ending) (w25 : World) ↦
 ∃ (s26 : ByteArray),
 e24 = Ending.returned (Value.string s26) ∧
 Calls Tryd.prog 89 #[Value.string s26, Value.pointer (some (Addr.mk b18 0 none))] w25 fun (e27 : Ending) (w28 : World) ↦
 ∃ (s29 : ByteArray), e27 = Ending.returned (Value.string s29) ∧ R (Ending.returned (Value.string s29)) w28) ∧
 (b17 = false →
 Calls Tryd.prog 92 #[Value.string s, Value.string cutset] w'21 fun (e31 : Ending) (w32 : World) ↦
 ∃ (s33 : ByteArray),
 e31 = Ending.returned (Value.string s33) ∧
 Calls Tryd.prog 91 #[Value.string s33, Value.string cutset] w32 fun (e34 : Ending) (w35 : World) ↦
 ∃ (s36 : ByteArray), e34 = Ending.returned (Value.string s36) ∧ R (Ending.returned (Value.string s36)) w35))) ∧
 ((↑cutset.size : Int) ≠ 1 →
 Calls Tryd.prog 88 #[Value.string cutset] w fun (e38 : Ending) (w39 : World) ↦
 ∃ (vs40 : Array Value),
 vs40.size = 256 ∧
 ∃ (b41 : Bool),
 e38 = Ending.returned (Value.tuple #[Value.agg vs40, Value.bool b41]) ∧
 ∀ (b42 : Nat) (w'43 : World),
 New w39 (Obj.cells (zeroA Tryd.prog 112) 112) b42 w'43 →
 vs40.size = 256 ∧
 CanPut w'43 b42 0 vs40 ∧
 ∀ (w'45 : World),
 Put w'43 b42 0 vs40.1 w'45 →
 (b41 = true →
 Calls Tryd.prog 90 #[Value.string s, Value.pointer (some (Addr.mk b42 0 none))] w'45 fun (e48 : Ending) (w49 : World) ↦
 ∃ (s50 : ByteArray),
 e48 = Ending.returned (Value.string s50) ∧
 Calls Tryd.prog 89 #[Value.string s50, Value.pointer (some (Addr.mk b42 0 none))] w49 fun (e51 : Ending) (w52 : World) ↦
 ∃ (s53 : ByteArray), e51 = Ending.returned (Value.string s53) ∧ R (Ending.returned (Value.string s53)) w52) ∧
 (b41 = false →
 Calls Tryd.prog 92 #[Value.string s, Value.string cutset] w'45 fun (e55 : Ending) (w56 : World) ↦
 ∃ (s57 : ByteArray),
 e55 = Ending.returned (Value.string s57) ∧
 Calls Tryd.prog 91 #[Value.string s57, Value.string cutset] w56 fun (e58 : Ending) (w59 : World) ↦
 ∃ (s60 : ByteArray), e58 = Ending.returned (Value.string s60) ∧ R (Ending.returned (Value.string s60)) w59)))

set_option maxRecDepth 100000 in
theorem strim_eq (s : ByteArray) (cutset : ByteArray) (w : World) (R : Ending → World → Prop) : strim_T s cutset w R = vcFn Tryd.prog [] [(4, [2, 4, 6, 10, 12, 8, 14, 16, 0])] Tryd.f61 [Value.string s, Value.string cutset] w R := by kernel_rfl

set_option maxRecDepth 100000 in
theorem strim_vc (s : ByteArray) (cutset : ByteArray) (w : World) (R : Ending → World → Prop) (h : strim_T s cutset w R) : Calls Tryd.prog 61 #[Value.string s, Value.string cutset] w R :=
  calls_of_vc (args := [Value.string s, Value.string cutset]) [] [(4, [2, 4, 6, 10, 12, 8, 14, 16, 0])] Tryd.mixed Tryd.func61 (cast (strim_eq _ _ w R) h)

set_option maxRecDepth 100000 in
def mkascii_T (chars : ByteArray) (w : World) (R : Ending → World → Prop) : Prop :=
  ∀ (b1 : Nat) (w'2 : World),
 New w (Obj.cells (zeroA Tryd.prog 112) 112) b1 w'2 →
 ∃ (I4 : Int → World → Prop),
 ∃ (M5 : Int → World → Nat),
 I4 0 w'2 ∧
 ∀ (n6 : Int) (w'7 : World),
 I4 n6 w'7 →
 (n6 < (↑chars.size : Int) →
 0 ≤ n6 ∧
 n6 < (↑chars.size : Int) ∧
 (128 ≤ bAt chars n6.toNat →
 ∃ (vs11 : Array Value),
 vs11.size = 256 ∧
 CellsAt w'7 b1 0 vs11 ∧
 vs11.size = 256 ∧
 CanPut w'7 b1 0 vs11 ∧
 ∀ (w'12 : World),
 Put w'7 b1 0 vs11.1 w'12 →
 ∃ (vs14 : Array Value), vs14.size = 256 ∧ CellsAt w'12 b1 0 vs14 ∧ R (Ending.returned (Value.tuple #[Value.agg vs14, Value.bool false])) w'12) ∧
 (bAt chars n6.toNat < 128 →
 0 ≤ bAt chars n6.toNat ∧
 bAt chars n6.toNat < 256 ∧
 (∃ (u16 : Value), w'7.cell? (Addr.mk b1 (0 + (bAt chars n6.toNat).toNat) none) = some u16) ∧
 w'7.frozen? (Addr.mk b1 (0 + (bAt chars n6.toNat).toNat) none) = false ∧
 ∀ (w'17 : World),
 Put w'7 b1 (0 + (bAt chars n6.toNat).toNat) [Value.bool true] w'17 → I4 (IntKind.i64.wrap (n6 + 1)) w'17 ∧ M5 (IntKind.i64.wrap (n6 + 1)) w'17 < M5 n6 w'7)) ∧
 ((↑chars.size : Int) ≤ n6 →
 ∃ (vs20 : Array Value),
 vs20.size = 256 ∧
 CellsAt w'7 b1 0 vs20 ∧
 vs20.size = 256 ∧
 CanPut w'7 b1 0 vs20 ∧
 ∀ (w'21 : World),
 Put w'7 b1 0 vs20.1 w'21 → ∃ (vs23 : Array Value), vs23.size = 256 ∧ CellsAt w'21 b1 0 vs23 ∧ R (Ending.returned (Value.tuple #[Value.agg vs23, Value.bool true])) w'21)

set_option maxRecDepth 100000 in
theorem mkascii_eq (chars : ByteArray) (w : World) (R : Ending → World → Prop) : mkascii_T chars w R = vcFn Tryd.prog [] [] Tryd.f88 [Value.string chars] w R := by kernel_rfl

set_option maxRecDepth 100000 in
theorem mkascii_vc (chars : ByteArray) (w : World) (R : Ending → World → Prop) (h : mkascii_T chars w R) : Calls Tryd.prog 88 #[Value.string chars] w R :=
  calls_of_vc (args := [Value.string chars]) [] [] Tryd.mixed Tryd.func88 (cast (mkascii_eq _ w R) h)

set_option maxRecDepth 100000 in
def trimla_T (s : ByteArray) («as» : Option Addr) (w : World) (R : Ending → World → Prop) : Prop :=
  ∃ (I1 : ByteArray → World → Prop),
 ∃ (M2 : ByteArray → World → Nat),
 I1 s w ∧
 ∀ (s3 : ByteArray) (w'4 : World),
 I1 s3 w'4 →
 (0 < (↑s3.size : Int) →
 (0 : Int) ≤ 0 ∧
 0 < (↑s3.size : Int) ∧
 Calls Tryd.prog 107 #[Value.pointer «as», Value.int IntKind.u8 (bAt s3 0)] w'4 fun (e7 : Ending) (w8 : World) ↦
 ∃ (b9 : Bool),
 e7 = Ending.returned (Value.bool b9) ∧
 (b9 = false → R (Ending.returned (Value.string s3)) w8) ∧
 (b9 = true → (0 : Int) ≤ 1 ∧ 1 ≤ (↑s3.size : Int) ∧ I1 (s3.extract 1 s3.size) w8 ∧ M2 (s3.extract 1 s3.size) w8 < M2 s3 w'4)) ∧
 ((↑s3.size : Int) ≤ 0 → R (Ending.returned (Value.string s3)) w'4)

set_option maxRecDepth 100000 in
theorem trimla_eq (s : ByteArray) («as» : Option Addr) (w : World) (R : Ending → World → Prop) : trimla_T s «as» w R = vcFn Tryd.prog [] [] Tryd.f89 [Value.string s, Value.pointer «as»] w R := by kernel_rfl

set_option maxRecDepth 100000 in
theorem trimla_vc (s : ByteArray) («as» : Option Addr) (w : World) (R : Ending → World → Prop) (h : trimla_T s «as» w R) : Calls Tryd.prog 89 #[Value.string s, Value.pointer «as»] w R :=
  calls_of_vc (args := [Value.string s, Value.pointer «as»]) [] [] Tryd.mixed Tryd.func89 (cast (trimla_eq _ _ w R) h)

set_option maxRecDepth 100000 in
def trimra_T (s : ByteArray) («as» : Option Addr) (w : World) (R : Ending → World → Prop) : Prop :=
  ∃ (I1 : ByteArray → World → Prop),
 ∃ (M2 : ByteArray → World → Nat),
 I1 s w ∧
 ∀ (s3 : ByteArray) (w'4 : World),
 I1 s3 w'4 →
 (0 < (↑s3.size : Int) →
 0 ≤ IntKind.i64.wrap ((↑s3.size : Int) - 1) ∧
 IntKind.i64.wrap ((↑s3.size : Int) - 1) < (↑s3.size : Int) ∧
 Calls Tryd.prog 107 #[Value.pointer «as», Value.int IntKind.u8 (bAt s3 (IntKind.i64.wrap ((↑s3.size : Int) - 1)).toNat)] w'4 fun (e7 : Ending) (w8 : World) ↦
 ∃ (b9 : Bool),
 e7 = Ending.returned (Value.bool b9) ∧
 (b9 = false → R (Ending.returned (Value.string s3)) w8) ∧
 (b9 = true →
 0 ≤ IntKind.i64.wrap ((↑s3.size : Int) - 1) ∧
 IntKind.i64.wrap ((↑s3.size : Int) - 1) ≤ (↑s3.size : Int) ∧
 I1 (s3.extract 0 (IntKind.i64.wrap ((↑s3.size : Int) - 1)).toNat) w8 ∧ M2 (s3.extract 0 (IntKind.i64.wrap ((↑s3.size : Int) - 1)).toNat) w8 < M2 s3 w'4)) ∧
 ((↑s3.size : Int) ≤ 0 → R (Ending.returned (Value.string s3)) w'4)

set_option maxRecDepth 100000 in
theorem trimra_eq (s : ByteArray) («as» : Option Addr) (w : World) (R : Ending → World → Prop) : trimra_T s «as» w R = vcFn Tryd.prog [] [] Tryd.f90 [Value.string s, Value.pointer «as»] w R := by kernel_rfl

set_option maxRecDepth 100000 in
theorem trimra_vc (s : ByteArray) («as» : Option Addr) (w : World) (R : Ending → World → Prop) (h : trimra_T s «as» w R) : Calls Tryd.prog 90 #[Value.string s, Value.pointer «as»] w R :=
  calls_of_vc (args := [Value.string s, Value.pointer «as»]) [] [] Tryd.mixed Tryd.func90 (cast (trimra_eq _ _ w R) h)

set_option maxRecDepth 100000 in
def ascont_T («as» : Option Addr) (c : Int) (w : World) (R : Ending → World → Prop) : Prop :=
  ∃ (b1 : Nat),
 ∃ (o2 : Nat),
 «as» = some (Addr.mk b1 o2 none) ∧
 0 ≤ c ∧ c < 256 ∧ ∃ (b3 : Bool), w.cell? (Addr.mk b1 (o2 + c.toNat) none) = some (Value.bool b3) ∧ R (Ending.returned (Value.bool b3)) w

set_option maxRecDepth 100000 in
theorem ascont_eq («as» : Option Addr) (c : Int) (w : World) (R : Ending → World → Prop) : ascont_T «as» c w R = vcFn Tryd.prog [] [] Tryd.f107 [Value.pointer «as», Value.int IntKind.u8 c] w R := by kernel_rfl

set_option maxRecDepth 100000 in
theorem ascont_vc («as» : Option Addr) (c : Int) (w : World) (R : Ending → World → Prop) (h : ascont_T «as» c w R) : Calls Tryd.prog 107 #[Value.pointer «as», Value.int IntKind.u8 c] w R :=
  calls_of_vc (args := [Value.pointer «as», Value.int IntKind.u8 c]) [] [] Tryd.mixed Tryd.func107 (cast (ascont_eq _ _ w R) h)

set_option maxRecDepth 100000 in
def sright_T (cols_p : Option Addr) (cols_n : Nat) (cols_c : Nat) (w : World) (R : Ending → World → Prop) : Prop :=
  ∀ (b1 : Nat) (w'2 : World),
 New w (Obj.map #[] 0) b1 w'2 →
 ∃ (I4 : Int → World → Prop),
 ∃ (M5 : Int → World → Nat),
 I4 0 w'2 ∧
 ∀ (n6 : Int) (w'7 : World),
 I4 n6 w'7 →
 (n6 < (↑cols_n : Int) →
 ∃ (b10 : Nat),
 ∃ (o11 : Nat),
 cols_p = some (Addr.mk b10 o11 none) ∧
 0 ≤ n6 ∧
 n6 < (↑cols_n : Int) ∧
 ∃ (s12 : ByteArray),
 w'7.cell? (Addr.mk b10 (o11 + n6.toNat * 3) none) = some (Value.string s12) ∧
 ∃ (n13 : Int),
 w'7.cell? (Addr.mk b10 (o11 + n6.toNat * 3 + 1) none) = some (Value.int IntKind.i64 n13) ∧
 ∃ (b14 : Bool),
 w'7.cell? (Addr.mk b10 (o11 + n6.toNat * 3 + 2) none) = some (Value.bool b14) ∧
 ∀ (b15 : Nat) (w'16 : World),
 New w'7 (Obj.cells #[Value.string (ByteArray.mk #[]), Value.int IntKind.i64 0, Value.bool false] 50) b15 w'16 →
 (∃ (u18 : Value), w'16.cell? (Addr.mk b15 0 none) = some u18) ∧
 w'16.frozen? (Addr.mk b15 0 none) = false ∧
 (∃ (u19 : Value), w'16.cell? (Addr.mk b15 1 none) = some u19) ∧
 w'16.frozen? (Addr.mk b15 1 none) = false ∧
 (∃ (u20 : Value), w'16.cell? (Addr.mk b15 2 none) = some u20) ∧
 w'16.frozen? (Addr.mk b15 2 none) = false ∧
 ∀ (w'21 : World),
 Put w'16 b15 0 [Value.string s12, Value.int IntKind.i64 n13, Value.bool b14] w'21 →
 ∃ (s23 : ByteArray),
 w'21.cell? (Addr.mk b15 0 none) = some (Value.string s23) ∧
 Calls Tryd.prog 42 #[Value.string s23] w'21 fun (e24 : Ending) (w25 : World) ↦
 ∃ (b26 : Bool),
 e24 = Ending.returned (Value.bool b26) ∧
 (b26 = false → R (Ending.returned (Value.bool false)) w25) ∧
 (b26 = true →
 ∃ (s29 : ByteArray),
 w25.cell? (Addr.mk b15 0 none) = some (Value.string s29) ∧
 ∃ (b30 : Bool),
 (∀ (w131 : World), Same w25 w131 → Sem.run Tryd.prog (Instr.lookup 61 (Value.map (some b1)) (Value.string s29) false) w131 = Result.ok (Value.bool b30) w131) ∧
 (b30 = true → R (Ending.returned (Value.bool false)) w25) ∧
 (b30 = false →
 ∃ (n35 : Int),
 w25.cell? (Addr.mk b15 1 none) = some (Value.int IntKind.i64 n35) ∧
 (n35 < 1 → R (Ending.returned (Value.bool false)) w25) ∧
 (1 ≤ n35 →
 ∃ (n38 : Int),
 w25.cell? (Addr.mk b15 1 none) = some (Value.int IntKind.i64 n38) ∧
 (3 < n38 → R (Ending.returned (Value.bool false)) w25) ∧
 (n38 ≤ 3 →
 ∃ (s41 : ByteArray),
 w25.cell? (Addr.mk b15 0 none) = some (Value.string s41) ∧
 ∃ (w'42 : World),
 Sem.run Tryd.prog (Instr.mapUpdate 61 (Value.map (some b1)) (Value.string s41) (Value.bool true)) w25 = Result.ok () w'42 ∧
 I4 (IntKind.i64.wrap (n6 + 1)) w'42 ∧ M5 (IntKind.i64.wrap (n6 + 1)) w'42 < M5 n6 w'7))))) ∧
 ((↑cols_n : Int) ≤ n6 → R (Ending.returned (Value.bool (decide (0 < (↑cols_n : Int)) && decide ((↑cols_n : Int) ≤ 16)))) w'7)

set_option maxRecDepth 100000 in
theorem sright_eq (cols_p : Option Addr) (cols_n : Nat) (cols_c : Nat) (w : World) (R : Ending → World → Prop) : sright_T cols_p cols_n cols_c w R = vcFn Tryd.prog [] [] Tryd.f26 [Value.slice cols_p cols_n cols_c] w R := by kernel_rfl

set_option maxRecDepth 100000 in
theorem sright_vc (cols_p : Option Addr) (cols_n : Nat) (cols_c : Nat) (w : World) (R : Ending → World → Prop) (h : sright_T cols_p cols_n cols_c w R) : Calls Tryd.prog 26 #[Value.slice cols_p cols_n cols_c] w R :=
  calls_of_vc (args := [Value.slice cols_p cols_n cols_c]) [] [] Tryd.mixed Tryd.func26 (cast (sright_eq _ _ _ w R) h)

set_option maxRecDepth 100000 in
def sfits_T (cols_p : Option Addr) (cols_n : Nat) (cols_c : Nat) (row_p : Option Addr) (row_n : Nat) (row_c : Nat) (w : World) (R : Ending → World → Prop) : Prop :=
  Calls Tryd.prog 26 #[Value.slice cols_p cols_n cols_c] w fun (e1 : Ending) (w2 : World) ↦
 ∃ (b3 : Bool),
 e1 = Ending.returned (Value.bool b3) ∧
 (b3 = true →
 Calls Tryd.prog 50 #[Value.slice cols_p cols_n cols_c, Value.slice row_p row_n row_c] w2 fun (e5 : Ending) (w6 : World) ↦
 ∃ (b7 : Bool), e5 = Ending.returned (Value.bool b7) ∧ R (Ending.returned (Value.bool b7)) w6) ∧
 (b3 = false → R (Ending.returned (Value.bool false)) w2)

set_option maxRecDepth 100000 in
theorem sfits_eq (cols_p : Option Addr) (cols_n : Nat) (cols_c : Nat) (row_p : Option Addr) (row_n : Nat) (row_c : Nat) (w : World) (R : Ending → World → Prop) : sfits_T cols_p cols_n cols_c row_p row_n row_c w R = vcFn Tryd.prog [] [] Tryd.f34 [Value.slice cols_p cols_n cols_c, Value.slice row_p row_n row_c] w R := by kernel_rfl

set_option maxRecDepth 100000 in
theorem sfits_vc (cols_p : Option Addr) (cols_n : Nat) (cols_c : Nat) (row_p : Option Addr) (row_n : Nat) (row_c : Nat) (w : World) (R : Ending → World → Prop) (h : sfits_T cols_p cols_n cols_c row_p row_n row_c w R) : Calls Tryd.prog 34 #[Value.slice cols_p cols_n cols_c, Value.slice row_p row_n row_c] w R :=
  calls_of_vc (args := [Value.slice cols_p cols_n cols_c, Value.slice row_p row_n row_c]) [] [] Tryd.mixed Tryd.func34 (cast (sfits_eq _ _ _ _ _ _ w R) h)

set_option maxRecDepth 100000 in
def sfits0_T (cols_p : Option Addr) (cols_n : Nat) (cols_c : Nat) (row_p : Option Addr) (row_n : Nat) (row_c : Nat) (w : World) (R : Ending → World → Prop) : Prop :=
  ∀ (b1 : Nat) (w'2 : World),
 New w (Obj.cells #[Value.bool false] 4) b1 w'2 →
 ((↑row_n : Int) ≠ (↑cols_n : Int) →
 (∃ (u5 : Value), w'2.cell? (Addr.mk b1 0 none) = some u5) ∧
 w'2.frozen? (Addr.mk b1 0 none) = false ∧
 ∀ (w'6 : World), Put w'2 b1 0 [Value.bool false] w'6 → ∃ (b8 : Bool), w'6.cell? (Addr.mk b1 0 none) = some (Value.bool b8) ∧ R (Ending.returned (Value.bool b8)) w'6) ∧
 ((↑row_n : Int) = (↑cols_n : Int) →
 Calls Tryd.prog 75 #[Value.slice cols_p cols_n cols_c, Value.slice row_p row_n row_c] w'2 fun (e10 : Ending) (w11 : World) ↦
 ∃ (v12 : Value),
 e10 = Ending.returned v12 ∧
 ∃ (g13 : FuncId),
 ∃ (lb14 : Array Value),
 v12 = Value.func (Fn.func g13) #[] lb14 ∧
 enterable Tryd.prog g13 = true ∧
 ∀ (r15 : Nat → Loop) (d16 l17 : Nat) (w118 : World),
 Began w11 r15 d16 l17 w118 →
 (∀ (s20 : ByteArray) (n21 : Int) (b22 : Bool) (n23 n24 : Int) (s25 : ByteArray) (W26 : World) (R27 : Bool → World → Prop),
 Rec r15 l17 0 W26 →
 (∀ (b29 : Nat) (w'30 : World),
 New W26 (Obj.cells #[Value.string (ByteArray.mk #[]), Value.int IntKind.i64 0, Value.bool false] 50) b29 w'30 →
 (∃ (u32 : Value), w'30.cell? (Addr.mk b29 0 none) = some u32) ∧
 w'30.frozen? (Addr.mk b29 0 none) = false ∧
 (∃ (u33 : Value), w'30.cell? (Addr.mk b29 1 none) = some u33) ∧
 w'30.frozen? (Addr.mk b29 1 none) = false ∧
 (∃ (u34 : Value), w'30.cell? (Addr.mk b29 2 none) = some u34) ∧
 w'30.frozen? (Addr.mk b29 2 none) = false ∧
 ∀ (w'35 : World),
 Put w'30 b29 0 [Value.string s20, Value.int IntKind.i64 n21, Value.bool b22] w'35 →
 ∀ (b37 : Nat) (w'38 : World),
 New w'35 (Obj.cells #[Value.int IntKind.i64 0, Value.int IntKind.i64 0, Value.string (ByteArray.mk #[])] 26) b37 w'38 →
 (∃ (u40 : Value), w'38.cell? (Addr.mk b37 0 none) = some u40) ∧
 w'38.frozen? (Addr.mk b37 0 none) = false ∧
 (∃ (u41 : Value), w'38.cell? (Addr.mk b37 1 none) = some u41) ∧
 w'38.frozen? (Addr.mk b37 1 none) = false ∧
 (∃ (u42 : Value), w'38.cell? (Addr.mk b37 2 none) = some u42) ∧
 w'38.frozen? (Addr.mk b37 2 none) = false ∧
 ∀ (w'43 : World),
 Put w'38 b37 0 [Value.int IntKind.i64 n23, Value.int IntKind.i64 n24, Value.string s25] w'43 →
 Rec r15 l17 0 w'43 ∧
 ∀ (Wb45 : World),
 Wb45 = turn r15 l17 1 w'43 →
 ∃ (n47 : Int),
 Wb45.cell? (Addr.mk b37 0 none) = some (Value.int IntKind.i64 n47) ∧
 ∃ (n48 : Int),
 Wb45.cell? (Addr.mk b37 1 none) = some (Value.int IntKind.i64 n48) ∧
 ∃ (s49 : ByteArray),
 Wb45.cell? (Addr.mk b37 2 none) = some (Value.string s49) ∧
 Calls Tryd.prog 43 #[Value.agg #[Value.int IntKind.i64 n47, Value.int IntKind.i64 n48, Value.string s49]] Wb45 fun (e50 : Ending) (w51 : World) ↦
 ∃ (b52 : Bool),
 e50 = Ending.returned (Value.bool b52) ∧
 (b52 = false →
 (∃ (u54 : Value), w51.cell? (Addr.mk b1 0 none) = some u54) ∧
 w51.frozen? (Addr.mk b1 0 none) = false ∧ ∀ (w'55 : World), Put w51 b1 0 [Value.bool false] w'55 → Rec r15 l17 1 w'55 ∧ R27 false (turn r15 l17 3 w'55)) ∧
 (b52 = true →
 ∃ (n58 : Int),
 w51.cell? (Addr.mk b37 0 none) = some (Value.int IntKind.i64 n58) ∧
 ∃ (n59 : Int),
 w51.cell? (Addr.mk b29 1 none) = some (Value.int IntKind.i64 n59) ∧
 (n58 ≠ n59 →
 ∃ (b61 : Bool),
 w51.cell? (Addr.mk b29 2 none) = some (Value.bool b61) ∧
 (b61 = true →
 ∃ (n63 : Int),
 w51.cell? (Addr.mk b37 0 none) = some (Value.int IntKind.i64 n63) ∧
 (n63 ≠ 0 →
 (∃ (u65 : Value), w51.cell? (Addr.mk b1 0 none) = some u65) ∧
 w51.frozen? (Addr.mk b1 0 none) = false ∧ ∀ (w'66 : World), Put w51 b1 0 [Value.bool false] w'66 → Rec r15 l17 1 w'66 ∧ R27 false (turn r15 l17 3 w'66)) ∧
 (n63 = 0 → Rec r15 l17 1 w51 ∧ R27 true (turn r15 l17 0 w51))) ∧
 (b61 = false →
 (∃ (u70 : Value), w51.cell? (Addr.mk b1 0 none) = some u70) ∧
 w51.frozen? (Addr.mk b1 0 none) = false ∧ ∀ (w'71 : World), Put w51 b1 0 [Value.bool false] w'71 → Rec r15 l17 1 w'71 ∧ R27 false (turn r15 l17 3 w'71))) ∧
 (n58 = n59 → Rec r15 l17 1 w51 ∧ R27 true (turn r15 l17 0 w51)))) →
 Yield Tryd.prog l17
 #[Value.agg #[Value.string s20, Value.int IntKind.i64 n21, Value.bool b22], Value.agg #[Value.int IntKind.i64 n23, Value.int IntKind.i64 n24, Value.string s25]] W26
 fun (b75 : Bool) (w76 : World) ↦ R27 b75 w76) →
 Calls Tryd.prog g13 (Value.func (Fn.yield l17) #[] #[] :: lb14.1).toArray w118 fun (e78 : Ending) (w79 : World) ↦
 (∃ (v80 : Value), e78 = Ending.returned v80) ∧
 ((Rec r15 l17 0 w79 ∧
 (∃ (u81 : Value), (turn r15 l17 2 w79).cell? (Addr.mk b1 0 none) = some u81) ∧
 (turn r15 l17 2 w79).frozen? (Addr.mk b1 0 none) = false ∧
 ∀ (w'82 : World),
 Put (turn r15 l17 2 w79) b1 0 [Value.bool true] w'82 →
 w'82.heap[d16]? = some (Obj.deferred (some [])) ∧
 ∃ (b86 : Bool),
 (w'82.putObj d16 (Obj.deferred none)).cell? (Addr.mk b1 0 none) = some (Value.bool b86) ∧ R (Ending.returned (Value.bool b86)) (w'82.putObj d16 (Obj.deferred none))) ∨
 (Rec r15 l17 3 w79 ∧
 (turn r15 l17 4 w79).heap[d16]? = some (Obj.deferred (some [])) ∧
 ∃ (b89 : Bool),
 ((turn r15 l17 4 w79).putObj d16 (Obj.deferred none)).cell? (Addr.mk b1 0 none) = some (Value.bool b89) ∧
 R (Ending.returned (Value.bool b89)) ((turn r15 l17 4 w79).putObj d16 (Obj.deferred none))) ∨
 False))

set_option maxRecDepth 100000 in
theorem sfits0_eq (cols_p : Option Addr) (cols_n : Nat) (cols_c : Nat) (row_p : Option Addr) (row_n : Nat) (row_c : Nat) (w : World) (R : Ending → World → Prop) : sfits0_T cols_p cols_n cols_c row_p row_n row_c w R = vcFn Tryd.prog [] [] Tryd.f50 [Value.slice cols_p cols_n cols_c, Value.slice row_p row_n row_c] w R := by kernel_rfl

set_option maxRecDepth 100000 in
theorem sfits0_vc (cols_p : Option Addr) (cols_n : Nat) (cols_c : Nat) (row_p : Option Addr) (row_n : Nat) (row_c : Nat) (w : World) (R : Ending → World → Prop) (h : sfits0_T cols_p cols_n cols_c row_p row_n row_c w R) : Calls Tryd.prog 50 #[Value.slice cols_p cols_n cols_c, Value.slice row_p row_n row_c] w R :=
  calls_of_vc (args := [Value.slice cols_p cols_n cols_c, Value.slice row_p row_n row_c]) [] [] Tryd.mixed Tryd.func50 (cast (sfits0_eq _ _ _ _ _ _ w R) h)

set_option maxRecDepth 100000 in
def spairs_T (cols_p : Option Addr) (cols_n : Nat) (cols_c : Nat) (row_p : Option Addr) (row_n : Nat) (row_c : Nat) (w : World) (R : Ending → World → Prop) : Prop :=
  ∀ (b1 : Nat) (w'2 : World),
 New w (Obj.cells #[Value.slice cols_p cols_n cols_c] 22) b1 w'2 →
 ∀ (b4 : Nat) (w'5 : World),
 New w'2 (Obj.cells #[Value.slice row_p row_n row_c] 24) b4 w'5 →
 R (Ending.returned (Value.func (Fn.func 99) #[] #[Value.pointer (some (Addr.mk b1 0 none)), Value.pointer (some (Addr.mk b4 0 none))])) w'5

set_option maxRecDepth 100000 in
theorem spairs_eq (cols_p : Option Addr) (cols_n : Nat) (cols_c : Nat) (row_p : Option Addr) (row_n : Nat) (row_c : Nat) (w : World) (R : Ending → World → Prop) : spairs_T cols_p cols_n cols_c row_p row_n row_c w R = vcFn Tryd.prog [] [] Tryd.f75 [Value.slice cols_p cols_n cols_c, Value.slice row_p row_n row_c] w R := by kernel_rfl

set_option maxRecDepth 100000 in
theorem spairs_vc (cols_p : Option Addr) (cols_n : Nat) (cols_c : Nat) (row_p : Option Addr) (row_n : Nat) (row_c : Nat) (w : World) (R : Ending → World → Prop) (h : spairs_T cols_p cols_n cols_c row_p row_n row_c w R) : Calls Tryd.prog 75 #[Value.slice cols_p cols_n cols_c, Value.slice row_p row_n row_c] w R :=
  calls_of_vc (args := [Value.slice cols_p cols_n cols_c, Value.slice row_p row_n row_c]) [] [] Tryd.mixed Tryd.func75 (cast (spairs_eq _ _ _ _ _ _ w R) h)

set_option maxRecDepth 100000 in
def spairs1_T (l0 : Nat) (fv0 : Nat) (fv1 : Nat) (w : World) (R : Ending → World → Prop) : Prop :=
  ∃ (p1 : Option Addr),
 ∃ (n2 : Nat),
 ∃ (c3 : Nat),
 w.cell? (Addr.mk fv0 0 none) = some (Value.slice p1 n2 c3) ∧
 ∃ (I4 : Int → World → Prop),
 ∃ (M5 : Int → World → Nat),
 I4 0 w ∧
 ∀ (n6 : Int) (w'7 : World),
 I4 n6 w'7 →
 (n6 < (↑n2 : Int) →
 ∃ (b10 : Nat),
 ∃ (o11 : Nat),
 p1 = some (Addr.mk b10 o11 none) ∧
 0 ≤ n6 ∧
 n6 < (↑n2 : Int) ∧
 ∃ (s12 : ByteArray),
 w'7.cell? (Addr.mk b10 (o11 + n6.toNat * 3) none) = some (Value.string s12) ∧
 ∃ (n13 : Int),
 w'7.cell? (Addr.mk b10 (o11 + n6.toNat * 3 + 1) none) = some (Value.int IntKind.i64 n13) ∧
 ∃ (b14 : Bool),
 w'7.cell? (Addr.mk b10 (o11 + n6.toNat * 3 + 2) none) = some (Value.bool b14) ∧
 ∀ (b15 : Nat) (w'16 : World),
 New w'7 (Obj.cells #[Value.string (ByteArray.mk #[]), Value.int IntKind.i64 0, Value.bool false] 50) b15 w'16 →
 (∃ (u18 : Value), w'16.cell? (Addr.mk b15 0 none) = some u18) ∧
 w'16.frozen? (Addr.mk b15 0 none) = false ∧
 (∃ (u19 : Value), w'16.cell? (Addr.mk b15 1 none) = some u19) ∧
 w'16.frozen? (Addr.mk b15 1 none) = false ∧
 (∃ (u20 : Value), w'16.cell? (Addr.mk b15 2 none) = some u20) ∧
 w'16.frozen? (Addr.mk b15 2 none) = false ∧
 ∀ (w'21 : World),
 Put w'16 b15 0 [Value.string s12, Value.int IntKind.i64 n13, Value.bool b14] w'21 →
 ∀ (w'23 : World),
 Drew w'21 w'23 →
 ∃ (s25 : ByteArray),
 w'23.cell? (Addr.mk b15 0 none) = some (Value.string s25) ∧
 ∃ (n26 : Int),
 w'23.cell? (Addr.mk b15 1 none) = some (Value.int IntKind.i64 n26) ∧
 ∃ (b27 : Bool),
 w'23.cell? (Addr.mk b15 2 none) = some (Value.bool b27) ∧
 ∃ (p28 : Option Addr),
 ∃ (n29 : Nat),
 ∃ (c30 : Nat),
 w'23.cell? (Addr.mk fv1 0 none) = some (Value.slice p28 n29 c30) ∧
 ∃ (b31 : Nat),
 ∃ (o32 : Nat),
 p28 = some (Addr.mk b31 o32 none) ∧
 0 ≤ n6 ∧
 n6 < (↑n29 : Int) ∧
 ∃ (n33 : Int),
 w'23.cell? (Addr.mk b31 (o32 + n6.toNat * 3) none) = some (Value.int IntKind.i64 n33) ∧
 ∃ (n34 : Int),
 w'23.cell? (Addr.mk b31 (o32 + n6.toNat * 3 + 1) none) = some (Value.int IntKind.i64 n34) ∧
 ∃ (s35 : ByteArray),
 w'23.cell? (Addr.mk b31 (o32 + n6.toNat * 3 + 2) none) = some (Value.string s35) ∧
 Yield Tryd.prog l0
 #[Value.agg #[Value.string s25, Value.int IntKind.i64 n26, Value.bool b27], Value.agg #[Value.int IntKind.i64 n33, Value.int IntKind.i64 n34, Value.string s35]] w'23
 fun (b36 : Bool) (w37 : World) ↦
 (b36 = false → R (Ending.returned (Value.tuple #[])) w37) ∧ (b36 = true → I4 (IntKind.i64.wrap (n6 + 1)) w37 ∧ M5 (IntKind.i64.wrap (n6 + 1)) w37 < M5 n6 w'7)) ∧
 ((↑n2 : Int) ≤ n6 → R (Ending.returned (Value.tuple #[])) w'7)

set_option maxRecDepth 100000 in
theorem spairs1_eq (l0 : Nat) (fv0 : Nat) (fv1 : Nat) (w : World) (R : Ending → World → Prop) : spairs1_T l0 fv0 fv1 w R = vcFn Tryd.prog [] [(3, [2, 4, 6, 8, 10, 12, 14, 16, 0])] Tryd.f99 [Value.func (Fn.yield l0) #[] #[], Value.pointer (some (Addr.mk fv0 0 none)), Value.pointer (some (Addr.mk fv1 0 none))] w R := by kernel_rfl

set_option maxRecDepth 100000 in
theorem spairs1_vc (l0 : Nat) (fv0 : Nat) (fv1 : Nat) (w : World) (R : Ending → World → Prop) (h : spairs1_T l0 fv0 fv1 w R) : Calls Tryd.prog 99 #[Value.func (Fn.yield l0) #[] #[], Value.pointer (some (Addr.mk fv0 0 none)), Value.pointer (some (Addr.mk fv1 0 none))] w R :=
  calls_of_vc (args := [Value.func (Fn.yield l0) #[] #[], Value.pointer (some (Addr.mk fv0 0 none)), Value.pointer (some (Addr.mk fv1 0 none))]) [] [(3, [2, 4, 6, 8, 10, 12, 14, 16, 0])] Tryd.mixed Tryd.func99 (cast (spairs1_eq _ _ _ w R) h)

set_option maxRecDepth 100000 in
def sfind_T (cols_p : Option Addr) (cols_n : Nat) (cols_c : Nat) (name : ByteArray) (w : World) (R : Ending → World → Prop) : Prop :=
  ∀ (b1 : Nat) (w'2 : World),
 New w (Obj.cells #[Value.string name] 9) b1 w'2 →
 Calls Tryd.prog 62 #[Value.slice cols_p cols_n cols_c, Value.func (Fn.func 63) #[] #[Value.pointer (some (Addr.mk b1 0 none))]] w'2 fun (e4 : Ending) (w5 : World) ↦
 ∃ (n6 : Int), e4 = Ending.returned (Value.int IntKind.i64 n6) ∧ R (Ending.returned (Value.int IntKind.i64 n6)) w5

set_option maxRecDepth 100000 in
theorem sfind_eq (cols_p : Option Addr) (cols_n : Nat) (cols_c : Nat) (name : ByteArray) (w : World) (R : Ending → World → Prop) : sfind_T cols_p cols_n cols_c name w R = vcFn Tryd.prog [] [] Tryd.f45 [Value.slice cols_p cols_n cols_c, Value.string name] w R := by kernel_rfl

set_option maxRecDepth 100000 in
theorem sfind_vc (cols_p : Option Addr) (cols_n : Nat) (cols_c : Nat) (name : ByteArray) (w : World) (R : Ending → World → Prop) (h : sfind_T cols_p cols_n cols_c name w R) : Calls Tryd.prog 45 #[Value.slice cols_p cols_n cols_c, Value.string name] w R :=
  calls_of_vc (args := [Value.slice cols_p cols_n cols_c, Value.string name]) [] [] Tryd.mixed Tryd.func45 (cast (sfind_eq _ _ _ _ w R) h)

set_option maxRecDepth 100000 in
def sfind1_T (c0 : ByteArray) (c1 : Int) (c2 : Bool) (fv0 : Nat) (w : World) (R : Ending → World → Prop) : Prop :=
  ∀ (b1 : Nat) (w'2 : World),
 New w (Obj.cells #[Value.string c0, Value.int IntKind.i64 c1, Value.bool c2] 50) b1 w'2 →
 ∃ (s4 : ByteArray),
 w'2.cell? (Addr.mk b1 0 none) = some (Value.string s4) ∧
 ∃ (s5 : ByteArray), w'2.cell? (Addr.mk fv0 0 none) = some (Value.string s5) ∧ R (Ending.returned (Value.bool (sEq s4 s5))) w'2

set_option maxRecDepth 100000 in
theorem sfind1_eq (c0 : ByteArray) (c1 : Int) (c2 : Bool) (fv0 : Nat) (w : World) (R : Ending → World → Prop) : sfind1_T c0 c1 c2 fv0 w R = vcFn Tryd.prog [] [] Tryd.f63 [Value.agg #[Value.string c0, Value.int IntKind.i64 c1, Value.bool c2], Value.pointer (some (Addr.mk fv0 0 none))] w R := by kernel_rfl

set_option maxRecDepth 100000 in
theorem sfind1_vc (c0 : ByteArray) (c1 : Int) (c2 : Bool) (fv0 : Nat) (w : World) (R : Ending → World → Prop) (h : sfind1_T c0 c1 c2 fv0 w R) : Calls Tryd.prog 63 #[Value.agg #[Value.string c0, Value.int IntKind.i64 c1, Value.bool c2], Value.pointer (some (Addr.mk fv0 0 none))] w R :=
  calls_of_vc (args := [Value.agg #[Value.string c0, Value.int IntKind.i64 c1, Value.bool c2], Value.pointer (some (Addr.mk fv0 0 none))]) [] [] Tryd.mixed Tryd.func63 (cast (sfind1_eq _ _ _ _ w R) h)

set_option maxRecDepth 100000 in
def ifcol_T (s_p : Option Addr) (s_n : Nat) (s_c : Nat) (cv1_0 : Nat) (w : World) (R : Ending → World → Prop) : Prop :=
  ∃ (I1 : Int → World → Prop),
 ∃ (M2 : Int → World → Nat),
 I1 0 w ∧
 ∀ (n3 : Int) (w'4 : World),
 I1 n3 w'4 →
 (n3 < (↑s_n : Int) →
 ∃ (b7 : Nat),
 ∃ (o8 : Nat),
 s_p = some (Addr.mk b7 o8 none) ∧
 0 ≤ n3 ∧
 n3 < (↑s_n : Int) ∧
 ∃ (s9 : ByteArray),
 w'4.cell? (Addr.mk b7 (o8 + n3.toNat * 3) none) = some (Value.string s9) ∧
 ∃ (n10 : Int),
 w'4.cell? (Addr.mk b7 (o8 + n3.toNat * 3 + 1) none) = some (Value.int IntKind.i64 n10) ∧
 ∃ (b11 : Bool),
 w'4.cell? (Addr.mk b7 (o8 + n3.toNat * 3 + 2) none) = some (Value.bool b11) ∧
 Calls Tryd.prog 63 #[Value.agg #[Value.string s9, Value.int IntKind.i64 n10, Value.bool b11], Value.pointer (some (Addr.mk cv1_0 0 none))] w'4
 fun (e12 : Ending) (w13 : World) ↦
 ∃ (b14 : Bool),
 e12 = Ending.returned (Value.bool b14) ∧
 (b14 = true → R (Ending.returned (Value.int IntKind.i64 n3)) w13) ∧ (b14 = false → I1 (IntKind.i64.wrap (n3 + 1)) w13 ∧ M2 (IntKind.i64.wrap (n3 + 1)) w13 < M2 n3 w'4)) ∧
 ((↑s_n : Int) ≤ n3 → R (Ending.returned (Value.int IntKind.i64 (-1))) w'4)

set_option maxRecDepth 100000 in
theorem ifcol_eq (s_p : Option Addr) (s_n : Nat) (s_c : Nat) (cv1_0 : Nat) (w : World) (R : Ending → World → Prop) : ifcol_T s_p s_n s_c cv1_0 w R = vcFn Tryd.prog [] [] Tryd.f62 [Value.slice s_p s_n s_c, Value.func (Fn.func 63) #[] #[Value.pointer (some (Addr.mk cv1_0 0 none))]] w R := by kernel_rfl

set_option maxRecDepth 100000 in
theorem ifcol_vc (s_p : Option Addr) (s_n : Nat) (s_c : Nat) (cv1_0 : Nat) (w : World) (R : Ending → World → Prop) (h : ifcol_T s_p s_n s_c cv1_0 w R) : Calls Tryd.prog 62 #[Value.slice s_p s_n s_c, Value.func (Fn.func 63) #[] #[Value.pointer (some (Addr.mk cv1_0 0 none))]] w R :=
  calls_of_vc (args := [Value.slice s_p s_n s_c, Value.func (Fn.func 63) #[] #[Value.pointer (some (Addr.mk cv1_0 0 none))]]) [] [] Tryd.mixed Tryd.func62 (cast (ifcol_eq _ _ _ _ w R) h)

set_option maxRecDepth 100000 in
def r5isname_T (s : ByteArray) (w : World) (R : Ending → World → Prop) : Prop :=
  ∃ (I1 : Int → World → Prop),
 ∃ (M2 : Int → World → Nat),
 I1 0 w ∧
 ∀ (n3 : Int) (w'4 : World),
 I1 n3 w'4 →
 (n3 < (↑s.size : Int) →
 0 ≤ n3 ∧
 n3 < (↑s.size : Int) ∧
 (97 ≤ bAt s n3.toNat →
 0 ≤ n3 ∧
 n3 < (↑s.size : Int) ∧
 0 ≤ n3 ∧
 n3 < (↑s.size : Int) ∧
 (48 ≤ bAt s n3.toNat →
 0 ≤ n3 ∧
 n3 < (↑s.size : Int) ∧
 (bAt s n3.toNat ≤ 57 →
 (122 < bAt s n3.toNat →
 (n3 = 0 → R (Ending.returned (Value.bool false)) w'4) ∧ (n3 ≠ 0 → I1 (IntKind.i64.wrap (n3 + 1)) w'4 ∧ M2 (IntKind.i64.wrap (n3 + 1)) w'4 < M2 n3 w'4)) ∧
 (bAt s n3.toNat ≤ 122 → I1 (IntKind.i64.wrap (n3 + 1)) w'4 ∧ M2 (IntKind.i64.wrap (n3 + 1)) w'4 < M2 n3 w'4)) ∧
 (57 < bAt s n3.toNat →
 0 ≤ n3 ∧
 n3 < (↑s.size : Int) ∧
 (122 < bAt s n3.toNat →
 (bAt s n3.toNat ≠ 95 ∨ n3 = 0 → R (Ending.returned (Value.bool false)) w'4) ∧
 (bAt s n3.toNat = 95 ∧ n3 ≠ 0 → I1 (IntKind.i64.wrap (n3 + 1)) w'4 ∧ M2 (IntKind.i64.wrap (n3 + 1)) w'4 < M2 n3 w'4)) ∧
 (bAt s n3.toNat ≤ 122 → I1 (IntKind.i64.wrap (n3 + 1)) w'4 ∧ M2 (IntKind.i64.wrap (n3 + 1)) w'4 < M2 n3 w'4))) ∧
 (bAt s n3.toNat < 48 →
 0 ≤ n3 ∧
 n3 < (↑s.size : Int) ∧
 (122 < bAt s n3.toNat →
 (bAt s n3.toNat ≠ 95 ∨ n3 = 0 → R (Ending.returned (Value.bool false)) w'4) ∧
 (bAt s n3.toNat = 95 ∧ n3 ≠ 0 → I1 (IntKind.i64.wrap (n3 + 1)) w'4 ∧ M2 (IntKind.i64.wrap (n3 + 1)) w'4 < M2 n3 w'4)) ∧
 (bAt s n3.toNat ≤ 122 → I1 (IntKind.i64.wrap (n3 + 1)) w'4 ∧ M2 (IntKind.i64.wrap (n3 + 1)) w'4 < M2 n3 w'4))) ∧
 (bAt s n3.toNat < 97 →
 0 ≤ n3 ∧
 n3 < (↑s.size : Int) ∧
 (48 ≤ bAt s n3.toNat →
 0 ≤ n3 ∧
 n3 < (↑s.size : Int) ∧
 (bAt s n3.toNat ≤ 57 →
 (n3 = 0 → R (Ending.returned (Value.bool false)) w'4) ∧ (n3 ≠ 0 → I1 (IntKind.i64.wrap (n3 + 1)) w'4 ∧ M2 (IntKind.i64.wrap (n3 + 1)) w'4 < M2 n3 w'4)) ∧
 (57 < bAt s n3.toNat →
 0 ≤ n3 ∧
 n3 < (↑s.size : Int) ∧
 (bAt s n3.toNat ≠ 95 ∨ n3 = 0 → R (Ending.returned (Value.bool false)) w'4) ∧
 (bAt s n3.toNat = 95 ∧ n3 ≠ 0 → I1 (IntKind.i64.wrap (n3 + 1)) w'4 ∧ M2 (IntKind.i64.wrap (n3 + 1)) w'4 < M2 n3 w'4))) ∧
 (bAt s n3.toNat < 48 →
 0 ≤ n3 ∧
 n3 < (↑s.size : Int) ∧
 (bAt s n3.toNat ≠ 95 ∨ n3 = 0 → R (Ending.returned (Value.bool false)) w'4) ∧
 (bAt s n3.toNat = 95 ∧ n3 ≠ 0 → I1 (IntKind.i64.wrap (n3 + 1)) w'4 ∧ M2 (IntKind.i64.wrap (n3 + 1)) w'4 < M2 n3 w'4)))) ∧
 ((↑s.size : Int) ≤ n3 → R (Ending.returned (Value.bool (decide (1 ≤ (↑s.size : Int)) && decide ((↑s.size : Int) ≤ 24)))) w'4)

set_option maxRecDepth 100000 in
theorem r5isname_eq (s : ByteArray) (w : World) (R : Ending → World → Prop) : r5isname_T s w R = vcFn Tryd.prog [] [] Tryd.f46 [Value.string s] w R := by kernel_rfl

set_option maxRecDepth 100000 in
theorem r5isname_vc (s : ByteArray) (w : World) (R : Ending → World → Prop) (h : r5isname_T s w R) : Calls Tryd.prog 46 #[Value.string s] w R :=
  calls_of_vc (args := [Value.string s]) [] [] Tryd.mixed Tryd.func46 (cast (r5isname_eq _ w R) h)

set_option maxRecDepth 100000 in
def r5find_T (cols_p : Option Addr) (cols_n : Nat) (cols_c : Nat) (name : ByteArray) (w : World) (R : Ending → World → Prop) : Prop :=
  ∃ (I1 : Int → World → Prop),
 ∃ (M2 : Int → World → Nat),
 I1 0 w ∧
 ∀ (n3 : Int) (w'4 : World),
 I1 n3 w'4 →
 (n3 < (↑cols_n : Int) →
 ∃ (b7 : Nat),
 ∃ (o8 : Nat),
 cols_p = some (Addr.mk b7 o8 none) ∧
 0 ≤ n3 ∧
 n3 < (↑cols_n : Int) ∧
 ∃ (s9 : ByteArray),
 w'4.cell? (Addr.mk b7 (o8 + n3.toNat * 3) none) = some (Value.string s9) ∧
 (s9 = name → R (Ending.returned (Value.int IntKind.i64 n3)) w'4) ∧ (s9 ≠ name → I1 (IntKind.i64.wrap (n3 + 1)) w'4 ∧ M2 (IntKind.i64.wrap (n3 + 1)) w'4 < M2 n3 w'4)) ∧
 ((↑cols_n : Int) ≤ n3 → R (Ending.returned (Value.int IntKind.i64 (-1))) w'4)

set_option maxRecDepth 100000 in
theorem r5find_eq (cols_p : Option Addr) (cols_n : Nat) (cols_c : Nat) (name : ByteArray) (w : World) (R : Ending → World → Prop) : r5find_T cols_p cols_n cols_c name w R = vcFn Tryd.prog [] [] Tryd.f15 [Value.slice cols_p cols_n cols_c, Value.string name] w R := by kernel_rfl

set_option maxRecDepth 100000 in
theorem r5find_vc (cols_p : Option Addr) (cols_n : Nat) (cols_c : Nat) (name : ByteArray) (w : World) (R : Ending → World → Prop) (h : r5find_T cols_p cols_n cols_c name w R) : Calls Tryd.prog 15 #[Value.slice cols_p cols_n cols_c, Value.string name] w R :=
  calls_of_vc (args := [Value.slice cols_p cols_n cols_c, Value.string name]) [] [] Tryd.mixed Tryd.func15 (cast (r5find_eq _ _ _ _ w R) h)

set_option maxRecDepth 100000 in
def r5right_T (cols_p : Option Addr) (cols_n : Nat) (cols_c : Nat) (w : World) (R : Ending → World → Prop) : Prop :=
  ((↑cols_n : Int) < 1 ∨ 16 < (↑cols_n : Int) → R (Ending.returned (Value.bool false)) w) ∧
 (1 ≤ (↑cols_n : Int) ∧ (↑cols_n : Int) ≤ 16 →
 ∃ (I3 : Int → World → Prop),
 ∃ (M4 : Int → World → Nat),
 I3 0 w ∧
 ∀ (n5 : Int) (w'6 : World),
 I3 n5 w'6 →
 (n5 < (↑cols_n : Int) →
 ∃ (b9 : Nat),
 ∃ (o10 : Nat),
 cols_p = some (Addr.mk b9 o10 none) ∧
 0 ≤ n5 ∧
 n5 < (↑cols_n : Int) ∧
 ∃ (s11 : ByteArray),
 w'6.cell? (Addr.mk b9 (o10 + n5.toNat * 3) none) = some (Value.string s11) ∧
 Calls Tryd.prog 46 #[Value.string s11] w'6 fun (e12 : Ending) (w13 : World) ↦
 ∃ (b14 : Bool),
 e12 = Ending.returned (Value.bool b14) ∧
 (b14 = false → R (Ending.returned (Value.bool false)) w13) ∧
 (b14 = true →
 ∃ (b17 : Nat),
 ∃ (o18 : Nat),
 cols_p = some (Addr.mk b17 o18 none) ∧
 0 ≤ n5 ∧
 n5 < (↑cols_n : Int) ∧
 ∃ (s19 : ByteArray),
 w13.cell? (Addr.mk b17 (o18 + n5.toNat * 3) none) = some (Value.string s19) ∧
 Calls Tryd.prog 15 #[Value.slice cols_p cols_n cols_c, Value.string s19] w13 fun (e20 : Ending) (w21 : World) ↦
 ∃ (n22 : Int),
 e20 = Ending.returned (Value.int IntKind.i64 n22) ∧
 (n22 ≠ n5 → R (Ending.returned (Value.bool false)) w21) ∧
 (n22 = n5 →
 ∃ (b25 : Nat),
 ∃ (o26 : Nat),
 cols_p = some (Addr.mk b25 o26 none) ∧
 0 ≤ n5 ∧
 n5 < (↑cols_n : Int) ∧
 ∃ (n27 : Int),
 w21.cell? (Addr.mk b25 (o26 + n5.toNat * 3 + 1) none) = some (Value.int IntKind.i64 n27) ∧
 (n27 < 1 → R (Ending.returned (Value.bool false)) w21) ∧
 (1 ≤ n27 →
 ∃ (b30 : Nat),
 ∃ (o31 : Nat),
 cols_p = some (Addr.mk b30 o31 none) ∧
 0 ≤ n5 ∧
 n5 < (↑cols_n : Int) ∧
 ∃ (n32 : Int),
 w21.cell? (Addr.mk b30 (o31 + n5.toNat * 3 + 1) none) = some (Value.int IntKind.i64 n32) ∧
 (3 < n32 → R (Ending.returned (Value.bool false)) w21) ∧ (n32 ≤ 3 → I3 (IntKind.i64.wrap (n5 + 1)) w21 ∧ M4 (IntKind.i64.wrap (n5 + 1)) w21 < M4 n5 w'6))))) ∧
 ((↑cols_n : Int) ≤ n5 → R (Ending.returned (Value.bool true)) w'6))

set_option maxRecDepth 100000 in
theorem r5right_eq (cols_p : Option Addr) (cols_n : Nat) (cols_c : Nat) (w : World) (R : Ending → World → Prop) : r5right_T cols_p cols_n cols_c w R = vcFn Tryd.prog [] [] Tryd.f29 [Value.slice cols_p cols_n cols_c] w R := by kernel_rfl

set_option maxRecDepth 100000 in
theorem r5right_vc (cols_p : Option Addr) (cols_n : Nat) (cols_c : Nat) (w : World) (R : Ending → World → Prop) (h : r5right_T cols_p cols_n cols_c w R) : Calls Tryd.prog 29 #[Value.slice cols_p cols_n cols_c] w R :=
  calls_of_vc (args := [Value.slice cols_p cols_n cols_c]) [] [] Tryd.mixed Tryd.func29 (cast (r5right_eq _ _ _ w R) h)

set_option maxRecDepth 100000 in
def r5fits_T (cols_p : Option Addr) (cols_n : Nat) (cols_c : Nat) (row_p : Option Addr) (row_n : Nat) (row_c : Nat) (w : World) (R : Ending → World → Prop) : Prop :=
  Calls Tryd.prog 29 #[Value.slice cols_p cols_n cols_c] w fun (e1 : Ending) (w2 : World) ↦
 ∃ (b3 : Bool),
 e1 = Ending.returned (Value.bool b3) ∧
 (b3 = false ∨ (↑row_n : Int) ≠ (↑cols_n : Int) → R (Ending.returned (Value.bool false)) w2) ∧
 (b3 = true ∧ (↑row_n : Int) = (↑cols_n : Int) →
 ∃ (I6 : Int → World → Prop),
 ∃ (M7 : Int → World → Nat),
 I6 0 w2 ∧
 ∀ (n8 : Int) (w'9 : World),
 I6 n8 w'9 →
 (n8 < (↑row_n : Int) →
 ∃ (b12 : Nat),
 ∃ (o13 : Nat),
 row_p = some (Addr.mk b12 o13 none) ∧
 0 ≤ n8 ∧
 n8 < (↑row_n : Int) ∧
 ∃ (n14 : Int),
 w'9.cell? (Addr.mk b12 (o13 + n8.toNat * 3) none) = some (Value.int IntKind.i64 n14) ∧
 ∃ (n15 : Int),
 w'9.cell? (Addr.mk b12 (o13 + n8.toNat * 3 + 1) none) = some (Value.int IntKind.i64 n15) ∧
 ∃ (s16 : ByteArray),
 w'9.cell? (Addr.mk b12 (o13 + n8.toNat * 3 + 2) none) = some (Value.string s16) ∧
 Calls Tryd.prog 30 #[Value.agg #[Value.int IntKind.i64 n14, Value.int IntKind.i64 n15, Value.string s16]] w'9 fun (e17 : Ending) (w18 : World) ↦
 ∃ (b19 : Bool),
 e17 = Ending.returned (Value.bool b19) ∧
 ∀ (w'20 : World),
 Drew w18 w'20 →
 (b19 = false → R (Ending.returned (Value.bool false)) w'20) ∧
 (b19 = true →
 ∃ (b24 : Nat),
 ∃ (o25 : Nat),
 row_p = some (Addr.mk b24 o25 none) ∧
 0 ≤ n8 ∧
 n8 < (↑row_n : Int) ∧
 ∃ (n26 : Int),
 w'20.cell? (Addr.mk b24 (o25 + n8.toNat * 3) none) = some (Value.int IntKind.i64 n26) ∧
 ∃ (b27 : Nat),
 ∃ (o28 : Nat),
 cols_p = some (Addr.mk b27 o28 none) ∧
 0 ≤ n8 ∧
 n8 < (↑cols_n : Int) ∧
 ∃ (n29 : Int),
 w'20.cell? (Addr.mk b27 (o28 + n8.toNat * 3 + 1) none) = some (Value.int IntKind.i64 n29) ∧
 (n26 ≠ n29 →
 ∃ (b31 : Nat),
 ∃ (o32 : Nat),
 row_p = some (Addr.mk b31 o32 none) ∧
 0 ≤ n8 ∧
 n8 < (↑row_n : Int) ∧
 ∃ (n33 : Int),
 w'20.cell? (Addr.mk b31 (o32 + n8.toNat * 3) none) = some (Value.int IntKind.i64 n33) ∧
 (n33 ≠ 0 → R (Ending.returned (Value.bool false)) w'20) ∧
 (n33 = 0 →
 ∃ (b36 : Nat),
 ∃ (o37 : Nat),
 cols_p = some (Addr.mk b36 o37 none) ∧
 0 ≤ n8 ∧
 n8 < (↑cols_n : Int) ∧
 ∃ (b38 : Bool),
 w'20.cell? (Addr.mk b36 (o37 + n8.toNat * 3 + 2) none) = some (Value.bool b38) ∧
 (b38 = false → R (Ending.returned (Value.bool false)) w'20) ∧ (b38 = true → I6 (IntKind.i64.wrap (n8 + 1)) w'20 ∧ M7 (IntKind.i64.wrap (n8 + 1)) w'20 < M7 n8 w'9))) ∧
 (n26 = n29 → I6 (IntKind.i64.wrap (n8 + 1)) w'20 ∧ M7 (IntKind.i64.wrap (n8 + 1)) w'20 < M7 n8 w'9))) ∧
 ((↑row_n : Int) ≤ n8 → R (Ending.returned (Value.bool true)) w'9))

set_option maxRecDepth 100000 in
theorem r5fits_eq (cols_p : Option Addr) (cols_n : Nat) (cols_c : Nat) (row_p : Option Addr) (row_n : Nat) (row_c : Nat) (w : World) (R : Ending → World → Prop) : r5fits_T cols_p cols_n cols_c row_p row_n row_c w R = vcFn Tryd.prog [] [(8, [2, 4, 6, 8, 10, 12, 14, 16, 18, 20, 22, 24, 26, 28, 30, 32, 34, 36, 38, 40, 42, 44, 46, 48, 50, 52, 54, 56, 58, 60, 62, 0])] Tryd.f13 [Value.slice cols_p cols_n cols_c, Value.slice row_p row_n row_c] w R := by kernel_rfl

set_option maxRecDepth 100000 in
theorem r5fits_vc (cols_p : Option Addr) (cols_n : Nat) (cols_c : Nat) (row_p : Option Addr) (row_n : Nat) (row_c : Nat) (w : World) (R : Ending → World → Prop) (h : r5fits_T cols_p cols_n cols_c row_p row_n row_c w R) : Calls Tryd.prog 13 #[Value.slice cols_p cols_n cols_c, Value.slice row_p row_n row_c] w R :=
  calls_of_vc (args := [Value.slice cols_p cols_n cols_c, Value.slice row_p row_n row_c]) [] [(8, [2, 4, 6, 8, 10, 12, 14, 16, 18, 20, 22, 24, 26, 28, 30, 32, 34, 36, 38, 40, 42, 44, 46, 48, 50, 52, 54, 56, 58, 60, 62, 0])] Tryd.mixed Tryd.func13 (cast (r5fits_eq _ _ _ _ _ _ w R) h)


end Go.Proofs.YtdephmdfdgclpaaDoor

/- Big arrays in memory, told as one. -/
namespace Go.Vc
open Go Go.RowKit

theorem setA_get : ∀ (vs : List Value) (cs : Array Value) (o i : Nat), (setA cs o vs)[i]? = if o ≤ i ∧ i < o + vs.length ∧ i < cs.size then vs[i - o]? else cs[i]?
  | [], cs, o, i => by unfold setA; simp; omega
  | v :: vs, cs, o, i => by
    unfold setA
    rw [setA_get vs, Array.getElem?_setIfInBounds, Array.size_setIfInBounds]
    simp only [List.length_cons]
    by_cases h : o = i
    · subst h
      rw [if_neg (by omega), if_pos rfl]
      split
      · rw [if_pos (by omega)]; simp
      · rw [if_neg (by omega), Array.getElem?_eq_none (by omega)]
    · rw [if_neg h]
      by_cases h2 : o ≤ i ∧ i < o + (vs.length + 1) ∧ i < cs.size
      · rw [if_pos (by omega), if_pos h2, show i - o = (i - (o + 1)) + 1 by omega, List.getElem?_cons_succ]
      · rw [if_neg (by omega), if_neg h2]
theorem setA_size : ∀ (vs : List Value) (cs : Array Value) (o : Nat), (setA cs o vs).size = cs.size
  | [], _, _ => rfl
  | v :: vs, cs, o => by unfold setA; rw [setA_size vs]; simp
/-- All cells are stored anew. -/
theorem setA_all {cs vs : Array Value} (h : vs.size = cs.size) : setA cs 0 vs.toList = vs := by
  apply Array.ext_getElem?
  intro i
  rw [setA_get]
  by_cases hi : i < cs.size
  · rw [if_pos (by simp; omega)]; simp
  · rw [if_neg (by omega), Array.getElem?_eq_none (by omega), Array.getElem?_eq_none (by omega)]
section
variable {w w' w0 W W' : World} {b : Nat} {t : TypeId} {cs vs : Array Value} {fs : List (Nat × Obj)} {ms : List Row}
theorem Blk.cellsAt (h : Blk w b t cs) : CellsAt w b 0 cs := fun k v hk => by rw [Nat.zero_add, h.cell]; exact hk
theorem Blk.canPut (h : Blk w b t cs) (hs : vs.size = cs.size) (h1 : ∀ (k : Nat) v, vs[k]? = some v → v.oneCell' = true) : CanPut w b 0 vs := fun k v hk => by
  have hk' := (Array.getElem?_eq_some_iff.1 hk).1
  exact ⟨h1 k v hk, ⟨cs[k]'(by omega), by rw [Nat.zero_add, h.cell]; exact Array.getElem?_eq_getElem _⟩, h.frozen _⟩
theorem Hold.putAll (h : Hold w0 W fs ms) (i : Nat) (hi : fs[i]? = some (b, .cells cs t (0, 0))) (hs : vs.size = cs.size) (e : Put W b 0 vs.toList W') : Hold w0 W' (fs.set i (b, .cells vs t (0, 0))) ms := by
  have := h.put i hi e
  rwa [setA_all hs] at this
end

theorem anyDrop {α : Type} {f : α → Bool} {l : List α} {k : Nat} {x : α} (h : l[k]? = some x) : (l.drop k).any f = (f x || (l.drop (k + 1)).any f) := by
  obtain ⟨hk, rfl⟩ := List.getElem?_eq_some_iff.1 h
  rw [List.drop_eq_getElem_cons hk]; rfl
theorem allDrop {α : Type} {f : α → Bool} {l : List α} {k : Nat} {x : α} (h : l[k]? = some x) : (l.drop k).all f = (f x && (l.drop (k + 1)).all f) := by
  obtain ⟨hk, rfl⟩ := List.getElem?_eq_some_iff.1 h
  rw [List.drop_eq_getElem_cons hk]; rfl
end Go.Vc

/- The contracts of package schema: names. -/
namespace Go.Proofs.YtdephmdfdgclpaaDoor
open Go Go.Vc Go.RowKit

theorem idxbyte_ok (s : ByteArray) (c : Int) (w : World) : Calls Tryd.prog 60 #[.string s, .int .u8 c] w fun e w' => e = .returned (.int .i64 (Lib.indexByte (tB s) c.toNat.toUInt8)) ∧ w' = w := by
  apply sidxb_vc
  unfold sidxb_T
  apply slidxb_vc
  unfold slidxb_T
  refine ⟨_, _, ?_, _, rfl, rfl, rfl⟩
  rw [run_callFunc_extern Tryd.func106 (by kernel_rfl) (by kernel_rfl) (by kernel_rfl) (e := Extern.BytealgIndexByte.indexByte) (by kernel_rfl), Lib.run_indexByteString]
  rfl

theorem zero_set : zeroA Tryd.prog 112 = Array.replicate 256 (.bool false) := by kernel_rfl
/-- The cells of a set of bytes. -/
def SetC (cs : Array Value) (f : UInt8 → Bool) : Prop := cs.size = 256 ∧ ∀ x : UInt8, cs[x.toNat]? = some (.bool (f x))
theorem SetC.one {cs : Array Value} {f : UInt8 → Bool} (h : SetC cs f) (k : Nat) (v : Value) (hk : cs[k]? = some v) : v.oneCell' = true := by
  have hlt := (Array.getElem?_eq_some_iff.1 hk).1
  have := h.2 (UInt8.ofNat k)
  rw [h.1] at hlt
  rw [UInt8.toNat_ofNat', Nat.mod_eq_of_lt (by omega), hk] at this
  cases this; rfl
theorem bAt_u8 (s : ByteArray) {i : Nat} (h : i < s.size) : ∃ x : UInt8, (tB s)[i]? = some x ∧ bAt s i = (x.toNat : Int) :=
  ⟨(tB s)[i]'(by rw [tB_length]; exact h), List.getElem?_eq_getElem _, bAt_eq s i h⟩

theorem mkascii_ok (s : ByteArray) (w : World) (hs : s.size < 9223372036854775807) (ha : ∀ x ∈ tB s, x.toNat < 128) :
    Calls Tryd.prog 88 #[.string s] w fun e w' => ∃ cs, e = .returned (.tuple #[.agg cs, .bool true]) ∧ SetC cs (fun x => (tB s).contains x) ∧ Ext w w' := by
  apply mkascii_vc
  unfold mkascii_T
  intro b1 w2 h1
  rw [zero_set] at h1
  have H1 := (Hold.start (Ext.rfl (w := w))).new h1
  refine ⟨fun i w' => ∃ (k : Nat) (cs : Array Value), i = (k : Int) ∧ k ≤ s.size ∧ SetC cs (fun x => ((tB s).take k).contains x) ∧ Hold w w' [(b1, .cells cs 112 (0, 0))] [], fun i _ => s.size - i.toNat, ⟨0, _, rfl, Nat.zero_le _, ⟨by simp, fun x => ?_⟩, H1⟩, ?_⟩
  · have := x.toNat_lt
    rw [Array.getElem?_eq_getElem (by simp; omega)]; simp
  rintro i w7 ⟨k, cs, rfl, hk, hc, H⟩
  have B := H.blk 0 rfl
  simp only [Int.toNat_natCast, Nat.zero_add]
  refine ⟨fun hlt => ?_, fun hge => ?_⟩
  · obtain ⟨x, hx, hb⟩ := bAt_u8 s (i := k) (by omega)
    have hx8 := ha x (List.mem_of_getElem? hx)
    rw [hb]
    refine ⟨by omega, by omega, fun h => by omega, fun _ => ⟨by omega, by omega, ⟨_, by rw [Int.toNat_natCast, B.cell]; exact hc.2 x⟩, B.frozen _, fun w17 h17 => ?_⟩⟩
    rw [Int.toNat_natCast] at h17
    have H17 := H.put 0 rfl h17
    rw [i64_next (by omega)]
    refine ⟨⟨k + 1, _, rfl, by omega, ⟨by rw [setA_size]; exact hc.1, fun y => ?_⟩, H17⟩, by simp only [Int.toNat_natCast]; omega⟩
    have htk : (tB s).take (k + 1) = (tB s).take k ++ [x] := by
      rw [List.take_add_one, hx]; rfl
    show _ = some (Value.bool (((tB s).take (k + 1)).contains y))
    rw [setA_get, hc.1, htk]
    have hy := y.toNat_lt
    by_cases hxy : x = y
    · subst hxy
      rw [if_pos (by simp; omega)]
      simp
    · have hn : x.toNat ≠ y.toNat := fun e => hxy (UInt8.toNat_inj.1 e)
      rw [if_neg (by simp; omega), hc.2 y]
      simp [Ne.symm hxy]
  · refine ⟨cs, hc.1, B.cellsAt, hc.1, B.canPut rfl hc.one, fun w21 h21 => ?_⟩
    have H21 := H.putAll 0 rfl rfl h21
    have B21 : Blk w21 b1 112 cs := H21.blk 0 rfl
    refine ⟨cs, hc.1, B21.cellsAt, cs, rfl, ?_, H21.ext⟩
    have : (tB s).take k = tB s := List.take_of_length_le (by rw [tB_length]; omega)
    rw [this] at hc
    exact hc

section
variable {w : World} {b : Nat} {cs : Array Value} {f : UInt8 → Bool}
theorem ascont_ok (h : Blk w b 112 cs) (hc : SetC cs f) (x : UInt8) : Calls Tryd.prog 107 #[.pointer (some ⟨b, 0, none⟩), .int .u8 (x.toNat : Int)] w fun e w' => e = .returned (.bool (f x)) ∧ Ext w w' := by
  apply ascont_vc
  unfold ascont_T
  have hx := x.toNat_lt
  exact ⟨b, 0, rfl, by omega, by omega, _, by rw [Int.toNat_natCast, Nat.zero_add, h.cell]; exact hc.2 x, rfl, .rfl⟩
theorem trimra_ok (s : ByteArray) (hs : s.size ≤ 9223372036854775807) (h : Blk w b 112 cs) (hc : SetC cs f) :
    Calls Tryd.prog 90 #[.string s, .pointer (some ⟨b, 0, none⟩)] w fun e w' => ∃ r, e = .returned (.string r) ∧ r.size ≤ s.size ∧ (tB r).all f = (tB s).all f ∧ Ext w w' := by
  apply trimra_vc
  unfold trimra_T
  refine ⟨fun r w' => r.size ≤ s.size ∧ (tB r).all f = (tB s).all f ∧ Ext w w', fun r _ => r.size, ⟨Nat.le_refl _, rfl, .rfl⟩, ?_⟩
  rintro r w4 ⟨hr, ha, hx⟩
  refine ⟨fun h0 => ?_, fun _ => ⟨r, rfl, hr, ha, hx⟩⟩
  rw [i64_fit (by omega) (by omega)]
  have e1 : ((r.size : Int) - 1) = ((r.size - 1 : Nat) : Int) := by omega
  rw [e1]
  simp only [Int.toNat_natCast]
  obtain ⟨x, hx', hb⟩ := bAt_u8 r (i := r.size - 1) (by omega)
  rw [hb]
  refine ⟨by omega, by omega, (ascont_ok (h.ext hx) hc x).mono ?_⟩
  rintro e w8 ⟨rfl, e8⟩
  have hx8 := hx.trans e8
  refine ⟨_, rfl, fun _ => ⟨r, rfl, hr, ha, hx8⟩, fun hf => ⟨by omega, by omega, ⟨?_, ?_, hx8⟩, ?_⟩⟩
  · rw [← tB_length, tB_extract]; simp; omega
  · rw [tB_extract, List.drop_zero, ← ha]
    have : tB r = (tB r).take (r.size - 1) ++ [x] := by
      have := List.take_add_one (l := tB r) (i := r.size - 1)
      rw [hx', List.take_of_length_le (by rw [tB_length]; omega)] at this
      exact this
    conv => rhs; rw [this, List.all_append]
    simp [hf]
  · rw [← tB_length, tB_extract]; simp [tB_length]; omega
theorem trimla_ok (s : ByteArray) (hs : s.size ≤ 9223372036854775807) (h : Blk w b 112 cs) (hc : SetC cs f) :
    Calls Tryd.prog 89 #[.string s, .pointer (some ⟨b, 0, none⟩)] w fun e w' => ∃ r, e = .returned (.string r) ∧ (tB r = [] ↔ (tB s).all f = true) ∧ Ext w w' := by
  apply trimla_vc
  unfold trimla_T
  refine ⟨fun r w' => (tB r).all f = (tB s).all f ∧ Ext w w', fun r _ => r.size, ⟨rfl, .rfl⟩, ?_⟩
  rintro r w4 ⟨ha, hx⟩
  refine ⟨fun h0 => ?_, fun h0 => ⟨r, rfl, ?_, hx⟩⟩
  · obtain ⟨x, hx', hb⟩ := bAt_u8 r (i := 0) (by omega)
    rw [hb]
    refine ⟨by omega, by omega, (ascont_ok (h.ext hx) hc x).mono ?_⟩
    rintro e w8 ⟨rfl, e8⟩
    have hx8 := hx.trans e8
    cases hr : tB r with
    | nil => rw [hr] at hx'; simp at hx'
    | cons y l =>
      rw [hr] at hx'
      cases hx'
      refine ⟨_, rfl, fun hf => ⟨r, rfl, ?_, hx8⟩, fun hf => ⟨by omega, by omega, ⟨?_, hx8⟩, ?_⟩⟩
      · rw [hr, ← ha, hr]; simp [hf]
      · rw [tB_extract, List.take_of_length_le (by rw [tB_length]; omega), ← ha, hr]; simp [hf]
      · show (r.extract 1 r.size).size < r.size
        rw [← tB_length, tB_extract]; simp [tB_length]; omega
  · have : tB r = [] := List.length_eq_zero_iff.1 (by rw [tB_length]; omega)
    rw [← ha, this]; simp
end

theorem ba_nil {s : ByteArray} : s = ⟨#[]⟩ ↔ tB s = [] := by rw [← tB_inj]; rfl
theorem trim_ok (s : ByteArray) (hs : s.size ≤ 9223372036854775807) {c : ByteArray} (hc : 2 ≤ c.size) (hc' : c.size < 9223372036854775807) (ha : ∀ x ∈ tB c, x.toNat < 128) (w : World) :
    Calls Tryd.prog 61 #[.string s, .string c] w fun e w' => ∃ r, e = .returned (.string r) ∧ (r = ⟨#[]⟩ ↔ (tB s).all (fun x => (tB c).contains x) = true) ∧ Ext w w' := by
  apply strim_vc
  unfold strim_T
  refine ⟨fun h => ?_, fun _ => ⟨fun h => by omega, fun _ => (mkascii_ok c w hc' ha).mono ?_⟩⟩
  · rcases h with h | h
    · exact ⟨s, rfl, by rw [h]; simp [tB], .rfl⟩
    · rw [h] at hc; cases hc
  · rintro e w39 ⟨cs, rfl, hs', e39⟩
    refine ⟨cs, hs'.1, true, rfl, fun b42 w43 h43 => ?_⟩
    rw [zero_set] at h43
    have H43 := (Hold.start e39).new h43
    have B43 := H43.blk 0 rfl
    refine ⟨hs'.1, B43.canPut (by rw [hs'.1]; simp) hs'.one, fun w45 h45 => ⟨fun _ => ?_, fun h => by cases h⟩⟩
    have H45 := H43.putAll 0 rfl (by rw [hs'.1]; simp) h45
    have B45 : Blk w45 b42 112 cs := H45.blk 0 rfl
    refine (trimra_ok s hs B45 hs').mono ?_
    rintro e w49 ⟨r, rfl, hrs, hr, e49⟩
    refine ⟨r, rfl, (trimla_ok r (by omega) (B45.ext e49) hs').mono ?_⟩
    rintro e w52 ⟨q, rfl, hq, e52⟩
    exact ⟨q, rfl, q, rfl, by rw [ba_nil, hq, hr], (H45.step (e49.trans e52)).ext⟩

def letC : ByteArray := ⟨#[97, 98, 99, 100, 101, 102, 103, 104, 105, 106, 107, 108, 109, 110, 111, 112, 113, 114, 115, 116, 117, 118, 119, 120, 121, 122]⟩
def othC : ByteArray := ⟨#[97, 98, 99, 100, 101, 102, 103, 104, 105, 106, 107, 108, 109, 110, 111, 112, 113, 114, 115, 116, 117, 118, 119, 120, 121, 122, 48, 49, 50, 51, 52, 53, 54, 55, 56, 57, 95]⟩
theorem let_all : ∀ i : Fin 256, decide (0 ≤ Lib.indexByte (tB letC) (UInt8.ofNat i.1)) = letterB (UInt8.ofNat i.1) := by decide +kernel
theorem oth_all : ∀ i : Fin 256, (tB othC).contains (UInt8.ofNat i.1) = otherB (UInt8.ofNat i.1) := by decide +kernel
theorem let_eq (x : UInt8) : 0 ≤ Lib.indexByte (tB letC) x ↔ letterB x = true := by
  have := let_all ⟨x.toNat, x.toNat_lt⟩
  rw [UInt8.ofNat_toNat] at this
  rw [← this, decide_eq_true_eq]
theorem oth_eq (x : UInt8) : (tB othC).contains x = otherB x := by
  have := oth_all ⟨x.toNat, x.toNat_lt⟩
  rwa [UInt8.ofNat_toNat] at this
theorem oth_ascii : ∀ x ∈ tB othC, x.toNat < 128 := by decide +kernel

theorem sisname_ok (s : ByteArray) (w : World) : Calls Tryd.prog 42 #[.string s] w fun e w' => e = .returned (.bool (isName s)) ∧ Ext w w' := by
  apply sisname_vc
  unfold sisname_T
  refine ⟨fun ⟨hne, hle⟩ => ?_, fun h => ⟨?_, .rfl⟩⟩
  · have h0 : 0 < s.size := by
      rcases Nat.eq_zero_or_pos s.size with h | h
      · exact absurd (ba_nil.2 (List.length_eq_zero_iff.1 (by rw [tB_length]; exact h))) hne
      · exact h
    obtain ⟨x, hx, hb⟩ := bAt_u8 s h0
    refine ⟨by omega, by omega, ?_⟩
    rw [hb]
    refine (idxbyte_ok letC (x.toNat : Int) w).mono ?_
    rintro e w3 ⟨rfl, rfl⟩
    have hxx : ((x.toNat : Int)).toNat.toUInt8 = x := by simp
    rw [hxx]
    cases hl : tB s with
    | nil => rw [hl] at hx; simp at hx
    | cons y l =>
      rw [hl] at hx
      cases hx
      have hlen : l.length + 1 ≤ 24 := by have := tB_length s; rw [hl] at this; simp at this; omega
      refine ⟨_, rfl, fun hge => ?_, fun hlt => ⟨?_, .rfl⟩⟩
      · refine (trim_ok s (by omega) (c := othC) (by decide) (by decide) oth_ascii _).mono ?_
        rintro e w7 ⟨r, rfl, hr, e7⟩
        refine ⟨r, rfl, ?_, e7⟩
        have : sEq r ⟨#[]⟩ = isName s := by
          rw [Bool.eq_iff_iff, sEq_iff, hr, hl]
          unfold isName isNameL
          rw [hl]
          have hx1 := (let_eq x).1 hge
          have hx2 : otherB x = true := by unfold otherB; rw [hx1]; rfl
          simp only [List.all_cons, oth_eq, hx1, hx2, Bool.true_and, List.length_cons, Bool.and_eq_true, decide_eq_true_eq]
          exact ⟨fun h => ⟨h, hlen⟩, fun h => h.1⟩
        rw [this]
      · have : isName s = false := by
          unfold isName isNameL
          rw [hl]
          have : letterB x = false := by
            rw [← Bool.not_eq_true, ← let_eq]; omega
          simp [this]
        rw [this]
  · have : isName s = false := by
      unfold isName isNameL
      rcases h with h | h
      · rw [h]; rfl
      · cases hl : tB s with
        | nil => rfl
        | cons y l =>
          have := tB_length s
          rw [hl] at this
          have hb : ¬ ((y :: l).length ≤ 24) := by omega
          simp only [hb, decide_false, Bool.and_false]
    rw [this]
end Go.Proofs.YtdephmdfdgclpaaDoor

/- The contracts of package schema: schemas, and columns by name; the document's answer for them. -/
namespace Go.Proofs.YtdephmdfdgclpaaDoor
open Go Go.Vc Go.RowKit

/-- What is asked of byte k of a name. -/
def nameB (k : Nat) (x : UInt8) : Bool := if k = 0 then letterB x else otherB x
theorem nameB_iff {k : Nat} {x : UInt8} : nameB k x = true ↔ (97 ≤ x.toNat ∧ x.toNat ≤ 122) ∨ (k ≠ 0 ∧ ((48 ≤ x.toNat ∧ x.toNat ≤ 57) ∨ x.toNat = 95)) := by
  unfold nameB otherB letterB
  split
  · simp only [decide_eq_true_eq]; omega
  · simp only [Bool.or_eq_true, decide_eq_true_eq]; omega
theorem isName_iff (s : ByteArray) : isName s = true ↔ 1 ≤ s.size ∧ s.size ≤ 24 ∧ ∀ (j : Nat) x, (tB s)[j]? = some x → nameB j x = true := by
  have hlen := tB_length s
  unfold isName
  cases hl : tB s with
  | nil => rw [hl] at hlen; simp at hlen; simp [isNameL]; omega
  | cons y l =>
    rw [hl] at hlen
    simp only [List.length_cons] at hlen
    unfold isNameL
    simp only [List.length_cons, Bool.and_eq_true, decide_eq_true_eq, List.all_eq_true]
    constructor
    · rintro ⟨⟨h1, h2⟩, h3⟩
      refine ⟨by omega, by omega, fun j x hj => ?_⟩
      cases j with
      | zero => cases hj; simpa [nameB] using h1
      | succ j => have := h2 x (List.mem_of_getElem? (show l[j]? = some x by simpa using hj)); simpa [nameB] using this
    · rintro ⟨h1, h2, h3⟩
      refine ⟨⟨by simpa [nameB] using h3 0 y rfl, fun z hz => ?_⟩, by omega⟩
      obtain ⟨j, hj⟩ := List.mem_iff_getElem?.1 hz
      simpa [nameB] using h3 (j + 1) z (by simpa using hj)

section
variable {w : World} {p rp : Option Addr} {n c rn rc : Nat} {cols : List Col} {row : List Val}

theorem r5isname_ok (s : ByteArray) (hs : s.size ≤ 9223372036854775807) (w : World) : Calls Tryd.prog 46 #[.string s] w fun e w' => e = .returned (.bool (isName s)) ∧ Ext w w' := by
  apply r5isname_vc
  unfold r5isname_T
  refine ⟨fun i w' => ∃ k : Nat, i = (k : Int) ∧ k ≤ s.size ∧ (∀ (j : Nat) x, j < k → (tB s)[j]? = some x → nameB j x = true) ∧ Ext w w', fun i _ => s.size - i.toNat, ⟨0, rfl, Nat.zero_le _, fun j x h => by omega, .rfl⟩, ?_⟩
  rintro i w4 ⟨k, rfl, hk, hg, hx⟩
  refine ⟨fun hlt => ?_, fun hge => ⟨?_, hx⟩⟩
  · obtain ⟨x, hx', hb⟩ := bAt_u8 s (i := k) (by omega)
    simp only [Int.toNat_natCast]
    rw [hb]
    have bad : ¬ ((97 ≤ x.toNat ∧ x.toNat ≤ 122) ∨ (k ≠ 0 ∧ ((48 ≤ x.toNat ∧ x.toNat ≤ 57) ∨ x.toNat = 95))) → Ending.returned (Value.bool false) = Ending.returned (Value.bool (isName s)) ∧ Ext w w4 := by
      intro h
      refine ⟨?_, hx⟩
      have : isName s = false := by
        rw [← Bool.not_eq_true, isName_iff]
        rintro ⟨_, _, h3⟩
        exact h (nameB_iff.1 (h3 k x hx'))
      rw [this]
    have good : ((97 ≤ x.toNat ∧ x.toNat ≤ 122) ∨ (k ≠ 0 ∧ ((48 ≤ x.toNat ∧ x.toNat ≤ 57) ∨ x.toNat = 95))) → (∃ k' : Nat, IntKind.i64.wrap ((k : Int) + 1) = (k' : Int) ∧ k' ≤ s.size ∧ (∀ (j : Nat) x, j < k' → (tB s)[j]? = some x → nameB j x = true) ∧ Ext w w4) ∧
        s.size - (IntKind.i64.wrap ((k : Int) + 1)).toNat < s.size - k := by
      intro h
      rw [i64_next (by omega)]
      refine ⟨⟨k + 1, rfl, by omega, fun j y hj hy => ?_, hx⟩, by simp only [Int.toNat_natCast]; omega⟩
      by_cases hjk : j = k
      · subst hjk
        rw [hx'] at hy
        cases hy
        exact nameB_iff.2 h
      · exact hg j y (by omega) hy
    clear hg
    repeat' first
      | exact good (by omega)
      | exact bad (by omega)
      | omega
      | intro _
      | refine And.intro ?_ ?_
  · have hk' : k = s.size := by omega
    have : (decide ((1 : Int) ≤ (s.size : Int)) && decide ((s.size : Int) ≤ 24)) = isName s := by
      rw [Bool.eq_iff_iff, isName_iff, Bool.and_eq_true, decide_eq_true_eq, decide_eq_true_eq]
      refine ⟨fun h => ⟨by omega, by omega, fun j x hj => hg j x ?_ hj⟩, fun h => by omega⟩
      have := (List.getElem?_eq_some_iff.1 hj).1
      rw [tB_length] at this
      omega
    rw [this]

/-! ### Find -/
theorem sfind1_ok (x : Col) {fv : Nat} {name : ByteArray} (h : w.cell? ⟨fv, 0, none⟩ = some (.string name)) :
    Calls Tryd.prog 63 #[.agg #[.string x.name, .int .i64 x.kind, .bool x.null], .pointer (some ⟨fv, 0, none⟩)] w fun e w' => e = .returned (.bool (decide (x.name = name))) ∧ Ext w w' := by
  apply sfind1_vc
  unfold sfind1_T
  intro b1 w2 h1
  refine ⟨_, by rw [(Blk.new h1).cell]; rfl, _, cell_ext h h1.ext, ?_, h1.ext⟩
  have : sEq x.name name = decide (x.name = name) := by rw [Bool.eq_iff_iff, sEq_iff, decide_eq_true_eq]
  rw [this]
theorem findC_drop {l : List Col} {s : ByteArray} {k : Nat} {x : Col} (hx : l[k]? = some x) (hn : x.name = s) (hb : ∀ (j : Nat) y, j < k → l[j]? = some y → y.name ≠ s) : findC l s = (k : Int) := findC_at hx hn hb
theorem ifcol_ok (h : Cols w p n c cols) {fv : Nat} {name : ByteArray} (hf : w.cell? ⟨fv, 0, none⟩ = some (.string name)) :
    Calls Tryd.prog 62 #[.slice p n c, .func (.func 63) #[] #[.pointer (some ⟨fv, 0, none⟩)]] w fun e w' => e = .returned (.int .i64 (findC cols name)) ∧ Ext w w' := by
  apply ifcol_vc
  unfold ifcol_T
  have hl := h.len
  have hm : n ≤ 9223372036854775807 := h.le
  refine ⟨fun i w' => ∃ k : Nat, i = (k : Int) ∧ k ≤ n ∧ (∀ (j : Nat) y, j < k → cols[j]? = some y → y.name ≠ name) ∧ Ext w w', fun i _ => n - i.toNat, ⟨0, rfl, Nat.zero_le _, fun j y hj => by omega, .rfl⟩, ?_⟩
  rintro i w4 ⟨k, rfl, hk, hb, hx⟩
  refine ⟨fun hlt => ?_, fun hge => ⟨?_, hx⟩⟩
  · have g : cols[k]? = some (cols[k]'(by omega)) := List.getElem?_eq_getElem _
    generalize cols[k]'(by omega) = x at g
    obtain ⟨b, o, hp, c0, c1, c2⟩ := (h.ext hx).col g
    simp only [Int.toNat_natCast]
    refine ⟨b, o, hp, by omega, by omega, _, c0, _, c1, _, c2, (sfind1_ok x (cell_ext hf hx)).mono ?_⟩
    rintro e w13 ⟨rfl, e13⟩
    refine ⟨_, rfl, fun hd => ⟨?_, hx.trans e13⟩, fun hd => ?_⟩
    · rw [findC_at g (of_decide_eq_true hd) hb]
    · rw [i64_next (by omega)]
      refine ⟨⟨k + 1, rfl, by omega, fun j y hj hy => ?_, hx.trans e13⟩, by simp only [Int.toNat_natCast]; omega⟩
      by_cases hjk : j = k
      · subst hjk; rw [g] at hy; cases hy; exact of_decide_eq_false hd
      · exact hb j y (by omega) hy
  · rw [findC_none fun x hx => ?_]
    obtain ⟨j, hj⟩ := List.mem_iff_getElem?.1 hx
    exact hb j x (by have := (List.getElem?_eq_some_iff.1 hj).1; omega) hj
theorem sfind_ok (h : Cols w p n c cols) (name : ByteArray) : Calls Tryd.prog 45 #[.slice p n c, .string name] w fun e w' => e = .returned (.int .i64 (findC cols name)) ∧ Ext w w' := by
  apply sfind_vc
  unfold sfind_T
  intro b1 w2 h1
  refine (ifcol_ok (h.ext h1.ext) (Blk.new h1).one).mono ?_
  rintro e w5 ⟨rfl, e5⟩
  exact ⟨_, rfl, rfl, h1.ext.trans e5⟩
theorem r5find_ok (h : Cols w p n c cols) (name : ByteArray) : Calls Tryd.prog 15 #[.slice p n c, .string name] w fun e w' => e = .returned (.int .i64 (findC cols name)) ∧ Ext w w' := by
  apply r5find_vc
  unfold r5find_T
  have hl := h.len
  have hm : n ≤ 9223372036854775807 := h.le
  refine ⟨fun i w' => ∃ k : Nat, i = (k : Int) ∧ k ≤ n ∧ (∀ (j : Nat) y, j < k → cols[j]? = some y → y.name ≠ name) ∧ Ext w w', fun i _ => n - i.toNat, ⟨0, rfl, Nat.zero_le _, fun j y hj => by omega, .rfl⟩, ?_⟩
  rintro i w4 ⟨k, rfl, hk, hb, hx⟩
  refine ⟨fun hlt => ?_, fun hge => ⟨?_, hx⟩⟩
  · have g : cols[k]? = some (cols[k]'(by omega)) := List.getElem?_eq_getElem _
    generalize cols[k]'(by omega) = x at g
    obtain ⟨b, o, hp, c0, c1, c2⟩ := (h.ext hx).col g
    simp only [Int.toNat_natCast]
    refine ⟨b, o, hp, by omega, by omega, _, c0, fun hd => ⟨?_, hx⟩, fun hd => ?_⟩
    · rw [findC_at g hd hb]
    · rw [i64_next (by omega)]
      refine ⟨⟨k + 1, rfl, by omega, fun j y hj hy => ?_, hx⟩, by simp only [Int.toNat_natCast]; omega⟩
      by_cases hjk : j = k
      · subst hjk; rw [g] at hy; cases hy; exact hd
      · exact hb j y (by omega) hy
  · rw [findC_none fun x hx => ?_]
    obtain ⟨j, hj⟩ := List.mem_iff_getElem?.1 hx
    exact hb j x (by have := (List.getElem?_eq_some_iff.1 hj).1; omega) hj

/-! ### Right -/
/-- The map of names that were met. -/
def metL (l : List Col) : List (ByteArray × Value) := l.foldl (fun m x => setS m x.name (.bool true)) []
theorem metL_snoc (l : List Col) (x : Col) : metL (l ++ [x]) = setS (metL l) x.name (.bool true) := by simp [metL]
theorem metL_look (l : List Col) (s : ByteArray) : (lookS (metL l) s).getD (.bool false) = .bool ((l.map Col.name).contains s) := by
  have key : ∀ (l : List Col) (m : List (ByteArray × Value)), lookS (l.foldl (fun m x => setS m x.name (.bool true)) m) s = if (l.map Col.name).contains s then some (.bool true) else lookS m s := by
    intro l
    induction l with
    | nil => intro m; simp
    | cons x l ih =>
      intro m
      rw [List.foldl_cons, ih, lookS_setS, List.map_cons]
      by_cases hx : x.name = s
      · subst hx; simp
      · simp [hx, Ne.symm hx]
  unfold metL
  rw [key]
  cases (l.map Col.name).contains s <;> rfl
theorem sright_ok (h : Cols w p n c cols) : Calls Tryd.prog 26 #[.slice p n c] w fun e w' => e = .returned (.bool (rightC cols)) ∧ Ext w w' := by
  apply sright_vc
  unfold sright_T
  intro b1 w2 h1
  have hl := h.len
  have hm : n ≤ 9223372036854775807 := h.le
  have H1 := (Hold.start (Ext.rfl (w := w))).new h1
  refine ⟨fun i w' => ∃ (k : Nat) (es : Array MapEntry) (clock : Nat), i = (k : Int) ∧ k ≤ n ∧ colsOk [] (cols.take k) = true ∧ MapL es (metL (cols.take k)) ∧ Hold w w' [(b1, .map es clock)] [], fun i _ => n - i.toNat, ⟨0, _, _, rfl, Nat.zero_le _, by simp [colsOk], by simp [metL, MapL], H1⟩, ?_⟩
  rintro i w7 ⟨k, es, clock, rfl, hk, hok, hmap, H⟩
  refine ⟨fun hlt => ?_, fun hge => ⟨?_, H.ext⟩⟩
  · have g : cols[k]? = some (cols[k]'(by omega)) := List.getElem?_eq_getElem _
    generalize cols[k]'(by omega) = x at g
    obtain ⟨b, o, hp, c0, c1, c2⟩ := (h.ext H.ext).col g
    have hdec : colOk ((cols.take k).map Col.name) x = false → rightC cols = false := by
      intro hv
      unfold rightC
      have hc : cols = cols.take k ++ x :: cols.drop (k + 1) := by
        obtain ⟨hk', rfl⟩ := List.getElem?_eq_some_iff.1 g
        rw [← List.drop_eq_getElem_cons hk', List.take_append_drop]
      have : colsOk [] cols = false := by
        conv => lhs; rw [hc, colsOk_append]
        rw [hok, List.nil_append]
        unfold colsOk
        rw [hv]; rfl
      rw [this, Bool.and_false]
    simp only [Int.toNat_natCast]
    refine ⟨b, o, hp, by omega, by omega, _, c0, _, c1, _, c2, fun b15 w16 h16 => ?_⟩
    have H16 := H.new h16
    obtain ⟨q0, q1, q2⟩ := (H16.blk 0 rfl).c3
    refine ⟨⟨_, q0⟩, (H16.blk 0 rfl).frozen _, ⟨_, q1⟩, (H16.blk 0 rfl).frozen _, ⟨_, q2⟩, (H16.blk 0 rfl).frozen _, fun w21 h21 => ?_⟩
    have H21 := H16.put 0 rfl h21
    have B : Blk w21 b15 50 #[.string x.name, .int .i64 x.kind, .bool x.null] := H21.blk 0 rfl
    obtain ⟨q0, q1, q2⟩ := B.c3
    refine ⟨_, q0, (sisname_ok x.name w21).mono ?_⟩
    rintro e w25 ⟨rfl, e25⟩
    have H25 := H21.step e25
    have B25 := B.ext e25
    obtain ⟨q0, q1, q2⟩ := B25.c3
    have hM : w25.heap[b1]? = some (.map es clock) := H25.holds 1 _ rfl
    refine ⟨_, rfl, fun hn => ⟨?_, H25.ext⟩, fun hn => ⟨_, q0, ((cols.take k).map Col.name).contains x.name, fun w1 hs => ?_, fun hin => ⟨?_, H25.ext⟩, fun hin => ⟨_, q1, fun hlow => ⟨?_, H25.ext⟩, fun hge => ⟨_, q1, fun hhi => ⟨?_, H25.ext⟩, fun hle => ⟨_, q0, ?_⟩⟩⟩⟩⟩
    · rw [hdec (by unfold colOk; rw [hn]; rfl)]
    · rw [← metL_look]
      exact map_look (kt := 9) (e := 4) (by kernel_rfl) (by kernel_rfl) (run_zeroOf (by kernel_rfl) w1) ((hs b1 (H25.lt 1 rfl)).trans hM) hmap
    · rw [hdec (by unfold colOk; rw [hn, hin]; rfl)]
    · rw [hdec (by unfold colOk; rw [hn, hin, decide_eq_false (by omega)]; rfl)]
    · rw [hdec (by unfold colOk; rw [hn, hin, decide_eq_false (by omega)]; rfl)]
    · obtain ⟨w42, es', clock', hrun, hobj, hmap', hbut, hsz⟩ := map_set (P := Tryd.prog) (t := 61) (kt := 9) (e := 4) (s := x.name) (by kernel_rfl) (by kernel_rfl) hM hmap (.bool true)
      refine ⟨w42, hrun, ?_⟩
      rw [i64_next (by omega)]
      have htk : cols.take (k + 1) = cols.take k ++ [x] := by rw [List.take_add_one, g]; rfl
      refine ⟨⟨k + 1, es', clock', rfl, by omega, ?_, ?_, (H25.upd 1 rfl hbut hobj).tail⟩, by simp only [Int.toNat_natCast]; omega⟩
      · rw [htk, colsOk_append, hok, List.nil_append]
        unfold colsOk colOk
        rw [hn, hin, decide_eq_true (by omega)]; rfl
      · rw [htk, metL_snoc]; exact hmap'
  · have hk' : k = n := by omega
    subst hk'
    rw [List.take_of_length_le (by omega)] at hok
    have : (decide ((0 : Int) < (k : Int)) && decide ((k : Int) ≤ 16)) = rightC cols := by
      unfold rightC
      rw [hok, Bool.and_true, Bool.eq_iff_iff, Bool.and_eq_true, decide_eq_true_eq, decide_eq_true_eq, decide_eq_true_eq]
      omega
    rw [this]
end
end Go.Proofs.YtdephmdfdgclpaaDoor

/- The contracts of package schema: rows that fit; the document's answer for them. -/
namespace Go.Proofs.YtdephmdfdgclpaaDoor
open Go Go.Vc Go.RowKit

section
variable {w : World} {p rp : Option Addr} {n c rn rc : Nat} {cols : List Col} {row : List Val}

theorem r5right_ok (h : Cols w p n c cols) (hs : ∀ x ∈ cols, x.name.size ≤ 9223372036854775807) : Calls Tryd.prog 29 #[.slice p n c] w fun e w' => e = .returned (.bool (rightC cols)) ∧ Ext w w' := by
  apply r5right_vc
  unfold r5right_T
  have hl := h.len
  have hm : n ≤ 9223372036854775807 := h.le
  refine ⟨fun hb => ⟨?_, .rfl⟩, fun hg => ?_⟩
  · have : rightC cols = false := by
      unfold rightC
      rw [decide_eq_false (by omega)]; rfl
    rw [this]
  refine ⟨fun i w' => ∃ k : Nat, i = (k : Int) ∧ k ≤ n ∧ colsOk [] (cols.take k) = true ∧ Ext w w', fun i _ => n - i.toNat, ⟨0, rfl, Nat.zero_le _, by simp [colsOk], .rfl⟩, ?_⟩
  rintro i w6 ⟨k, rfl, hk, hok, hx⟩
  refine ⟨fun hlt => ?_, fun hge => ⟨?_, hx⟩⟩
  · have g : cols[k]? = some (cols[k]'(by omega)) := List.getElem?_eq_getElem _
    generalize cols[k]'(by omega) = x at g
    obtain ⟨b, o, hp, c0, c1, c2⟩ := (h.ext hx).col g
    have hdec : colRef cols k x = false → rightC cols = false := by
      intro hv
      rw [colRef_eq g] at hv
      unfold rightC
      have hc : cols = cols.take k ++ x :: cols.drop (k + 1) := by
        obtain ⟨hk', rfl⟩ := List.getElem?_eq_some_iff.1 g
        rw [← List.drop_eq_getElem_cons hk', List.take_append_drop]
      have : colsOk [] cols = false := by
        conv => lhs; rw [hc, colsOk_append]
        rw [hok, List.nil_append]
        unfold colsOk
        rw [hv]; rfl
      rw [this, Bool.and_false]
    simp only [Int.toNat_natCast]
    refine ⟨b, o, hp, by omega, by omega, _, c0, (r5isname_ok x.name (hs x (List.mem_of_getElem? g)) w6).mono ?_⟩
    rintro e w13 ⟨rfl, e13⟩
    have hx13 := hx.trans e13
    refine ⟨_, rfl, fun hn => ⟨by rw [hdec (by unfold colRef; rw [hn]; rfl)], hx13⟩, fun hn => ?_⟩
    refine ⟨b, o, hp, by omega, by omega, _, cell_ext c0 e13, (r5find_ok (h.ext hx13) x.name).mono ?_⟩
    rintro e w21 ⟨rfl, e21⟩
    have hx21 := hx13.trans e21
    refine ⟨_, rfl, fun hne => ⟨by rw [hdec (by unfold colRef; rw [decide_eq_false hne, Bool.and_false]; rfl)], hx21⟩, fun he => ?_⟩
    have c1' := cell_ext (cell_ext c1 e13) e21
    refine ⟨b, o, hp, by omega, by omega, _, c1', fun hlow => ⟨by rw [hdec (by unfold colRef; rw [decide_eq_false (by omega : ¬ (1 ≤ x.kind ∧ x.kind ≤ 3)), Bool.and_false])], hx21⟩, fun hge => ?_⟩
    refine ⟨b, o, hp, by omega, by omega, _, c1', fun hhi => ⟨by rw [hdec (by unfold colRef; rw [decide_eq_false (by omega : ¬ (1 ≤ x.kind ∧ x.kind ≤ 3)), Bool.and_false])], hx21⟩, fun hle => ?_⟩
    rw [i64_next (by omega)]
    refine ⟨⟨k + 1, rfl, by omega, ?_, hx21⟩, by simp only [Int.toNat_natCast]; omega⟩
    have htk : cols.take (k + 1) = cols.take k ++ [x] := by rw [List.take_add_one, g]; rfl
    rw [htk, colsOk_append, hok, List.nil_append]
    unfold colsOk
    rw [← colRef_eq g]
    unfold colRef
    rw [hn, decide_eq_true he, decide_eq_true (by omega)]; rfl
  · have hk' : k = n := by omega
    subst hk'
    rw [List.take_of_length_le (by omega)] at hok
    unfold rightC
    rw [hok, decide_eq_true (by omega)]; rfl

/-! ### Rows that fit -/
theorem spairs_ok (w : World) : Calls Tryd.prog 75 #[.slice p n c, .slice rp rn rc] w fun e w' => ∃ b1 b4, e = .returned (.func (.func 99) #[] #[.pointer (some ⟨b1, 0, none⟩), .pointer (some ⟨b4, 0, none⟩)]) ∧
    ∀ fs ms w0, Hold w0 w fs ms → Hold w0 w' ((b4, .cells #[.slice rp rn rc] 24) :: (b1, .cells #[.slice p n c] 22) :: fs) ms := by
  apply spairs_vc
  unfold spairs_T
  intro b1 w2 h1 b4 w5 h4
  exact ⟨b1, b4, rfl, fun fs ms w0 h => (h.new h1).new h4⟩

theorem spairs1_ok {l0 fv0 fv1 : Nat} (w0 : World) (h : Cols w0 p n c cols) (hr : Vs w0 rp rn rc row) (hlen : rn = n) (Inv : Nat → World → Prop) (Stop : World → Prop) {w : World} (h0 : Inv 0 w)
    (hex : ∀ k W, Inv k W → Ext w0 W) (hc0 : ∀ k W, Inv k W → W.cell? ⟨fv0, 0, none⟩ = some (.slice p n c)) (hc1 : ∀ k W, Inv k W → W.cell? ⟨fv1, 0, none⟩ = some (.slice rp rn rc))
    (hstep : ∀ k W W', Inv k W → Ext W W' → Inv k W')
    (hy : ∀ k x v W (R : Bool → World → Prop), k < n → cols[k]? = some x → row[k]? = some v → Inv k W → (∀ W', Inv (k + 1) W' → R true W') → (∀ W', Stop W' → R false W') → Yield Tryd.prog l0 #[x.agg, v.agg] W R) :
    Calls Tryd.prog 99 #[.func (.yield l0) #[] #[], .pointer (some ⟨fv0, 0, none⟩), .pointer (some ⟨fv1, 0, none⟩)] w fun e W' => e = .returned (.tuple #[]) ∧ (Inv n W' ∨ Stop W') := by
  apply spairs1_vc
  unfold spairs1_T
  subst hlen
  have hl := h.len
  have hrl := hr.len
  have hm : rn ≤ 9223372036854775807 := h.le
  refine ⟨_, _, _, hc0 _ _ h0, fun i W => ∃ k : Nat, i = (k : Int) ∧ k ≤ rn ∧ Inv k W, fun i _ => rn - i.toNat, ⟨0, rfl, Nat.zero_le _, h0⟩, ?_⟩
  rintro i w7 ⟨k, rfl, hk, hI⟩
  refine ⟨fun hlt => ?_, fun hge => ?_⟩
  · have g : cols[k]? = some (cols[k]'(by omega)) := List.getElem?_eq_getElem _
    generalize cols[k]'(by omega) = x at g
    have gv : row[k]? = some (row[k]'(by omega)) := List.getElem?_eq_getElem _
    generalize row[k]'(by omega) = v at gv
    obtain ⟨b, o, hp, c0, c1, c2⟩ := (h.ext (hex _ _ hI)).col g
    simp only [Int.toNat_natCast]
    refine ⟨b, o, hp, by omega, by omega, _, c0, _, c1, _, c2, fun b15 w16 h16 => ?_⟩
    have H16 := (Hold.start (Ext.rfl (w := w7))).new h16
    obtain ⟨q0, q1, q2⟩ := (H16.blk 0 rfl).c3
    refine ⟨⟨_, q0⟩, (H16.blk 0 rfl).frozen _, ⟨_, q1⟩, (H16.blk 0 rfl).frozen _, ⟨_, q2⟩, (H16.blk 0 rfl).frozen _, fun w21 h21 w23 h23 => ?_⟩
    have H21 := (H16.put 0 rfl h21).step h23.ext
    have B : Blk w23 b15 50 #[.string x.name, .int .i64 x.kind, .bool x.null] := H21.blk 0 rfl
    obtain ⟨q0, q1, q2⟩ := B.c3
    have hI23 := hstep _ _ _ hI H21.ext
    obtain ⟨b2, o2, hp2, d0, d1, d2⟩ := (hr.ext (hex _ _ hI23)).val gv
    refine ⟨_, q0, _, q1, _, q2, _, _, _, hc1 _ _ hI23, b2, o2, hp2, by omega, by omega, _, d0, _, d1, _, d2, ?_⟩
    refine hy k x v w23 _ (by omega) g gv hI23 (fun W' hI' => ⟨fun h => (by cases h), fun _ => ?_⟩) fun W' hS => ⟨fun _ => ⟨by trivial, .inr hS⟩, fun h => (by cases h)⟩
    rw [i64_next (by omega)]
    exact ⟨⟨k + 1, rfl, by omega, hI'⟩, by simp only [Int.toNat_natCast]; omega⟩
  · have : k = rn := by omega
    subst this
    exact ⟨rfl, .inl hI⟩

theorem sfits0_ok (h : Cols w p n c cols) (hr : Vs w rp rn rc row) : Calls Tryd.prog 50 #[.slice p n c, .slice rp rn rc] w fun e w' => e = .returned (.bool (fitsL cols row)) ∧ Ext w w' := by
  apply sfits0_vc
  unfold sfits0_T
  intro b1 w2 h1
  have hl := h.len
  have hrl := hr.len
  have hm : n ≤ 9223372036854775807 := h.le
  have H1 := (Hold.start (Ext.rfl (w := w))).new h1
  refine ⟨fun hne => ?_, fun heq => (spairs_ok w2).mono ?_⟩
  · have B1 := H1.blk 0 rfl
    refine ⟨⟨_, B1.one⟩, B1.frozen 0, fun w6 h6 => ?_⟩
    have H6 := H1.box 0 rfl h6
    refine ⟨_, (H6.blk 0 rfl).one, ?_, H6.ext⟩
    have : fitsL cols row = false := by
      rw [← Bool.not_eq_true]
      intro hf
      have := fitsL_length hf
      omega
    rw [this]
  · rintro e w11 ⟨bc, br, rfl, hH⟩
    have H11 := hH _ _ _ H1
    refine ⟨_, rfl, _, _, rfl, by kernel_rfl, fun r d l w18 hB hY => ?_⟩
    have HB := H11.began hB
    let fs : Nat → Bool → List (Nat × Obj) := fun q v => [(l, .loop (r q)), (d, .deferred (some [])), (br, .cells #[.slice rp rn rc] 24), (bc, .cells #[.slice p n c] 22), (b1, .cells #[.bool v] 4)]
    refine (spairs1_ok (cols := cols) (row := row) w h hr (by omega) (fun k W => (fitsL (cols.drop k) (row.drop k) = fitsL cols row) ∧ Hold w W (fs 0 false) []) (fun W => fitsL cols row = false ∧ Hold w W (fs 3 false) []) ⟨rfl, HB⟩ (fun k W hI => hI.2.ext) (fun k W hI => (hI.2.blk 3 rfl).one) (fun k W hI => (hI.2.blk 2 rfl).one) (fun k W W' hI e => ⟨hI.1, hI.2.step e⟩) ?_).mono ?_
    · rintro k x v W R hk g gv ⟨hf, H⟩ yes no
      have hfd := fitsL_drop g gv
      refine hY _ _ _ _ _ _ W R (H.loop 0 rfl) fun b29 w30 h30 => ?_
      have H30 := H.new h30
      obtain ⟨q0, q1, q2⟩ := (H30.blk 0 rfl).c3
      refine ⟨⟨_, q0⟩, (H30.blk 0 rfl).frozen _, ⟨_, q1⟩, (H30.blk 0 rfl).frozen _, ⟨_, q2⟩, (H30.blk 0 rfl).frozen _, fun w35 h35 b37 w38 h38 => ?_⟩
      have H38 := (H30.put 0 rfl h35).new h38
      obtain ⟨q0, q1, q2⟩ := (H38.blk 0 rfl).c3
      refine ⟨⟨_, q0⟩, (H38.blk 0 rfl).frozen _, ⟨_, q1⟩, (H38.blk 0 rfl).frozen _, ⟨_, q2⟩, (H38.blk 0 rfl).frozen _, fun w43 h43 => ?_⟩
      have H43 := H38.put 0 rfl h43
      refine ⟨H43.loop 2 rfl, ?_⟩
      rintro Wb rfl
      have H45 := H43.turn 2 1 rfl
      have Bv : Blk (turn r l 1 w43) b37 26 #[.int .i64 v.k, .int .i64 v.n, .string v.s] := H45.blk 0 rfl
      obtain ⟨v0, v1, v2⟩ := Bv.c3
      refine ⟨_, v0, _, v1, _, v2, (vright_ok v _).mono ?_⟩
      rintro e w51 ⟨rfl, e51⟩
      have H51 := H45.step e51
      have Bv : Blk w51 b37 26 #[.int .i64 v.k, .int .i64 v.n, .string v.s] := H51.blk 0 rfl
      have Bc : Blk w51 b29 50 #[.string x.name, .int .i64 x.kind, .bool x.null] := H51.blk 1 rfl
      obtain ⟨v0, v1, v2⟩ := Bv.c3
      obtain ⟨c0, c1, c2⟩ := Bc.c3
      have B1 : Blk w51 b1 4 #[.bool false] := H51.blk 6 rfl
      -- a value that does not fit
      have stop : valFits x v = false → (∃ u, w51.cell? ⟨b1, 0, none⟩ = some u) ∧ w51.frozen? ⟨b1, 0, none⟩ = false ∧ ∀ w55 : World, Put w51 b1 0 [.bool false] w55 → Rec r l 1 w55 ∧ R false (turn r l 3 w55) := by
        intro hb
        refine ⟨⟨_, B1.one⟩, B1.frozen 0, fun w55 h55 => ?_⟩
        have H55 := H51.box 6 rfl h55
        refine ⟨H55.loop 2 rfl, no _ ⟨?_, (H55.turn 2 3 rfl).tail.tail⟩⟩
        rw [← hf, hfd, hb]; rfl
      have go : valFits x v = true → Rec r l 1 w51 ∧ R true (turn r l 0 w51) := by
        intro hb
        refine ⟨H51.loop 2 rfl, yes _ ⟨?_, (H51.turn 2 0 rfl).tail.tail⟩⟩
        rw [← hf, hfd, hb]; rfl
      refine ⟨_, rfl, fun hb => stop (by unfold valFits; rw [hb]; rfl), fun hb => ⟨_, v0, _, c1, fun hne => ⟨_, c2, fun hnull => ⟨_, v0, fun h0 => stop ?_, fun h0 => go ?_⟩, fun hnull => stop ?_⟩, fun he => go ?_⟩⟩
      · unfold valFits; rw [hb, decide_eq_false hne, hnull, decide_eq_false h0]; rfl
      · unfold valFits; rw [hb, decide_eq_false hne, hnull, decide_eq_true h0]; rfl
      · unfold valFits; rw [hb, decide_eq_false hne, hnull]; rfl
      · unfold valFits; rw [hb, decide_eq_true he]; rfl
    · rintro e W ⟨rfl, hI | hS⟩
      · obtain ⟨hf, H⟩ := hI
        refine ⟨⟨_, rfl⟩, .inl ⟨H.loop 0 rfl, ?_⟩⟩
        have H2 := H.turn 0 2 rfl
        have B1 : Blk (turn r l 2 W) b1 4 #[.bool false] := H2.blk 4 rfl
        refine ⟨⟨_, B1.one⟩, B1.frozen 0, fun w82 h82 => ?_⟩
        have H82 := H2.box 4 rfl h82
        have H83 := H82.shut 1 rfl
        refine ⟨H82.dfr 1 rfl, _, (H83.blk 4 rfl).one, ?_, H83.ext⟩
        rw [← hf, List.drop_eq_nil_of_le (by omega), List.drop_eq_nil_of_le (by omega)]; rfl
      · obtain ⟨hf, H⟩ := hS
        refine ⟨⟨_, rfl⟩, .inr (.inl ⟨H.loop 0 rfl, ?_⟩)⟩
        have H2 := H.turn 0 4 rfl
        have H83 := H2.shut 1 rfl
        refine ⟨H2.dfr 1 rfl, _, (H83.blk 4 rfl).one, ?_, H83.ext⟩
        rw [hf]
theorem sfits_ok (h : Cols w p n c cols) (hr : Vs w rp rn rc row) : Calls Tryd.prog 34 #[.slice p n c, .slice rp rn rc] w fun e w' => e = .returned (.bool (fitsC cols row)) ∧ Ext w w' := by
  apply sfits_vc
  unfold sfits_T
  refine (sright_ok h).mono ?_
  rintro e w2 ⟨rfl, e2⟩
  refine ⟨_, rfl, fun hb => (sfits0_ok (h.ext e2) (hr.ext e2)).mono ?_, fun hb => ⟨by unfold fitsC; rw [hb]; rfl, e2⟩⟩
  rintro e w6 ⟨rfl, e6⟩
  exact ⟨_, rfl, by unfold fitsC; rw [hb]; rfl, e2.trans e6⟩
theorem r5fits_ok (h : Cols w p n c cols) (hs : ∀ x ∈ cols, x.name.size ≤ 9223372036854775807) (hr : Vs w rp rn rc row) : Calls Tryd.prog 13 #[.slice p n c, .slice rp rn rc] w fun e w' => e = .returned (.bool (fitsC cols row)) ∧ Ext w w' := by
  apply r5fits_vc
  unfold r5fits_T
  have hl := h.len
  have hrl := hr.len
  have hm : n ≤ 9223372036854775807 := h.le
  refine (r5right_ok h hs).mono ?_
  rintro e w2 ⟨rfl, e2⟩
  refine ⟨_, rfl, fun hb => ⟨?_, e2⟩, fun ⟨hb, heq⟩ => ?_⟩
  · have : fitsC cols row = false := by
      unfold fitsC
      rcases hb with hb | hb
      · rw [hb]; rfl
      · have : fitsL cols row = false := by
          rw [← Bool.not_eq_true]
          intro hf
          have := fitsL_length hf
          omega
        rw [this, Bool.and_false]
    rw [this]
  refine ⟨fun i w' => ∃ k : Nat, i = (k : Int) ∧ k ≤ n ∧ fitsL (cols.drop k) (row.drop k) = fitsL cols row ∧ Ext w w', fun i _ => n - i.toNat, ⟨0, rfl, Nat.zero_le _, rfl, e2⟩, ?_⟩
  rintro i w9 ⟨k, rfl, hk, hf, hx⟩
  have hfc : fitsC cols row = fitsL cols row := by unfold fitsC; rw [hb]; rfl
  refine ⟨fun hlt => ?_, fun hge => ⟨?_, hx⟩⟩
  · have g : cols[k]? = some (cols[k]'(by omega)) := List.getElem?_eq_getElem _
    generalize cols[k]'(by omega) = x at g
    have gv : row[k]? = some (row[k]'(by omega)) := List.getElem?_eq_getElem _
    generalize row[k]'(by omega) = v at gv
    have hfd := fitsL_drop g gv
    obtain ⟨b, o, hp, c0, c1, c2⟩ := (h.ext hx).col g
    obtain ⟨b2, o2, hp2, d0, d1, d2⟩ := (hr.ext hx).val gv
    simp only [Int.toNat_natCast]
    refine ⟨b2, o2, hp2, by omega, by omega, _, d0, _, d1, _, d2, (rvright_ok v w9).mono ?_⟩
    rintro e w18 ⟨rfl, e18⟩
    refine ⟨_, rfl, fun w20 h20 => ?_⟩
    have e20 := e18.trans h20.ext
    have hx20 := hx.trans e20
    have no : valFits x v = false → Ending.returned (Value.bool false) = Ending.returned (Value.bool (fitsC cols row)) ∧ Ext w w20 := by
      intro hv
      refine ⟨?_, hx20⟩
      rw [hfc, ← hf, hfd, hv]; rfl
    have yes : valFits x v = true → (∃ k' : Nat, IntKind.i64.wrap ((k : Int) + 1) = (k' : Int) ∧ k' ≤ n ∧ fitsL (cols.drop k') (row.drop k') = fitsL cols row ∧ Ext w w20) ∧ n - (IntKind.i64.wrap ((k : Int) + 1)).toNat < n - k := by
      intro hv
      rw [i64_next (by omega)]
      exact ⟨⟨k + 1, rfl, by omega, by rw [← hf, hfd, hv]; rfl, hx20⟩, by simp only [Int.toNat_natCast]; omega⟩
    have d0' := cell_ext d0 e20
    refine ⟨fun hv => no (by unfold valFits; rw [hv]; rfl), fun hv => ⟨b2, o2, hp2, by omega, by omega, _, d0', b, o, hp, by omega, by omega, _, cell_ext c1 e20, fun hne => ⟨b2, o2, hp2, by omega, by omega, _, d0', fun h0 => no ?_, fun h0 => ⟨b, o, hp, by omega, by omega, _, cell_ext c2 e20, fun hnull => no ?_, fun hnull => yes ?_⟩⟩, fun he => yes ?_⟩⟩
    · unfold valFits; rw [hv, decide_eq_false hne, decide_eq_false h0]; simp
    · unfold valFits; rw [hv, decide_eq_false hne, hnull]; rfl
    · unfold valFits; rw [hv, decide_eq_false hne, hnull, decide_eq_true h0]; rfl
    · unfold valFits; rw [hv, decide_eq_true he]; rfl
  · rw [hfc, ← hf, List.drop_eq_nil_of_le (by omega), List.drop_eq_nil_of_le (by omega)]; rfl
end
end Go.Proofs.YtdephmdfdgclpaaDoor
