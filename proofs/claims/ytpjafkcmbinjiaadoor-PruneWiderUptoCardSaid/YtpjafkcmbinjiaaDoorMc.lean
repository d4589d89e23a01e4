/- Texts of the proof, one behind the other. -/
import Derived.Test.YtpjafkcmbinjiaaDoorMb
import Derived.Lib.Bytealg
set_option linter.unusedVariables false
set_option linter.unusedSimpArgs false
/- Schemas: names, columns, rows that fit. Plain Lean, no program. -/
namespace Go.Vc
open Go Go.RowKit

/-! ### Names -/
def letterB (c : UInt8) : Bool := decide (97 ≤ c.toNat ∧ c.toNat ≤ 122)
def otherB (c : UInt8) : Bool := letterB c || decide (48 ≤ c.toNat ∧ c.toNat ≤ 57) || decide (c.toNat = 95)
def isNameL : List UInt8 → Bool
  | [] => false
  | c :: r => letterB c && r.all otherB && decide ((c :: r).length ≤ 24)
def isName (s : ByteArray) : Bool := isNameL (tB s)

/-! ### Columns -/
structure Col where
  name : ByteArray
  kind : Int
  null : Bool
theorem Col.ext' {a b : Col} : a = b ↔ a.name = b.name ∧ a.kind = b.kind ∧ a.null = b.null := by cases a; cases b; simp
instance : DecidableEq Col := fun _ _ => decidable_of_iff _ Col.ext'.symm
def Col.cs (c : Col) : List Value := [.string c.name, .int .i64 c.kind, .bool c.null]
def Col.agg (x : Col) : Value := .agg #[.string x.name, .int .i64 x.kind, .bool x.null]
theorem Col.cs_length (c : Col) : c.cs.length = 3 := rfl
theorem Col.cs_one (v : Col) : ∀ u ∈ v.cs, u.oneCell' = true := by
  intro u hu
  simp only [Col.cs, List.mem_cons, List.not_mem_nil, or_false] at hu
  rcases hu with rfl | rfl | rfl <;> rfl
abbrev Cols := Ls Col.cs
theorem Ls.col {w : World} {p : Option Addr} {n c : Nat} {l : List Col} (h : Cols w p n c l) {i : Nat} {x : Col} (hi : l[i]? = some x) :
    ∃ b o, p = some ⟨b, o, none⟩ ∧ w.cell? ⟨b, o + i * 3, none⟩ = some (.string x.name) ∧ w.cell? ⟨b, o + i * 3 + 1, none⟩ = some (.int .i64 x.kind) ∧ w.cell? ⟨b, o + i * 3 + 2, none⟩ = some (.bool x.null) := by
  obtain ⟨b, o, hp, hc⟩ := h.lies.things Col.cs_length (by decide) hi
  exact ⟨b, o, hp, by have := hc 0 _ rfl; simpa [Nat.add_assoc] using this, by have := hc 1 _ rfl; rwa [← Nat.add_assoc] at this, by have := hc 2 _ rfl; rwa [← Nat.add_assoc] at this⟩

/-- One column, after those of the names 'met'. -/
def colOk (met : List ByteArray) (c : Col) : Bool := isName c.name && !(met.contains c.name) && decide (1 ≤ c.kind ∧ c.kind ≤ 3)
def colsOk : List ByteArray → List Col → Bool
  | _, [] => true
  | met, c :: r => colOk met c && colsOk (met ++ [c.name]) r
def rightC (cols : List Col) : Bool := decide (1 ≤ cols.length ∧ cols.length ≤ 16) && colsOk [] cols
/-- Where a column stands, or -1. -/
def findC : List Col → ByteArray → Int
  | [], _ => -1
  | c :: r, s => if c.name = s then 0 else if findC r s < 0 then -1 else findC r s + 1
theorem findC_range : ∀ (l : List Col) (s : ByteArray), -1 ≤ findC l s ∧ findC l s < (l.length : Int)
  | [], _ => by simp [findC]
  | c :: r, s => by
    have := findC_range r s
    unfold findC
    simp only [List.length_cons]
    split
    · omega
    · split <;> omega
/-- The first place that has the name. -/
theorem findC_at {l : List Col} {s : ByteArray} {k : Nat} {x : Col} (hx : l[k]? = some x) (hn : x.name = s) (hb : ∀ (j : Nat) y, j < k → l[j]? = some y → y.name ≠ s) : findC l s = (k : Int) := by
  induction l generalizing k with
  | nil => simp at hx
  | cons c r ih =>
    cases k with
    | zero => cases hx; unfold findC; rw [if_pos hn]; rfl
    | succ k =>
      have h0 := hb 0 c (by omega) rfl
      have := ih (k := k) (by simpa using hx) fun j y hj hy => hb (j + 1) y (by omega) (by simpa using hy)
      unfold findC
      rw [if_neg h0, this, if_neg (by omega)]
      omega
theorem findC_none {l : List Col} {s : ByteArray} (hb : ∀ x ∈ l, x.name ≠ s) : findC l s = -1 := by
  induction l with
  | nil => rfl
  | cons c r ih =>
    unfold findC
    rw [if_neg (hb c (by simp)), ih fun x hx => hb x (by simp [hx])]
    rfl
theorem findC_get {l : List Col} {s : ByteArray} (h : 0 ≤ findC l s) : ∃ x, l[(findC l s).toNat]? = some x ∧ x.name = s := by
  induction l with
  | nil => simp [findC] at h
  | cons c r ih =>
    unfold findC at h ⊢
    split
    · exact ⟨c, rfl, ‹_›⟩
    · rename_i hne
      rw [if_neg hne] at h
      split at h
      · omega
      · rename_i hge
        rw [if_neg hge]
        obtain ⟨x, hx, hn⟩ := ih (by omega)
        exact ⟨x, by rw [show (findC r s + 1).toNat = (findC r s).toNat + 1 by omega]; simpa using hx, hn⟩

theorem colsOk_append (met : List ByteArray) (a b : List Col) : colsOk met (a ++ b) = (colsOk met a && colsOk (met ++ a.map Col.name) b) := by
  induction a generalizing met with
  | nil => simp [colsOk]
  | cons c a ih => simp [colsOk, ih, Bool.and_assoc]
/-- The document's look at one column. -/
def colRef (cols : List Col) (i : Nat) (c : Col) : Bool := isName c.name && decide (findC cols c.name = (i : Int)) && decide (1 ≤ c.kind ∧ c.kind ≤ 3)
theorem colRef_eq {cols : List Col} {i : Nat} {c : Col} (hc : cols[i]? = some c) : colRef cols i c = colOk ((cols.take i).map Col.name) c := by
  unfold colRef colOk
  congr 2
  rw [Bool.eq_iff_iff, decide_eq_true_eq, Bool.not_eq_true', ← Bool.not_eq_true, List.contains_iff_mem]
  constructor
  · intro h hm
    obtain ⟨y, hy, hyn⟩ := List.mem_map.1 hm
    obtain ⟨j, hj⟩ := List.mem_iff_getElem?.1 hy
    rw [List.getElem?_take] at hj
    split at hj
    · rename_i hji
      -- the first place with the name is before i
      have key : ∀ (l : List Col) (j : Nat) (y : Col), l[j]? = some y → y.name = c.name → findC l c.name ≤ (j : Int) := by
        intro l
        induction l with
        | nil => intro j y h; simp at h
        | cons d r ih =>
          intro j y hj hyn
          unfold findC
          cases j with
          | zero => cases hj; rw [if_pos hyn]; simp
          | succ j =>
            have := ih j y (by simpa using hj) hyn
            split
            · omega
            · split <;> omega
      have := key cols j y hj hyn
      omega
    · cases hj
  · intro h
    refine findC_at hc rfl fun j y hj hy hyn => h ?_
    exact List.mem_map.2 ⟨y, List.mem_of_getElem? (i := j) (by rw [List.getElem?_take, if_pos hj]; exact hy), hyn⟩

/-! ### Rows that fit -/
def valFits (c : Col) (v : Val) : Bool := v.right && (decide (v.k = c.kind) || (c.null && decide (v.k = 0)))
def fitsL : List Col → List Val → Bool
  | [], [] => true
  | c :: cs, v :: vs => valFits c v && fitsL cs vs
  | _, _ => false
def fitsC (cols : List Col) (row : List Val) : Bool := rightC cols && fitsL cols row
theorem fitsL_length : ∀ {a : List Col} {b : List Val}, fitsL a b = true → a.length = b.length
  | [], [], _ => rfl
  | _ :: _, _ :: _, h => by
    unfold fitsL at h
    rw [Bool.and_eq_true] at h
    simp [fitsL_length h.2]
  | [], _ :: _, h => by cases h
  | _ :: _, [], h => by cases h
theorem fitsL_drop {a : List Col} {b : List Val} {k : Nat} {c : Col} {v : Val} (hc : a[k]? = some c) (hv : b[k]? = some v) : fitsL (a.drop k) (b.drop k) = (valFits c v && fitsL (a.drop (k + 1)) (b.drop (k + 1))) := by
  obtain ⟨h1, rfl⟩ := List.getElem?_eq_some_iff.1 hc
  obtain ⟨h2, rfl⟩ := List.getElem?_eq_some_iff.1 hv
  rw [List.drop_eq_getElem_cons h1, List.drop_eq_getElem_cons h2]
  rfl
theorem fitsL_get {a : List Col} {b : List Val} (h : fitsL a b = true) {k : Nat} {c : Col} {v : Val} (hc : a[k]? = some c) (hv : b[k]? = some v) : valFits c v = true := by
  induction a generalizing b k with
  | nil => simp at hc
  | cons x a ih =>
    cases b with
    | nil => simp at hv
    | cons y b =>
      unfold fitsL at h
      rw [Bool.and_eq_true] at h
      cases k with
      | zero => cases hc; cases hv; exact h.1
      | succ k => exact ih h.2 (by simpa using hc) (by simpa using hv)
end Go.Vc

/- What is handed in, opened, with the depth that is left: for things that hold things of their own type. -/
namespace Go.Vc
open Go Go.RowKit

/-- As 'Arg', of a depth that is told. -/
def ArgF (f : Nat) (P : Program) (w : World) (t : TypeId) (cs : List Value) : Prop :=
  ∃ (H : Type) (enc : TypeId × Value → H) (d : DataW H) (ps : List MemPlace), DataW.trod enc P w 0 (fun _ => true) true f t cs = some (d, ps) ∧ ∀ n ∈ d.weights P t, n ≤ 140737488351232
theorem Arg.told {P : Program} {w : World} {t : TypeId} {cs : List Value} (h : Arg P w t cs) : ∃ f, ArgF f P w t cs := by
  obtain ⟨H, enc, f, d, ps, h, hw⟩ := h
  exact ⟨f, H, enc, d, ps, h, hw⟩
theorem ArgF.arg {f : Nat} {P : Program} {w : World} {t : TypeId} {cs : List Value} (h : ArgF f P w t cs) : Arg P w t cs := by
  obtain ⟨H, enc, d, ps, h, hw⟩ := h
  exact ⟨H, enc, f, d, ps, h, hw⟩
theorem ArgF.pos {f : Nat} {P : Program} {w : World} {t : TypeId} {cs : List Value} (h : ArgF f P w t cs) : ∃ n, f = n + 1 := by
  obtain ⟨H, enc, d, ps, h, hw⟩ := h
  cases f with
  | zero => cases h
  | succ n => exact ⟨n, rfl⟩
section
variable {P : Program} {w : World} {t : TypeId} {cs : List Value}

theorem ArgF.struct {fs : Array Field} {n : Nat} (hu : P.underlying t = some (.struct fs)) (h : ArgF (n + 1) P w t cs) : cs.length = P.cellsOf t ∧ ∀ f ∈ fs.toList, ArgF n P w f.type ((cs.drop f.offset).take (P.cellsOf f.type)) := by
  obtain ⟨H, enc, d, ps, h, hw⟩ := h
  · simp only [DataW.trod, hu] at h
    split at h
    · rename_i hl
      refine ⟨hl, fun f hf => ?_⟩
      cases hm : fs.toList.mapM fun f => DataW.trod enc P w 0 (fun _ => true) true n f.type ((cs.drop f.offset).take (P.cellsOf f.type)) with
      | none => rw [hm] at h; cases h
      | some xs =>
        rw [hm] at h
        cases h
        obtain ⟨i, hi⟩ := List.mem_iff_getElem?.1 hf
        obtain ⟨h1, h2⟩ := mapM_some hm
        obtain ⟨y, hy, hfy⟩ := h2 i f hi
        refine ⟨H, enc, y.1, y.2, hfy, fun k hk => hw k ?_⟩
        simp only [DataW.weights, hu]
        exact DataW.weights_mem_each (j := i) (by simp [hi]) (by simp [hy]) k hk
    · cases h

theorem ArgF.slice {e : TypeId} {m : Nat} (hu : P.underlying t = some (.slice e)) (h0 : 0 < P.cellsOf e) (h : ArgF (m + 1) P w t cs) :
    ∃ (p : Option Addr) (n c : Nat) (css : List (List Value)), cs = [.slice p n c] ∧ n ≤ c ∧ c ≤ maxLen ∧ c * P.bytesOf e ≤ 140737488351232 ∧ css.length = c ∧ (∀ x ∈ css, x.length = P.cellsOf e ∧ ArgF m P w e x) ∧ At w p css.flatten ∧ (p = none → n = 0 ∧ c = 0) := by
  obtain ⟨H, enc, d, ps, h, hw⟩ := h
  · have shape : (cs = [.slice none 0 0]) ∨ ∃ a n c, cs = [.slice (some a) n c] := by
      match cs, h with
      | [], h => simp [DataW.trod, hu] at h
      | [.slice none 0 0], _ => exact .inl rfl
      | [.slice none (n + 1) c], h => simp [DataW.trod, hu] at h
      | [.slice none 0 (c + 1)], h => simp [DataW.trod, hu] at h
      | [.slice (some a) n c], _ => exact .inr ⟨a, n, c, rfl⟩
      | [.bool _], h => simp [DataW.trod, hu] at h
      | [.int _ _], h => simp [DataW.trod, hu] at h
      | [.float _ _], h => simp [DataW.trod, hu] at h
      | [.complex _ _ _], h => simp [DataW.trod, hu] at h
      | [.string _], h => simp [DataW.trod, hu] at h
      | [.pointer _], h => simp [DataW.trod, hu] at h
      | [.map _], h => simp [DataW.trod, hu] at h
      | [.chan _], h => simp [DataW.trod, hu] at h
      | [.nilFunc], h => simp [DataW.trod, hu] at h
      | [.func _ _ _], h => simp [DataW.trod, hu] at h
      | [.nilIface], h => simp [DataW.trod, hu] at h
      | [.iface _ _], h => simp [DataW.trod, hu] at h
      | [.tuple _], h => simp [DataW.trod, hu] at h
      | [.agg _], h => simp [DataW.trod, hu] at h
      | _ :: _ :: _, h => simp [DataW.trod, hu] at h
    rcases shape with rfl | ⟨a, len, cap, rfl⟩
    · exact ⟨none, 0, 0, [], rfl, Nat.le_refl _, Nat.zero_le _, by simp, rfl, fun x hx => by simp at hx, At.nil _ _, fun _ => ⟨rfl, rfl⟩⟩
    · simp only [DataW.trod, hu] at h
      split at h
      · rename_i hc
        obtain ⟨_, hlc, hcm⟩ := hc
        let elemAt : Nat → Option (DataW H × List MemPlace) := fun i => (w.cells? 0 (a.add (i * P.cellsOf e)) (P.cellsOf e)).bind (DataW.trod enc P w 0 (fun _ => true) true m e)
        change ((List.range len).mapM elemAt).bind _ = _ at h
        cases hm1 : (List.range len).mapM elemAt with
        | none => rw [hm1] at h; cases h
        | some elems =>
          rw [hm1] at h
          simp only [Option.bind_some, if_true] at h
          change ((List.range (cap - len)).mapM fun j => elemAt (len + j)).map _ = _ at h
          cases hm2 : (List.range (cap - len)).mapM fun j => elemAt (len + j) with
          | none => rw [hm2] at h; cases h
          | some rest =>
            rw [hm2] at h
            simp only [Option.map_some, Option.some.injEq, Prod.mk.injEq] at h
            obtain ⟨rfl, _⟩ := h
            obtain ⟨a1, a2⟩ := mapM_some hm1
            obtain ⟨b1, b2⟩ := mapM_some hm2
            simp only [List.length_range] at a1 b1
            simp only [DataW.weights, hu, List.length_map, List.mem_cons, List.mem_append] at hw
            have all : ∀ i, i < cap → ∃ cs, w.cells? 0 (a.add (i * P.cellsOf e)) (P.cellsOf e) = some cs ∧ ArgF m P w e cs := by
              intro i hi
              have key : ∃ y, elemAt i = some y ∧ ((∃ j : Nat, elems[j]? = some y) ∨ ∃ j : Nat, rest[j]? = some y) := by
                rcases Nat.lt_or_ge i len with hl | hl
                · obtain ⟨y, hy, hf⟩ := a2 i i (List.getElem?_range hl)
                  exact ⟨y, hf, .inl ⟨i, hy⟩⟩
                · obtain ⟨y, hy, hf⟩ := b2 (i - len) (i - len) (List.getElem?_range (by omega))
                  rw [show len + (i - len) = i by omega] at hf
                  exact ⟨y, hf, .inr ⟨_, hy⟩⟩
              obtain ⟨y, hf, hy⟩ := key
              have hf' : (w.cells? 0 (a.add (i * P.cellsOf e)) (P.cellsOf e)).bind (DataW.trod enc P w 0 (fun _ => true) true m e) = some y := hf
              clear hf
              cases hcs : w.cells? 0 (a.add (i * P.cellsOf e)) (P.cellsOf e) with
              | none => rw [hcs] at hf'; cases hf'
              | some cs =>
                rw [hcs] at hf'
                have hf : DataW.trod enc P w 0 (fun _ => true) true m e cs = some y := hf'
                refine ⟨cs, rfl, H, enc, y.1, y.2, hf, fun k hk => hw k (.inr ?_)⟩
                rcases hy with ⟨j, hy⟩ | ⟨j, hy⟩
                · exact .inl (weightsAll_mem (List.mem_map.2 ⟨y, List.mem_of_getElem? hy, rfl⟩) k hk)
                · exact .inr (weightsAll_mem (List.mem_map.2 ⟨y, List.mem_of_getElem? hy, rfl⟩) k hk)
            obtain ⟨css, hcl, hcss⟩ : ∃ css : List (List Value), css.length = cap ∧ ∀ i x, css[i]? = some x → w.cells? 0 (a.add (i * P.cellsOf e)) (P.cellsOf e) = some x ∧ ArgF m P w e x := by
              refine ⟨(List.range cap).map fun i => (w.cells? 0 (a.add (i * P.cellsOf e)) (P.cellsOf e)).getD [], by simp, fun i x hx => ?_⟩
              rw [List.getElem?_map] at hx
              have hi : i < cap := by
                rcases Nat.lt_or_ge i cap with h' | h'
                · exact h'
                · rw [List.getElem?_eq_none (by simpa using h')] at hx; cases hx
              rw [List.getElem?_range hi] at hx
              obtain ⟨cs, h1, h2⟩ := all i hi
              simp only [Option.map_some, h1, Option.getD_some, Option.some.injEq] at hx
              subst hx
              exact ⟨h1, h2⟩
            have hlen : ∀ x ∈ css, x.length = P.cellsOf e := fun x hx => by
              obtain ⟨i, hi⟩ := List.mem_iff_getElem?.1 hx
              exact (cells?_some (hcss i x hi).1).1
            refine ⟨some a, len, cap, css, rfl, hlc, hcm, ?_, hcl, fun x hx => ?_, ?_, fun e => by cases e⟩
            · have := hw ((elems.length + rest.length) * P.bytesOf e) (.inl rfl)
              rw [a1, b1, show len + (cap - len) = cap by omega] at this
              exact this
            · obtain ⟨i, hi⟩ := List.mem_iff_getElem?.1 hx
              exact ⟨hlen x hx, (hcss i x hi).2⟩
            · cases hcz : css with
              | nil => exact .inl rfl
              | cons c0 r =>
                rw [← hcz]
                have h00 := cells?_some (hcss 0 c0 (by rw [hcz]; rfl)).1
                have hc0 : 0 < c0.length := by rw [h00.1]; exact h0
                have hcell := h00.2 0 c0[0] (by simp [hc0])
                obtain ⟨ab, ao, ag⟩ := a
                have hs : ag = none := by
                  cases ag with
                  | none => rfl
                  | some y =>
                    have e0 : ((⟨ab, ao, some y⟩ : Addr).add (0 * P.cellsOf e)).add 0 = ⟨ab, ao, some y⟩ := by rw [Nat.zero_mul, Addr.add_zero', Addr.add_zero']
                    rw [e0] at hcell
                    simp only [World.cell?, Option.isSome_some, if_true] at hcell
                    split at hcell <;> cases hcell
                subst hs
                refine .inr ⟨ab, ao, rfl, fun i v hv => ?_⟩
                have hdm : i = i / P.cellsOf e * P.cellsOf e + i % P.cellsOf e := by rw [Nat.mul_comm]; exact (Nat.div_add_mod _ _).symm
                have hj := Nat.mod_lt i h0
                rw [hdm, flatten_get hlen hj] at hv
                cases hx : css[i / P.cellsOf e]? with
                | none => rw [hx] at hv; cases hv
                | some x =>
                  rw [hx] at hv
                  have := (cells?_some (hcss _ x hx).1).2 _ v hv
                  rw [Addr.add_lit, Addr.add_lit] at this
                  rw [hdm, ← Nat.add_assoc]; exact this
      · cases h
end


end Go.Vc

/- Expressions: as the memory bears them; which are well formed. Plain Lean, no program. -/
namespace Go.Vc
open Go Go.RowKit

inductive Ex where
  | mk (op : Int) (name : ByteArray) (v : Val) (kids : List Ex)
def Ex.op : Ex → Int | .mk o _ _ _ => o
def Ex.name : Ex → ByteArray | .mk _ n _ _ => n
def Ex.v : Ex → Val | .mk _ _ v _ => v
def Ex.kids : Ex → List Ex | .mk _ _ _ k => k

mutual
def ExAt (w : World) : Ex → List Value → Prop
  | .mk op name v kids, cs => ∃ (p : Option Addr) (n c : Nat) (css : List (List Value)), cs = [.int .i64 op, .string name, .int .i64 v.k, .int .i64 v.n, .string v.s, .slice p n c] ∧ (n ≤ c ∧ c ≤ maxLen) ∧ (p = none → n = 0 ∧ c = 0) ∧ css.length = n ∧
      (∀ x ∈ css, x.length = 6) ∧ At w p css.flatten ∧ ExsAt w kids css
def ExsAt (w : World) : List Ex → List (List Value) → Prop
  | [], [] => True
  | x :: xs, c :: cs => ExAt w x c ∧ ExsAt w xs cs
  | [], _ :: _ => False
  | _ :: _, [] => False
end

theorem ExsAt.length {w : World} : ∀ {xs : List Ex} {css : List (List Value)}, ExsAt w xs css → css.length = xs.length
  | [], [], _ => rfl
  | x :: xs, c :: cs, h => by
    unfold ExsAt at h
    simp [ExsAt.length h.2]
  | [], _ :: _, h => by unfold ExsAt at h; exact h.elim
  | _ :: _, [], h => by unfold ExsAt at h; exact h.elim
theorem ExsAt.get {w : World} : ∀ {xs : List Ex} {css : List (List Value)}, ExsAt w xs css → ∀ {i : Nat} {x : Ex}, xs[i]? = some x → ∃ c, css[i]? = some c ∧ ExAt w x c
  | [], [], _, i, x, hx => by simp at hx
  | x :: xs, c :: cs, h, i, y, hy => by
    unfold ExsAt at h
    cases i with
    | zero => cases hy; exact ⟨c, rfl, h.1⟩
    | succ i =>
      obtain ⟨c', h1, h2⟩ := ExsAt.get h.2 (i := i) (by simpa using hy)
      exact ⟨c', by simpa using h1, h2⟩
  | [], _ :: _, h, _, _, _ => by unfold ExsAt at h; exact h.elim
  | _ :: _, [], h, _, _, _ => by unfold ExsAt at h; exact h.elim
mutual
theorem ExAt.ext {w w' : World} (e : Ext w w') : ∀ {x : Ex} {cs : List Value}, ExAt w x cs → ExAt w' x cs
  | .mk op name v kids, cs, h => by
    unfold ExAt at h ⊢
    obtain ⟨p, n, c, css, h1, h2, h3, h4, h5, h6, h7⟩ := h
    exact ⟨p, n, c, css, h1, h2, h3, h4, h5, h6.ext e, ExsAt.ext e h7⟩
theorem ExsAt.ext {w w' : World} (e : Ext w w') : ∀ {xs : List Ex} {css : List (List Value)}, ExsAt w xs css → ExsAt w' xs css
  | [], [], _ => by unfold ExsAt; trivial
  | x :: xs, c :: cs, h => by
    unfold ExsAt at h ⊢
    exact ⟨ExAt.ext e h.1, ExsAt.ext e h.2⟩
  | [], _ :: _, h => by unfold ExsAt at h; exact h.elim
  | _ :: _, [], h => by unfold ExsAt at h; exact h.elim
end
/-- An expression's cells, and its kids. -/
theorem ExAt.cells {w : World} {x : Ex} {cs : List Value} (h : ExAt w x cs) : ∃ (p : Option Addr) (n c : Nat), cs = [.int .i64 x.op, .string x.name, .int .i64 x.v.k, .int .i64 x.v.n, .string x.v.s, .slice p n c] ∧ (n ≤ c ∧ c ≤ maxLen) ∧ x.kids.length = n ∧ (p = none → n = 0 ∧ c = 0) ∧
    ∀ {w' : World}, Ext w w' → ∀ {i : Nat} {k : Ex}, x.kids[i]? = some k → ∃ kc b o, ExAt w' k kc ∧ p = some ⟨b, o, none⟩ ∧ ∀ (j : Nat) v, kc[j]? = some v → w'.cell? ⟨b, o + (i * 6 + j), none⟩ = some v := by
  obtain ⟨op, name, v, kids⟩ := x
  unfold ExAt at h
  obtain ⟨p, n, c, css, h1, h2, h3, h4, h5, h6, h7⟩ := h
  refine ⟨p, n, c, h1, h2, by rw [← h4, h7.length]; rfl, h3, fun {w'} e {i} {k} hk => ?_⟩
  obtain ⟨kc, hkc, hx⟩ := h7.get hk
  rcases h6 with h6 | ⟨b, o, hp, hc⟩
  · exfalso
    have hl := h5 kc (List.mem_of_getElem? hkc)
    have := flatten_get (css := css) (s := 6) h5 (i := i) (j := 0) (by decide)
    rw [h6, hkc] at this
    have h0 : kc[0]? = some (kc[0]'(by omega)) := List.getElem?_eq_getElem _
    simp [h0] at this
  · refine ⟨kc, b, o, hx.ext e, hp, fun j v hv => cell_ext (hc _ _ ?_) e⟩
    have hj : j < 6 := by rw [← h5 kc (List.mem_of_getElem? hkc)]; exact (List.getElem?_eq_some_iff.1 hv).1
    rw [flatten_get h5 hj, hkc]
    exact hv

/-! ### Which are well formed -/
def manyOf (op : Int) : Int := if op = 1 ∨ op = 2 then 0 else if op = 8 ∨ op = 14 ∨ op = 15 ∨ op = 16 then 1 else if 3 ≤ op ∧ op ≤ 13 then 2 else -1
def NodeOk (x : Ex) : Prop := (x.kids.length : Int) = manyOf x.op ∧ (x.op = 1 ∨ x.name = ⟨#[]⟩) ∧ (x.op = 2 ∨ x.v = nullV) ∧ x.v.Ok
instance (x : Ex) : Decidable (NodeOk x) := by unfold NodeOk; exact inferInstance
mutual
def nodesT : Ex → List Ex
  | .mk o n v ks => .mk o n v ks :: nodesTs ks
def nodesTs : List Ex → List Ex
  | [] => []
  | k :: r => nodesT k ++ nodesTs r
end
mutual
def depthT : Ex → Nat
  | .mk _ _ _ ks => 1 + depthTs ks
def depthTs : List Ex → Nat
  | [] => 0
  | k :: r => max (depthT k) (depthTs r)
end
def FormedP (x : Ex) : Prop := (∀ y ∈ nodesT x, NodeOk y) ∧ depthT x ≤ 40 ∧ (nodesT x).length ≤ 400
instance (x : Ex) : Decidable (FormedP x) := by unfold FormedP; exact inferInstance
def formedB (x : Ex) : Bool := decide (FormedP x)

mutual
/-- The program's walk: no deeper than may be. -/
def walkT : Ex → Nat → List (Nat × Ex)
  | .mk o n v ks, d => (d, .mk o n v ks) :: (if 40 < d then [] else walkTs ks (d + 1))
def walkTs : List Ex → Nat → List (Nat × Ex)
  | [], _ => []
  | k :: r, d => walkT k d ++ walkTs r d
end
def goW : List (Nat × Ex) → Nat → Bool
  | [], _ => true
  | p :: r, m => if 40 < p.1 ∨ 400 < m + 1 ∨ ¬ NodeOk p.2 then false else goW r (m + 1)
theorem goW_iff : ∀ (l : List (Nat × Ex)) (m : Nat), m ≤ 400 → (goW l m = true ↔ (∀ p ∈ l, p.1 ≤ 40 ∧ NodeOk p.2) ∧ m + l.length ≤ 400)
  | [], m, hm => by simp [goW, hm]
  | p :: r, m, hm => by
    unfold goW
    split
    · rename_i h
      constructor
      · intro h'; cases h'
      · rintro ⟨h1, h2⟩
        have := h1 p (by simp)
        simp only [List.length_cons] at h2
        rcases h with h | h | h
        · omega
        · omega
        · exact absurd this.2 h
    · rename_i h
      have h1 : p.1 ≤ 40 := by omega
      have h2 : m + 1 ≤ 400 := by omega
      have h3 : NodeOk p.2 := Decidable.not_not.1 fun hn => h (.inr (.inr hn))
      rw [goW_iff r (m + 1) h2]
      simp only [List.length_cons, List.mem_cons, forall_eq_or_imp]
      constructor
      · rintro ⟨a, b⟩; exact ⟨⟨⟨h1, h3⟩, a⟩, by omega⟩
      · rintro ⟨⟨_, a⟩, b⟩; exact ⟨a, by omega⟩
mutual
theorem walkT_spec : ∀ (x : Ex) (d : Nat), ((∀ p ∈ walkT x d, p.1 ≤ 40) ↔ d + depthT x ≤ 41) ∧ (d + depthT x ≤ 41 → (walkT x d).map (·.2) = nodesT x)
  | .mk o n v ks, d => by
    have hk := walkTs_spec ks (d + 1)
    unfold walkT depthT nodesT
    by_cases hd : 40 < d
    · rw [if_pos hd]
      refine ⟨⟨fun h => ?_, fun h => ?_⟩, fun h => ?_⟩
      · have := h (d, .mk o n v ks) (by simp); simp at this; omega
      · omega
      · omega
    · rw [if_neg hd]
      refine ⟨⟨fun h => ?_, fun h => ?_⟩, fun h => ?_⟩
      · have := hk.1 fun p hp => h p (by simp [hp])
        omega
      · intro p hp
        rcases List.mem_cons.1 hp with rfl | hp
        · simp; omega
        · exact hk.2.1 (.inr (by omega)) p hp
      · rw [List.map_cons, hk.2.2 (.inr (by omega))]
theorem walkTs_spec : ∀ (xs : List Ex) (d : Nat), ((∀ p ∈ walkTs xs d, p.1 ≤ 40) → depthTs xs = 0 ∨ d + depthTs xs ≤ 41) ∧ ((depthTs xs = 0 ∨ d + depthTs xs ≤ 41) → ∀ p ∈ walkTs xs d, p.1 ≤ 40) ∧ ((depthTs xs = 0 ∨ d + depthTs xs ≤ 41) → (walkTs xs d).map (·.2) = nodesTs xs)
  | [], d => by simp [walkTs, depthTs, nodesTs]
  | k :: r, d => by
    have h1 := walkT_spec k d
    have h2 := walkTs_spec r d
    have hpos : 1 ≤ depthT k := by cases k; unfold depthT; omega
    unfold walkTs depthTs nodesTs
    refine ⟨fun h => ?_, fun h => ?_, fun h => ?_⟩
    · have a := h1.1.1 fun p hp => h p (List.mem_append_left _ hp)
      have b := h2.1 fun p hp => h p (List.mem_append_right _ hp)
      omega
    · intro p hp
      rcases List.mem_append.1 hp with hp | hp
      · exact h1.1.2 (by omega) p hp
      · exact h2.2.1 (by omega) p hp
    · rw [List.map_append, h1.2 (by omega), h2.2.2 (by omega)]
end
theorem goW_formed (x : Ex) : goW (walkT x 1) 0 = formedB x := by
  obtain ⟨h1, h2⟩ := walkT_spec x 1
  unfold formedB
  rw [Bool.eq_iff_iff, goW_iff _ _ (by omega), decide_eq_true_eq]
  unfold FormedP
  constructor
  · rintro ⟨a, b⟩
    have hd := h1.1 fun p hp => (a p hp).1
    have hm := h2 hd
    refine ⟨fun y hy => ?_, by omega, ?_⟩
    · rw [← hm] at hy
      obtain ⟨p, hp, rfl⟩ := List.mem_map.1 hy
      exact (a p hp).2
    · rw [← hm, List.length_map]; omega
  · rintro ⟨a, b, c⟩
    have hd : 1 + depthT x ≤ 41 := by omega
    have hm := h2 hd
    refine ⟨fun p hp => ⟨h1.2 hd p hp, a _ ?_⟩, ?_⟩
    · rw [← hm]; exact List.mem_map.2 ⟨p, hp, rfl⟩
    · rw [← hm, List.length_map] at c; omega

mutual
/-- The document's look: how many nodes are left; below 0: no. -/
def refF : Ex → Int → Int → Int
  | .mk o n v ks, d, left => if d < 1 ∨ left < 1 ∨ ¬ NodeOk (.mk o n v ks) then -1 else refFs ks (d - 1) (left - 1)
def refFs : List Ex → Int → Int → Int
  | [], _, left => left
  | k :: r, d, left => if left < 0 then left else refFs r d (refF k d left)
end
mutual
theorem refF_spec : ∀ (x : Ex) (d left : Int), (0 ≤ refF x d left ↔ (∀ y ∈ nodesT x, NodeOk y) ∧ (depthT x : Int) ≤ d ∧ ((nodesT x).length : Int) ≤ left) ∧ (0 ≤ refF x d left → refF x d left = left - (nodesT x).length)
  | .mk o n v ks, d, left => by
    have hk := refFs_spec ks (d - 1) (left - 1)
    unfold refF depthT nodesT
    simp only [List.length_cons, List.mem_cons, forall_eq_or_imp]
    split
    · rename_i h
      refine ⟨⟨fun h' => absurd h' (by decide), ?_⟩, fun h' => absurd h' (by decide)⟩
      rintro ⟨⟨a, _⟩, b, c⟩
      exfalso
      rcases h with h | h | h
      · omega
      · omega
      · exact h a
    · rename_i h
      have h1 : 1 ≤ d := by omega
      have h2 : 1 ≤ left := by omega
      have h3 : NodeOk (.mk o n v ks) := Decidable.not_not.1 fun hn => h (.inr (.inr hn))
      refine ⟨?_, fun h' => by rw [hk.2 h']; omega⟩
      rw [hk.1 (by omega)]
      constructor
      · rintro ⟨a, b, c⟩; exact ⟨⟨h3, a⟩, by omega, by omega⟩
      · rintro ⟨⟨_, a⟩, b, c⟩; exact ⟨a, by omega, by omega⟩
theorem refFs_spec : ∀ (xs : List Ex) (d left : Int), (0 ≤ left → (0 ≤ refFs xs d left ↔ (∀ y ∈ nodesTs xs, NodeOk y) ∧ (depthTs xs : Int) ≤ max d 0 ∧ ((nodesTs xs).length : Int) ≤ left)) ∧ (0 ≤ refFs xs d left → refFs xs d left = left - (nodesTs xs).length)
  | [], d, left => by
    unfold refFs nodesTs depthTs
    refine ⟨fun h => ⟨fun _ => ⟨by simp, by omega, by simpa using h⟩, fun _ => h⟩, fun _ => by simp⟩
  | k :: r, d, left => by
    have h1 := refF_spec k d left
    have h2 := refFs_spec r d (refF k d left)
    have hpos : 1 ≤ depthT k := by cases k; unfold depthT; omega
    have neg : refF k d left < 0 → refFs r d (refF k d left) < 0 := fun hn => by
      cases r with
      | nil => unfold refFs; exact hn
      | cons a b => unfold refFs; rw [if_pos hn]; exact hn
    unfold refFs nodesTs depthTs
    simp only [List.length_append, List.mem_append]
    refine ⟨fun hl => ?_, fun h => ?_⟩
    · rw [if_neg (by omega)]
      constructor
      · intro h
        have hk : 0 ≤ refF k d left := by
          rcases Int.lt_or_le (refF k d left) 0 with hlt | hge
          · have := neg hlt; omega
          · exact hge
        obtain ⟨a1, a2, a3⟩ := h1.1.1 hk
        obtain ⟨b1, b2, b3⟩ := (h2.1 hk).1 h
        have e := h1.2 hk
        refine ⟨fun y hy => ?_, by omega, by omega⟩
        rcases hy with hy | hy
        · exact a1 y hy
        · exact b1 y hy
      · rintro ⟨a, b, c⟩
        have hk : 0 ≤ refF k d left := h1.1.2 ⟨fun y hy => a y (.inl hy), by omega, by omega⟩
        have e := h1.2 hk
        exact (h2.1 hk).2 ⟨fun y hy => a y (.inr hy), by omega, by omega⟩
    · split at h
      · omega
      · rename_i hge
        rw [if_neg hge]
        have hk : 0 ≤ refF k d left := by
          rcases Int.lt_or_le (refF k d left) 0 with hlt | hge
          · have := neg hlt; omega
          · exact hge
        have e := h1.2 hk
        rw [h2.2 h]
        omega
end
/-- An expression's cells. -/
theorem ExAt.six {w : World} {x : Ex} {cs : List Value} (h : ExAt w x cs) : ∃ (p : Option Addr) (n c : Nat), cs = [.int .i64 x.op, .string x.name, .int .i64 x.v.k, .int .i64 x.v.n, .string x.v.s, .slice p n c] ∧ x.kids.length = n ∧ n ≤ 9223372036854775807 ∧
    ∀ {w' : World}, Ext w w' → ∀ {i : Nat} {k : Ex}, x.kids[i]? = some k → ∃ kc b o, ExAt w k kc ∧ p = some ⟨b, o, none⟩ ∧ ∀ (j : Nat) v, kc[j]? = some v → w'.cell? ⟨b, o + i * 6 + j, none⟩ = some v := by
  obtain ⟨p, n, c, h1, h2, h3, h4, h5⟩ := h.cells
  refine ⟨p, n, c, h1, h3, Nat.le_trans h2.1 h2.2, fun {w'} e {i} {k} hk => ?_⟩
  obtain ⟨kc, b, o, a1, a2, a3⟩ := h5 Ext.rfl hk
  exact ⟨kc, b, o, a1, a2, fun j v hv => by rw [Nat.add_assoc]; exact cell_ext (a3 j v hv) e⟩

theorem depthTs_get : ∀ {l : List Ex} {i : Nat} {k : Ex}, l[i]? = some k → depthT k ≤ depthTs l
  | [], i, k, h => by simp at h
  | x :: r, i, k, h => by
    unfold depthTs
    cases i with
    | zero => cases h; omega
    | succ i => have := depthTs_get (l := r) (i := i) (by simpa using h); omega
theorem walkTs_take {l : List Ex} {i : Nat} {k : Ex} (d : Nat) (h : l[i]? = some k) : walkTs (l.take (i + 1)) d = walkTs (l.take i) d ++ walkT k d := by
  induction l generalizing i with
  | nil => simp at h
  | cons x r ih =>
    cases i with
    | zero => cases h; simp [walkTs]
    | succ i => simp [walkTs, ih (i := i) (by simpa using h)]
theorem walkTs_pre {l : List Ex} (i : Nat) (d : Nat) : ∃ r, walkTs l d = walkTs (l.take i) d ++ r := by
  induction l generalizing i with
  | nil => exact ⟨[], by simp [walkTs]⟩
  | cons x r ih =>
    cases i with
    | zero => exact ⟨walkTs (x :: r) d, by simp [walkTs]⟩
    | succ i => obtain ⟨q, hq⟩ := ih i; exact ⟨q, by simp [walkTs, hq]⟩
theorem walkTs_at {l : List Ex} {i : Nat} {k : Ex} {d j : Nat} {p : Nat × Ex} (h : l[i]? = some k) (hp : (walkT k d)[j]? = some p) : (walkTs l d)[(walkTs (l.take i) d).length + j]? = some p := by
  obtain ⟨r, hr⟩ := walkTs_pre (l := l) (i + 1) d
  rw [hr, walkTs_take d h, List.append_assoc, List.getElem?_append_right (by omega), Nat.add_sub_cancel_left, List.getElem?_append_left (List.getElem?_eq_some_iff.1 hp).1, hp]


/-! ### The table of shapes -/
def wantOf (op : Int) : Int := if 3 ≤ op ∧ op ≤ 8 then 1 else if 12 ≤ op ∧ op ≤ 14 then 2 else if op = 16 then 3 else 0
def kindOf (op : Int) : Int := if 3 ≤ op ∧ op ≤ 8 ∨ op = 16 then 1 else if 9 ≤ op ∧ op ≤ 15 then 2 else 0
def shapeC (i : Nat) : List Value := [.int .i64 (manyOf i), .int .i64 (wantOf i), .int .i64 (kindOf i)]
def shapesA : Array Value := ((List.range 17).flatMap shapeC).toArray
theorem shapes_at {i : Nat} (h : i < 17) : shapesA[i * 3]? = some (.int .i64 (manyOf i)) ∧ shapesA[i * 3 + 1]? = some (.int .i64 (wantOf i)) ∧ shapesA[i * 3 + 2]? = some (.int .i64 (kindOf i)) := by
  have hi : (List.range 17)[i]? = some i := List.getElem?_range h
  have hs : ∀ x, (shapeC x).length = 3 := fun x => rfl
  have key : ∀ j : Nat, j < 3 → shapesA[i * 3 + j]? = (shapeC i)[j]? := fun j hj => by
    have := flatMap_get hs hi hj
    unfold shapesA
    rw [List.getElem?_toArray]; exact this
  exact ⟨key 0 (by decide), key 1 (by decide), key 2 (by decide)⟩
theorem many_range {op : Int} (h : 0 ≤ manyOf op) : 1 ≤ op ∧ op ≤ 16 := by
  unfold manyOf at h
  split at h
  · omega
  · split at h
    · omega
    · split at h <;> omega
end Go.Vc

/- Numbers: signs of bitwise operations; products of 64 bits; which results are numbers of 64 bits. -/
namespace Go.Vc
open Go

/-- A number of 64 bits. -/
def fitI (x : Int) : Prop := -9223372036854775808 ≤ x ∧ x ≤ 9223372036854775807
instance (x : Int) : Decidable (fitI x) := by unfold fitI; exact inferInstance
end Go.Vc

/- What expressions come to: kinds and values. Plain Lean, no program. -/
namespace Go.Vc
open Go Go.RowKit

/-! ### One behind the other, till one has an error -/
section
variable {α : Type} {f : Ex → α × Int}
def runL (f : Ex → α × Int) : List Ex → List α × Int
  | [] => ([], 0)
  | k :: r => if (f k).2 ≠ 0 then ([], (f k).2) else if (runL f r).2 ≠ 0 then ([], (runL f r).2) else ((f k).1 :: (runL f r).1, 0)
theorem runL_snoc (l : List Ex) (k : Ex) (h : (runL f l).2 = 0) : runL f (l ++ [k]) = if (f k).2 ≠ 0 then ([], (f k).2) else ((runL f l).1 ++ [(f k).1], 0) := by
  induction l with
  | nil => simp [runL]
  | cons x r ih =>
    unfold runL at h
    split at h
    · rename_i hx; exact absurd h hx
    · rename_i hx
      split at h
      · rename_i hr; exact absurd h hr
      · rename_i hr
        have := ih (by omega)
        rw [List.cons_append, runL, if_neg hx, this, runL, if_neg hx, if_neg hr]
        split
        · rename_i hk; simp
        · simp
theorem runL_take {l : List Ex} {j : Nat} {k : Ex} (hk : l[j]? = some k) (h : (runL f (l.take j)).2 = 0) : runL f (l.take (j + 1)) = if (f k).2 ≠ 0 then ([], (f k).2) else ((runL f (l.take j)).1 ++ [(f k).1], 0) := by
  have : l.take (j + 1) = l.take j ++ [k] := by rw [List.take_add_one, hk]; rfl
  rw [this, runL_snoc _ _ h]
theorem runL_err (a b : List Ex) (h : (runL f a).2 ≠ 0) : runL f (a ++ b) = ([], (runL f a).2) := by
  induction a with
  | nil => exact absurd rfl h
  | cons x r ih =>
    rw [List.cons_append]
    unfold runL at h ⊢
    split
    · rfl
    · rename_i hx
      rw [if_neg hx] at h
      split at h
      · rename_i hr
        rw [ih hr]; simp [hr]
      · exact absurd rfl h
theorem runL_stop {l : List Ex} {j : Nat} {k : Ex} (hk : l[j]? = some k) (h : (runL f (l.take j)).2 = 0) (he : (f k).2 ≠ 0) : runL f l = ([], (f k).2) := by
  have h1 := runL_take (f := f) hk h
  rw [if_pos he] at h1
  have h2 := runL_err (f := f) (l.take (j + 1)) (l.drop (j + 1)) (by rw [h1]; exact he)
  rw [List.take_append_drop, h1] at h2
  exact h2
theorem runL_len {l : List Ex} (h : (runL f l).2 = 0) : (runL f l).1.length = l.length := by
  induction l with
  | nil => rfl
  | cons x r ih =>
    unfold runL at h ⊢
    split at h
    · rename_i hx; exact absurd h hx
    · rename_i hx
      split at h
      · rename_i hr; exact absurd h hr
      · rename_i hr
        rw [if_neg hx, if_neg hr]
        simp [ih (by omega)]
theorem runL_get {l : List Ex} (h : (runL f l).2 = 0) {i : Nat} {k : Ex} (hk : l[i]? = some k) : (f k).2 = 0 ∧ (runL f l).1[i]? = some (f k).1 := by
  induction l generalizing i with
  | nil => simp at hk
  | cons x r ih =>
    unfold runL at h ⊢
    split at h
    · rename_i hx; exact absurd h hx
    · rename_i hx
      split at h
      · rename_i hr; exact absurd h hr
      · rename_i hr
        rw [if_neg hx, if_neg hr]
        cases i with
        | zero => cases hk; exact ⟨by omega, rfl⟩
        | succ i => simpa using ih (by omega) (i := i) (by simpa using hk)
end

/-! ### Kinds -/
def alikeB (a b : Int) : Bool := decide (a = b) || decide (a = 0) || decide (b = 0)
def kindN (cols : List Col) (op : Int) (name : ByteArray) (v : Val) (l : List Int) : Int × Int :=
  if wantOf op ≠ 0 ∧ ¬ (∀ g ∈ l, alikeB g (wantOf op) = true) then (0, 121)
  else if op = 1 then (if findC cols name < 0 then (0, 120) else (((cols[(findC cols name).toNat]?).map Col.kind).getD 0, 0))
  else if op = 2 then (v.k, 0)
  else if (op = 9 ∨ op = 10 ∨ op = 11) ∧ alikeB (l.getD 0 0) (l.getD 1 0) = false then (0, 121)
  else (kindOf op, 0)
mutual
def kindF (cols : List Col) : Ex → Int × Int
  | .mk op name v ks => if (kindsF cols ks).2 ≠ 0 then (0, (kindsF cols ks).2) else kindN cols op name v (kindsF cols ks).1
def kindsF (cols : List Col) : List Ex → List Int × Int
  | [] => ([], 0)
  | k :: r => if (kindF cols k).2 ≠ 0 then ([], (kindF cols k).2) else if (kindsF cols r).2 ≠ 0 then ([], (kindsF cols r).2) else ((kindF cols k).1 :: (kindsF cols r).1, 0)
end
theorem kindsF_eq (cols : List Col) (l : List Ex) : kindsF cols l = runL (kindF cols) l := by
  induction l with
  | nil => simp [kindsF, runL]
  | cons k r ih => rw [kindsF, runL, ih]
theorem kindF_eq (cols : List Col) (x : Ex) : kindF cols x = if (runL (kindF cols) x.kids).2 ≠ 0 then (0, (runL (kindF cols) x.kids).2) else kindN cols x.op x.name x.v (runL (kindF cols) x.kids).1 := by
  cases x; rw [kindF, kindsF_eq]; rfl

/-! ### Values -/
def truthV (b : Bool) : Val := ⟨2, if b then 1 else 0, ⟨#[]⟩⟩
def thirdI (v : Val) : Int := if v.k = 0 then 2 else v.n
def answerV (n : Int) : Val := if n = 2 then nullV else truthV (decide (n = 1))
def andI (i j : Int) : Int := if i = 0 ∨ j = 0 then 0 else if i = 2 ∨ j = 2 then 2 else 1
def orJ (i j : Int) : Int := if i = 1 ∨ j = 1 then 1 else if i = 2 ∨ j = 2 then 2 else 0
def tabA (f : Int → Int → Int) : Array Value := ((List.range 9).map fun i => Value.int .i64 (f ((i / 3 : Nat) : Int) ((i % 3 : Nat) : Int))).toArray
theorem tabA_at (f : Int → Int → Int) {i j : Nat} (hi : i < 3) (hj : j < 3) : (tabA f)[i * 3 + j]? = some (.int .i64 (f i j)) := by
  unfold tabA
  rw [List.getElem?_toArray, List.getElem?_map, List.getElem?_range (by omega)]
  simp only [Option.map_some]
  rw [show (i * 3 + j) / 3 = i by omega, show (i * 3 + j) % 3 = j by omega]
def overF (x : Int) : Int × Int := if fitI x then (x, 0) else (0, 100)
def arithF (op a b : Int) : Int × Int :=
  if (op = 6 ∨ op = 7) ∧ b = 0 then (0, 101) else if op = 3 then overF (a + b) else if op = 4 then overF (a - b) else if op = 5 then overF (a * b) else if op = 6 then overF (a.tdiv b) else if op = 7 then (a.tmod b, 0) else (0, 0)
def pairF (op : Int) (a b : Val) : Val × Int :=
  if op = 12 then (answerV (andI (thirdI a) (thirdI b)), 0) else if op = 13 then (answerV (orJ (thirdI a) (thirdI b)), 0)
  else if a.k = 0 ∨ b.k = 0 then (nullV, 0)
  else if op = 9 then (truthV (decide (cmpV a b = 0)), 0) else if op = 10 then (truthV (decide (cmpV a b < 0)), 0) else if op = 11 then (truthV (decide (cmpV a b ≤ 0)), 0)
  else if (arithF op a.n b.n).2 ≠ 0 then (nullV, (arithF op a.n b.n).2) else (numV (arithF op a.n b.n).1, 0)
def singleF (op : Int) (v : Val) : Val × Int :=
  if op = 15 then (truthV (decide (v.k = 0)), 0) else if v.k = 0 then (v, 0) else if op = 14 then (truthV (decide (v.n = 0)), 0)
  else if op = 16 then (numV v.s.size, 0) else pairF 4 (numV 0) v
def valueN (cols : List Col) (row : List Val) (op : Int) (name : ByteArray) (v : Val) (l : List Val) : Val × Int :=
  if op = 1 then ((row[(findC cols name).toNat]?).getD nullV, 0) else if op = 2 then (v, 0) else if l.length = 1 then singleF op (l.getD 0 nullV) else pairF op (l.getD 0 nullV) (l.getD 1 nullV)
mutual
def valueF (cols : List Col) (row : List Val) : Ex → Val × Int
  | .mk op name v ks => if (valuesF cols row ks).2 ≠ 0 then (nullV, (valuesF cols row ks).2) else valueN cols row op name v (valuesF cols row ks).1
def valuesF (cols : List Col) (row : List Val) : List Ex → List Val × Int
  | [] => ([], 0)
  | k :: r => if (valueF cols row k).2 ≠ 0 then ([], (valueF cols row k).2) else if (valuesF cols row r).2 ≠ 0 then ([], (valuesF cols row r).2) else ((valueF cols row k).1 :: (valuesF cols row r).1, 0)
end
/-! ### Type and Eval -/
def typeF (cols : List Col) (x : Ex) : Int × Int := if rightC cols = false then (0, 50) else if formedB x = false then (0, 122) else kindF cols x
def evalF (cols : List Col) (row : List Val) (x : Ex) : Val × Int := if (typeF cols x).2 ≠ 0 then (nullV, (typeF cols x).2) else if fitsC cols row = false then (nullV, 2) else valueF cols row x

/-! ### Quotients -/
end Go.Vc

/- An expression that has a kind has a value of that kind, or null, or one of two errors. Plain Lean, no program. -/
namespace Go.Vc
open Go Go.RowKit

theorem self_node (x : Ex) : x ∈ nodesT x := by cases x; unfold nodesT; exact List.mem_cons_self
theorem nodesTs_mem : ∀ {l : List Ex} {i : Nat} {k y : Ex}, l[i]? = some k → y ∈ nodesT k → y ∈ nodesTs l
  | [], i, k, y, h, _ => by simp at h
  | x :: r, i, k, y, h, hy => by
    unfold nodesTs
    cases i with
    | zero => cases h; exact List.mem_append_left _ hy
    | succ i => exact List.mem_append_right _ (nodesTs_mem (i := i) (by simpa using h) hy)
theorem kid_node {x k y : Ex} {i : Nat} (h : x.kids[i]? = some k) (hy : y ∈ nodesT k) : y ∈ nodesT x := by
  cases x; unfold nodesT; exact List.mem_cons_of_mem _ (nodesTs_mem h hy)
theorem kid_depth {x k : Ex} {i : Nat} (h : x.kids[i]? = some k) : depthT k + 1 ≤ depthT x := by
  have := depthTs_get h
  obtain ⟨o, n, v, ks⟩ := x
  have e : depthT (.mk o n v ks) = 1 + depthTs ks := by rw [depthT]
  simp only [Ex.kids] at this
  omega

/-- A value of kind k (or null), or an error. -/
def GoodV (k : Int) (v : Val) : Prop := v.Ok ∧ fitI v.n ∧ (v.k = 0 ∨ v.k = k)
def Good (k : Int) (q : Val × Int) : Prop := (q.2 = 0 ∧ GoodV k q.1) ∨ ((q.2 = 100 ∨ q.2 = 101) ∧ q.1 = nullV)
theorem null_ok : nullV.Ok := .inl ⟨rfl, rfl, rfl⟩
theorem GoodV.null (k : Int) : GoodV k nullV := ⟨null_ok, by unfold fitI nullV; decide, .inl rfl⟩
theorem GoodV.truth (b : Bool) : GoodV 2 (truthV b) := by
  refine ⟨.inr (.inr (.inl ⟨rfl, ?_, rfl⟩)), ?_, .inr rfl⟩
  · cases b
    · exact .inl rfl
    · exact .inr rfl
  · cases b <;> (unfold fitI truthV; decide)
theorem GoodV.answer (n : Int) : GoodV 2 (answerV n) := by
  unfold answerV
  split
  · exact .null 2
  · exact .truth _
theorem GoodV.trio {v : Val} (h : GoodV 2 v) : 0 ≤ thirdI v ∧ thirdI v < 3 := by
  obtain ⟨ho, _, hk⟩ := h
  unfold thirdI
  unfold Val.Ok at ho
  split
  · omega
  · rcases ho with ho | ho | ho | ho <;> omega
theorem alike_want {g w : Int} (h : alikeB g w = true) (hw : w ≠ 0) : g = w ∨ g = 0 := by
  unfold alikeB at h
  simp only [Bool.or_eq_true, decide_eq_true_eq] at h
  omega
/-- The kinds and the values of the kids. -/
theorem kids_kinds {cols : List Col} {x : Ex} (h : (kindF cols x).2 = 0) : (runL (kindF cols) x.kids).2 = 0 ∧ kindF cols x = kindN cols x.op x.name x.v (runL (kindF cols) x.kids).1 := by
  rw [kindF_eq] at h ⊢
  split at h
  · rename_i hn; exact absurd h hn
  · rename_i hn
    exact ⟨by omega, by rw [if_neg hn]⟩
end Go.Vc

/- What the laws on expressions say of kinds and values. Plain Lean, no program. -/
namespace Go.Vc
open Go Go.RowKit

def mk1 (op : Int) (a : Ex) : Ex := .mk op ⟨#[]⟩ nullV [a]
def mk2 (op : Int) (a b : Ex) : Ex := .mk op ⟨#[]⟩ nullV [a, b]
def F2 (a b : Ex) : Prop := (∀ y ∈ nodesT a, NodeOk y) ∧ (∀ y ∈ nodesT b, NodeOk y) ∧ depthT a ≤ 39 ∧ depthT b ≤ 39 ∧ (nodesT a).length + (nodesT b).length ≤ 399
def F1 (a : Ex) : Prop := (∀ y ∈ nodesT a, NodeOk y) ∧ depthT a ≤ 39 ∧ (nodesT a).length ≤ 399
theorem F2.symm {a b : Ex} (h : F2 a b) : F2 b a := ⟨h.2.1, h.1, h.2.2.2.1, h.2.2.1, by have := h.2.2.2.2; omega⟩
section
variable {cols : List Col} {row : List Val} {op : Int} {a b x : Ex}
/-- An expression has a value over a row just if all is well; else it has an error, and no value. -/
def Well (cols : List Col) (row : List Val) (x : Ex) : Prop := rightC cols = true ∧ formedB x = true ∧ (kindF cols x).2 = 0 ∧ fitsL cols row = true ∧ (valueF cols row x).2 = 0
def FitX (x : Ex) : Prop := ∀ y ∈ nodesT x, fitI y.v.n
def FitR (row : List Val) : Prop := ∀ u ∈ row, fitI u.n
end

section
variable {cols : List Col} {row : List Val} {op : Int} {a b x : Ex} {name : ByteArray} {v : Val} {g h : Int}
theorem FitX.mk2 (ha : FitX a) (hb : FitX b) : FitX (mk2 op a b) := by
  intro y hy
  unfold Go.Vc.mk2 at hy
  rw [nodesT, nodesTs, nodesTs, nodesTs] at hy
  simp only [List.mem_cons, List.mem_append, List.not_mem_nil, or_false] at hy
  rcases hy with rfl | hy | hy
  · show fitI 0; unfold fitI; decide
  · exact ha y hy
  · exact hb y hy
theorem FitX.mk1 (ha : FitX a) : FitX (mk1 op a) := by
  intro y hy
  unfold Go.Vc.mk1 at hy
  rw [nodesT, nodesTs, nodesTs] at hy
  simp only [List.mem_cons, List.mem_append, List.not_mem_nil, or_false] at hy
  rcases hy with rfl | hy
  · show fitI 0; unfold fitI; decide
  · exact ha y hy

/-- Both sides are well. -/
def Sides (cols : List Col) (row : List Val) (a b : Ex) : Prop := rightC cols = true ∧ F2 a b ∧ (kindF cols a).2 = 0 ∧ (kindF cols b).2 = 0 ∧ fitsL cols row = true ∧ (valueF cols row a).2 = 0 ∧ (valueF cols row b).2 = 0
theorem Sides.symm (h : Sides cols row a b) : Sides cols row b a := ⟨h.1, h.2.1.symm, h.2.2.2.1, h.2.2.1, h.2.2.2.2.1, h.2.2.2.2.2.2, h.2.2.2.2.2.1⟩
end

/-! ### The laws -/
section
variable {cols : List Col} {row : List Val} {a b x : Ex}
end
end Go.Vc

/- Answers that a condition may have: zones, sides, sets. Plain Lean, no program. -/
namespace Go.Vc
open Go Go.RowKit

structure Zn where
  nulls : Int
  lo : Val
  hi : Val
def Zn.cs (z : Zn) : List Value := [.int .i64 z.nulls, .int .i64 z.lo.k, .int .i64 z.lo.n, .string z.lo.s, .int .i64 z.hi.k, .int .i64 z.hi.n, .string z.hi.s]
theorem Zn.cs_length (z : Zn) : z.cs.length = 7 := rfl

/-! ### Sets of answers -/
structure S3 where
  no : Bool
  yes : Bool
  null : Bool
deriving DecidableEq
def S3.i (s : S3) : Int := (if s.no then 1 else 0) + (if s.yes then 2 else 0) + (if s.null then 4 else 0)
def S3.not (s : S3) : S3 := ⟨s.yes, s.no, s.null⟩
def S3.any (s : S3) : Bool := s.no || s.yes || s.null
def S3.and (s t : S3) : S3 := ⟨s.no && t.any || t.no && s.any, s.yes && t.yes, s.null && (t.yes || t.null) || t.null && s.yes⟩
def S3.or (s t : S3) : S3 := (s.not.and t.not).not
def S3.all : S3 := ⟨true, true, true⟩
def S3.Le (s t : S3) : Prop := (s.no = true → t.no = true) ∧ (s.yes = true → t.yes = true) ∧ (s.null = true → t.null = true)
instance (s t : S3) : Decidable (S3.Le s t) := by unfold S3.Le; exact inferInstance
theorem S3.le_rfl (s : S3) : S3.Le s s := ⟨id, id, id⟩
theorem S3.le_not {s t : S3} (h : S3.Le s t) : S3.Le s.not t.not := ⟨h.2.1, h.1, h.2.2⟩
theorem S3.le_and {s t u v : S3} (h : S3.Le s t) (k : S3.Le u v) : S3.Le (s.and u) (t.and v) := by
  obtain ⟨h1, h2, h3⟩ := h
  obtain ⟨k1, k2, k3⟩ := k
  unfold S3.Le
  simp only [S3.and, S3.any, Bool.and_eq_true, Bool.or_eq_true]
  exact ⟨fun hh => hh.imp (fun ⟨a, b⟩ => ⟨h1 a, b.imp (Or.imp k1 k2) k3⟩) (fun ⟨a, b⟩ => ⟨k1 a, b.imp (Or.imp h1 h2) h3⟩), fun ⟨a, b⟩ => ⟨h2 a, k2 b⟩,
    fun hh => hh.imp (fun ⟨a, b⟩ => ⟨h3 a, b.imp k2 k3⟩) (fun ⟨a, b⟩ => ⟨k3 a, h2 b⟩)⟩
theorem S3.le_or {s t u v : S3} (h : S3.Le s t) (k : S3.Le u v) : S3.Le (s.or u) (t.or v) := S3.le_not (S3.le_and (S3.le_not h) (S3.le_not k))

/-! ### Zones -/
def zoneOk (c : Col) (z : Zn) (n : Int) : Bool := decide (z.lo.Ok ∧ z.hi.Ok ∧ 0 ≤ z.nulls ∧ z.nulls ≤ n ∧ (0 < z.nulls → c.null = true)) && (if z.nulls = n then decide (z.lo = nullV ∧ z.hi = nullV) else decide (z.lo.k = c.kind ∧ z.hi.k = c.kind ∧ cmpV z.lo z.hi ≤ 0))
def zonesL : List Col → List Zn → Int → Bool
  | [], [], _ => true
  | c :: cs, z :: zs, n => zoneOk c z n && zonesL cs zs n
  | _, _, _ => false
theorem zonesL_length : ∀ {a : List Col} {b : List Zn} {n : Int}, zonesL a b n = true → a.length = b.length
  | [], [], _, _ => rfl
  | _ :: _, _ :: _, _, h => by
    unfold zonesL at h
    rw [Bool.and_eq_true] at h
    simp [zonesL_length h.2]
  | [], _ :: _, _, h => by cases h
  | _ :: _, [], _, h => by cases h
theorem zonesL_get {a : List Col} {b : List Zn} {n : Int} (h : zonesL a b n = true) {k : Nat} {c : Col} {z : Zn} (hc : a[k]? = some c) (hz : b[k]? = some z) : zoneOk c z n = true := by
  induction a generalizing b k with
  | nil => simp at hc
  | cons x a ih =>
    cases b with
    | nil => simp at hz
    | cons y b =>
      unfold zonesL at h
      rw [Bool.and_eq_true] at h
      cases k with
      | zero => cases hc; cases hz; exact h.1
      | succ k => exact ih h.2 (by simpa using hc) (by simpa using hz)
theorem zonesL_drop {a : List Col} {b : List Zn} {n : Int} {k : Nat} {c : Col} {z : Zn} (hc : a[k]? = some c) (hz : b[k]? = some z) : zonesL (a.drop k) (b.drop k) n = (zoneOk c z n && zonesL (a.drop (k + 1)) (b.drop (k + 1)) n) := by
  obtain ⟨h1, rfl⟩ := List.getElem?_eq_some_iff.1 hc
  obtain ⟨h2, rfl⟩ := List.getElem?_eq_some_iff.1 hz
  rw [List.drop_eq_getElem_cons h1, List.drop_eq_getElem_cons h2]
  rfl
def zonesOk (cols : List Col) (zones : List Zn) (n : Int) : Bool := decide (zones.length = cols.length ∧ 0 ≤ n ∧ n ≤ 1024) && zonesL cols zones n

/-- What a side of a comparison may be. -/
structure Sd where
  null : Bool
  full : Bool
  lo : Val
  hi : Val
def sideF (cols : List Col) (zones : List Zn) (n : Int) (x : Ex) : Option Sd :=
  if x.op = 2 then some ⟨decide (x.v.k = 0), decide (x.v.k ≠ 0), x.v, x.v⟩
  else if x.op = 1 then (zones[(findC cols x.name).toNat]?).map fun z => ⟨decide (0 < z.nulls), decide (z.nulls < n), z.lo, z.hi⟩
  else none
def cmpS3 (op : Int) (a b : Sd) : S3 :=
  if (!a.full || !b.full) = true then ⟨false, false, a.null || b.null⟩
  else if op = 9 then ⟨decide (cmpV a.lo b.hi ≠ 0 ∨ cmpV a.hi b.lo ≠ 0), decide (cmpV a.lo b.hi ≤ 0 ∧ 0 ≤ cmpV a.hi b.lo), a.null || b.null⟩
  else if op = 10 then ⟨decide (0 ≤ cmpV a.hi b.lo), decide (cmpV a.lo b.hi < 0), a.null || b.null⟩
  else ⟨decide (0 < cmpV a.hi b.lo), decide (cmpV a.lo b.hi ≤ 0), a.null || b.null⟩
def ownS (v : Val) : S3 := ⟨decide (v.k ≠ 0 ∧ v.n ≠ 1), decide (v.k ≠ 0 ∧ v.n = 1), decide (v.k = 0)⟩
def colS (z : Zn) (n : Int) : S3 := ⟨decide (z.nulls < n ∧ z.lo.n = 0), decide (z.nulls < n ∧ z.hi.n = 1), decide (0 < z.nulls)⟩
def nodeS (cols : List Col) (zones : List Zn) (n : Int) (op : Int) (name : ByteArray) (v : Val) (ks : List Ex) (l : List S3) : S3 :=
  if op = 2 then ownS v
  else if op = 1 then (match zones[(findC cols name).toNat]? with | some z => colS z n | none => .all)
  else if op = 14 then (l.getD 0 .all).not
  else if op = 12 then (l.getD 0 .all).and (l.getD 1 .all)
  else if op = 13 then (l.getD 0 .all).or (l.getD 1 .all)
  else if op = 15 then (match (ks[0]?).bind (sideF cols zones n) with | some a => ⟨a.full, a.null, false⟩ | none => .all)
  else if op = 9 ∨ op = 10 ∨ op = 11 then (match (ks[0]?).bind (sideF cols zones n), (ks[1]?).bind (sideF cols zones n) with | some a, some b => cmpS3 op a b | _, _ => .all)
  else .all
mutual
def ansF (cols : List Col) (zones : List Zn) (n : Int) : Ex → S3
  | .mk op name v ks => nodeS cols zones n op name v ks (anssF cols zones n ks)
def anssF (cols : List Col) (zones : List Zn) (n : Int) : List Ex → List S3
  | [] => []
  | k :: r => ansF cols zones n k :: anssF cols zones n r
end
theorem anssF_eq (cols : List Col) (zones : List Zn) (n : Int) (l : List Ex) : anssF cols zones n l = l.map (ansF cols zones n) := by
  induction l with
  | nil => simp [anssF]
  | cons k r ih => rw [anssF, ih]; rfl
theorem ansF_eq (cols : List Col) (zones : List Zn) (n : Int) (x : Ex) : ansF cols zones n x = nodeS cols zones n x.op x.name x.v x.kids (x.kids.map (ansF cols zones n)) := by
  cases x; rw [ansF, anssF_eq]; rfl
mutual
def bareF : Ex → Bool
  | .mk op _ _ ks => !(decide (3 ≤ op ∧ op ≤ 8)) && baresF ks
def baresF : List Ex → Bool
  | [] => true
  | k :: r => bareF k && baresF r
end
/-- The answers, and whether a row may have to be looked at. -/
def answersF (cols : List Col) (zones : List Zn) (n : Int) (x : Ex) : Int × Int :=
  if (typeF cols x).2 ≠ 0 then (0, (typeF cols x).2) else if (typeF cols x).1 ≠ 2 ∧ (typeF cols x).1 ≠ 0 then (0, 121) else if zonesOk cols zones n = false then (0, 2) else if n = 0 then (0, 0) else ((ansF cols zones n x).i, 0)
def mayF (cols : List Col) (zones : List Zn) (n : Int) (x : Ex) : Bool × Int :=
  if (answersF cols zones n x).2 ≠ 0 then (false, (answersF cols zones n x).2) else (decide (0 < n) && (!bareF x || decide ((answersF cols zones n x).1 % 4 / 2 = 1)), 0)

/-! ### Conditions without errors -/
section
variable {cols : List Col} {row : List Val} {zones : List Zn} {n : Int} {x : Ex}
/-! ### Each row's answer is one of them -/
/-- A zone holds a value. -/
def Cov (z : Zn) (n : Int) (u : Val) : Prop := (u.k = 0 → 0 < z.nulls) ∧ (u.k ≠ 0 → z.nulls < n ∧ cmpV z.lo u ≤ 0 ∧ cmpV u z.hi ≤ 0)
/-- A side holds a value. -/
def InSd (a : Sd) (u : Val) : Prop := (u.k = 0 → a.null = true) ∧ (u.k ≠ 0 → a.full = true ∧ cmpV a.lo u ≤ 0 ∧ cmpV u a.hi ≤ 0)
theorem cmpV_self (a : Val) : cmpV a a = 0 := cmpV_zero.2 rfl
theorem cmpV_tr {a b c : Val} (h : cmpV a b ≤ 0) (k : cmpV b c ≤ 0) : cmpV a c ≤ 0 := cmpV_cmp.trans a b c h k
theorem cmpV_lt_tr {a b c : Val} (h : cmpV a b ≤ 0) (k : cmpV b c < 0) : cmpV a c < 0 := by
  have h1 := cmpV_tr h (Int.le_of_lt k)
  rcases Int.lt_or_eq_of_le h1 with h2 | h2
  · exact h2
  · have e := cmpV_zero.1 h2
    subst e
    have := cmpV_cmp.anti a b
    omega
theorem cmpV_tr_lt {a b c : Val} (h : cmpV a b < 0) (k : cmpV b c ≤ 0) : cmpV a c < 0 := by
  have h1 := cmpV_tr (Int.le_of_lt h) k
  rcases Int.lt_or_eq_of_le h1 with h2 | h2
  · exact h2
  · have e := cmpV_zero.1 h2
    subst e
    have := cmpV_cmp.anti a b
    omega
end
end Go.Vc

/- Each row's answer is one of those that a condition may have; more rows, more answers. Plain Lean, no program. -/
namespace Go.Vc
open Go Go.RowKit

theorem three_truths {v : Val} (h : GoodV 2 v) : v = nullV ∨ v = truthV false ∨ v = truthV true := by
  obtain ⟨k, n, s⟩ := v
  obtain ⟨h1, _, h2⟩ := h
  simp only [Val.Ok] at h1 h2
  rcases h1 with ⟨rfl, rfl, rfl⟩ | ⟨h, _⟩ | ⟨rfl, rfl | rfl, rfl⟩ | ⟨h, _⟩
  · exact .inl rfl
  · omega
  · exact .inr (.inl rfl)
  · exact .inr (.inr rfl)
  · omega
section
variable {cols : List Col} {row : List Val} {zones zones' : List Zn} {n n' : Int}
/-- A node that names a column. -/
theorem col_node {x : Ex} (h1 : x.op = 1) (ho : NodeOk x) (hk : (kindF cols x).2 = 0) : ∃ c, cols[(findC cols x.name).toNat]? = some c ∧ kindF cols x = (c.kind, 0) := by
  obtain ⟨_, hk2⟩ := kids_kinds hk
  rw [hk2] at hk ⊢
  unfold kindN at hk ⊢
  have hw : wantOf x.op = 0 := by rw [h1]; rfl
  rw [hw, if_neg (by simp), if_pos h1] at hk ⊢
  split at hk
  · exact absurd hk (by decide)
  · rename_i hge
    rw [if_neg hge]
    obtain ⟨c, hc, _⟩ := findC_get (l := cols) (s := x.name) (by omega)
    exact ⟨c, hc, by rw [hc]; rfl⟩
theorem zone_get (hz : zonesL cols zones n = true) {i : Nat} {c : Col} (hc : cols[i]? = some c) : ∃ z, zones[i]? = some z ∧ zoneOk c z n = true := by
  have hl := zonesL_length hz
  have hi := (List.getElem?_eq_some_iff.1 hc).1
  have hu : zones[i]? = some (zones[i]'(by omega)) := List.getElem?_eq_getElem _
  exact ⟨_, hu, zonesL_get hz hc hu⟩
theorem zoneOk_full {c : Col} {z : Zn} (h : zoneOk c z n = true) (hf : z.nulls < n) : z.lo.Ok ∧ z.hi.Ok ∧ z.lo.k = c.kind ∧ z.hi.k = c.kind ∧ cmpV z.lo z.hi ≤ 0 := by
  unfold zoneOk at h
  rw [Bool.and_eq_true, decide_eq_true_eq, if_neg (by omega), decide_eq_true_eq] at h
  exact ⟨h.1.1, h.1.2.1, h.2⟩
theorem kid_kind {x : Ex} (ho : x.op = 12 ∨ x.op = 13 ∨ x.op = 14) (hk : (kindF cols x).2 = 0) {i : Nat} {k : Ex} (hi : x.kids[i]? = some k) : (kindF cols k).1 = 2 ∨ (kindF cols k).1 = 0 := by
  obtain ⟨hk1, hk2⟩ := kids_kinds hk
  have hg := (runL_get hk1 hi).2
  rw [hk2] at hk
  unfold kindN at hk
  have hw : wantOf x.op = 2 := by unfold wantOf; rw [if_neg (by omega), if_pos (by omega)]
  rw [hw] at hk
  split at hk
  · exact absurd hk (by decide)
  · rename_i hn
    have := Decidable.not_not.1 fun hne => hn ⟨by decide, hne⟩
    exact alike_want (this _ (List.mem_of_getElem? hg)) (by decide)

end
end Go.Vc

/- Zones of rows; more rows, more answers. Plain Lean, no program. -/
namespace Go.Vc
open Go Go.RowKit

/-! ### The zone of values -/
def nullsN (l : List Val) : Nat := (l.filter fun u => decide (u.k = 0)).length
def zstep (s : Zn × Bool) (v : Val) : Zn × Bool :=
  if v.k = 0 then (⟨s.1.nulls + 1, s.1.lo, s.1.hi⟩, s.2)
  else (⟨s.1.nulls, if s.2 = true ∨ cmpV v s.1.lo < 0 then v else s.1.lo, if s.2 = true ∨ 0 < cmpV v s.1.hi then v else s.1.hi⟩, false)
def zoneS (l : List Val) : Zn × Bool := l.foldl zstep (⟨0, nullV, nullV⟩, true)
def zoneF (l : List Val) : Zn := (zoneS l).1
theorem zoneS_snoc (l : List Val) (v : Val) : zoneS (l ++ [v]) = zstep (zoneS l) v := by unfold zoneS; rw [List.foldl_append]; rfl
theorem zoneS_take {l : List Val} {j : Nat} {v : Val} (h : l[j]? = some v) : zoneS (l.take (j + 1)) = zstep (zoneS (l.take j)) v := by
  rw [List.take_add_one, h]; exact zoneS_snoc _ _
theorem nullsN_le (l : List Val) : nullsN l ≤ l.length := List.length_filter_le _ _
theorem nullsN_append (a b : List Val) : nullsN (a ++ b) = nullsN a + nullsN b := by unfold nullsN; rw [List.filter_append, List.length_append]
theorem nullsN_all {l : List Val} : nullsN l = l.length ↔ ∀ u ∈ l, u.k = 0 := by
  unfold nullsN
  rw [List.length_filter_eq_length_iff]
  simp
structure ZSpec (l : List Val) (z : Zn) (first : Bool) : Prop where
  nulls : z.nulls = (nullsN l : Int)
  isFirst : first = true ↔ ∀ u ∈ l, u.k = 0
  none : first = true → z.lo = nullV ∧ z.hi = nullV
  some : first = false → (z.lo ∈ l ∧ z.lo.k ≠ 0) ∧ (z.hi ∈ l ∧ z.hi.k ≠ 0) ∧ ∀ u ∈ l, u.k ≠ 0 → cmpV z.lo u ≤ 0 ∧ cmpV u z.hi ≤ 0
theorem zstep_spec {l : List Val} {s : Zn × Bool} (h : ZSpec l s.1 s.2) (v : Val) : ZSpec (l ++ [v]) (zstep s v).1 (zstep s v).2 := by
  obtain ⟨h1, h2, h3, h4⟩ := h
  unfold zstep
  by_cases hv : v.k = 0
  · rw [if_pos hv]
    refine ⟨?_, ?_, h3, fun hf => ?_⟩
    · rw [nullsN_append, h1]
      have : nullsN [v] = 1 := by unfold nullsN; simp [hv]
      rw [this]; simp
    · rw [h2]
      simp only [List.mem_append, List.mem_singleton]
      constructor
      · rintro h u (hu | rfl)
        · exact h u hu
        · exact hv
      · exact fun h u hu => h u (.inl hu)
    · obtain ⟨a, b, c⟩ := h4 hf
      refine ⟨⟨List.mem_append_left _ a.1, a.2⟩, ⟨List.mem_append_left _ b.1, b.2⟩, fun u hu hk => ?_⟩
      rcases List.mem_append.1 hu with hu | hu
      · exact c u hu hk
      · rw [List.mem_singleton] at hu; subst hu; exact absurd hv hk
  · rw [if_neg hv]
    refine ⟨?_, ?_, fun h => (by cases h), fun _ => ?_⟩
    · show s.1.nulls = _
      rw [nullsN_append, h1]
      have : nullsN [v] = 0 := by unfold nullsN; simp [hv]
      rw [this]; simp
    · constructor
      · intro h; cases h
      · intro h; exact absurd (h v (by simp)) hv
    · cases hs : s.2 with
      | true =>
        have hall := h2.1 hs
        simp only [true_or, if_true]
        refine ⟨⟨by simp, hv⟩, ⟨by simp, hv⟩, fun u hu hk => ?_⟩
        rcases List.mem_append.1 hu with hu | hu
        · exact absurd (hall u hu) hk
        · rw [List.mem_singleton] at hu; subst hu
          exact ⟨Int.le_of_eq (cmpV_self _), Int.le_of_eq (cmpV_self _)⟩
      | false =>
        obtain ⟨a, b, c⟩ := h4 hs
        simp only [Bool.false_eq_true, false_or]
        refine ⟨?_, ?_, fun u hu hk => ⟨?_, ?_⟩⟩
        · split
          · exact ⟨by simp, hv⟩
          · exact ⟨List.mem_append_left _ a.1, a.2⟩
        · split
          · exact ⟨by simp, hv⟩
          · exact ⟨List.mem_append_left _ b.1, b.2⟩
        · have an := cmpV_cmp.anti v s.1.lo
          rcases List.mem_append.1 hu with hu | hu
          · have := (c u hu hk).1
            split
            · rename_i hlt; exact cmpV_tr (Int.le_of_lt hlt) this
            · exact this
          · rw [List.mem_singleton] at hu; subst hu
            split
            · exact Int.le_of_eq (cmpV_self _)
            · omega
        · have an := cmpV_cmp.anti v s.1.hi
          rcases List.mem_append.1 hu with hu | hu
          · have := (c u hu hk).2
            split
            · rename_i hlt; exact cmpV_tr this (by omega)
            · exact this
          · rw [List.mem_singleton] at hu; subst hu
            split
            · exact Int.le_of_eq (cmpV_self _)
            · omega
theorem zoneS_spec (l : List Val) : ZSpec l (zoneS l).1 (zoneS l).2 := by
  have key : ∀ (r l : List Val) (s : Zn × Bool), ZSpec l s.1 s.2 → ZSpec (l ++ r) (r.foldl zstep s).1 (r.foldl zstep s).2 := by
    intro r
    induction r with
    | nil => intro l s h; simpa using h
    | cons v r ih =>
      intro l s h
      have := ih (l ++ [v]) _ (zstep_spec h v)
      simpa using this
  have h0 : ZSpec [] (⟨0, nullV, nullV⟩ : Zn) true := ⟨rfl, by simp, fun _ => ⟨rfl, rfl⟩, fun h => by cases h⟩
  have := key l [] (⟨0, nullV, nullV⟩, true) h0
  simpa [zoneS] using this

/-! ### The zones of rows that fit -/
def colOf (rows : List (List Val)) (i : Nat) : List Val := rows.map fun r => (r[i]?).getD nullV
def zonesOf (cols : List Col) (rows : List (List Val)) : List Zn := (List.range cols.length).map fun i => zoneF (colOf rows i)
def FitRows (cols : List Col) (rows : List (List Val)) : Prop := ∀ r ∈ rows, fitsL cols r = true ∧ FitR r
section
variable {cols : List Col} {rows more : List (List Val)}
theorem zonesOf_get {i : Nat} {c : Col} (hc : cols[i]? = some c) : (zonesOf cols rows)[i]? = some (zoneF (colOf rows i)) := by
  have hi := (List.getElem?_eq_some_iff.1 hc).1
  unfold zonesOf
  rw [List.getElem?_map, List.getElem?_range hi]; rfl
theorem fits_at (h : FitRows cols rows) {i : Nat} {c : Col} (hc : cols[i]? = some c) {r : List Val} (hr : r ∈ rows) : ∃ u, r[i]? = some u ∧ u ∈ colOf rows i ∧ valFits c u = true ∧ fitI u.n := by
  obtain ⟨hf, hfr⟩ := h r hr
  have hl := fitsL_length hf
  have hi := (List.getElem?_eq_some_iff.1 hc).1
  have hu : r[i]? = some (r[i]'(by omega)) := List.getElem?_eq_getElem _
  generalize r[i]'(by omega) = u at hu
  exact ⟨u, hu, List.mem_map.2 ⟨r, hr, by rw [hu]; rfl⟩, fitsL_get hf hc hu, hfr u (List.mem_of_getElem? hu)⟩
theorem colOf_fit (h : FitRows cols rows) {i : Nat} {c : Col} (hc : cols[i]? = some c) {u : Val} (hu : u ∈ colOf rows i) : u.Ok ∧ (u.k = c.kind ∨ (c.null = true ∧ u.k = 0)) ∧ fitI u.n := by
  obtain ⟨r, hr, rfl⟩ := List.mem_map.1 hu
  obtain ⟨u, h1, _, h3, h4⟩ := fits_at h hc hr
  rw [h1]
  unfold valFits at h3
  simp only [Bool.and_eq_true, Bool.or_eq_true, decide_eq_true_eq] at h3
  exact ⟨of_decide_eq_true h3.1, h3.2, h4⟩
/-- A column's kinds are those of values. -/
theorem right_kind (hr : rightC cols = true) {i : Nat} {c : Col} (hc : cols[i]? = some c) : 1 ≤ c.kind ∧ c.kind ≤ 3 := by
  unfold rightC at hr
  rw [Bool.and_eq_true] at hr
  have key : ∀ (l : List Col) (met : List ByteArray), colsOk met l = true → ∀ c ∈ l, 1 ≤ c.kind ∧ c.kind ≤ 3 := by
    intro l
    induction l with
    | nil => intro _ _ c hc; cases hc
    | cons x l ih =>
      intro met h c hc
      unfold colsOk at h
      rw [Bool.and_eq_true] at h
      rcases List.mem_cons.1 hc with rfl | hc
      · have := h.1
        unfold colOk at this
        simp only [Bool.and_eq_true, decide_eq_true_eq] at this
        exact this.2
      · exact ih _ h.2 c hc
  exact key cols [] hr.2 c (List.mem_of_getElem? hc)
/-- A zone that bounds values of a column that fit. -/
structure ZFit (c : Col) (l : List Val) (z : Zn) : Prop where
  nulls : z.nulls = (nullsN l : Int)
  none : (∀ u ∈ l, u.k = 0) → z.lo = nullV ∧ z.hi = nullV
  some : ¬ (∀ u ∈ l, u.k = 0) → (z.lo ∈ l ∧ z.lo.k ≠ 0) ∧ (z.hi ∈ l ∧ z.hi.k ≠ 0) ∧ ∀ u ∈ l, u.k ≠ 0 → cmpV z.lo u ≤ 0 ∧ cmpV u z.hi ≤ 0
theorem zoneF_fit (c : Col) (l : List Val) : ZFit c l (zoneF l) := by
  obtain ⟨h1, h2, h3, h4⟩ := zoneS_spec l
  refine ⟨h1, fun h => h3 (h2.2 h), fun h => h4 ?_⟩
  cases hs : (zoneS l).2 with
  | true => exact absurd (h2.1 hs) h
  | false => rfl
def FitC (c : Col) (l : List Val) : Prop := ∀ u ∈ l, u.Ok ∧ (u.k = c.kind ∨ (c.null = true ∧ u.k = 0)) ∧ fitI u.n
theorem ZFit.ok {c : Col} {l : List Val} {z : Zn} (hck : c.kind ≠ 0) (h : ZFit c l z) (hf : FitC c l) : zoneOk c z (l.length : Int) = true := by
  obtain ⟨h1, h2, h3⟩ := h
  have hle := nullsN_le l
  have hnull : 0 < z.nulls → c.null = true := by
    intro hpos
    obtain ⟨u, hu⟩ := List.exists_mem_of_length_pos (show 0 < (l.filter fun u => decide (u.k = 0)).length by rw [h1] at hpos; unfold nullsN at hpos; omega)
    obtain ⟨hu1, hu2⟩ := List.mem_filter.1 hu
    have hk : u.k = 0 := by simpa using hu2
    rcases (hf u hu1).2.1 with h | h
    · omega
    · exact h.1
  unfold zoneOk
  rw [Bool.and_eq_true, decide_eq_true_eq]
  by_cases hall : ∀ u ∈ l, u.k = 0
  · obtain ⟨e1, e2⟩ := h2 hall
    have := nullsN_all.2 hall
    rw [e1, e2, if_pos (by omega)]
    exact ⟨⟨null_ok, null_ok, by omega, by omega, hnull⟩, by decide⟩
  · obtain ⟨⟨a1, a2⟩, ⟨b1, b2⟩, hb⟩ := h3 hall
    have hne : nullsN l ≠ l.length := fun e => hall (nullsN_all.1 e)
    rw [if_neg (by omega), decide_eq_true_eq]
    refine ⟨⟨(hf _ a1).1, (hf _ b1).1, by omega, by omega, hnull⟩, ?_, ?_, (hb _ b1 b2).1⟩
    · rcases (hf _ a1).2.1 with h | h
      · exact h
      · exact absurd h.2 a2
    · rcases (hf _ b1).2.1 with h | h
      · exact h
      · exact absurd h.2 b2
end

/-! ### More rows -/
def widerZ (a b : Zn) : Zn :=
  if a.lo.k = 0 then ⟨a.nulls + b.nulls, b.lo, b.hi⟩
  else if b.lo.k ≠ 0 then ⟨a.nulls + b.nulls, (zoneF [a.lo, a.hi, b.lo, b.hi]).lo, (zoneF [a.lo, a.hi, b.lo, b.hi]).hi⟩
  else ⟨a.nulls + b.nulls, a.lo, a.hi⟩
theorem ZFit.null_iff {c : Col} {l : List Val} {z : Zn} (h : ZFit c l z) : z.lo.k = 0 ↔ ∀ u ∈ l, u.k = 0 := by
  constructor
  · intro hk
    refine Decidable.byContradiction fun hall => ?_
    exact (h.some hall).1.2 hk
  · intro hall
    rw [(h.none hall).1]; rfl
theorem wider_fit {c : Col} {A B : List Val} {a b : Zn} (ha : ZFit c A a) (hb : ZFit c B b) : ZFit c (A ++ B) (widerZ a b) := by
  have hn : a.nulls + b.nulls = (nullsN (A ++ B) : Int) := by rw [ha.nulls, hb.nulls, nullsN_append]; omega
  unfold widerZ
  by_cases h1 : a.lo.k = 0
  · have hA := ha.null_iff.1 h1
    rw [if_pos h1]
    refine ⟨hn, fun h => hb.none fun u hu => h u (List.mem_append_right _ hu), fun h => ?_⟩
    have hB : ¬ ∀ u ∈ B, u.k = 0 := fun hB => h fun u hu => (List.mem_append.1 hu).elim (hA u) (hB u)
    obtain ⟨x, y, k⟩ := hb.some hB
    refine ⟨⟨List.mem_append_right _ x.1, x.2⟩, ⟨List.mem_append_right _ y.1, y.2⟩, fun u hu hk => ?_⟩
    rcases List.mem_append.1 hu with hu | hu
    · exact absurd (hA u hu) hk
    · exact k u hu hk
  · have hA : ¬ ∀ u ∈ A, u.k = 0 := fun h => h1 (ha.null_iff.2 h)
    rw [if_neg h1]
    obtain ⟨x, y, k⟩ := ha.some hA
    have hAB : ¬ ∀ u ∈ A ++ B, u.k = 0 := fun h => hA fun u hu => h u (List.mem_append_left _ hu)
    by_cases h2 : b.lo.k ≠ 0
    · rw [if_pos h2]
      have hB : ¬ ∀ u ∈ B, u.k = 0 := fun h => h2 (hb.null_iff.2 h)
      obtain ⟨x2, y2, k2⟩ := hb.some hB
      have hz := zoneF_fit c [a.lo, a.hi, b.lo, b.hi]
      obtain ⟨⟨m1, n1⟩, ⟨m2, n2⟩, k3⟩ := hz.some fun h => h1 (h a.lo (by simp))
      have mem : ∀ u ∈ [a.lo, a.hi, b.lo, b.hi], u ∈ A ++ B := by
        intro u hu
        simp only [List.mem_cons, List.not_mem_nil, or_false] at hu
        rcases hu with rfl | rfl | rfl | rfl
        · exact List.mem_append_left _ x.1
        · exact List.mem_append_left _ y.1
        · exact List.mem_append_right _ x2.1
        · exact List.mem_append_right _ y2.1
      refine ⟨hn, fun h => absurd h hAB, fun _ => ⟨⟨mem _ m1, n1⟩, ⟨mem _ m2, n2⟩, fun u hu hk => ?_⟩⟩
      rcases List.mem_append.1 hu with hu | hu
      · exact ⟨cmpV_tr (k3 a.lo (by simp) x.2).1 (k u hu hk).1, cmpV_tr (k u hu hk).2 (k3 a.hi (by simp) y.2).2⟩
      · exact ⟨cmpV_tr (k3 b.lo (by simp) x2.2).1 (k2 u hu hk).1, cmpV_tr (k2 u hu hk).2 (k3 b.hi (by simp) y2.2).2⟩
    · rw [if_neg h2]
      have hB := hb.null_iff.1 (Decidable.not_not.1 h2)
      refine ⟨hn, fun h => absurd h hAB, fun _ => ⟨⟨List.mem_append_left _ x.1, x.2⟩, ⟨List.mem_append_left _ y.1, y.2⟩, fun u hu hk => ?_⟩⟩
      rcases List.mem_append.1 hu with hu | hu
      · exact k u hu hk
      · exact absurd (hB u hu) hk
def ZLe (z z' : Zn) (n n' : Int) : Prop := z.nulls ≤ z'.nulls ∧ (z.nulls < n → z'.nulls < n' ∧ cmpV z'.lo z.lo ≤ 0 ∧ cmpV z.hi z'.hi ≤ 0)
theorem fit_le {c : Col} {A B : List Val} {z z' : Zn} (h : ZFit c A z) (h' : ZFit c (A ++ B) z') : ZLe z z' (A.length : Int) ((A ++ B).length : Int) := by
  refine ⟨by rw [h.nulls, h'.nulls, nullsN_append]; omega, fun hlt => ?_⟩
  have hA : ¬ ∀ u ∈ A, u.k = 0 := fun hall => by have := nullsN_all.2 hall; have := h.nulls; omega
  have hAB : ¬ ∀ u ∈ A ++ B, u.k = 0 := fun h => hA fun u hu => h u (List.mem_append_left _ hu)
  have hne : nullsN (A ++ B) ≠ (A ++ B).length := fun e => hAB (nullsN_all.1 e)
  have hle := nullsN_le (A ++ B)
  obtain ⟨x, y, _⟩ := h.some hA
  obtain ⟨_, _, k⟩ := h'.some hAB
  exact ⟨by rw [h'.nulls]; omega, (k _ (List.mem_append_left _ x.1) x.2).1, (k _ (List.mem_append_left _ y.1) y.2).2⟩

section
variable {cols : List Col} {zones zones' : List Zn} {n n' : Int}
theorem side_mono (hz : zonesL cols zones n = true) (hz' : zonesL cols zones' n' = true) (hle : ∀ (i : Nat) z z', zones[i]? = some z → zones'[i]? = some z' → ZLe z z' n n') {x : Ex} (ho : NodeOk x) (hk : (kindF cols x).2 = 0) {s : Sd} (hs : sideF cols zones n x = some s) :
    ∃ s', sideF cols zones' n' x = some s' ∧ (s.null = true → s'.null = true) ∧ (s.full = true → s'.full = true ∧ cmpV s'.lo s.lo ≤ 0 ∧ cmpV s.hi s'.hi ≤ 0 ∧ cmpV s.lo s.hi ≤ 0) := by
  unfold sideF at hs ⊢
  split at hs
  · rename_i h2
    cases hs
    rw [if_pos h2]
    exact ⟨_, rfl, id, fun h => ⟨h, Int.le_of_eq (cmpV_self _), Int.le_of_eq (cmpV_self _), Int.le_of_eq (cmpV_self _)⟩⟩
  · rename_i h2
    split at hs
    · rename_i h1
      rw [if_neg h2, if_pos h1]
      obtain ⟨c, hc, _⟩ := col_node h1 ho hk
      obtain ⟨z, hzz, hzo⟩ := zone_get hz hc
      obtain ⟨z', hzz', hzo'⟩ := zone_get hz' hc
      rw [hzz] at hs
      cases hs
      rw [hzz']
      obtain ⟨l1, l2⟩ := hle _ z z' hzz hzz'
      refine ⟨_, rfl, fun h => ?_, fun h => ?_⟩
      · have : 0 < z.nulls := by simpa using h
        exact decide_eq_true (by omega)
      · have hf : z.nulls < n := by simpa using h
        obtain ⟨q1, q2, q3⟩ := l2 hf
        exact ⟨decide_eq_true q1, q2, q3, (zoneOk_full hzo hf).2.2.2.2⟩
    · cases hs
theorem cmp_mono {op : Int} {a b a' b' : Sd} (na : a.null = true → a'.null = true) (nb : b.null = true → b'.null = true)
    (fa : a.full = true → a'.full = true ∧ cmpV a'.lo a.lo ≤ 0 ∧ cmpV a.hi a'.hi ≤ 0 ∧ cmpV a.lo a.hi ≤ 0) (fb : b.full = true → b'.full = true ∧ cmpV b'.lo b.lo ≤ 0 ∧ cmpV b.hi b'.hi ≤ 0 ∧ cmpV b.lo b.hi ≤ 0) : S3.Le (cmpS3 op a b) (cmpS3 op a' b') := by
  have hn : (a.null || b.null) = true → (a'.null || b'.null) = true := by
    intro h
    rw [Bool.or_eq_true] at h ⊢
    exact h.imp na nb
  have hnull : ∀ (o : Int) (x y : Sd), (cmpS3 o x y).null = (x.null || y.null) := by
    intro o x y; unfold cmpS3; split
    · rfl
    · split
      · rfl
      · split <;> rfl
  by_cases hf : (!a.full || !b.full) = true
  · have e : cmpS3 op a b = ⟨false, false, a.null || b.null⟩ := by unfold cmpS3; rw [if_pos hf]
    rw [e]
    exact ⟨fun h => (by cases h), fun h => (by cases h), fun h => by rw [hnull]; exact hn h⟩
  · have hfa : a.full = true := by revert hf; cases a.full <;> simp
    have hfb : b.full = true := by revert hf; cases b.full <;> simp
    obtain ⟨a1, a2, a3, a4⟩ := fa hfa
    obtain ⟨b1, b2, b3, b4⟩ := fb hfb
    have hf' : ¬ (!a'.full || !b'.full) = true := by rw [a1, b1]; decide
    have an1 := cmpV_cmp.anti a.hi b.lo
    have an2 := cmpV_cmp.anti a'.hi b'.lo
    have an3 := cmpV_cmp.anti a'.lo b'.hi
    have an4 := cmpV_cmp.anti a.lo b.hi
    refine ⟨fun h => ?_, fun h => ?_, fun h => by rw [hnull] at h ⊢; exact hn h⟩
    · unfold cmpS3 at h ⊢
      rw [if_neg hf] at h
      rw [if_neg hf']
      split at h
      · rename_i h9
        rw [if_pos h9]
        simp only [decide_eq_true_eq] at h ⊢
        refine Decidable.byContradiction fun hc => ?_
        have e1 := cmpV_zero.1 (show cmpV a'.lo b'.hi = 0 by omega)
        have e2 := cmpV_zero.1 (show cmpV a'.hi b'.lo = 0 by omega)
        have k1 : cmpV a.hi b.lo ≤ 0 := cmpV_tr a3 (by rw [e2]; exact b2)
        have k2 : cmpV b.hi a.lo ≤ 0 := cmpV_tr b3 (by rw [← e1]; exact a2)
        have k3 : cmpV a.lo b.hi ≤ 0 := cmpV_tr a4 (cmpV_tr k1 b4)
        have k4 : cmpV b.lo a.hi ≤ 0 := cmpV_tr b4 (cmpV_tr k2 a4)
        omega
      · rename_i h9
        rw [if_neg h9]
        split at h
        · rename_i h10
          rw [if_pos h10]
          simp only [decide_eq_true_eq] at h ⊢
          have := cmpV_tr b2 (cmpV_tr (show cmpV b.lo a.hi ≤ 0 by omega) a3)
          omega
        · rename_i h10
          rw [if_neg h10]
          simp only [decide_eq_true_eq] at h ⊢
          have := cmpV_lt_tr b2 (cmpV_tr_lt (show cmpV b.lo a.hi < 0 by omega) a3)
          omega
    · unfold cmpS3 at h ⊢
      rw [if_neg hf] at h
      rw [if_neg hf']
      split at h
      · rename_i h9
        rw [if_pos h9]
        simp only [decide_eq_true_eq] at h ⊢
        have k1 := cmpV_tr a2 (cmpV_tr h.1 b3)
        have k2 := cmpV_tr b2 (cmpV_tr (show cmpV b.lo a.hi ≤ 0 by omega) a3)
        exact ⟨k1, by omega⟩
      · rename_i h9
        rw [if_neg h9]
        split at h
        · rename_i h10
          rw [if_pos h10]
          simp only [decide_eq_true_eq] at h ⊢
          exact cmpV_lt_tr a2 (cmpV_tr_lt h b3)
        · rename_i h10
          rw [if_neg h10]
          simp only [decide_eq_true_eq] at h ⊢
          exact cmpV_tr a2 (cmpV_tr h b3)
theorem ans_mono (hz : zonesL cols zones n = true) (hz' : zonesL cols zones' n' = true) (hle : ∀ (i : Nat) z z', zones[i]? = some z → zones'[i]? = some z' → ZLe z z' n n') : ∀ (N : Nat) (x : Ex), depthT x ≤ N → (∀ y ∈ nodesT x, NodeOk y) → (kindF cols x).2 = 0 →
    ((kindF cols x).1 = 2 ∨ (kindF cols x).1 = 0) → S3.Le (ansF cols zones n x) (ansF cols zones' n' x) := by
  intro N
  induction N with
  | zero => intro x hd; cases x; unfold depthT at hd; omega
  | succ N ih =>
    intro x hd hn hk hkk
    obtain ⟨hk1, hk2⟩ := kids_kinds hk
    have ho := hn x (self_node x)
    have hsub : ∀ (i : Nat) k, x.kids[i]? = some k → x.op = 12 ∨ x.op = 13 ∨ x.op = 14 → S3.Le (ansF cols zones n k) (ansF cols zones' n' k) := by
      intro i k hi hop
      exact ih k (by have := kid_depth hi; omega) (fun y hy => hn y (kid_node hi hy)) (runL_get hk1 hi).1 (kid_kind hop hk hi)
    have hget : ∀ (i : Nat), x.op = 12 ∨ x.op = 13 ∨ x.op = 14 → S3.Le ((x.kids.map (ansF cols zones n)).getD i .all) ((x.kids.map (ansF cols zones' n')).getD i .all) := by
      intro i hop
      rw [List.getD_eq_getElem?_getD, List.getD_eq_getElem?_getD, List.getElem?_map, List.getElem?_map]
      cases hi : x.kids[i]? with
      | none => exact S3.le_rfl _
      | some k => exact hsub i k hi hop
    rw [ansF_eq, ansF_eq]
    unfold nodeS
    by_cases h2 : x.op = 2
    · rw [if_pos h2, if_pos h2]; exact S3.le_rfl _
    rw [if_neg h2, if_neg h2]
    by_cases h1 : x.op = 1
    · rw [if_pos h1, if_pos h1]
      obtain ⟨c, hc, hkc⟩ := col_node h1 ho hk
      obtain ⟨z, hzz, hzo⟩ := zone_get hz hc
      obtain ⟨z', hzz', hzo'⟩ := zone_get hz' hc
      rw [hzz, hzz']
      obtain ⟨l1, l2⟩ := hle _ z z' hzz hzz'
      have hck : c.kind = 2 ∨ c.kind = 0 := by rw [hkc] at hkk; exact hkk
      have key : z.nulls < n → z'.nulls < n' ∧ (z.lo.n = 0 → z'.lo.n = 0) ∧ (z.hi.n = 1 → z'.hi.n = 1) := by
        intro hf
        obtain ⟨q1, q2, q3⟩ := l2 hf
        obtain ⟨a1, a2, a3, a4, _⟩ := zoneOk_full hzo hf
        obtain ⟨b1, b2, b3, b4, _⟩ := zoneOk_full hzo' q1
        unfold Val.Ok at a1 a2 b1 b2
        rw [cmpV_def] at q2 q3
        have hk0 : cmpI z'.lo.k z.lo.k = 0 := cmpI_zero.2 (by omega)
        have hk1 : cmpI z.hi.k z'.hi.k = 0 := cmpI_zero.2 (by omega)
        rw [if_neg (by simp [hk0])] at q2
        rw [if_neg (by simp [hk1])] at q3
        refine ⟨q1, fun h => ?_, fun h => ?_⟩
        · have := cmpI_spec z'.lo.n z.lo.n
          split at q2 <;> omega
        · have := cmpI_spec z.hi.n z'.hi.n
          split at q3 <;> omega
      unfold colS
      refine ⟨fun h => ?_, fun h => ?_, fun h => ?_⟩
      · simp only [decide_eq_true_eq] at h ⊢
        obtain ⟨k1, k2, k3⟩ := key h.1
        exact ⟨k1, k2 h.2⟩
      · simp only [decide_eq_true_eq] at h ⊢
        obtain ⟨k1, k2, k3⟩ := key h.1
        exact ⟨k1, k3 h.2⟩
      · simp only [decide_eq_true_eq] at h ⊢
        omega
    rw [if_neg h1, if_neg h1]
    by_cases h14 : x.op = 14
    · rw [if_pos h14, if_pos h14]; exact S3.le_not (hget 0 (by omega))
    rw [if_neg h14, if_neg h14]
    by_cases h12 : x.op = 12
    · rw [if_pos h12, if_pos h12]; exact S3.le_and (hget 0 (by omega)) (hget 1 (by omega))
    rw [if_neg h12, if_neg h12]
    by_cases h13 : x.op = 13
    · rw [if_pos h13, if_pos h13]; exact S3.le_or (hget 0 (by omega)) (hget 1 (by omega))
    rw [if_neg h13, if_neg h13]
    have hside : ∀ (i : Nat) s, (x.kids[i]?).bind (sideF cols zones n) = some s → ∃ s', (x.kids[i]?).bind (sideF cols zones' n') = some s' ∧ (s.null = true → s'.null = true) ∧ (s.full = true → s'.full = true ∧ cmpV s'.lo s.lo ≤ 0 ∧ cmpV s.hi s'.hi ≤ 0 ∧ cmpV s.lo s.hi ≤ 0) := by
      intro i s hs
      cases hi : x.kids[i]? with
      | none => rw [hi] at hs; cases hs
      | some k =>
        rw [hi, Option.bind_some] at hs
        rw [Option.bind_some]
        exact side_mono hz hz' hle (hn k (kid_node hi (self_node k))) (runL_get hk1 hi).1 hs
    by_cases h15 : x.op = 15
    · rw [if_pos h15, if_pos h15]
      cases hs : (x.kids[0]?).bind (sideF cols zones n) with
      | none =>
        have : (x.kids[0]?).bind (sideF cols zones' n') = none := by
          cases hi : x.kids[0]? with
          | none => rfl
          | some k =>
            rw [hi, Option.bind_some] at hs
            rw [Option.bind_some]
            unfold sideF at hs ⊢
            split at hs
            · cases hs
            · rename_i q2
              split at hs
              · rename_i q1
                obtain ⟨c, hc, _⟩ := col_node q1 (hn k (kid_node hi (self_node k))) (runL_get hk1 hi).1
                obtain ⟨z, hzz, _⟩ := zone_get hz hc
                rw [hzz] at hs; cases hs
              · rename_i q1; rw [if_neg q2, if_neg q1]
        rw [this]; exact S3.le_rfl _
      | some s =>
        obtain ⟨s', hs', m1, m2⟩ := hside 0 s hs
        rw [hs']
        exact ⟨fun h => (m2 h).1, m1, fun h => (by cases h)⟩
    rw [if_neg h15, if_neg h15]
    by_cases hc : x.op = 9 ∨ x.op = 10 ∨ x.op = 11
    · rw [if_pos hc, if_pos hc]
      have hnone : ∀ i : Nat, (x.kids[i]?).bind (sideF cols zones n) = none → (x.kids[i]?).bind (sideF cols zones' n') = none := by
        intro i hs
        cases hi : x.kids[i]? with
        | none => rfl
        | some k =>
          rw [hi, Option.bind_some] at hs
          rw [Option.bind_some]
          unfold sideF at hs ⊢
          split at hs
          · cases hs
          · rename_i q2
            split at hs
            · rename_i q1
              obtain ⟨c, hc, _⟩ := col_node q1 (hn k (kid_node hi (self_node k))) (runL_get hk1 hi).1
              obtain ⟨z, hzz, _⟩ := zone_get hz hc
              rw [hzz] at hs; cases hs
            · rename_i q1; rw [if_neg q2, if_neg q1]
      cases hs0 : (x.kids[0]?).bind (sideF cols zones n) with
      | none => rw [hnone 0 hs0]; exact S3.le_rfl _
      | some s0 =>
        obtain ⟨t0, ht0, m1, m2⟩ := hside 0 s0 hs0
        rw [ht0]
        cases hs1 : (x.kids[1]?).bind (sideF cols zones n) with
        | none => rw [hnone 1 hs1]; exact S3.le_rfl _
        | some s1 =>
          obtain ⟨t1, ht1, m3, m4⟩ := hside 1 s1 hs1
          rw [ht1]
          exact cmp_mono m1 m3 m2 m4
    · rw [if_neg hc, if_neg hc]; exact S3.le_rfl _
end
end Go.Vc

/- The frame, its blocks in any order; blocks for deferred calls that are not known one by one. -/
namespace Go.Vc
open Go Go.RowKit

section
variable {w0 W W' : World} {fs fs' gs : List (Nat × Obj)} {B d : Nat} {ds : List Nat} {ms : List Row}

theorem Hold.mem (h : Hold w0 W fs ms) {x : Nat × Obj} (hx : x ∈ fs) : W.heap[x.1]? = some x.2 := by
  obtain ⟨i, hi⟩ := List.mem_iff_getElem?.1 hx
  exact h.holds i x hi
theorem Hold.ltM (h : Hold w0 W fs ms) {x : Nat × Obj} (hx : x ∈ fs) : x.1 < W.heap.size := (Array.getElem?_eq_some_iff.1 (h.mem hx)).1
theorem Hold.blkM {b : Nat} {cs : Array Value} {t : TypeId} (h : Hold w0 W fs ms) (hx : (b, Obj.cells cs t (0, 0)) ∈ fs) : Blk W b t cs := h.mem hx
theorem Hold.nodup (h : Hold w0 W fs ms) : (fs.map (·.1)).Nodup := by
  rw [List.Nodup, List.pairwise_iff_getElem]
  intro i j hi hj hij
  simp only [List.getElem_map]
  simp only [List.length_map] at hi hj
  exact h.keys i j _ _ (List.getElem?_eq_getElem hi) (List.getElem?_eq_getElem hj) (by omega)
theorem Hold.make (e : Ext w0 W) (h : ∀ x ∈ fs, w0.heap.size ≤ x.1 ∧ W.heap[x.1]? = some x.2) (hn : (fs.map (·.1)).Nodup) : Hold w0 W fs [] := by
  refine ⟨e, fun x hx => (h x hx).1, fun i x hx => (h x (List.mem_of_getElem? hx)).2, fun i j x y hx hy hij => ?_, by simp, by simp, by simp⟩
  rw [List.Nodup, List.pairwise_iff_getElem] at hn
  obtain ⟨hi, rfl⟩ := List.getElem?_eq_some_iff.1 hx
  obtain ⟨hj, rfl⟩ := List.getElem?_eq_some_iff.1 hy
  rcases Nat.lt_or_ge i j with hlt | hge
  · have := hn i j (by simpa) (by simpa) hlt
    rwa [List.getElem_map, List.getElem_map] at this
  · have := hn j i (by simpa) (by simpa) (by omega)
    rw [List.getElem_map, List.getElem_map] at this
    exact this.symm
theorem Hold.perm (h : Hold w0 W fs []) (hp : fs.Perm fs') : Hold w0 W fs' [] :=
  Hold.make h.ext (fun x hx => ⟨h.ge x (hp.mem_iff.2 hx), h.mem (hp.mem_iff.2 hx)⟩) ((hp.map _).nodup_iff.1 h.nodup)
theorem Hold.sub (h : Hold w0 W fs []) (hp : fs'.Sublist fs) : Hold w0 W fs' [] :=
  Hold.make h.ext (fun x hx => ⟨h.ge x (hp.subset hx), h.mem (hp.subset hx)⟩) (h.nodup.sublist (hp.map _))
theorem Hold.swap {a b c : List (Nat × Obj)} (h : Hold w0 W ((a ++ b) ++ c) []) : Hold w0 W (b ++ (a ++ c)) [] := by
  rw [← List.append_assoc]
  exact h.perm (List.perm_append_comm.append_right c)
theorem Hold.left {a b : List (Nat × Obj)} (h : Hold w0 W (a ++ b) []) : Hold w0 W a [] := h.sub (List.sublist_append_left _ _)
theorem Hold.right {a b : List (Nat × Obj)} (h : Hold w0 W (a ++ b) []) : Hold w0 W b [] := h.sub (List.sublist_append_right _ _)
theorem Hold.but {b : Nat} (h : Hold w0 W fs []) (e : But b W W') (hb : w0.heap.size ≤ b) (hf : ∀ x ∈ fs, x.1 ≠ b) : Hold w0 W' fs [] :=
  Hold.make (h.ext.below.but e hb h.size) (fun x hx => ⟨h.ge x hx, (e.block _ (h.ltM hx) (hf x hx)).trans (h.mem hx)⟩) h.nodup

/-- Open blocks as held ones. -/
def dfs (ds : List Nat) : List (Nat × Obj) := ds.map fun d => (d, .deferred (some []))
theorem Hold.addOpen (h : Hold w0 W fs []) (ho : Go.Vc.Open B ds W) (hB : w0.heap.size ≤ B) (hf : ∀ x ∈ fs, x.1 < B ∨ x.2 ≠ .deferred (some [])) : Hold w0 W (dfs ds ++ fs) [] := by
  refine Hold.make h.ext (fun x hx => ?_) ?_
  · rcases List.mem_append.1 hx with hx | hx
    · obtain ⟨d, hd, rfl⟩ := List.mem_map.1 hx
      obtain ⟨h1, h2⟩ := ho.2 d hd
      exact ⟨Nat.le_trans hB h1, h2⟩
    · exact ⟨h.ge x hx, h.mem hx⟩
  · rw [List.map_append, List.nodup_append]
    refine ⟨?_, h.nodup, ?_⟩
    · have : (dfs ds).map (·.1) = ds := by unfold dfs; rw [List.map_map]; exact List.map_id _
      rw [this]; exact ho.1
    · intro a ha b hb
      obtain ⟨x, hx, rfl⟩ := List.mem_map.1 ha
      obtain ⟨d, hd, rfl⟩ := List.mem_map.1 hx
      obtain ⟨y, hy, rfl⟩ := List.mem_map.1 hb
      intro e
      simp only at e
      obtain ⟨h1, h2⟩ := ho.2 d hd
      rcases hf y hy with hlt | hne
      · omega
      · have := h.mem hy
        rw [← e, h2] at this
        exact hne (Option.some.inj this).symm
theorem Hold.opened (h : Hold w0 W (dfs ds ++ fs) []) (hB : ∀ d ∈ ds, B ≤ d) : Go.Vc.Open B ds W := by
  constructor
  · have := h.left.nodup
    have e : (dfs ds).map (·.1) = ds := by unfold dfs; rw [List.map_map]; exact List.map_id _
    rwa [e] at this
  · intro d hd
    exact ⟨hB d hd, h.mem (x := (d, .deferred (some []))) (List.mem_append_left _ (List.mem_map.2 ⟨d, hd, rfl⟩))⟩
/-- The open blocks are taken: what is held below them is as it was. -/
theorem unD_hold {F : World → Prop} (hB : w0.heap.size ≤ B) (hf : ∀ x ∈ fs, x.1 < B) (hF : ∀ W', Hold w0 W' fs [] → F W') : ∀ (ds : List Nat) (W : World), Go.Vc.Open B ds W → Hold w0 W fs [] → unD ds W F := by
  intro ds
  induction ds with
  | nil => intro W _ h; exact hF W h
  | cons d r ih =>
    intro W ho h
    obtain ⟨h1, h2⟩ := ho.2 d (by simp)
    have hn := List.nodup_cons.1 ho.1
    refine ⟨h2, ih _ ⟨hn.2, fun x hx => ?_⟩ (h.but shut_but.1 (by omega) fun x hx e => ?_)⟩
    · obtain ⟨k1, k2⟩ := ho.2 x (by simp [hx])
      refine ⟨k1, (shut_but.1.block x (Array.getElem?_eq_some_iff.1 k2).1 fun e => ?_).trans k2⟩
      subst e; exact hn.1 hx
    · have := hf x hx; omega
end

theorem Blk.c6 {w : World} {b : Nat} {t : TypeId} {x y z u v q : Value} (h : Blk w b t #[x, y, z, u, v, q]) : w.cell? ⟨b, 0, none⟩ = some x ∧ w.cell? ⟨b, 1, none⟩ = some y ∧ w.cell? ⟨b, 2, none⟩ = some z ∧
    w.cell? ⟨b, 3, none⟩ = some u ∧ w.cell? ⟨b, 4, none⟩ = some v ∧ w.cell? ⟨b, 5, none⟩ = some q := by
  refine ⟨?_, ?_, ?_, ?_, ?_, ?_⟩ <;> (rw [h.cell]; rfl)
/-- A block of six cells can be written. -/
theorem Blk.w6 {w : World} {b : Nat} {t : TypeId} {x y z u v q : Value} (h : Blk w b t #[x, y, z, u, v, q]) {X : Prop} (hX : X) : (∃ u, w.cell? ⟨b, 0, none⟩ = some u) ∧ w.frozen? ⟨b, 0, none⟩ = false ∧ (∃ u, w.cell? ⟨b, 1, none⟩ = some u) ∧ w.frozen? ⟨b, 1, none⟩ = false ∧
    (∃ u, w.cell? ⟨b, 2, none⟩ = some u) ∧ w.frozen? ⟨b, 2, none⟩ = false ∧ (∃ u, w.cell? ⟨b, 3, none⟩ = some u) ∧ w.frozen? ⟨b, 3, none⟩ = false ∧ (∃ u, w.cell? ⟨b, 4, none⟩ = some u) ∧ w.frozen? ⟨b, 4, none⟩ = false ∧
    (∃ u, w.cell? ⟨b, 5, none⟩ = some u) ∧ w.frozen? ⟨b, 5, none⟩ = false ∧ X := by
  obtain ⟨a0, a1, a2, a3, a4, a5⟩ := h.c6
  exact ⟨⟨_, a0⟩, h.frozen _, ⟨_, a1⟩, h.frozen _, ⟨_, a2⟩, h.frozen _, ⟨_, a3⟩, h.frozen _, ⟨_, a4⟩, h.frozen _, ⟨_, a5⟩, h.frozen _, hX⟩
end Go.Vc
namespace Go.Vc
open Go Go.RowKit
end Go.Vc

/- Cells out of the frame, one by one: what the printed steps of a walk use. -/
namespace Go.Vc
open Go Go.RowKit

section
variable {w0 W W' : World} {fs : List (Nat × Obj)} {ms : List Row} {b k : Nat} {t : TypeId} {cs : Array Value} {v : Value}
theorem Hold.get (h : Hold w0 W fs ms) (i : Nat) (hi : fs[i]? = some (b, .cells cs t (0, 0))) (hk : cs[k]? = some v) : W.cell? ⟨b, k, none⟩ = some v := by
  rw [(h.blk i hi).cell]; exact hk
theorem Hold.frz (h : Hold w0 W fs ms) (i : Nat) (hi : fs[i]? = some (b, .cells cs t (0, 0))) : W.frozen? ⟨b, k, none⟩ = false := (h.blk i hi).frozen k
end
end Go.Vc

/- The verification conditions of the functions, evaluated: printed by program. -/
namespace Go.Proofs.YtpjafkcmbinjiaaDoor
open Go Go.Vc
set_option maxRecDepth 20000

set_option maxRecDepth 100000 in
def vright_T (v0 : Int) (v1 : Int) (v2 : ByteArray) (w : World) (R : Ending → World → Prop) : Prop :=
  ∀ b1 w'2, New w (Obj.cells #[.int .i64 v0, .int .i64 v1, .string v2] 25) b1 w'2 → ∃ n4, w'2.cell? ⟨b1, 0, none⟩ = some (.int .i64 n4) ∧ ∀ b5 w'6, New w'2 (Obj.cells #[.int .i64 0, .int .i64 0, .string ⟨#[]⟩] 25) b5 w'6 → (∃ u8, w'6.cell? ⟨b5, 0, none⟩ = some u8) ∧ w'6.frozen? ⟨b5, 0, none⟩ = false ∧ (∃ u9, w'6.cell? ⟨b5, 1, none⟩ = some u9) ∧ w'6.frozen? ⟨b5, 1, none⟩ = false ∧ (∃ u10, w'6.cell? ⟨b5, 2, none⟩ = some u10) ∧ w'6.frozen? ⟨b5, 2, none⟩ = false ∧ ∀ w'11, Put w'6 b5 0 [.int .i64 n4, .int .i64 0, .string ⟨#[]⟩] w'11 → ∃ n13, w'11.cell? ⟨b1, 0, none⟩ = some (.int .i64 n13) ∧ (n13 = 0 → ∃ n15, w'11.cell? ⟨b1, 0, none⟩ = some (.int .i64 n15) ∧ (0 ≤ n15 → ∃ n17, w'11.cell? ⟨b1, 0, none⟩ = some (.int .i64 n17) ∧ (n17 < 4 → ∃ n19, w'11.cell? ⟨b1, 0, none⟩ = some (.int .i64 n19) ∧ ∃ n20, w'11.cell? ⟨b1, 1, none⟩ = some (.int .i64 n20) ∧ ∃ s21, w'11.cell? ⟨b1, 2, none⟩ = some (.string s21) ∧ ∃ n22, w'11.cell? ⟨b5, 0, none⟩ = some (.int .i64 n22) ∧ ∃ n23, w'11.cell? ⟨b5, 1, none⟩ = some (.int .i64 n23) ∧ ∃ s24, w'11.cell? ⟨b5, 2, none⟩ = some (.string s24) ∧ (n19 = n22 ∧ n20 = n23 ∧ s21 = s24 → ∃ s26, w'11.cell? ⟨b1, 2, none⟩ = some (.string s26) ∧ R (.returned (.bool (decide ((↑s26.size : Int) ≤ 1024)))) w'11) ∧ (n19 ≠ n22 ∨ n20 ≠ n23 ∨ s21 ≠ s24 → R (.returned (.bool false)) w'11)) ∧ (4 ≤ n17 → R (.returned (.bool false)) w'11)) ∧ (n15 < 0 → R (.returned (.bool false)) w'11)) ∧ (n13 ≠ 0 → (n13 = 1 → ∃ n32, w'11.cell? ⟨b1, 1, none⟩ = some (.int .i64 n32) ∧ (∃ u33, w'11.cell? ⟨b5, 1, none⟩ = some u33) ∧ w'11.frozen? ⟨b5, 1, none⟩ = false ∧ ∀ w'34, Put w'11 b5 1 [.int .i64 n32] w'34 → ∃ n36, w'34.cell? ⟨b1, 0, none⟩ = some (.int .i64 n36) ∧ (0 ≤ n36 → ∃ n38, w'34.cell? ⟨b1, 0, none⟩ = some (.int .i64 n38) ∧ (n38 < 4 → ∃ n40, w'34.cell? ⟨b1, 0, none⟩ = some (.int .i64 n40) ∧ ∃ n41, w'34.cell? ⟨b1, 1, none⟩ = some (.int .i64 n41) ∧ ∃ s42, w'34.cell? ⟨b1, 2, none⟩ = some (.string s42) ∧ ∃ n43, w'34.cell? ⟨b5, 0, none⟩ = some (.int .i64 n43) ∧ ∃ n44, w'34.cell? ⟨b5, 1, none⟩ = some (.int .i64 n44) ∧ ∃ s45, w'34.cell? ⟨b5, 2, none⟩ = some (.string s45) ∧ (n40 = n43 ∧ n41 = n44 ∧ s42 = s45 → ∃ s47, w'34.cell? ⟨b1, 2, none⟩ = some (.string s47) ∧ R (.returned (.bool (decide ((↑s47.size : Int) ≤ 1024)))) w'34) ∧ (n40 ≠ n43 ∨ n41 ≠ n44 ∨ s42 ≠ s45 → R (.returned (.bool false)) w'34)) ∧ (4 ≤ n38 → R (.returned (.bool false)) w'34)) ∧ (n36 < 0 → R (.returned (.bool false)) w'34)) ∧ (n13 ≠ 1 → (n13 = 2 → ∃ n53, w'11.cell? ⟨b1, 1, none⟩ = some (.int .i64 n53) ∧ (∃ u54, w'11.cell? ⟨b5, 1, none⟩ = some u54) ∧ w'11.frozen? ⟨b5, 1, none⟩ = false ∧ ∀ w'55, Put w'11 b5 1 [.int .i64 (bits BinOp.and IntKind.i64 n53 1)] w'55 → ∃ n57, w'55.cell? ⟨b1, 0, none⟩ = some (.int .i64 n57) ∧ (0 ≤ n57 → ∃ n59, w'55.cell? ⟨b1, 0, none⟩ = some (.int .i64 n59) ∧ (n59 < 4 → ∃ n61, w'55.cell? ⟨b1, 0, none⟩ = some (.int .i64 n61) ∧ ∃ n62, w'55.cell? ⟨b1, 1, none⟩ = some (.int .i64 n62) ∧ ∃ s63, w'55.cell? ⟨b1, 2, none⟩ = some (.string s63) ∧ ∃ n64, w'55.cell? ⟨b5, 0, none⟩ = some (.int .i64 n64) ∧ ∃ n65, w'55.cell? ⟨b5, 1, none⟩ = some (.int .i64 n65) ∧ ∃ s66, w'55.cell? ⟨b5, 2, none⟩ = some (.string s66) ∧ (n61 = n64 ∧ n62 = n65 ∧ s63 = s66 → ∃ s68, w'55.cell? ⟨b1, 2, none⟩ = some (.string s68) ∧ R (.returned (.bool (decide ((↑s68.size : Int) ≤ 1024)))) w'55) ∧ (n61 ≠ n64 ∨ n62 ≠ n65 ∨ s63 ≠ s66 → R (.returned (.bool false)) w'55)) ∧ (4 ≤ n59 → R (.returned (.bool false)) w'55)) ∧ (n57 < 0 → R (.returned (.bool false)) w'55)) ∧ (n13 ≠ 2 → (n13 = 3 → ∃ s74, w'11.cell? ⟨b1, 2, none⟩ = some (.string s74) ∧ (∃ u75, w'11.cell? ⟨b5, 2, none⟩ = some u75) ∧ w'11.frozen? ⟨b5, 2, none⟩ = false ∧ ∀ w'76, Put w'11 b5 2 [.string s74] w'76 → ∃ n78, w'76.cell? ⟨b1, 0, none⟩ = some (.int .i64 n78) ∧ (0 ≤ n78 → ∃ n80, w'76.cell? ⟨b1, 0, none⟩ = some (.int .i64 n80) ∧ (n80 < 4 → ∃ n82, w'76.cell? ⟨b1, 0, none⟩ = some (.int .i64 n82) ∧ ∃ n83, w'76.cell? ⟨b1, 1, none⟩ = some (.int .i64 n83) ∧ ∃ s84, w'76.cell? ⟨b1, 2, none⟩ = some (.string s84) ∧ ∃ n85, w'76.cell? ⟨b5, 0, none⟩ = some (.int .i64 n85) ∧ ∃ n86, w'76.cell? ⟨b5, 1, none⟩ = some (.int .i64 n86) ∧ ∃ s87, w'76.cell? ⟨b5, 2, none⟩ = some (.string s87) ∧ (n82 = n85 ∧ n83 = n86 ∧ s84 = s87 → ∃ s89, w'76.cell? ⟨b1, 2, none⟩ = some (.string s89) ∧ R (.returned (.bool (decide ((↑s89.size : Int) ≤ 1024)))) w'76) ∧ (n82 ≠ n85 ∨ n83 ≠ n86 ∨ s84 ≠ s87 → R (.returned (.bool false)) w'76)) ∧ (4 ≤ n80 → R (.returned (.bool false)) w'76)) ∧ (n78 < 0 → R (.returned (.bool false)) w'76)) ∧ (n13 ≠ 3 → ∃ n94, w'11.cell? ⟨b1, 0, none⟩ = some (.int .i64 n94) ∧ (0 ≤ n94 → ∃ n96, w'11.cell? ⟨b1, 0, none⟩ = some (.int .i64 n96) ∧ (n96 < 4 → ∃ n98, w'11.cell? ⟨b1, 0, none⟩ = some (.int .i64 n98) ∧ ∃ n99, w'11.cell? ⟨b1, 1, none⟩ = some (.int .i64 n99) ∧ ∃ s100, w'11.cell? ⟨b1, 2, none⟩ = some (.string s100) ∧ ∃ n101, w'11.cell? ⟨b5, 0, none⟩ = some (.int .i64 n101) ∧ ∃ n102, w'11.cell? ⟨b5, 1, none⟩ = some (.int .i64 n102) ∧ ∃ s103, w'11.cell? ⟨b5, 2, none⟩ = some (.string s103) ∧ (n98 = n101 ∧ n99 = n102 ∧ s100 = s103 → ∃ s105, w'11.cell? ⟨b1, 2, none⟩ = some (.string s105) ∧ R (.returned (.bool (decide ((↑s105.size : Int) ≤ 1024)))) w'11) ∧ (n98 ≠ n101 ∨ n99 ≠ n102 ∨ s100 ≠ s103 → R (.returned (.bool false)) w'11)) ∧ (4 ≤ n96 → R (.returned (.bool false)) w'11)) ∧ (n94 < 0 → R (.returned (.bool false)) w'11)))))

set_option maxRecDepth 100000 in
theorem vright_eq (v0 : Int) (v1 : Int) (v2 : ByteArray) (w : World) (R : Ending → World → Prop) : vright_T v0 v1 v2 w R = vcFn Tryd.prog [] [] Tryd.f38 [.agg #[.int .i64 v0, .int .i64 v1, .string v2]] w R := by kernel_rfl

set_option maxRecDepth 100000 in
theorem vright_vc (v0 : Int) (v1 : Int) (v2 : ByteArray) (w : World) (R : Ending → World → Prop) (h : vright_T v0 v1 v2 w R) : Calls Tryd.prog 38 #[.agg #[.int .i64 v0, .int .i64 v1, .string v2]] w R :=
  calls_of_vc (args := [.agg #[.int .i64 v0, .int .i64 v1, .string v2]]) [] [] Tryd.mixed Tryd.func38 (cast (vright_eq _ _ _ w R) h)

set_option maxRecDepth 100000 in
def vcompare_T (a0 : Int) (a1 : Int) (a2 : ByteArray) (b0 : Int) (b1 : Int) (b2 : ByteArray) (w : World) (R : Ending → World → Prop) : Prop :=
  ∀ b1_1 w'2, New w (Obj.cells #[.int .i64 a0, .int .i64 a1, .string a2] 25) b1_1 w'2 → ∀ b4 w'5, New w'2 (Obj.cells #[.int .i64 b0, .int .i64 b1, .string b2] 25) b4 w'5 → ∀ w'7, Drew w'5 w'7 → ∃ n9, w'7.cell? ⟨b1_1, 0, none⟩ = some (.int .i64 n9) ∧ ∃ n10, w'7.cell? ⟨b4, 0, none⟩ = some (.int .i64 n10) ∧ ∃ n11, w'7.cell? ⟨b1_1, 1, none⟩ = some (.int .i64 n11) ∧ ∃ n12, w'7.cell? ⟨b4, 1, none⟩ = some (.int .i64 n12) ∧ ∃ s13, w'7.cell? ⟨b1_1, 2, none⟩ = some (.string s13) ∧ ∃ s14, w'7.cell? ⟨b4, 2, none⟩ = some (.string s14) ∧ Calls Tryd.prog 62 #[.int .i64 n9, .int .i64 n10] w'7 fun e15 w16 ↦
 ∃ n17, e15 = .returned (.int .i64 n17) ∧ SameTo w'7 w'7 w16 ∧ Calls Tryd.prog 63 #[.int .i64 n11, .int .i64 n12] w16 fun e18 w19 ↦
 ∃ n20, e18 = .returned (.int .i64 n20) ∧ SameTo w'7 w16 w19 ∧ Calls Tryd.prog 64 #[.string s13, .string s14] w19 fun e21 w22 ↦
 ∃ n23, e21 = .returned (.int .i64 n23) ∧ ∀ b24 w'25, New w22 (Obj.cells #[.int .i64 n17, .int .i64 n20, .int .i64 n23] 3) b24 w'25 → Calls Tryd.prog 61 #[.slice (some ⟨b24, 0, none⟩) 3 3] w'25 fun e27 w28 ↦
 ∃ n29, e27 = .returned (.int .i64 n29) ∧ R (.returned (.int .i64 n29)) w28

set_option maxRecDepth 100000 in
theorem vcompare_eq (a0 : Int) (a1 : Int) (a2 : ByteArray) (b0 : Int) (b1 : Int) (b2 : ByteArray) (w : World) (R : Ending → World → Prop) : vcompare_T a0 a1 a2 b0 b1 b2 w R = vcFn Tryd.prog [] [(1, [2, 4, 6, 8, 12, 14, 16, 18, 22, 24, 26, 28, 11, 21, 30, 32, 34, 36, 0])] Tryd.f39 [.agg #[.int .i64 a0, .int .i64 a1, .string a2], .agg #[.int .i64 b0, .int .i64 b1, .string b2]] w R := by kernel_rfl

set_option maxRecDepth 100000 in
theorem vcompare_vc (a0 : Int) (a1 : Int) (a2 : ByteArray) (b0 : Int) (b1 : Int) (b2 : ByteArray) (w : World) (R : Ending → World → Prop) (h : vcompare_T a0 a1 a2 b0 b1 b2 w R) : Calls Tryd.prog 39 #[.agg #[.int .i64 a0, .int .i64 a1, .string a2], .agg #[.int .i64 b0, .int .i64 b1, .string b2]] w R :=
  calls_of_vc (args := [.agg #[.int .i64 a0, .int .i64 a1, .string a2], .agg #[.int .i64 b0, .int .i64 b1, .string b2]]) [] [(1, [2, 4, 6, 8, 12, 14, 16, 18, 22, 24, 26, 28, 11, 21, 30, 32, 34, 36, 0])] Tryd.mixed Tryd.func39 (cast (vcompare_eq _ _ _ _ _ _ w R) h)

set_option maxRecDepth 100000 in
def rvright_T (v0 : Int) (v1 : Int) (v2 : ByteArray) (w : World) (R : Ending → World → Prop) : Prop :=
  ∀ b1 w'2, New w (Obj.cells #[.int .i64 v0, .int .i64 v1, .string v2] 25) b1 w'2 → ∃ n4, w'2.cell? ⟨b1, 0, none⟩ = some (.int .i64 n4) ∧ (n4 = 0 → ∃ n6, w'2.cell? ⟨b1, 1, none⟩ = some (.int .i64 n6) ∧ (n6 = 0 → ∃ s8, w'2.cell? ⟨b1, 2, none⟩ = some (.string s8) ∧ R (.returned (.bool (sEq s8 ⟨#[]⟩))) w'2) ∧ (n6 ≠ 0 → R (.returned (.bool false)) w'2)) ∧ (n4 ≠ 0 → (n4 = 1 → ∃ s12, w'2.cell? ⟨b1, 2, none⟩ = some (.string s12) ∧ R (.returned (.bool (sEq s12 ⟨#[]⟩))) w'2) ∧ (n4 ≠ 1 → (n4 = 2 → ∃ n15, w'2.cell? ⟨b1, 1, none⟩ = some (.int .i64 n15) ∧ (n15 = 0 → ∃ s17, w'2.cell? ⟨b1, 2, none⟩ = some (.string s17) ∧ R (.returned (.bool (sEq s17 ⟨#[]⟩))) w'2) ∧ (n15 ≠ 0 → ∃ n19, w'2.cell? ⟨b1, 1, none⟩ = some (.int .i64 n19) ∧ (n19 = 1 → ∃ s21, w'2.cell? ⟨b1, 2, none⟩ = some (.string s21) ∧ R (.returned (.bool (sEq s21 ⟨#[]⟩))) w'2) ∧ (n19 ≠ 1 → R (.returned (.bool false)) w'2))) ∧ (n4 ≠ 2 → (n4 = 3 → ∃ n25, w'2.cell? ⟨b1, 1, none⟩ = some (.int .i64 n25) ∧ (n25 = 0 → ∃ s27, w'2.cell? ⟨b1, 2, none⟩ = some (.string s27) ∧ R (.returned (.bool (decide ((↑s27.size : Int) ≤ 1024)))) w'2) ∧ (n25 ≠ 0 → R (.returned (.bool false)) w'2)) ∧ (n4 ≠ 3 → R (.returned (.bool false)) w'2))))

set_option maxRecDepth 100000 in
theorem rvright_eq (v0 : Int) (v1 : Int) (v2 : ByteArray) (w : World) (R : Ending → World → Prop) : rvright_T v0 v1 v2 w R = vcFn Tryd.prog [] [] Tryd.f18 [.agg #[.int .i64 v0, .int .i64 v1, .string v2]] w R := by kernel_rfl

set_option maxRecDepth 100000 in
theorem rvright_vc (v0 : Int) (v1 : Int) (v2 : ByteArray) (w : World) (R : Ending → World → Prop) (h : rvright_T v0 v1 v2 w R) : Calls Tryd.prog 18 #[.agg #[.int .i64 v0, .int .i64 v1, .string v2]] w R :=
  calls_of_vc (args := [.agg #[.int .i64 v0, .int .i64 v1, .string v2]]) [] [] Tryd.mixed Tryd.func18 (cast (rvright_eq _ _ _ w R) h)

set_option maxRecDepth 100000 in
def rvcompare_T (a0 : Int) (a1 : Int) (a2 : ByteArray) (b0 : Int) (b1 : Int) (b2 : ByteArray) (w : World) (R : Ending → World → Prop) : Prop :=
  ∀ b1_1 w'2, New w (Obj.cells #[.int .i64 a0, .int .i64 a1, .string a2] 25) b1_1 w'2 → ∀ b4 w'5, New w'2 (Obj.cells #[.int .i64 b0, .int .i64 b1, .string b2] 25) b4 w'5 → ∃ n7, w'5.cell? ⟨b1_1, 0, none⟩ = some (.int .i64 n7) ∧ ∃ n8, w'5.cell? ⟨b1_1, 1, none⟩ = some (.int .i64 n8) ∧ ∃ s9, w'5.cell? ⟨b1_1, 2, none⟩ = some (.string s9) ∧ ∃ n10, w'5.cell? ⟨b4, 0, none⟩ = some (.int .i64 n10) ∧ ∃ n11, w'5.cell? ⟨b4, 1, none⟩ = some (.int .i64 n11) ∧ ∃ s12, w'5.cell? ⟨b4, 2, none⟩ = some (.string s12) ∧ Calls Tryd.prog 57
 #[.agg #[.int .i64 n7, .int .i64 n8, .string s9], .agg #[.int .i64 n10, .int .i64 n11, .string s12]]
 w'5 fun e13 w14 ↦
 ∃ b15, e13 = .returned (.bool b15) ∧ ∃ n16, w14.cell? ⟨b4, 0, none⟩ = some (.int .i64 n16) ∧ ∃ n17, w14.cell? ⟨b4, 1, none⟩ = some (.int .i64 n17) ∧ ∃ s18, w14.cell? ⟨b4, 2, none⟩ = some (.string s18) ∧ ∃ n19, w14.cell? ⟨b1_1, 0, none⟩ = some (.int .i64 n19) ∧ ∃ n20, w14.cell? ⟨b1_1, 1, none⟩ = some (.int .i64 n20) ∧ ∃ s21, w14.cell? ⟨b1_1, 2, none⟩ = some (.string s21) ∧ Calls Tryd.prog 57
 #[.agg #[.int .i64 n16, .int .i64 n17, .string s18], .agg #[.int .i64 n19, .int .i64 n20, .string s21]]
 w14 fun e22 w23 ↦
 ∃ b24, e22 = .returned (.bool b24) ∧ (b15 = true → R (.returned (.int .i64 (-1))) w23) ∧ (b15 = false → (b24 = true → R (.returned (.int .i64 1)) w23) ∧ (b24 = false → R (.returned (.int .i64 0)) w23))

set_option maxRecDepth 100000 in
theorem rvcompare_eq (a0 : Int) (a1 : Int) (a2 : ByteArray) (b0 : Int) (b1 : Int) (b2 : ByteArray) (w : World) (R : Ending → World → Prop) : rvcompare_T a0 a1 a2 b0 b1 b2 w R = vcFn Tryd.prog [] [] Tryd.f34 [.agg #[.int .i64 a0, .int .i64 a1, .string a2], .agg #[.int .i64 b0, .int .i64 b1, .string b2]] w R := by kernel_rfl

set_option maxRecDepth 100000 in
theorem rvcompare_vc (a0 : Int) (a1 : Int) (a2 : ByteArray) (b0 : Int) (b1 : Int) (b2 : ByteArray) (w : World) (R : Ending → World → Prop) (h : rvcompare_T a0 a1 a2 b0 b1 b2 w R) : Calls Tryd.prog 34 #[.agg #[.int .i64 a0, .int .i64 a1, .string a2], .agg #[.int .i64 b0, .int .i64 b1, .string b2]] w R :=
  calls_of_vc (args := [.agg #[.int .i64 a0, .int .i64 a1, .string a2], .agg #[.int .i64 b0, .int .i64 b1, .string b2]]) [] [] Tryd.mixed Tryd.func34 (cast (rvcompare_eq _ _ _ _ _ _ w R) h)

set_option maxRecDepth 100000 in
def rvless_T (a0 : Int) (a1 : Int) (a2 : ByteArray) (b0 : Int) (b1 : Int) (b2 : ByteArray) (w : World) (R : Ending → World → Prop) : Prop :=
  ∀ b1_1 w'2, New w (Obj.cells #[.int .i64 a0, .int .i64 a1, .string a2] 25) b1_1 w'2 → ∀ b4 w'5, New w'2 (Obj.cells #[.int .i64 b0, .int .i64 b1, .string b2] 25) b4 w'5 → ∃ n7, w'5.cell? ⟨b1_1, 0, none⟩ = some (.int .i64 n7) ∧ ∃ n8, w'5.cell? ⟨b4, 0, none⟩ = some (.int .i64 n8) ∧ (n7 ≠ n8 → ∃ n10, w'5.cell? ⟨b1_1, 0, none⟩ = some (.int .i64 n10) ∧ ∃ n11, w'5.cell? ⟨b4, 0, none⟩ = some (.int .i64 n11) ∧ R (.returned (.bool (decide (n10 < n11)))) w'5) ∧ (n7 = n8 → ∃ n13, w'5.cell? ⟨b1_1, 0, none⟩ = some (.int .i64 n13) ∧ (n13 = 3 → ∃ s15, w'5.cell? ⟨b1_1, 2, none⟩ = some (.string s15) ∧ ∃ s16, w'5.cell? ⟨b4, 2, none⟩ = some (.string s16) ∧ R (.returned (.bool (sLt s15 s16))) w'5) ∧ (n13 ≠ 3 → ∃ n18, w'5.cell? ⟨b1_1, 1, none⟩ = some (.int .i64 n18) ∧ ∃ n19, w'5.cell? ⟨b4, 1, none⟩ = some (.int .i64 n19) ∧ R (.returned (.bool (decide (n18 < n19)))) w'5))

set_option maxRecDepth 100000 in
theorem rvless_eq (a0 : Int) (a1 : Int) (a2 : ByteArray) (b0 : Int) (b1 : Int) (b2 : ByteArray) (w : World) (R : Ending → World → Prop) : rvless_T a0 a1 a2 b0 b1 b2 w R = vcFn Tryd.prog [] [] Tryd.f57 [.agg #[.int .i64 a0, .int .i64 a1, .string a2], .agg #[.int .i64 b0, .int .i64 b1, .string b2]] w R := by kernel_rfl

set_option maxRecDepth 100000 in
theorem rvless_vc (a0 : Int) (a1 : Int) (a2 : ByteArray) (b0 : Int) (b1 : Int) (b2 : ByteArray) (w : World) (R : Ending → World → Prop) (h : rvless_T a0 a1 a2 b0 b1 b2 w R) : Calls Tryd.prog 57 #[.agg #[.int .i64 a0, .int .i64 a1, .string a2], .agg #[.int .i64 b0, .int .i64 b1, .string b2]] w R :=
  calls_of_vc (args := [.agg #[.int .i64 a0, .int .i64 a1, .string a2], .agg #[.int .i64 b0, .int .i64 b1, .string b2]]) [] [] Tryd.mixed Tryd.func57 (cast (rvless_eq _ _ _ _ _ _ w R) h)

set_option maxRecDepth 100000 in
def cmpor_T (vals_p : Option Addr) (vals_n : Nat) (vals_c : Nat) (w : World) (R : Ending → World → Prop) : Prop :=
  ∃ (I1 : Int → World → Prop), ∃ (M2 : Int → World → Nat), I1 0 w ∧ ∀ (n3 : Int) (w'4 : World), I1 n3 w'4 → (n3 < (↑vals_n : Int) → ∃ b7, ∃ o8, vals_p = some ⟨b7, o8, none⟩ ∧ 0 ≤ n3 ∧ n3 < (↑vals_n : Int) ∧ ∃ n9, w'4.cell? ⟨b7, (o8 + n3.toNat), none⟩ = some (.int .i64 n9) ∧ (n9 ≠ 0 → R (.returned (.int .i64 n9)) w'4) ∧ (n9 = 0 → I1 (IntKind.i64.wrap (n3 + 1)) w'4 ∧ M2 (IntKind.i64.wrap (n3 + 1)) w'4 < M2 n3 w'4)) ∧ ((↑vals_n : Int) ≤ n3 → R (.returned (.int .i64 0)) w'4)

set_option maxRecDepth 100000 in
theorem cmpor_eq (vals_p : Option Addr) (vals_n : Nat) (vals_c : Nat) (w : World) (R : Ending → World → Prop) : cmpor_T vals_p vals_n vals_c w R = vcFn Tryd.prog [] [] Tryd.f61 [.slice vals_p vals_n vals_c] w R := by kernel_rfl

set_option maxRecDepth 100000 in
theorem cmpor_vc (vals_p : Option Addr) (vals_n : Nat) (vals_c : Nat) (w : World) (R : Ending → World → Prop) (h : cmpor_T vals_p vals_n vals_c w R) : Calls Tryd.prog 61 #[.slice vals_p vals_n vals_c] w R :=
  calls_of_vc (args := [.slice vals_p vals_n vals_c]) [] [] Tryd.mixed Tryd.func61 (cast (cmpor_eq _ _ _ w R) h)

set_option maxRecDepth 100000 in
def cmpint_T (x : Int) (y : Int) (w : World) (R : Ending → World → Prop) : Prop :=
  Calls Tryd.prog 81 #[.int .i64 x] w fun e1 w2 ↦
 ∃ b3, e1 = .returned (.bool b3) ∧ Calls Tryd.prog 81 #[.int .i64 y] w2 fun e4 w5 ↦
 ∃ b6, e4 = .returned (.bool b6) ∧ (b3 = true → (b6 = true → R (.returned (.int .i64 0)) w5) ∧ (b6 = false → R (.returned (.int .i64 (-1))) w5)) ∧ (b3 = false → (b6 = true → R (.returned (.int .i64 1)) w5) ∧ (b6 = false → (x < y → R (.returned (.int .i64 (-1))) w5) ∧ (y ≤ x → (y < x → R (.returned (.int .i64 1)) w5) ∧ (x ≤ y → R (.returned (.int .i64 0)) w5))))

set_option maxRecDepth 100000 in
theorem cmpint_eq (x : Int) (y : Int) (w : World) (R : Ending → World → Prop) : cmpint_T x y w R = vcFn Tryd.prog [] [] Tryd.f62 [.int .i64 x, .int .i64 y] w R := by kernel_rfl

set_option maxRecDepth 100000 in
theorem cmpint_vc (x : Int) (y : Int) (w : World) (R : Ending → World → Prop) (h : cmpint_T x y w R) : Calls Tryd.prog 62 #[.int .i64 x, .int .i64 y] w R :=
  calls_of_vc (args := [.int .i64 x, .int .i64 y]) [] [] Tryd.mixed Tryd.func62 (cast (cmpint_eq _ _ w R) h)

set_option maxRecDepth 100000 in
def cmpint64_T (x : Int) (y : Int) (w : World) (R : Ending → World → Prop) : Prop :=
  Calls Tryd.prog 82 #[.int .i64 x] w fun e1 w2 ↦
 ∃ b3, e1 = .returned (.bool b3) ∧ Calls Tryd.prog 82 #[.int .i64 y] w2 fun e4 w5 ↦
 ∃ b6, e4 = .returned (.bool b6) ∧ (b3 = true → (b6 = true → R (.returned (.int .i64 0)) w5) ∧ (b6 = false → R (.returned (.int .i64 (-1))) w5)) ∧ (b3 = false → (b6 = true → R (.returned (.int .i64 1)) w5) ∧ (b6 = false → (x < y → R (.returned (.int .i64 (-1))) w5) ∧ (y ≤ x → (y < x → R (.returned (.int .i64 1)) w5) ∧ (x ≤ y → R (.returned (.int .i64 0)) w5))))

set_option maxRecDepth 100000 in
theorem cmpint64_eq (x : Int) (y : Int) (w : World) (R : Ending → World → Prop) : cmpint64_T x y w R = vcFn Tryd.prog [] [] Tryd.f63 [.int .i64 x, .int .i64 y] w R := by kernel_rfl

set_option maxRecDepth 100000 in
theorem cmpint64_vc (x : Int) (y : Int) (w : World) (R : Ending → World → Prop) (h : cmpint64_T x y w R) : Calls Tryd.prog 63 #[.int .i64 x, .int .i64 y] w R :=
  calls_of_vc (args := [.int .i64 x, .int .i64 y]) [] [] Tryd.mixed Tryd.func63 (cast (cmpint64_eq _ _ w R) h)

set_option maxRecDepth 100000 in
def isnani_T (x : Int) (w : World) (R : Ending → World → Prop) : Prop :=
  R (.returned (.bool !decide (x = x))) w

set_option maxRecDepth 100000 in
theorem isnani_eq (x : Int) (w : World) (R : Ending → World → Prop) : isnani_T x w R = vcFn Tryd.prog [] [] Tryd.f81 [.int .i64 x] w R := by kernel_rfl

set_option maxRecDepth 100000 in
theorem isnani_vc (x : Int) (w : World) (R : Ending → World → Prop) (h : isnani_T x w R) : Calls Tryd.prog 81 #[.int .i64 x] w R :=
  calls_of_vc (args := [.int .i64 x]) [] [] Tryd.mixed Tryd.func81 (cast (isnani_eq _ w R) h)

set_option maxRecDepth 100000 in
def isnani64_T (x : Int) (w : World) (R : Ending → World → Prop) : Prop :=
  R (.returned (.bool !decide (x = x))) w

set_option maxRecDepth 100000 in
theorem isnani64_eq (x : Int) (w : World) (R : Ending → World → Prop) : isnani64_T x w R = vcFn Tryd.prog [] [] Tryd.f82 [.int .i64 x] w R := by kernel_rfl

set_option maxRecDepth 100000 in
theorem isnani64_vc (x : Int) (w : World) (R : Ending → World → Prop) (h : isnani64_T x w R) : Calls Tryd.prog 82 #[.int .i64 x] w R :=
  calls_of_vc (args := [.int .i64 x]) [] [] Tryd.mixed Tryd.func82 (cast (isnani64_eq _ w R) h)

set_option maxRecDepth 100000 in
def strcmp_T (a : ByteArray) (b : ByteArray) (w : World) (R : Ending → World → Prop) : Prop :=
  Calls Tryd.prog 83 #[.string a, .string b] w fun e1 w2 ↦
 ∃ n3, e1 = .returned (.int .i64 n3) ∧ R (.returned (.int .i64 n3)) w2

set_option maxRecDepth 100000 in
theorem strcmp_eq (a : ByteArray) (b : ByteArray) (w : World) (R : Ending → World → Prop) : strcmp_T a b w R = vcFn Tryd.prog [] [] Tryd.f64 [.string a, .string b] w R := by kernel_rfl

set_option maxRecDepth 100000 in
theorem strcmp_vc (a : ByteArray) (b : ByteArray) (w : World) (R : Ending → World → Prop) (h : strcmp_T a b w R) : Calls Tryd.prog 64 #[.string a, .string b] w R :=
  calls_of_vc (args := [.string a, .string b]) [] [] Tryd.mixed Tryd.func64 (cast (strcmp_eq _ _ w R) h)

set_option maxRecDepth 100000 in
def strcmp0_T (a : ByteArray) (b : ByteArray) (w : World) (R : Ending → World → Prop) : Prop :=
  ∃ n1, ∃ (w'2 : World), Sem.run Tryd.prog (callFunc 100 #[.string a, .string b]) w = Result.ok (Next.value (.int .i64 n1)) w'2 ∧ R (.returned (.int .i64 n1)) w'2

set_option maxRecDepth 100000 in
theorem strcmp0_eq (a : ByteArray) (b : ByteArray) (w : World) (R : Ending → World → Prop) : strcmp0_T a b w R = vcFn Tryd.prog [] [] Tryd.f83 [.string a, .string b] w R := by kernel_rfl

set_option maxRecDepth 100000 in
theorem strcmp0_vc (a : ByteArray) (b : ByteArray) (w : World) (R : Ending → World → Prop) (h : strcmp0_T a b w R) : Calls Tryd.prog 83 #[.string a, .string b] w R :=
  calls_of_vc (args := [.string a, .string b]) [] [] Tryd.mixed Tryd.func83 (cast (strcmp0_eq _ _ w R) h)


end Go.Proofs.YtpjafkcmbinjiaaDoor

/- The contracts of package value, of the document's answer for it, and of the words that hold rows against one another. -/
namespace Go.Proofs.YtpjafkcmbinjiaaDoor
open Go Go.Vc Go.RowKit
set_option maxRecDepth 20000

theorem strcmp0_ok (a b : ByteArray) (w : World) : Calls Tryd.prog 83 #[.string a, .string b] w fun e w' => e = .returned (.int .i64 (cmpS a b)) ∧ w' = w := by
  apply strcmp0_vc
  unfold strcmp0_T
  refine ⟨_, _, ?_, rfl, rfl⟩
  rw [run_callFunc_extern Tryd.func100 (by kernel_rfl) (by kernel_rfl) (by kernel_rfl) (e := Extern.BytealgCompare.compare) (by kernel_rfl), Lib.run_compareString]
  rfl
theorem strcmp_ok (a b : ByteArray) (w : World) : Calls Tryd.prog 64 #[.string a, .string b] w fun e w' => e = .returned (.int .i64 (cmpS a b)) ∧ Ext w w' := by
  apply strcmp_vc
  unfold strcmp_T
  refine (strcmp0_ok a b w).mono ?_
  rintro e w' ⟨rfl, rfl⟩
  exact ⟨_, rfl, rfl, .rfl⟩
theorem isnani_ok (x : Int) (w : World) : Calls Tryd.prog 81 #[.int .i64 x] w fun e w' => e = .returned (.bool false) ∧ Ext w w' := by
  apply isnani_vc
  unfold isnani_T
  exact ⟨by simp, .rfl⟩
theorem isnani64_ok (x : Int) (w : World) : Calls Tryd.prog 82 #[.int .i64 x] w fun e w' => e = .returned (.bool false) ∧ Ext w w' := by
  apply isnani64_vc
  unfold isnani64_T
  exact ⟨by simp, .rfl⟩
theorem cmpint_ok (x y : Int) (w : World) : Calls Tryd.prog 62 #[.int .i64 x, .int .i64 y] w fun e w' => e = .returned (.int .i64 (cmpI x y)) ∧ Ext w w' := by
  apply cmpint_vc
  unfold cmpint_T
  refine (isnani_ok x w).mono ?_
  rintro e w1 ⟨rfl, e1⟩
  refine ⟨_, rfl, (isnani_ok y w1).mono ?_⟩
  rintro e w2 ⟨rfl, e2⟩
  have e12 := e1.trans e2
  refine ⟨_, rfl, ⟨fun h => (by cases h), fun _ => ⟨fun h => (by cases h), fun _ => ⟨fun h => ⟨?_, e12⟩, fun h => ⟨fun h' => ⟨?_, e12⟩, fun h' => ⟨?_, e12⟩⟩⟩⟩⟩⟩
  · unfold cmpI; rw [if_pos h]
  · unfold cmpI; rw [if_neg (by omega), if_pos h']
  · unfold cmpI; rw [if_neg (by omega), if_neg (by omega)]
theorem cmpint64_ok (x y : Int) (w : World) : Calls Tryd.prog 63 #[.int .i64 x, .int .i64 y] w fun e w' => e = .returned (.int .i64 (cmpI x y)) ∧ Ext w w' := by
  apply cmpint64_vc
  unfold cmpint64_T
  refine (isnani64_ok x w).mono ?_
  rintro e w1 ⟨rfl, e1⟩
  refine ⟨_, rfl, (isnani64_ok y w1).mono ?_⟩
  rintro e w2 ⟨rfl, e2⟩
  have e12 := e1.trans e2
  refine ⟨_, rfl, ⟨fun h => (by cases h), fun _ => ⟨fun h => (by cases h), fun _ => ⟨fun h => ⟨?_, e12⟩, fun h => ⟨fun h' => ⟨?_, e12⟩, fun h' => ⟨?_, e12⟩⟩⟩⟩⟩⟩
  · unfold cmpI; rw [if_pos h]
  · unfold cmpI; rw [if_neg (by omega), if_pos h']
  · unfold cmpI; rw [if_neg (by omega), if_neg (by omega)]

/-- The first of the numbers that is not 0. -/
def orI : List Int → Int
  | [] => 0
  | x :: l => if x ≠ 0 then x else orI l
theorem orI_drop {l : List Int} {k : Nat} {x : Int} (h : l[k]? = some x) : orI (l.drop k) = if x ≠ 0 then x else orI (l.drop (k + 1)) := by
  obtain ⟨hk, rfl⟩ := List.getElem?_eq_some_iff.1 h
  rw [List.drop_eq_getElem_cons hk, orI]
theorem cmpor_ok (w : World) {p : Option Addr} {n c : Nat} {l : List Int} (hl : l.length = n) (hn : n < 9223372036854775807) (h : At w p (vI .i64 l)) : Calls Tryd.prog 61 #[.slice p n c] w fun e w' => e = .returned (.int .i64 (orI l)) ∧ Ext w w' := by
  apply cmpor_vc
  unfold cmpor_T
  refine ⟨fun i w' => ∃ k : Nat, i = (k : Int) ∧ k ≤ n ∧ orI (l.drop k) = orI l ∧ Ext w w', fun i _ => n - i.toNat, ⟨0, rfl, Nat.zero_le _, rfl, .rfl⟩, ?_⟩
  rintro i w' ⟨k, rfl, hk, ho, hx⟩
  refine ⟨fun hlt => ?_, fun hge => ⟨?_, hx⟩⟩
  · obtain ⟨b, o, hp, hc⟩ := (h.ext hx).getI (i := k) (by omega)
    have hd := orI_drop (l := l) (k := k) (List.getElem?_eq_getElem (by omega))
    refine ⟨b, o, hp, by omega, by omega, _, by rw [Int.toNat_natCast]; exact hc, fun hne => ⟨?_, hx⟩, fun he => ?_⟩
    · rw [← ho, hd, if_pos hne]
    · rw [i64_next (by omega)]
      refine ⟨⟨k + 1, rfl, by omega, ?_, hx⟩, by simp only [Int.toNat_natCast]; omega⟩
      rw [← ho, hd, if_neg (by simpa using he)]
  · rw [← ho, List.drop_eq_nil_of_le (by omega)]; rfl

theorem nil_size : (ByteArray.mk #[]).size = 0 := rfl
theorem vright_ok (v : Val) (w : World) : Calls Tryd.prog 38 #[v.agg] w fun e w' => e = .returned (.bool v.right) ∧ Ext w w' := by
  apply vright_vc
  unfold vright_T
  intro b1 w2 h1
  have H1 := (Hold.start (Ext.rfl (w := w))).new h1
  obtain ⟨p0, p1, p2⟩ := (H1.blk 0 rfl).c3
  refine ⟨_, p0, fun b5 w6 h5 => ?_⟩
  have H5 := H1.new h5
  obtain ⟨q0, q1, q2⟩ := (H5.blk 0 rfl).c3
  refine ⟨⟨_, q0⟩, (H5.blk 0 rfl).frozen _, ⟨_, q1⟩, (H5.blk 0 rfl).frozen _, ⟨_, q2⟩, (H5.blk 0 rfl).frozen _, fun w11 h11 => ?_⟩
  have H11 := H5.put 0 rfl h11
  have B1 : Blk w11 b1 25 #[.int .i64 v.k, .int .i64 v.n, .string v.s] := H11.blk 1 rfl
  have B5 : Blk w11 b5 25 #[.int .i64 v.k, .int .i64 0, .string ⟨#[]⟩] := H11.blk 0 rfl
  obtain ⟨a0, a1, a2⟩ := B1.c3
  obtain ⟨d0, d1, d2⟩ := B5.c3
  have hx := H11.ext
  have key : ∀ (b : Bool) w', Ext w w' → (b = true ↔ v.Ok) → Ending.returned (Value.bool b) = Ending.returned (Value.bool v.right) ∧ Ext w w' := by
    intro b w' hx hb
    refine ⟨?_, hx⟩
    have : b = v.right := by unfold Val.right; rw [Bool.eq_iff_iff, hb]; simp
    rw [this]
  refine ⟨_, a0, fun hk => ?_, fun hk0 => ⟨fun hk => ?_, fun hk1 => ⟨fun hk => ?_, fun hk2 => ⟨fun hk => ?_, fun hk3 => ?_⟩⟩⟩⟩
  · refine ⟨_, a0, fun _ => ⟨_, a0, fun _ => ⟨_, a0, _, a1, _, a2, _, d0, _, d1, _, d2, fun he => ⟨_, a2, key _ _ hx ?_⟩, fun he => key _ _ hx ?_⟩, fun _ => by omega⟩, fun _ => by omega⟩
    · unfold Val.Ok; rw [he.2.2]; simp [hk, he.2.1, nil_size]
    · unfold Val.Ok; constructor
      · intro h; cases h
      · intro h; rcases h with h | h | h | h
        · rcases he with e | e | e
          · exact absurd rfl e
          · exact absurd h.2.1 e
          · exact absurd h.2.2 e
        · omega
        · omega
        · omega
  · refine ⟨_, a1, ⟨_, d1⟩, B5.frozen _, fun w34 h34 => ?_⟩
    have H34 := H11.put 0 rfl h34
    have B1' : Blk w34 b1 25 #[.int .i64 v.k, .int .i64 v.n, .string v.s] := H34.blk 1 rfl
    have B5' : Blk w34 b5 25 #[.int .i64 v.k, .int .i64 v.n, .string ⟨#[]⟩] := H34.blk 0 rfl
    obtain ⟨a0, a1, a2⟩ := B1'.c3
    obtain ⟨d0, d1, d2⟩ := B5'.c3
    refine ⟨_, a0, fun _ => ⟨_, a0, fun _ => ⟨_, a0, _, a1, _, a2, _, d0, _, d1, _, d2, fun he => ⟨_, a2, key _ _ H34.ext ?_⟩, fun he => key _ _ H34.ext ?_⟩, fun _ => by omega⟩, fun _ => by omega⟩
    · unfold Val.Ok; rw [he.2.2]; simp [hk, nil_size]
    · unfold Val.Ok; constructor
      · intro h; cases h
      · intro h; rcases h with h | h | h | h
        · omega
        · rcases he with e | e | e
          · exact absurd rfl e
          · exact absurd rfl e
          · exact absurd h.2 e
        · omega
        · omega
  · refine ⟨_, a1, ⟨_, d1⟩, B5.frozen _, fun w34 h34 => ?_⟩
    have H34 := H11.put 0 rfl h34
    have B1' : Blk w34 b1 25 #[.int .i64 v.k, .int .i64 v.n, .string v.s] := H34.blk 1 rfl
    have B5' : Blk w34 b5 25 #[.int .i64 v.k, .int .i64 (bits .and .i64 v.n 1), .string ⟨#[]⟩] := H34.blk 0 rfl
    rw [and1_i64] at B5'
    obtain ⟨a0, a1, a2⟩ := B1'.c3
    obtain ⟨d0, d1, d2⟩ := B5'.c3
    refine ⟨_, a0, fun _ => ⟨_, a0, fun _ => ⟨_, a0, _, a1, _, a2, _, d0, _, d1, _, d2, fun he => ⟨_, a2, key _ _ H34.ext ?_⟩, fun he => key _ _ H34.ext ?_⟩, fun _ => by omega⟩, fun _ => by omega⟩
    · unfold Val.Ok
      have : v.n = 0 ∨ v.n = 1 := by omega
      rw [he.2.2]; simp [hk, this, nil_size]
    · unfold Val.Ok; constructor
      · intro h; cases h
      · intro h; rcases h with h | h | h | h
        · omega
        · omega
        · rcases he with e | e | e
          · exact absurd rfl e
          · omega
          · exact absurd h.2.2 e
        · omega
  · refine ⟨_, a2, ⟨_, d2⟩, B5.frozen _, fun w34 h34 => ?_⟩
    have H34 := H11.put 0 rfl h34
    have B1' : Blk w34 b1 25 #[.int .i64 v.k, .int .i64 v.n, .string v.s] := H34.blk 1 rfl
    have B5' : Blk w34 b5 25 #[.int .i64 v.k, .int .i64 0, .string v.s] := H34.blk 0 rfl
    obtain ⟨a0, a1, a2⟩ := B1'.c3
    obtain ⟨d0, d1, d2⟩ := B5'.c3
    refine ⟨_, a0, fun _ => ⟨_, a0, fun _ => ⟨_, a0, _, a1, _, a2, _, d0, _, d1, _, d2, fun he => ⟨_, a2, key _ _ H34.ext ?_⟩, fun he => key _ _ H34.ext ?_⟩, fun _ => by omega⟩, fun _ => by omega⟩
    · unfold Val.Ok; simp only [decide_eq_true_eq]
      constructor
      · intro h; exact .inr (.inr (.inr ⟨hk, he.2.1, by omega⟩))
      · intro h; rcases h with h | h | h | h <;> omega
    · unfold Val.Ok; constructor
      · intro h; cases h
      · intro h; rcases h with h | h | h | h
        · omega
        · omega
        · omega
        · rcases he with e | e | e
          · exact absurd rfl e
          · exact absurd h.2.1 e
          · exact absurd rfl e
  · have no : ¬ v.Ok := by unfold Val.Ok; omega
    refine ⟨_, a0, fun _ => ⟨_, a0, fun _ => ⟨_, a0, _, a1, _, a2, _, d0, _, d1, _, d2, fun he => by omega, fun he => key _ _ hx (by simp [no])⟩, fun _ => key _ _ hx (by simp [no])⟩, fun _ => key _ _ hx (by simp [no])⟩

theorem rvright_ok (v : Val) (w : World) : Calls Tryd.prog 18 #[v.agg] w fun e w' => e = .returned (.bool v.right) ∧ Ext w w' := by
  apply rvright_vc
  unfold rvright_T
  intro b1 w2 h1
  have hx := h1.ext
  obtain ⟨p0, p1, p2⟩ := (Blk.new h1).c3
  have key : ∀ (b : Bool) w', Ext w w' → (b = true ↔ v.Ok) → Ending.returned (Value.bool b) = Ending.returned (Value.bool v.right) ∧ Ext w w' := by
    intro b w' hx hb
    refine ⟨?_, hx⟩
    have : b = v.right := by unfold Val.right; rw [Bool.eq_iff_iff, hb]; simp
    rw [this]
  have f : ∀ {b : Bool}, b = false → ¬ v.Ok → (b = true ↔ v.Ok) := fun hb hn => by simp [hb, hn]
  refine ⟨_, p0, fun hk => ⟨_, p1, fun hn => ⟨_, p2, key _ _ hx ?_⟩, fun hn => key _ _ hx ?_⟩, fun hk0 => ⟨fun hk => ⟨_, p2, key _ _ hx ?_⟩, fun hk1 => ⟨fun hk => ⟨_, p1, fun hn => ⟨_, p2, key _ _ hx ?_⟩, fun hn => ⟨_, p1, fun hn1 => ⟨_, p2, key _ _ hx ?_⟩, fun hn1 => key _ _ hx ?_⟩⟩,
    fun hk2 => ⟨fun hk => ⟨_, p1, fun hn => ⟨_, p2, key _ _ hx ?_⟩, fun hn => key _ _ hx ?_⟩, fun hk3 => key _ _ hx ?_⟩⟩⟩⟩
  all_goals (unfold Val.Ok; try rw [sEq_iff])
  · exact ⟨fun h => .inl ⟨hk, hn, h⟩, fun h => by rcases h with h | h | h | h <;> first | exact h.2.2 | omega⟩
  · exact ⟨fun h => (by cases h), fun h => by omega⟩
  · exact ⟨fun h => .inr (.inl ⟨hk, h⟩), fun h => by rcases h with h | h | h | h <;> first | exact h.2 | omega⟩
  · exact ⟨fun h => .inr (.inr (.inl ⟨hk, .inl hn, h⟩)), fun h => by rcases h with h | h | h | h <;> first | exact h.2.2 | omega⟩
  · exact ⟨fun h => .inr (.inr (.inl ⟨hk, .inr hn1, h⟩)), fun h => by rcases h with h | h | h | h <;> first | exact h.2.2 | omega⟩
  · exact ⟨fun h => (by cases h), fun h => by omega⟩
  · rw [decide_eq_true_eq]
    exact ⟨fun h => .inr (.inr (.inr ⟨hk, hn, by omega⟩)), fun h => by rcases h with h | h | h | h <;> omega⟩
  · exact ⟨fun h => (by cases h), fun h => by omega⟩
  · exact ⟨fun h => (by cases h), fun h => by omega⟩

theorem vcompare_ok (a b : Val) (w : World) : Calls Tryd.prog 39 #[a.agg, b.agg] w fun e w' => e = .returned (.int .i64 (cmpV a b)) ∧ Ext w w' := by
  apply vcompare_vc
  unfold vcompare_T
  intro b1 w2 h1 b4 w5 h4 w7 h7
  have H := (((Hold.start (Ext.rfl (w := w))).new h1).new h4).step h7.ext
  obtain ⟨p0, p1, p2⟩ := (H.blk 1 rfl).c3
  obtain ⟨q0, q1, q2⟩ := (H.blk 0 rfl).c3
  refine ⟨_, p0, _, q0, _, p1, _, q1, _, p2, _, q2, (cmpint_ok _ _ w7).mono ?_⟩
  rintro e w16 ⟨rfl, e16⟩
  refine ⟨_, rfl, e16.same, (cmpint64_ok _ _ w16).mono ?_⟩
  rintro e w19 ⟨rfl, e19⟩
  refine ⟨_, rfl, e19.same, (strcmp_ok _ _ w19).mono ?_⟩
  rintro e w22 ⟨rfl, e22⟩
  refine ⟨_, rfl, fun b24 w25 h24 => ?_⟩
  have H25 := ((H.step e16).step e19).step e22
  have H26 := H25.new h24
  refine (cmpor_ok (l := [cmpI a.k b.k, cmpI a.n b.n, cmpS a.s b.s]) w25 rfl (by simp) h24.at).mono ?_
  rintro e w28 ⟨rfl, e28⟩
  refine ⟨_, rfl, ?_, (H26.step e28).ext⟩
  have : orI [cmpI a.k b.k, cmpI a.n b.n, cmpS a.s b.s] = cmpV a b := by
    rw [cmpV_def]
    simp only [orI]
    congr 1
    congr 1
    by_cases h : cmpS a.s b.s = 0 <;> simp [h]
  rw [this]

theorem rvless_ok (a b : Val) (w : World) : Calls Tryd.prog 57 #[a.agg, b.agg] w fun e w' => e = .returned (.bool (lessV a b)) ∧ Ext w w' := by
  apply rvless_vc
  unfold rvless_T
  intro b1 w2 h1 b4 w5 h4
  have H := ((Hold.start (Ext.rfl (w := w))).new h1).new h4
  obtain ⟨p0, p1, p2⟩ := (H.blk 1 rfl).c3
  obtain ⟨q0, q1, q2⟩ := (H.blk 0 rfl).c3
  refine ⟨_, p0, _, q0, fun hk => ⟨_, p0, _, q0, ?_, H.ext⟩, fun hk => ⟨_, p0, fun h3 => ⟨_, p2, _, q2, ?_, H.ext⟩, fun h3 => ⟨_, p1, _, q1, ?_, H.ext⟩⟩⟩
  · unfold lessV; rw [if_pos hk]
  · unfold lessV; rw [if_neg (by simpa using hk), if_pos h3]
  · unfold lessV; rw [if_neg (by simpa using hk), if_neg h3]
theorem rvcompare_ok (a b : Val) (w : World) : Calls Tryd.prog 34 #[a.agg, b.agg] w fun e w' => e = .returned (.int .i64 (rcmpV a b)) ∧ Ext w w' := by
  apply rvcompare_vc
  unfold rvcompare_T
  intro b1 w2 h1 b4 w5 h4
  have H := ((Hold.start (Ext.rfl (w := w))).new h1).new h4
  obtain ⟨p0, p1, p2⟩ := (H.blk 1 rfl).c3
  obtain ⟨q0, q1, q2⟩ := (H.blk 0 rfl).c3
  refine ⟨_, p0, _, p1, _, p2, _, q0, _, q1, _, q2, (rvless_ok a b w5).mono ?_⟩
  rintro e w8 ⟨rfl, e8⟩
  have H8 := H.step e8
  obtain ⟨p0, p1, p2⟩ := (H8.blk 1 rfl).c3
  obtain ⟨q0, q1, q2⟩ := (H8.blk 0 rfl).c3
  refine ⟨_, rfl, _, q0, _, q1, _, q2, _, p0, _, p1, _, p2, (rvless_ok b a w8).mono ?_⟩
  rintro e w9 ⟨rfl, e9⟩
  have hx := (H8.step e9).ext
  refine ⟨_, rfl, fun h => ⟨?_, hx⟩, fun h => ⟨fun h' => ⟨?_, hx⟩, fun h' => ⟨?_, hx⟩⟩⟩
  · unfold rcmpV; rw [if_pos h]
  · unfold rcmpV; rw [if_neg (by simp [h]), if_pos h']
  · unfold rcmpV; rw [if_neg (by simp [h]), if_neg (by simp [h'])]

end Go.Proofs.YtpjafkcmbinjiaaDoor

/- The contracts of package prune: sets of answers. -/
namespace Go.Proofs.YtpjafkcmbinjiaaDoor
open Go Go.Vc Go.RowKit
set_option maxRecDepth 20000
attribute [local irreducible] Calls

theorem pwhen_ok (ok : Bool) (a : Int) (w : World) : Calls Tryd.prog 40 #[.bool ok, .int .i64 a] w fun e w' => e = .returned (.int .i64 (if ok then a else 0)) ∧ Ext w w' := by
  apply pwhen_vc
  unfold pwhen_T
  exact ⟨fun h => ⟨by rw [if_pos h], Ext.rfl⟩, fun h => ⟨by rw [if_neg (by simp [h])], Ext.rfl⟩⟩
def andA (a b : Int) : Int := if a = 1 ∨ b = 1 then 1 else if a = 4 ∨ b = 4 then 4 else 2
theorem pand_ok (a b : Int) (w : World) : Calls Tryd.prog 66 #[.int .i64 a, .int .i64 b] w fun e w' => e = .returned (.int .i64 (andA a b)) ∧ Ext w w' := by
  apply pand_vc
  unfold pand_T andA
  refine ⟨fun h => ⟨by rw [if_pos h], Ext.rfl⟩, fun h => ⟨fun k => ⟨by rw [if_neg (by omega), if_pos k], Ext.rfl⟩, fun k => ⟨by rw [if_neg (by omega), if_neg (by omega)], Ext.rfl⟩⟩⟩
theorem s3_bits (s : S3) : bits .and .i64 s.i 1 = (if s.no then 1 else 0) ∧ bits .and .i64 s.i 2 = (if s.yes then 2 else 0) ∧ bits .and .i64 s.i 4 = (if s.null then 4 else 0) := by
  obtain ⟨a, b, c⟩ := s
  cases a <;> cases b <;> cases c <;> decide +kernel
theorem s3_make (a b c : Bool) : bits .or .i64 (bits .or .i64 (if a then 4 else 0) (if b then 2 else 0)) (if c then 1 else 0) = S3.i ⟨c, b, a⟩ := by
  cases a <;> cases b <;> cases c <;> decide +kernel
theorem pnot_ok (s : S3) (w : World) : Calls Tryd.prog 42 #[.int .i64 s.i] w fun e w' => e = .returned (.int .i64 s.not.i) ∧ Ext w w' := by
  apply pnot_vc
  unfold pnot_T
  obtain ⟨h1, h2, h4⟩ := s3_bits s
  refine (pwhen_ok _ _ w).mono ?_
  rintro e w2 ⟨rfl, e2⟩
  refine ⟨_, rfl, (pwhen_ok _ _ w2).mono ?_⟩
  rintro e w5 ⟨rfl, e5⟩
  refine ⟨_, rfl, ?_, e2.trans e5⟩
  rw [h1, h2, h4]
  obtain ⟨a, b, c⟩ := s
  cases a <;> cases b <;> cases c <;> rfl

/-- A set's answers, one by one. -/
def memL (s : S3) : List Int := (if s.no then [1] else []) ++ ((if s.yes then [2] else []) ++ (if s.null then [4] else []))
theorem each_ok (s : S3) (w : World) : Calls Tryd.prog 65 #[.int .i64 s.i] w fun e w' => ∃ b1, e = .returned (.func (.func 84) #[] #[.pointer (some ⟨b1, 0, none⟩)]) ∧
    New w (.cells #[.int .i64 s.i] 61) b1 w' := by
  apply peach_vc
  unfold peach_T
  intro b1 w2 h1
  exact ⟨b1, rfl, h1⟩
theorem each1_ok (s : S3) (l0 fv0 : Nat) (wc : World) (Q : Nat → List (Nat × Obj) → Prop) (fs : List (Nat × Obj)) (w : World) (hm : ∀ k fs, Q k fs → (fv0, Obj.cells #[.int .i64 s.i] 61 (0, 0)) ∈ fs)
    (hR : ∀ (k : Nat) (a : Int) (fs : List (Nat × Obj)) (W : World) (R : Bool → World → Prop), (memL s)[k]? = some a → Q k fs → Hold wc W fs [] → (∀ fs' W', Q (k + 1) fs' → Hold wc W' fs' [] → R true W') → Yield Tryd.prog l0 #[.int .i64 a] W R)
    (q0 : Q 0 fs) (H : Hold wc w fs []) :
    Calls Tryd.prog 84 #[.func (.yield l0) #[] #[], .pointer (some ⟨fv0, 0, none⟩)] w fun e W' => e = .returned (.tuple #[]) ∧ ∃ fs', Q (memL s).length fs' ∧ Hold wc W' fs' [] := by
  apply peach1_vc
  unfold peach1_T
  obtain ⟨h1, h2, h4⟩ := s3_bits s
  refine ⟨fun n W => ∃ fs, Hold wc W fs [] ∧ ((n = 1 ∧ Q 0 fs) ∨ (n = 2 ∧ Q (if s.no then 1 else 0) fs) ∨ (n = 4 ∧ Q ((if s.no then 1 else 0) + (if s.yes then 1 else 0)) fs) ∨ (n = 8 ∧ Q (memL s).length fs)), fun n _ => (8 - n).toNat, ⟨fs, H, .inl ⟨rfl, q0⟩⟩, ?_⟩
  rintro n W ⟨fs, H, hq⟩
  have m1 : (8 - shlI IntKind.i64 1 1).toNat < (8 - 1 : Int).toNat := by decide
  have m2 : (8 - shlI IntKind.i64 2 1).toNat < (8 - 2 : Int).toNat := by decide
  have m4 : (8 - shlI IntKind.i64 4 1).toNat < (8 - 4 : Int).toNat := by decide
  have hlen : (memL s).length = ((if s.no then 1 else 0) + (if s.yes then 1 else 0)) + (if s.null then 1 else 0) := by
    obtain ⟨a, b, c⟩ := s
    cases a <;> cases b <;> cases c <;> rfl
  refine ⟨fun hle => ?_, fun hgt => ?_⟩
  · rcases hq with ⟨rfl, q⟩ | ⟨rfl, q⟩ | ⟨rfl, q⟩ | ⟨rfl, _⟩
    · refine ⟨_, (H.blkM (hm _ _ q)).one, fun hb => ?_, fun hb => ⟨⟨fs, H, .inr (.inl ⟨by decide, ?_⟩)⟩, m1⟩⟩
      · rw [h1] at hb
        have hn : s.no = true := by revert hb; cases s.no <;> simp
        refine hR 0 1 fs W _ (by unfold memL; rw [hn]; rfl) q H fun fs' W' q' H' => ⟨fun h => (by cases h), fun _ => ⟨⟨fs', H', .inr (.inl ⟨by decide, by rw [if_pos hn]; exact q'⟩)⟩, m1⟩⟩
      · rw [h1] at hb
        have hn : s.no = false := by revert hb; cases s.no <;> simp
        rw [if_neg (by simp [hn])]; exact q
    · refine ⟨_, (H.blkM (hm _ _ q)).one, fun hb => ?_, fun hb => ⟨⟨fs, H, .inr (.inr (.inl ⟨by decide, ?_⟩))⟩, m2⟩⟩
      · rw [h2] at hb
        have hn : s.yes = true := by revert hb; cases s.yes <;> simp
        refine hR _ 2 fs W _ ?_ q H fun fs' W' q' H' => ⟨fun h => (by cases h), fun _ => ⟨⟨fs', H', .inr (.inr (.inl ⟨by decide, by rw [if_pos hn]; exact q'⟩))⟩, m2⟩⟩
        obtain ⟨a, b, c⟩ := s
        simp only at hn
        subst hn
        cases a <;> cases c <;> rfl
      · rw [h2] at hb
        have hn : s.yes = false := by revert hb; cases s.yes <;> simp
        rw [if_neg (c := s.yes = true) (by simp [hn]), Nat.add_zero]; exact q
    · refine ⟨_, (H.blkM (hm _ _ q)).one, fun hb => ?_, fun hb => ⟨⟨fs, H, .inr (.inr (.inr ⟨by decide, ?_⟩))⟩, m4⟩⟩
      · rw [h4] at hb
        have hn : s.null = true := by revert hb; cases s.null <;> simp
        refine hR _ 4 fs W _ ?_ q H fun fs' W' q' H' => ⟨fun h => (by cases h), fun _ => ⟨⟨fs', H', .inr (.inr (.inr ⟨by decide, by rw [hlen, if_pos (c := s.null = true) hn]; exact q'⟩))⟩, m4⟩⟩
        obtain ⟨a, b, c⟩ := s
        simp only at hn
        subst hn
        cases a <;> cases b <;> rfl
      · rw [h4] at hb
        have hn : s.null = false := by revert hb; cases s.null <;> simp
        rw [hlen, if_neg (c := s.null = true) (by simp [hn]), Nat.add_zero]; exact q
    · exact absurd hle (by decide)
  · rcases hq with ⟨rfl, q⟩ | ⟨rfl, q⟩ | ⟨rfl, q⟩ | ⟨rfl, q⟩
    · exact absurd hgt (by decide)
    · exact absurd hgt (by decide)
    · exact absurd hgt (by decide)
    · exact ⟨rfl, fs, q, H⟩

/-! ### both -/
def inI (t : List Int) (a o : Int) : Int := t.foldl (fun o b => bits .or .i64 o (andA a b)) o
def outI (l t : List Int) (o : Int) : Int := l.foldl (fun o a => inI t a o) o
theorem foldl_take {α β : Type} (f : β → α → β) (o : β) {l : List α} {k : Nat} {a : α} (h : l[k]? = some a) : (l.take (k + 1)).foldl f o = f ((l.take k).foldl f o) a := by
  rw [List.take_add_one, h, List.foldl_append]; rfl
theorem both_fold (s t : S3) : outI (memL s) (memL t) 0 = (s.and t).i := by
  obtain ⟨a, b, c⟩ := s
  obtain ⟨d, e, f⟩ := t
  cases a <;> cases b <;> cases c <;> cases d <;> cases e <;> cases f <;> decide +kernel
set_option maxHeartbeats 4000000 in
theorem pboth_ok (s t : S3) (w : World) : Calls Tryd.prog 43 #[.int .i64 s.i, .int .i64 t.i] w fun e w' => e = .returned (.int .i64 (s.and t).i) ∧ Ext w w' := by
  apply pboth_vc
  unfold pboth_T
  intro b1 w2 h1 b4 w5 h4
  have H := ((Hold.start (Ext.rfl (w := w))).new h1).new h4
  repeat (first
    | (intro _ _ hS; replace H := H.new hS; clear hS)
    | (intro _ hS; (first | replace H := H.put 0 rfl hS | replace H := H.put 1 rfl hS | replace H := H.put 2 rfl hS | replace H := H.put 3 rfl hS | replace H := H.put 4 rfl hS | replace H := H.put 5 rfl hS | replace H := H.put 6 rfl hS | replace H := H.put 7 rfl hS); clear hS; try simp only [setA, List.setIfInBounds_toArray, List.set_cons_zero, List.set_cons_succ, Nat.zero_add, Nat.reduceAdd] at H)
    | (intro _ hS; replace H := H.step (Drew.ext hS); clear hS)
    | (first | refine ⟨⟨_, H.get 0 rfl rfl⟩, ?_⟩ | refine ⟨⟨_, H.get 1 rfl rfl⟩, ?_⟩ | refine ⟨⟨_, H.get 2 rfl rfl⟩, ?_⟩ | refine ⟨⟨_, H.get 3 rfl rfl⟩, ?_⟩ | refine ⟨⟨_, H.get 4 rfl rfl⟩, ?_⟩ | refine ⟨⟨_, H.get 5 rfl rfl⟩, ?_⟩ | refine ⟨⟨_, H.get 6 rfl rfl⟩, ?_⟩ | refine ⟨⟨_, H.get 7 rfl rfl⟩, ?_⟩)
    | (first | refine ⟨H.frz 0 rfl, ?_⟩ | refine ⟨H.frz 1 rfl, ?_⟩ | refine ⟨H.frz 2 rfl, ?_⟩ | refine ⟨H.frz 3 rfl, ?_⟩ | refine ⟨H.frz 4 rfl, ?_⟩ | refine ⟨H.frz 5 rfl, ?_⟩ | refine ⟨H.frz 6 rfl, ?_⟩ | refine ⟨H.frz 7 rfl, ?_⟩)
    | (first | refine ⟨_, H.get 0 rfl rfl, ?_⟩ | refine ⟨_, H.get 1 rfl rfl, ?_⟩ | refine ⟨_, H.get 2 rfl rfl, ?_⟩ | refine ⟨_, H.get 3 rfl rfl, ?_⟩ | refine ⟨_, H.get 4 rfl rfl, ?_⟩ | refine ⟨_, H.get 5 rfl rfl, ?_⟩ | refine ⟨_, H.get 6 rfl rfl, ?_⟩ | refine ⟨_, H.get 7 rfl rfl, ?_⟩)
    | (first | refine ⟨_, _, _, H.get 0 rfl rfl, ?_⟩ | refine ⟨_, _, _, H.get 1 rfl rfl, ?_⟩ | refine ⟨_, _, _, H.get 2 rfl rfl, ?_⟩ | refine ⟨_, _, _, H.get 3 rfl rfl, ?_⟩ | refine ⟨_, _, _, H.get 4 rfl rfl, ?_⟩ | refine ⟨_, _, _, H.get 5 rfl rfl, ?_⟩ | refine ⟨_, _, _, H.get 6 rfl rfl, ?_⟩ | refine ⟨_, _, _, H.get 7 rfl rfl, ?_⟩))
  refine (each_ok s _).mono ?_
  rintro e W ⟨bs, rfl, hN⟩
  replace H := H.new hN
  refine ⟨_, rfl, _, _, rfl, by kernel_rfl, fun r d16 l17 w118 hB hY => ?_⟩
  replace H := H.began hB
  let F : Nat → Int → List (Nat × Obj) := fun q o => [(l17, .loop (r q)), (d16, .deferred (some [])), (bs, .cells #[.int .i64 s.i] 61 (0, 0)), (b4, .cells #[.int .i64 o] 61 (0, 0)), (b1, .cells #[.int .i64 t.i] 61 (0, 0))]
  have H : Hold w w118 (F 0 0) [] := H
  refine (each1_ok s l17 bs w (fun k fs => fs = F 0 (outI ((memL s).take k) (memL t) 0)) _ w118 (by rintro k _ rfl; simp [F]) ?_ rfl H).mono ?_
  · rintro k a fs W R ha rfl H hc
    refine hY a W R (H.loop 0 rfl) fun b24 w25 h24 => ?_
    replace H := H.new h24
    refine ⟨⟨_, (H.blk 0 rfl).one⟩, (H.blk 0 rfl).frozen _, fun w28 h28 => ?_⟩
    replace H := H.put 0 rfl h28
    refine ⟨H.loop 1 rfl, ?_⟩
    rintro _ rfl
    replace H := H.turn 1 1 rfl
    refine ⟨_, (H.blk 5 rfl).one, ?_⟩
    refine (each_ok t _).mono ?_
    rintro e W34 ⟨bt, rfl, hN⟩
    replace H := H.new hN
    refine ⟨_, rfl, _, _, rfl, by kernel_rfl, ⟨_, H.loop 2 rfl⟩, fun r41 l42 w143 hL hY2 => ?_⟩
    replace H := H.new hL
    let G : Nat → Int → List (Nat × Obj) := fun q o => (l42, .loop (r41 q)) :: (bt, .cells #[.int .i64 t.i] 61 (0, 0)) :: (b24, .cells #[.int .i64 a] 61 (0, 0)) :: F 1 o
    have H : Hold w w143 (G 0 (outI ((memL s).take k) (memL t) 0)) [] := H
    refine (each1_ok t l42 bt w (fun j fs => fs = G 0 (inI ((memL t).take j) a (outI ((memL s).take k) (memL t) 0))) _ w143 (by rintro k _ rfl; simp [G]) ?_ rfl H).mono ?_
    · rintro j b fs W46 R47 hb rfl H hc2
      refine hY2 b W46 R47 (H.loop 0 rfl) ⟨H.loop 0 rfl, ?_⟩
      rintro _ rfl
      replace H := H.turn 0 1 rfl
      intro w51 hD
      replace H := H.step (Drew.ext hD)
      refine ⟨_, (H.blk 6 rfl).one, _, (H.blk 2 rfl).one, (pand_ok _ _ w51).mono ?_⟩
      rintro e w56 ⟨rfl, e56⟩
      replace H := H.step e56
      refine ⟨_, rfl, e56.same, ⟨_, (H.blk 6 rfl).one⟩, (H.blk 6 rfl).frozen _, fun w59 h59 => ?_⟩
      replace H := H.put 6 rfl h59
      refine ⟨H.loop 0 rfl, hc2 _ _ rfl ?_⟩
      replace H := H.turn 0 0 rfl
      have e : inI ((memL t).take (j + 1)) a (outI ((memL s).take k) (memL t) 0) = bits .or .i64 (inI ((memL t).take j) a (outI ((memL s).take k) (memL t) 0)) (andA a b) := foldl_take _ _ hb
      rw [e]
      exact H
    · rintro e w66 ⟨rfl, fs', rfl, H⟩
      refine ⟨⟨_, rfl⟩, .inl ⟨H.loop 0 rfl, ?_⟩⟩
      replace H := H.turn 0 2 rfl
      refine ⟨H.loop 3 rfl, hc _ _ rfl ?_⟩
      replace H := (H.turn 3 0 rfl).tail.tail.tail
      have e : outI ((memL s).take (k + 1)) (memL t) 0 = inI (memL t) a (outI ((memL s).take k) (memL t) 0) := foldl_take _ _ ha
      rw [e]
      rw [List.take_length] at H
      exact H
  · rintro e w73 ⟨rfl, fs', rfl, H⟩
    refine ⟨⟨_, rfl⟩, .inl ⟨H.loop 0 rfl, ?_⟩⟩
    replace H := H.turn 0 2 rfl
    rw [List.take_length, both_fold] at H
    refine ⟨_, (H.blk 3 rfl).one, H.dfr 1 rfl, rfl, ?_⟩
    exact (H.shut 1 rfl).ext
end Go.Proofs.YtpjafkcmbinjiaaDoor

/- The verification conditions of the functions, evaluated: printed by program. -/
namespace Go.Proofs.YtpjafkcmbinjiaaDoor
open Go Go.Vc
set_option maxRecDepth 20000

set_option maxRecDepth 100000 in
def sisname_T (s : ByteArray) (w : World) (R : Ending → World → Prop) : Prop :=
  (s ≠ ByteArray.mk #[] ∧ (↑s.size : Int) ≤ 24 → (0 : Int) ≤ 0 ∧ 0 < (↑s.size : Int) ∧ Calls Tryd.prog 78
 #[.string (ByteArray.mk #[97, 98, 99, 100, 101, 102, 103, 104, 105, 106, 107, 108, 109, 110, 111, 112, 113, 114, 115, 116, 117, 118, 119, 120, 121, 122]), .int .u8 (bAt s 0)]
 w fun e2 w3 ↦
 ∃ n4, e2 = .returned (.int .i64 n4) ∧ (0 ≤ n4 → Calls Tryd.prog 79
 #[.string s, Value.string
 (ByteArray.mk
 #[97, 98, 99, 100, 101, 102, 103, 104, 105, 106, 107, 108, 109, 110, 111, 112, 113, 114, 115, 116, 117, 118, 119, 120, 121, 122, 48, 49, 50, 51, 52, 53, 54, 55, 56, 57, 95])]
 w3 fun e6 w7 ↦ ∃ s8, e6 = .returned (.string s8) ∧ R (.returned (.bool (sEq s8 ⟨#[]⟩))) w7) ∧ (n4 < 0 → R (.returned (.bool false)) w3)) ∧ (s = ByteArray.mk #[] ∨ 24 < (↑s.size : Int) → R (.returned (.bool false)) w)

set_option maxRecDepth 100000 in
theorem sisname_eq (s : ByteArray) (w : World) (R : Ending → World → Prop) : sisname_T s w R = vcFn Tryd.prog [] [] Tryd.f58 [.string s] w R := by kernel_rfl

set_option maxRecDepth 100000 in
theorem sisname_vc (s : ByteArray) (w : World) (R : Ending → World → Prop) (h : sisname_T s w R) : Calls Tryd.prog 58 #[.string s] w R :=
  calls_of_vc (args := [.string s]) [] [] Tryd.mixed Tryd.func58 (cast (sisname_eq _ w R) h)

set_option maxRecDepth 100000 in
def sidxb_T (s : ByteArray) (c : Int) (w : World) (R : Ending → World → Prop) : Prop :=
  Calls Tryd.prog 92 #[.string s, .int .u8 c] w fun e1 w2 ↦
 ∃ n3, e1 = .returned (.int .i64 n3) ∧ R (.returned (.int .i64 n3)) w2

set_option maxRecDepth 100000 in
theorem sidxb_eq (s : ByteArray) (c : Int) (w : World) (R : Ending → World → Prop) : sidxb_T s c w R = vcFn Tryd.prog [] [] Tryd.f78 [.string s, .int .u8 c] w R := by kernel_rfl

set_option maxRecDepth 100000 in
theorem sidxb_vc (s : ByteArray) (c : Int) (w : World) (R : Ending → World → Prop) (h : sidxb_T s c w R) : Calls Tryd.prog 78 #[.string s, .int .u8 c] w R :=
  calls_of_vc (args := [.string s, .int .u8 c]) [] [] Tryd.mixed Tryd.func78 (cast (sidxb_eq _ _ w R) h)

set_option maxRecDepth 100000 in
def slidxb_T (s : ByteArray) (c : Int) (w : World) (R : Ending → World → Prop) : Prop :=
  ∃ n1, ∃ (w'2 : World), Sem.run Tryd.prog (callFunc 104 #[.string s, .int .u8 c]) w = Result.ok (Next.value (.int .i64 n1)) w'2 ∧ R (.returned (.int .i64 n1)) w'2

set_option maxRecDepth 100000 in
theorem slidxb_eq (s : ByteArray) (c : Int) (w : World) (R : Ending → World → Prop) : slidxb_T s c w R = vcFn Tryd.prog [] [] Tryd.f92 [.string s, .int .u8 c] w R := by kernel_rfl

set_option maxRecDepth 100000 in
theorem slidxb_vc (s : ByteArray) (c : Int) (w : World) (R : Ending → World → Prop) (h : slidxb_T s c w R) : Calls Tryd.prog 92 #[.string s, .int .u8 c] w R :=
  calls_of_vc (args := [.string s, .int .u8 c]) [] [] Tryd.mixed Tryd.func92 (cast (slidxb_eq _ _ w R) h)

set_option maxRecDepth 100000 in
def strim_T (s : ByteArray) (cutset : ByteArray) (w : World) (R : Ending → World → Prop) : Prop :=
  (s = ByteArray.mk #[] ∨ cutset = ByteArray.mk #[] → R (.returned (.string s)) w) ∧ (s ≠ ByteArray.mk #[] ∧ cutset ≠ ByteArray.mk #[] → ((↑cutset.size : Int) = 1 → (0 : Int) ≤ 0 ∧ 0 < (↑cutset.size : Int) ∧ (bAt cutset 0 < 128 → ∀ w'5, Drew w w'5 → (0 : Int) ≤ 0 ∧ 0 < (↑cutset.size : Int) ∧ (0 : Int) ≤ 0 ∧ 0 < (↑cutset.size : Int) ∧ Calls Tryd.prog 94 #[.string s, .int .u8 (bAt cutset 0)] w'5 fun e7 w8 ↦
 ∃ s9, e7 = .returned (.string s9) ∧ Calls Tryd.prog 93 #[.string s9, .int .u8 (bAt cutset 0)] w8 fun e10 w11 ↦
 ∃ s12, e10 = .returned (.string s12) ∧ R (.returned (.string s12)) w11) ∧ (128 ≤ bAt cutset 0 → Calls Tryd.prog 95 #[.string cutset] w fun e14 w15 ↦
 ∃ (vs16 : Array Value), vs16.size = 256 ∧ ∃ b17, e14 = .returned (.tuple #[.agg vs16, .bool b17]) ∧ ∀ b18 w'19, New w15 (Obj.cells (zeroA Tryd.prog 133) 133) b18 w'19 → vs16.size = 256 ∧ CanPut w'19 b18 0 vs16 ∧ ∀ w'21, Put w'19 b18 0 vs16.1 w'21 → (b17 = true → Calls Tryd.prog 97 #[.string s, .pointer (some ⟨b18, 0, none⟩)] w'21 fun e24 w25 ↦
 ∃ s26, e24 = .returned (.string s26) ∧ Calls Tryd.prog 96 #[.string s26, .pointer (some ⟨b18, 0, none⟩)] w25 fun e27 w28 ↦
 ∃ s29, e27 = .returned (.string s29) ∧ R (.returned (.string s29)) w28) ∧ (b17 = false → Calls Tryd.prog 99 #[.string s, .string cutset] w'21 fun e31 w32 ↦
 ∃ s33, e31 = .returned (.string s33) ∧ Calls Tryd.prog 98 #[.string s33, .string cutset] w32 fun e34 w35 ↦
 ∃ s36, e34 = .returned (.string s36) ∧ R (.returned (.string s36)) w35))) ∧ ((↑cutset.size : Int) ≠ 1 → Calls Tryd.prog 95 #[.string cutset] w fun e38 w39 ↦
 ∃ (vs40 : Array Value), vs40.size = 256 ∧ ∃ b41, e38 = .returned (.tuple #[.agg vs40, .bool b41]) ∧ ∀ b42 w'43, New w39 (Obj.cells (zeroA Tryd.prog 133) 133) b42 w'43 → vs40.size = 256 ∧ CanPut w'43 b42 0 vs40 ∧ ∀ w'45, Put w'43 b42 0 vs40.1 w'45 → (b41 = true → Calls Tryd.prog 97 #[.string s, .pointer (some ⟨b42, 0, none⟩)] w'45 fun e48 w49 ↦
 ∃ s50, e48 = .returned (.string s50) ∧ Calls Tryd.prog 96 #[.string s50, .pointer (some ⟨b42, 0, none⟩)] w49 fun e51 w52 ↦
 ∃ s53, e51 = .returned (.string s53) ∧ R (.returned (.string s53)) w52) ∧ (b41 = false → Calls Tryd.prog 99 #[.string s, .string cutset] w'45 fun e55 w56 ↦
 ∃ s57, e55 = .returned (.string s57) ∧ Calls Tryd.prog 98 #[.string s57, .string cutset] w56 fun e58 w59 ↦
 ∃ s60, e58 = .returned (.string s60) ∧ R (.returned (.string s60)) w59)))

set_option maxRecDepth 100000 in
theorem strim_eq (s : ByteArray) (cutset : ByteArray) (w : World) (R : Ending → World → Prop) : strim_T s cutset w R = vcFn Tryd.prog [] [(4, [2, 4, 6, 10, 12, 8, 14, 16, 0])] Tryd.f79 [.string s, .string cutset] w R := by kernel_rfl

set_option maxRecDepth 100000 in
theorem strim_vc (s : ByteArray) (cutset : ByteArray) (w : World) (R : Ending → World → Prop) (h : strim_T s cutset w R) : Calls Tryd.prog 79 #[.string s, .string cutset] w R :=
  calls_of_vc (args := [.string s, .string cutset]) [] [(4, [2, 4, 6, 10, 12, 8, 14, 16, 0])] Tryd.mixed Tryd.func79 (cast (strim_eq _ _ w R) h)

set_option maxRecDepth 100000 in
def mkascii_T (chars : ByteArray) (w : World) (R : Ending → World → Prop) : Prop :=
  ∀ b1 w'2, New w (Obj.cells (zeroA Tryd.prog 133) 133) b1 w'2 → ∃ (I4 : Int → World → Prop), ∃ (M5 : Int → World → Nat), I4 0 w'2 ∧ ∀ (n6 : Int) (w'7 : World), I4 n6 w'7 → (n6 < (↑chars.size : Int) → 0 ≤ n6 ∧ n6 < (↑chars.size : Int) ∧ (128 ≤ bAt chars n6.toNat → ∃ (vs11 : Array Value), vs11.size = 256 ∧ CellsAt w'7 b1 0 vs11 ∧ vs11.size = 256 ∧ CanPut w'7 b1 0 vs11 ∧ ∀ w'12, Put w'7 b1 0 vs11.1 w'12 → ∃ (vs14 : Array Value), vs14.size = 256 ∧ CellsAt w'12 b1 0 vs14 ∧ R (.returned (.tuple #[.agg vs14, .bool false])) w'12) ∧ (bAt chars n6.toNat < 128 → 0 ≤ bAt chars n6.toNat ∧ bAt chars n6.toNat < 256 ∧ (∃ u16, w'7.cell? ⟨b1, (0 + (bAt chars n6.toNat).toNat), none⟩ = some u16) ∧ w'7.frozen? ⟨b1, (0 + (bAt chars n6.toNat).toNat), none⟩ = false ∧ ∀ w'17, Put w'7 b1 (0 + (bAt chars n6.toNat).toNat) [.bool true] w'17 → I4 (IntKind.i64.wrap (n6 + 1)) w'17 ∧ M5 (IntKind.i64.wrap (n6 + 1)) w'17 < M5 n6 w'7)) ∧ ((↑chars.size : Int) ≤ n6 → ∃ (vs20 : Array Value), vs20.size = 256 ∧ CellsAt w'7 b1 0 vs20 ∧ vs20.size = 256 ∧ CanPut w'7 b1 0 vs20 ∧ ∀ w'21, Put w'7 b1 0 vs20.1 w'21 → ∃ (vs23 : Array Value), vs23.size = 256 ∧ CellsAt w'21 b1 0 vs23 ∧ R (.returned (.tuple #[.agg vs23, .bool true])) w'21)

set_option maxRecDepth 100000 in
theorem mkascii_eq (chars : ByteArray) (w : World) (R : Ending → World → Prop) : mkascii_T chars w R = vcFn Tryd.prog [] [] Tryd.f95 [.string chars] w R := by kernel_rfl

set_option maxRecDepth 100000 in
theorem mkascii_vc (chars : ByteArray) (w : World) (R : Ending → World → Prop) (h : mkascii_T chars w R) : Calls Tryd.prog 95 #[.string chars] w R :=
  calls_of_vc (args := [.string chars]) [] [] Tryd.mixed Tryd.func95 (cast (mkascii_eq _ w R) h)

set_option maxRecDepth 100000 in
def trimla_T (s : ByteArray) («as» : Option Addr) (w : World) (R : Ending → World → Prop) : Prop :=
  ∃ (I1 : ByteArray → World → Prop), ∃ (M2 : ByteArray → World → Nat), I1 s w ∧ ∀ (s3 : ByteArray) (w'4 : World), I1 s3 w'4 → (0 < (↑s3.size : Int) → (0 : Int) ≤ 0 ∧ 0 < (↑s3.size : Int) ∧ Calls Tryd.prog 105 #[.pointer «as», .int .u8 (bAt s3 0)] w'4 fun e7 w8 ↦
 ∃ b9, e7 = .returned (.bool b9) ∧ (b9 = false → R (.returned (.string s3)) w8) ∧ (b9 = true → (0 : Int) ≤ 1 ∧ 1 ≤ (↑s3.size : Int) ∧ I1 (s3.extract 1 s3.size) w8 ∧ M2 (s3.extract 1 s3.size) w8 < M2 s3 w'4)) ∧ ((↑s3.size : Int) ≤ 0 → R (.returned (.string s3)) w'4)

set_option maxRecDepth 100000 in
theorem trimla_eq (s : ByteArray) («as» : Option Addr) (w : World) (R : Ending → World → Prop) : trimla_T s «as» w R = vcFn Tryd.prog [] [] Tryd.f96 [.string s, .pointer «as»] w R := by kernel_rfl

set_option maxRecDepth 100000 in
theorem trimla_vc (s : ByteArray) («as» : Option Addr) (w : World) (R : Ending → World → Prop) (h : trimla_T s «as» w R) : Calls Tryd.prog 96 #[.string s, .pointer «as»] w R :=
  calls_of_vc (args := [.string s, .pointer «as»]) [] [] Tryd.mixed Tryd.func96 (cast (trimla_eq _ _ w R) h)

set_option maxRecDepth 100000 in
def trimra_T (s : ByteArray) («as» : Option Addr) (w : World) (R : Ending → World → Prop) : Prop :=
  ∃ (I1 : ByteArray → World → Prop), ∃ (M2 : ByteArray → World → Nat), I1 s w ∧ ∀ (s3 : ByteArray) (w'4 : World), I1 s3 w'4 → (0 < (↑s3.size : Int) → 0 ≤ IntKind.i64.wrap ((↑s3.size : Int) - 1) ∧ IntKind.i64.wrap ((↑s3.size : Int) - 1) < (↑s3.size : Int) ∧ Calls Tryd.prog 105 #[.pointer «as», .int .u8 (bAt s3 (IntKind.i64.wrap ((↑s3.size : Int) - 1)).toNat)] w'4 fun e7 w8 ↦
 ∃ b9, e7 = .returned (.bool b9) ∧ (b9 = false → R (.returned (.string s3)) w8) ∧ (b9 = true → 0 ≤ IntKind.i64.wrap ((↑s3.size : Int) - 1) ∧ IntKind.i64.wrap ((↑s3.size : Int) - 1) ≤ (↑s3.size : Int) ∧ I1 (s3.extract 0 (IntKind.i64.wrap ((↑s3.size : Int) - 1)).toNat) w8 ∧ M2 (s3.extract 0 (IntKind.i64.wrap ((↑s3.size : Int) - 1)).toNat) w8 < M2 s3 w'4)) ∧ ((↑s3.size : Int) ≤ 0 → R (.returned (.string s3)) w'4)

set_option maxRecDepth 100000 in
theorem trimra_eq (s : ByteArray) («as» : Option Addr) (w : World) (R : Ending → World → Prop) : trimra_T s «as» w R = vcFn Tryd.prog [] [] Tryd.f97 [.string s, .pointer «as»] w R := by kernel_rfl

set_option maxRecDepth 100000 in
theorem trimra_vc (s : ByteArray) («as» : Option Addr) (w : World) (R : Ending → World → Prop) (h : trimra_T s «as» w R) : Calls Tryd.prog 97 #[.string s, .pointer «as»] w R :=
  calls_of_vc (args := [.string s, .pointer «as»]) [] [] Tryd.mixed Tryd.func97 (cast (trimra_eq _ _ w R) h)

set_option maxRecDepth 100000 in
def ascont_T («as» : Option Addr) (c : Int) (w : World) (R : Ending → World → Prop) : Prop :=
  ∃ b1, ∃ o2, «as» = some ⟨b1, o2, none⟩ ∧ 0 ≤ c ∧ c < 256 ∧ ∃ b3, w.cell? ⟨b1, (o2 + c.toNat), none⟩ = some (.bool b3) ∧ R (.returned (.bool b3)) w

set_option maxRecDepth 100000 in
theorem ascont_eq («as» : Option Addr) (c : Int) (w : World) (R : Ending → World → Prop) : ascont_T «as» c w R = vcFn Tryd.prog [] [] Tryd.f105 [.pointer «as», .int .u8 c] w R := by kernel_rfl

set_option maxRecDepth 100000 in
theorem ascont_vc («as» : Option Addr) (c : Int) (w : World) (R : Ending → World → Prop) (h : ascont_T «as» c w R) : Calls Tryd.prog 105 #[.pointer «as», .int .u8 c] w R :=
  calls_of_vc (args := [.pointer «as», .int .u8 c]) [] [] Tryd.mixed Tryd.func105 (cast (ascont_eq _ _ w R) h)

set_option maxRecDepth 100000 in
def sright_T (cols_p : Option Addr) (cols_n : Nat) (cols_c : Nat) (w : World) (R : Ending → World → Prop) : Prop :=
  ∀ b1 w'2, New w (Obj.map #[] 0) b1 w'2 → ∃ (I4 : Int → World → Prop), ∃ (M5 : Int → World → Nat), I4 0 w'2 ∧ ∀ (n6 : Int) (w'7 : World), I4 n6 w'7 → (n6 < (↑cols_n : Int) → ∃ b10, ∃ o11, cols_p = some ⟨b10, o11, none⟩ ∧ 0 ≤ n6 ∧ n6 < (↑cols_n : Int) ∧ ∃ s12, w'7.cell? ⟨b10, (o11 + n6.toNat * 3), none⟩ = some (.string s12) ∧ ∃ n13, w'7.cell? ⟨b10, (o11 + n6.toNat * 3 + 1), none⟩ = some (.int .i64 n13) ∧ ∃ b14, w'7.cell? ⟨b10, (o11 + n6.toNat * 3 + 2), none⟩ = some (.bool b14) ∧ ∀ b15 w'16, New w'7 (Obj.cells #[.string ⟨#[]⟩, .int .i64 0, .bool false] 48) b15 w'16 → (∃ u18, w'16.cell? ⟨b15, 0, none⟩ = some u18) ∧ w'16.frozen? ⟨b15, 0, none⟩ = false ∧ (∃ u19, w'16.cell? ⟨b15, 1, none⟩ = some u19) ∧ w'16.frozen? ⟨b15, 1, none⟩ = false ∧ (∃ u20, w'16.cell? ⟨b15, 2, none⟩ = some u20) ∧ w'16.frozen? ⟨b15, 2, none⟩ = false ∧ ∀ w'21, Put w'16 b15 0 [.string s12, .int .i64 n13, .bool b14] w'21 → ∃ s23, w'21.cell? ⟨b15, 0, none⟩ = some (.string s23) ∧ Calls Tryd.prog 58 #[.string s23] w'21 fun e24 w25 ↦
 ∃ b26, e24 = .returned (.bool b26) ∧ (b26 = false → R (.returned (.bool false)) w25) ∧ (b26 = true → ∃ s29, w25.cell? ⟨b15, 0, none⟩ = some (.string s29) ∧ ∃ b30, (∀ (w131 : World), Same w25 w131 → Sem.run Tryd.prog (Instr.lookup 91 (.map (some b1)) (.string s29) false) w131 = Result.ok (.bool b30) w131) ∧ (b30 = true → R (.returned (.bool false)) w25) ∧ (b30 = false → ∃ n35, w25.cell? ⟨b15, 1, none⟩ = some (.int .i64 n35) ∧ (n35 < 1 → R (.returned (.bool false)) w25) ∧ (1 ≤ n35 → ∃ n38, w25.cell? ⟨b15, 1, none⟩ = some (.int .i64 n38) ∧ (3 < n38 → R (.returned (.bool false)) w25) ∧ (n38 ≤ 3 → ∃ s41, w25.cell? ⟨b15, 0, none⟩ = some (.string s41) ∧ ∃ (w'42 : World), Sem.run Tryd.prog (Instr.mapUpdate 91 (.map (some b1)) (.string s41) (.bool true)) w25 = Result.ok () w'42 ∧ I4 (IntKind.i64.wrap (n6 + 1)) w'42 ∧ M5 (IntKind.i64.wrap (n6 + 1)) w'42 < M5 n6 w'7))))) ∧ ((↑cols_n : Int) ≤ n6 → R (.returned (.bool (decide (0 < (↑cols_n : Int)) && decide ((↑cols_n : Int) ≤ 16)))) w'7)

set_option maxRecDepth 100000 in
theorem sright_eq (cols_p : Option Addr) (cols_n : Nat) (cols_c : Nat) (w : World) (R : Ending → World → Prop) : sright_T cols_p cols_n cols_c w R = vcFn Tryd.prog [] [] Tryd.f35 [.slice cols_p cols_n cols_c] w R := by kernel_rfl

set_option maxRecDepth 100000 in
theorem sright_vc (cols_p : Option Addr) (cols_n : Nat) (cols_c : Nat) (w : World) (R : Ending → World → Prop) (h : sright_T cols_p cols_n cols_c w R) : Calls Tryd.prog 35 #[.slice cols_p cols_n cols_c] w R :=
  calls_of_vc (args := [.slice cols_p cols_n cols_c]) [] [] Tryd.mixed Tryd.func35 (cast (sright_eq _ _ _ w R) h)

set_option maxRecDepth 100000 in
def sfind_T (cols_p : Option Addr) (cols_n : Nat) (cols_c : Nat) (name : ByteArray) (w : World) (R : Ending → World → Prop) : Prop :=
  ∀ b1 w'2, New w (Obj.cells #[.string name] 9) b1 w'2 → Calls Tryd.prog 72 #[.slice cols_p cols_n cols_c, .func (Fn.func 73) #[] #[.pointer (some ⟨b1, 0, none⟩)]] w'2 fun e4 w5 ↦
 ∃ n6, e4 = .returned (.int .i64 n6) ∧ R (.returned (.int .i64 n6)) w5

set_option maxRecDepth 100000 in
theorem sfind_eq (cols_p : Option Addr) (cols_n : Nat) (cols_c : Nat) (name : ByteArray) (w : World) (R : Ending → World → Prop) : sfind_T cols_p cols_n cols_c name w R = vcFn Tryd.prog [] [] Tryd.f54 [.slice cols_p cols_n cols_c, .string name] w R := by kernel_rfl

set_option maxRecDepth 100000 in
theorem sfind_vc (cols_p : Option Addr) (cols_n : Nat) (cols_c : Nat) (name : ByteArray) (w : World) (R : Ending → World → Prop) (h : sfind_T cols_p cols_n cols_c name w R) : Calls Tryd.prog 54 #[.slice cols_p cols_n cols_c, .string name] w R :=
  calls_of_vc (args := [.slice cols_p cols_n cols_c, .string name]) [] [] Tryd.mixed Tryd.func54 (cast (sfind_eq _ _ _ _ w R) h)

set_option maxRecDepth 100000 in
def sfind1_T (c0 : ByteArray) (c1 : Int) (c2 : Bool) (fv0 : Nat) (w : World) (R : Ending → World → Prop) : Prop :=
  ∀ b1 w'2, New w (Obj.cells #[.string c0, .int .i64 c1, .bool c2] 48) b1 w'2 → ∃ s4, w'2.cell? ⟨b1, 0, none⟩ = some (.string s4) ∧ ∃ s5, w'2.cell? ⟨fv0, 0, none⟩ = some (.string s5) ∧ R (.returned (.bool (sEq s4 s5))) w'2

set_option maxRecDepth 100000 in
theorem sfind1_eq (c0 : ByteArray) (c1 : Int) (c2 : Bool) (fv0 : Nat) (w : World) (R : Ending → World → Prop) : sfind1_T c0 c1 c2 fv0 w R = vcFn Tryd.prog [] [] Tryd.f73 [.agg #[.string c0, .int .i64 c1, .bool c2], .pointer (some ⟨fv0, 0, none⟩)] w R := by kernel_rfl

set_option maxRecDepth 100000 in
theorem sfind1_vc (c0 : ByteArray) (c1 : Int) (c2 : Bool) (fv0 : Nat) (w : World) (R : Ending → World → Prop) (h : sfind1_T c0 c1 c2 fv0 w R) : Calls Tryd.prog 73 #[.agg #[.string c0, .int .i64 c1, .bool c2], .pointer (some ⟨fv0, 0, none⟩)] w R :=
  calls_of_vc (args := [.agg #[.string c0, .int .i64 c1, .bool c2], .pointer (some ⟨fv0, 0, none⟩)]) [] [] Tryd.mixed Tryd.func73 (cast (sfind1_eq _ _ _ _ w R) h)

set_option maxRecDepth 100000 in
def ifcol_T (s_p : Option Addr) (s_n : Nat) (s_c : Nat) (cv1_0 : Nat) (w : World) (R : Ending → World → Prop) : Prop :=
  ∃ (I1 : Int → World → Prop), ∃ (M2 : Int → World → Nat), I1 0 w ∧ ∀ (n3 : Int) (w'4 : World), I1 n3 w'4 → (n3 < (↑s_n : Int) → ∃ b7, ∃ o8, s_p = some ⟨b7, o8, none⟩ ∧ 0 ≤ n3 ∧ n3 < (↑s_n : Int) ∧ ∃ s9, w'4.cell? ⟨b7, (o8 + n3.toNat * 3), none⟩ = some (.string s9) ∧ ∃ n10, w'4.cell? ⟨b7, (o8 + n3.toNat * 3 + 1), none⟩ = some (.int .i64 n10) ∧ ∃ b11, w'4.cell? ⟨b7, (o8 + n3.toNat * 3 + 2), none⟩ = some (.bool b11) ∧ Calls Tryd.prog 73 #[.agg #[.string s9, .int .i64 n10, .bool b11], .pointer (some ⟨cv1_0, 0, none⟩)] w'4
 fun e12 w13 ↦
 ∃ b14, e12 = .returned (.bool b14) ∧ (b14 = true → R (.returned (.int .i64 n3)) w13) ∧ (b14 = false → I1 (IntKind.i64.wrap (n3 + 1)) w13 ∧ M2 (IntKind.i64.wrap (n3 + 1)) w13 < M2 n3 w'4)) ∧ ((↑s_n : Int) ≤ n3 → R (.returned (.int .i64 (-1))) w'4)

set_option maxRecDepth 100000 in
theorem ifcol_eq (s_p : Option Addr) (s_n : Nat) (s_c : Nat) (cv1_0 : Nat) (w : World) (R : Ending → World → Prop) : ifcol_T s_p s_n s_c cv1_0 w R = vcFn Tryd.prog [] [] Tryd.f72 [.slice s_p s_n s_c, .func (Fn.func 73) #[] #[.pointer (some ⟨cv1_0, 0, none⟩)]] w R := by kernel_rfl

set_option maxRecDepth 100000 in
theorem ifcol_vc (s_p : Option Addr) (s_n : Nat) (s_c : Nat) (cv1_0 : Nat) (w : World) (R : Ending → World → Prop) (h : ifcol_T s_p s_n s_c cv1_0 w R) : Calls Tryd.prog 72 #[.slice s_p s_n s_c, .func (Fn.func 73) #[] #[.pointer (some ⟨cv1_0, 0, none⟩)]] w R :=
  calls_of_vc (args := [.slice s_p s_n s_c, .func (Fn.func 73) #[] #[.pointer (some ⟨cv1_0, 0, none⟩)]]) [] [] Tryd.mixed Tryd.func72 (cast (ifcol_eq _ _ _ _ w R) h)

set_option maxRecDepth 100000 in
def r5isname_T (s : ByteArray) (w : World) (R : Ending → World → Prop) : Prop :=
  ∃ (I1 : Int → World → Prop), ∃ (M2 : Int → World → Nat), I1 0 w ∧ ∀ (n3 : Int) (w'4 : World), I1 n3 w'4 → (n3 < (↑s.size : Int) → 0 ≤ n3 ∧ n3 < (↑s.size : Int) ∧ (97 ≤ bAt s n3.toNat → 0 ≤ n3 ∧ n3 < (↑s.size : Int) ∧ 0 ≤ n3 ∧ n3 < (↑s.size : Int) ∧ (48 ≤ bAt s n3.toNat → 0 ≤ n3 ∧ n3 < (↑s.size : Int) ∧ (bAt s n3.toNat ≤ 57 → (122 < bAt s n3.toNat → (n3 = 0 → R (.returned (.bool false)) w'4) ∧ (n3 ≠ 0 → I1 (IntKind.i64.wrap (n3 + 1)) w'4 ∧ M2 (IntKind.i64.wrap (n3 + 1)) w'4 < M2 n3 w'4)) ∧ (bAt s n3.toNat ≤ 122 → I1 (IntKind.i64.wrap (n3 + 1)) w'4 ∧ M2 (IntKind.i64.wrap (n3 + 1)) w'4 < M2 n3 w'4)) ∧ (57 < bAt s n3.toNat → 0 ≤ n3 ∧ n3 < (↑s.size : Int) ∧ (122 < bAt s n3.toNat → (bAt s n3.toNat ≠ 95 ∨ n3 = 0 → R (.returned (.bool false)) w'4) ∧ (bAt s n3.toNat = 95 ∧ n3 ≠ 0 → I1 (IntKind.i64.wrap (n3 + 1)) w'4 ∧ M2 (IntKind.i64.wrap (n3 + 1)) w'4 < M2 n3 w'4)) ∧ (bAt s n3.toNat ≤ 122 → I1 (IntKind.i64.wrap (n3 + 1)) w'4 ∧ M2 (IntKind.i64.wrap (n3 + 1)) w'4 < M2 n3 w'4))) ∧ (bAt s n3.toNat < 48 → 0 ≤ n3 ∧ n3 < (↑s.size : Int) ∧ (122 < bAt s n3.toNat → (bAt s n3.toNat ≠ 95 ∨ n3 = 0 → R (.returned (.bool false)) w'4) ∧ (bAt s n3.toNat = 95 ∧ n3 ≠ 0 → I1 (IntKind.i64.wrap (n3 + 1)) w'4 ∧ M2 (IntKind.i64.wrap (n3 + 1)) w'4 < M2 n3 w'4)) ∧ (bAt s n3.toNat ≤ 122 → I1 (IntKind.i64.wrap (n3 + 1)) w'4 ∧ M2 (IntKind.i64.wrap (n3 + 1)) w'4 < M2 n3 w'4))) ∧ (bAt s n3.toNat < 97 → 0 ≤ n3 ∧ n3 < (↑s.size : Int) ∧ (48 ≤ bAt s n3.toNat → 0 ≤ n3 ∧ n3 < (↑s.size : Int) ∧ (bAt s n3.toNat ≤ 57 → (n3 = 0 → R (.returned (.bool false)) w'4) ∧ (n3 ≠ 0 → I1 (IntKind.i64.wrap (n3 + 1)) w'4 ∧ M2 (IntKind.i64.wrap (n3 + 1)) w'4 < M2 n3 w'4)) ∧ (57 < bAt s n3.toNat → 0 ≤ n3 ∧ n3 < (↑s.size : Int) ∧ (bAt s n3.toNat ≠ 95 ∨ n3 = 0 → R (.returned (.bool false)) w'4) ∧ (bAt s n3.toNat = 95 ∧ n3 ≠ 0 → I1 (IntKind.i64.wrap (n3 + 1)) w'4 ∧ M2 (IntKind.i64.wrap (n3 + 1)) w'4 < M2 n3 w'4))) ∧ (bAt s n3.toNat < 48 → 0 ≤ n3 ∧ n3 < (↑s.size : Int) ∧ (bAt s n3.toNat ≠ 95 ∨ n3 = 0 → R (.returned (.bool false)) w'4) ∧ (bAt s n3.toNat = 95 ∧ n3 ≠ 0 → I1 (IntKind.i64.wrap (n3 + 1)) w'4 ∧ M2 (IntKind.i64.wrap (n3 + 1)) w'4 < M2 n3 w'4)))) ∧ ((↑s.size : Int) ≤ n3 → R (.returned (.bool (decide (1 ≤ (↑s.size : Int)) && decide ((↑s.size : Int) ≤ 24)))) w'4)

set_option maxRecDepth 100000 in
theorem r5isname_eq (s : ByteArray) (w : World) (R : Ending → World → Prop) : r5isname_T s w R = vcFn Tryd.prog [] [] Tryd.f32 [.string s] w R := by kernel_rfl

set_option maxRecDepth 100000 in
theorem r5isname_vc (s : ByteArray) (w : World) (R : Ending → World → Prop) (h : r5isname_T s w R) : Calls Tryd.prog 32 #[.string s] w R :=
  calls_of_vc (args := [.string s]) [] [] Tryd.mixed Tryd.func32 (cast (r5isname_eq _ w R) h)

set_option maxRecDepth 100000 in
def r5find_T (cols_p : Option Addr) (cols_n : Nat) (cols_c : Nat) (name : ByteArray) (w : World) (R : Ending → World → Prop) : Prop :=
  ∃ (I1 : Int → World → Prop), ∃ (M2 : Int → World → Nat), I1 0 w ∧ ∀ (n3 : Int) (w'4 : World), I1 n3 w'4 → (n3 < (↑cols_n : Int) → ∃ b7, ∃ o8, cols_p = some ⟨b7, o8, none⟩ ∧ 0 ≤ n3 ∧ n3 < (↑cols_n : Int) ∧ ∃ s9, w'4.cell? ⟨b7, (o8 + n3.toNat * 3), none⟩ = some (.string s9) ∧ (s9 = name → R (.returned (.int .i64 n3)) w'4) ∧ (s9 ≠ name → I1 (IntKind.i64.wrap (n3 + 1)) w'4 ∧ M2 (IntKind.i64.wrap (n3 + 1)) w'4 < M2 n3 w'4)) ∧ ((↑cols_n : Int) ≤ n3 → R (.returned (.int .i64 (-1))) w'4)

set_option maxRecDepth 100000 in
theorem r5find_eq (cols_p : Option Addr) (cols_n : Nat) (cols_c : Nat) (name : ByteArray) (w : World) (R : Ending → World → Prop) : r5find_T cols_p cols_n cols_c name w R = vcFn Tryd.prog [] [] Tryd.f33 [.slice cols_p cols_n cols_c, .string name] w R := by kernel_rfl

set_option maxRecDepth 100000 in
theorem r5find_vc (cols_p : Option Addr) (cols_n : Nat) (cols_c : Nat) (name : ByteArray) (w : World) (R : Ending → World → Prop) (h : r5find_T cols_p cols_n cols_c name w R) : Calls Tryd.prog 33 #[.slice cols_p cols_n cols_c, .string name] w R :=
  calls_of_vc (args := [.slice cols_p cols_n cols_c, .string name]) [] [] Tryd.mixed Tryd.func33 (cast (r5find_eq _ _ _ _ w R) h)

set_option maxRecDepth 100000 in
def r5right_T (cols_p : Option Addr) (cols_n : Nat) (cols_c : Nat) (w : World) (R : Ending → World → Prop) : Prop :=
  ((↑cols_n : Int) < 1 ∨ 16 < (↑cols_n : Int) → R (.returned (.bool false)) w) ∧ (1 ≤ (↑cols_n : Int) ∧ (↑cols_n : Int) ≤ 16 → ∃ (I3 : Int → World → Prop), ∃ (M4 : Int → World → Nat), I3 0 w ∧ ∀ (n5 : Int) (w'6 : World), I3 n5 w'6 → (n5 < (↑cols_n : Int) → ∃ b9, ∃ o10, cols_p = some ⟨b9, o10, none⟩ ∧ 0 ≤ n5 ∧ n5 < (↑cols_n : Int) ∧ ∃ s11, w'6.cell? ⟨b9, (o10 + n5.toNat * 3), none⟩ = some (.string s11) ∧ Calls Tryd.prog 32 #[.string s11] w'6 fun e12 w13 ↦
 ∃ b14, e12 = .returned (.bool b14) ∧ (b14 = false → R (.returned (.bool false)) w13) ∧ (b14 = true → ∃ b17, ∃ o18, cols_p = some ⟨b17, o18, none⟩ ∧ 0 ≤ n5 ∧ n5 < (↑cols_n : Int) ∧ ∃ s19, w13.cell? ⟨b17, (o18 + n5.toNat * 3), none⟩ = some (.string s19) ∧ Calls Tryd.prog 33 #[.slice cols_p cols_n cols_c, .string s19] w13 fun e20 w21 ↦
 ∃ n22, e20 = .returned (.int .i64 n22) ∧ (n22 ≠ n5 → R (.returned (.bool false)) w21) ∧ (n22 = n5 → ∃ b25, ∃ o26, cols_p = some ⟨b25, o26, none⟩ ∧ 0 ≤ n5 ∧ n5 < (↑cols_n : Int) ∧ ∃ n27, w21.cell? ⟨b25, (o26 + n5.toNat * 3 + 1), none⟩ = some (.int .i64 n27) ∧ (n27 < 1 → R (.returned (.bool false)) w21) ∧ (1 ≤ n27 → ∃ b30, ∃ o31, cols_p = some ⟨b30, o31, none⟩ ∧ 0 ≤ n5 ∧ n5 < (↑cols_n : Int) ∧ ∃ n32, w21.cell? ⟨b30, (o31 + n5.toNat * 3 + 1), none⟩ = some (.int .i64 n32) ∧ (3 < n32 → R (.returned (.bool false)) w21) ∧ (n32 ≤ 3 → I3 (IntKind.i64.wrap (n5 + 1)) w21 ∧ M4 (IntKind.i64.wrap (n5 + 1)) w21 < M4 n5 w'6))))) ∧ ((↑cols_n : Int) ≤ n5 → R (.returned (.bool true)) w'6))

set_option maxRecDepth 100000 in
theorem r5right_eq (cols_p : Option Addr) (cols_n : Nat) (cols_c : Nat) (w : World) (R : Ending → World → Prop) : r5right_T cols_p cols_n cols_c w R = vcFn Tryd.prog [] [] Tryd.f17 [.slice cols_p cols_n cols_c] w R := by kernel_rfl

set_option maxRecDepth 100000 in
theorem r5right_vc (cols_p : Option Addr) (cols_n : Nat) (cols_c : Nat) (w : World) (R : Ending → World → Prop) (h : r5right_T cols_p cols_n cols_c w R) : Calls Tryd.prog 17 #[.slice cols_p cols_n cols_c] w R :=
  calls_of_vc (args := [.slice cols_p cols_n cols_c]) [] [] Tryd.mixed Tryd.func17 (cast (r5right_eq _ _ _ w R) h)

set_option maxRecDepth 100000 in
def r5fits_T (cols_p : Option Addr) (cols_n : Nat) (cols_c : Nat) (row_p : Option Addr) (row_n : Nat) (row_c : Nat) (w : World) (R : Ending → World → Prop) : Prop :=
  Calls Tryd.prog 17 #[.slice cols_p cols_n cols_c] w fun e1 w2 ↦
 ∃ b3, e1 = .returned (.bool b3) ∧ (b3 = false ∨ (↑row_n : Int) ≠ (↑cols_n : Int) → R (.returned (.bool false)) w2) ∧ (b3 = true ∧ (↑row_n : Int) = (↑cols_n : Int) → ∃ (I6 : Int → World → Prop), ∃ (M7 : Int → World → Nat), I6 0 w2 ∧ ∀ (n8 : Int) (w'9 : World), I6 n8 w'9 → (n8 < (↑row_n : Int) → ∃ b12, ∃ o13, row_p = some ⟨b12, o13, none⟩ ∧ 0 ≤ n8 ∧ n8 < (↑row_n : Int) ∧ ∃ n14, w'9.cell? ⟨b12, (o13 + n8.toNat * 3), none⟩ = some (.int .i64 n14) ∧ ∃ n15, w'9.cell? ⟨b12, (o13 + n8.toNat * 3 + 1), none⟩ = some (.int .i64 n15) ∧ ∃ s16, w'9.cell? ⟨b12, (o13 + n8.toNat * 3 + 2), none⟩ = some (.string s16) ∧ Calls Tryd.prog 18 #[.agg #[.int .i64 n14, .int .i64 n15, .string s16]] w'9 fun e17 w18 ↦
 ∃ b19, e17 = .returned (.bool b19) ∧ ∀ w'20, Drew w18 w'20 → (b19 = false → R (.returned (.bool false)) w'20) ∧ (b19 = true → ∃ b24, ∃ o25, row_p = some ⟨b24, o25, none⟩ ∧ 0 ≤ n8 ∧ n8 < (↑row_n : Int) ∧ ∃ n26, w'20.cell? ⟨b24, (o25 + n8.toNat * 3), none⟩ = some (.int .i64 n26) ∧ ∃ b27, ∃ o28, cols_p = some ⟨b27, o28, none⟩ ∧ 0 ≤ n8 ∧ n8 < (↑cols_n : Int) ∧ ∃ n29, w'20.cell? ⟨b27, (o28 + n8.toNat * 3 + 1), none⟩ = some (.int .i64 n29) ∧ (n26 ≠ n29 → ∃ b31, ∃ o32, row_p = some ⟨b31, o32, none⟩ ∧ 0 ≤ n8 ∧ n8 < (↑row_n : Int) ∧ ∃ n33, w'20.cell? ⟨b31, (o32 + n8.toNat * 3), none⟩ = some (.int .i64 n33) ∧ (n33 ≠ 0 → R (.returned (.bool false)) w'20) ∧ (n33 = 0 → ∃ b36, ∃ o37, cols_p = some ⟨b36, o37, none⟩ ∧ 0 ≤ n8 ∧ n8 < (↑cols_n : Int) ∧ ∃ b38, w'20.cell? ⟨b36, (o37 + n8.toNat * 3 + 2), none⟩ = some (.bool b38) ∧ (b38 = false → R (.returned (.bool false)) w'20) ∧ (b38 = true → I6 (IntKind.i64.wrap (n8 + 1)) w'20 ∧ M7 (IntKind.i64.wrap (n8 + 1)) w'20 < M7 n8 w'9))) ∧ (n26 = n29 → I6 (IntKind.i64.wrap (n8 + 1)) w'20 ∧ M7 (IntKind.i64.wrap (n8 + 1)) w'20 < M7 n8 w'9))) ∧ ((↑row_n : Int) ≤ n8 → R (.returned (.bool true)) w'9))

set_option maxRecDepth 100000 in
theorem r5fits_eq (cols_p : Option Addr) (cols_n : Nat) (cols_c : Nat) (row_p : Option Addr) (row_n : Nat) (row_c : Nat) (w : World) (R : Ending → World → Prop) : r5fits_T cols_p cols_n cols_c row_p row_n row_c w R = vcFn Tryd.prog [] [(8, [2, 4, 6, 8, 10, 12, 14, 16, 18, 20, 22, 24, 26, 28, 30, 32, 34, 36, 38, 40, 42, 44, 46, 48, 50, 52, 54, 56, 58, 60, 62, 0])] Tryd.f8 [.slice cols_p cols_n cols_c, .slice row_p row_n row_c] w R := by kernel_rfl

set_option maxRecDepth 100000 in
theorem r5fits_vc (cols_p : Option Addr) (cols_n : Nat) (cols_c : Nat) (row_p : Option Addr) (row_n : Nat) (row_c : Nat) (w : World) (R : Ending → World → Prop) (h : r5fits_T cols_p cols_n cols_c row_p row_n row_c w R) : Calls Tryd.prog 8 #[.slice cols_p cols_n cols_c, .slice row_p row_n row_c] w R :=
  calls_of_vc (args := [.slice cols_p cols_n cols_c, .slice row_p row_n row_c]) [] [(8, [2, 4, 6, 8, 10, 12, 14, 16, 18, 20, 22, 24, 26, 28, 30, 32, 34, 36, 38, 40, 42, 44, 46, 48, 50, 52, 54, 56, 58, 60, 62, 0])] Tryd.mixed Tryd.func8 (cast (r5fits_eq _ _ _ _ _ _ w R) h)


end Go.Proofs.YtpjafkcmbinjiaaDoor

/- Big arrays in memory, told as one. -/
namespace Go.Vc
open Go Go.RowKit

theorem setA_get : ∀ (vs : List Value) (cs : Array Value) (o i : Nat), (setA cs o vs)[i]? = if o ≤ i ∧ i < o + vs.length ∧ i < cs.size then vs[i - o]? else cs[i]?
  | [], cs, o, i => by unfold setA; simp; omega
  | v :: vs, cs, o, i => by
    unfold setA
    rw [setA_get vs, Array.getElem?_setIfInBounds, Array.size_setIfInBounds]
    simp only [List.length_cons]
    by_cases h : o = i
    · subst h
      rw [if_neg (by omega), if_pos rfl]
      split
      · rw [if_pos (by omega)]; simp
      · rw [if_neg (by omega), Array.getElem?_eq_none (by omega)]
    · rw [if_neg h]
      by_cases h2 : o ≤ i ∧ i < o + (vs.length + 1) ∧ i < cs.size
      · rw [if_pos (by omega), if_pos h2, show i - o = (i - (o + 1)) + 1 by omega, List.getElem?_cons_succ]
      · rw [if_neg (by omega), if_neg h2]
theorem setA_size : ∀ (vs : List Value) (cs : Array Value) (o : Nat), (setA cs o vs).size = cs.size
  | [], _, _ => rfl
  | v :: vs, cs, o => by unfold setA; rw [setA_size vs]; simp
/-- All cells are stored anew. -/
theorem setA_all {cs vs : Array Value} (h : vs.size = cs.size) : setA cs 0 vs.toList = vs := by
  apply Array.ext_getElem?
  intro i
  rw [setA_get]
  by_cases hi : i < cs.size
  · rw [if_pos (by simp; omega)]; simp
  · rw [if_neg (by omega), Array.getElem?_eq_none (by omega), Array.getElem?_eq_none (by omega)]
section
variable {w w' w0 W W' : World} {b : Nat} {t : TypeId} {cs vs : Array Value} {fs : List (Nat × Obj)} {ms : List Row}
theorem Blk.cellsAt (h : Blk w b t cs) : CellsAt w b 0 cs := fun k v hk => by rw [Nat.zero_add, h.cell]; exact hk
theorem Blk.canPut (h : Blk w b t cs) (hs : vs.size = cs.size) (h1 : ∀ (k : Nat) v, vs[k]? = some v → v.oneCell' = true) : CanPut w b 0 vs := fun k v hk => by
  have hk' := (Array.getElem?_eq_some_iff.1 hk).1
  exact ⟨h1 k v hk, ⟨cs[k]'(by omega), by rw [Nat.zero_add, h.cell]; exact Array.getElem?_eq_getElem _⟩, h.frozen _⟩
theorem Hold.putAll (h : Hold w0 W fs ms) (i : Nat) (hi : fs[i]? = some (b, .cells cs t (0, 0))) (hs : vs.size = cs.size) (e : Put W b 0 vs.toList W') : Hold w0 W' (fs.set i (b, .cells vs t (0, 0))) ms := by
  have := h.put i hi e
  rwa [setA_all hs] at this
end

end Go.Vc

/- The contracts of package schema: names. -/
namespace Go.Proofs.YtpjafkcmbinjiaaDoor
open Go Go.Vc Go.RowKit
set_option maxRecDepth 20000

theorem idxbyte_ok (s : ByteArray) (c : Int) (w : World) : Calls Tryd.prog 78 #[.string s, .int .u8 c] w fun e w' => e = .returned (.int .i64 (Lib.indexByte (tB s) c.toNat.toUInt8)) ∧ w' = w := by
  apply sidxb_vc
  unfold sidxb_T
  apply slidxb_vc
  unfold slidxb_T
  refine ⟨_, _, ?_, _, rfl, rfl, rfl⟩
  rw [run_callFunc_extern Tryd.func104 (by kernel_rfl) (by kernel_rfl) (by kernel_rfl) (e := Extern.BytealgIndexByte.indexByte) (by kernel_rfl), Lib.run_indexByteString]
  rfl

theorem zero_set : zeroA Tryd.prog 133 = Array.replicate 256 (.bool false) := by kernel_rfl
/-- The cells of a set of bytes. -/
def SetC (cs : Array Value) (f : UInt8 → Bool) : Prop := cs.size = 256 ∧ ∀ x : UInt8, cs[x.toNat]? = some (.bool (f x))
theorem SetC.one {cs : Array Value} {f : UInt8 → Bool} (h : SetC cs f) (k : Nat) (v : Value) (hk : cs[k]? = some v) : v.oneCell' = true := by
  have hlt := (Array.getElem?_eq_some_iff.1 hk).1
  have := h.2 (UInt8.ofNat k)
  rw [h.1] at hlt
  rw [UInt8.toNat_ofNat', Nat.mod_eq_of_lt (by omega), hk] at this
  cases this; rfl
theorem bAt_u8 (s : ByteArray) {i : Nat} (h : i < s.size) : ∃ x : UInt8, (tB s)[i]? = some x ∧ bAt s i = (x.toNat : Int) :=
  ⟨(tB s)[i]'(by rw [tB_length]; exact h), List.getElem?_eq_getElem _, bAt_eq s i h⟩

theorem mkascii_ok (s : ByteArray) (w : World) (hs : s.size < 9223372036854775807) (ha : ∀ x ∈ tB s, x.toNat < 128) :
    Calls Tryd.prog 95 #[.string s] w fun e w' => ∃ cs, e = .returned (.tuple #[.agg cs, .bool true]) ∧ SetC cs (fun x => (tB s).contains x) ∧ Ext w w' := by
  apply mkascii_vc
  unfold mkascii_T
  intro b1 w2 h1
  rw [zero_set] at h1
  have H1 := (Hold.start (Ext.rfl (w := w))).new h1
  refine ⟨fun i w' => ∃ (k : Nat) (cs : Array Value), i = (k : Int) ∧ k ≤ s.size ∧ SetC cs (fun x => ((tB s).take k).contains x) ∧ Hold w w' [(b1, .cells cs 133 (0, 0))] [], fun i _ => s.size - i.toNat, ⟨0, _, rfl, Nat.zero_le _, ⟨by simp, fun x => ?_⟩, H1⟩, ?_⟩
  · have := x.toNat_lt
    rw [Array.getElem?_eq_getElem (by simp; omega)]; simp
  rintro i w7 ⟨k, cs, rfl, hk, hc, H⟩
  have B := H.blk 0 rfl
  simp only [Int.toNat_natCast, Nat.zero_add]
  refine ⟨fun hlt => ?_, fun hge => ?_⟩
  · obtain ⟨x, hx, hb⟩ := bAt_u8 s (i := k) (by omega)
    have hx8 := ha x (List.mem_of_getElem? hx)
    rw [hb]
    refine ⟨by omega, by omega, fun h => by omega, fun _ => ⟨by omega, by omega, ⟨_, by rw [Int.toNat_natCast, B.cell]; exact hc.2 x⟩, B.frozen _, fun w17 h17 => ?_⟩⟩
    rw [Int.toNat_natCast] at h17
    have H17 := H.put 0 rfl h17
    rw [i64_next (by omega)]
    refine ⟨⟨k + 1, _, rfl, by omega, ⟨by rw [setA_size]; exact hc.1, fun y => ?_⟩, H17⟩, by simp only [Int.toNat_natCast]; omega⟩
    have htk : (tB s).take (k + 1) = (tB s).take k ++ [x] := by
      rw [List.take_add_one, hx]; rfl
    show _ = some (Value.bool (((tB s).take (k + 1)).contains y))
    rw [setA_get, hc.1, htk]
    have hy := y.toNat_lt
    by_cases hxy : x = y
    · subst hxy
      rw [if_pos (by simp; omega)]
      simp
    · have hn : x.toNat ≠ y.toNat := fun e => hxy (UInt8.toNat_inj.1 e)
      rw [if_neg (by simp; omega), hc.2 y]
      simp [Ne.symm hxy]
  · refine ⟨cs, hc.1, B.cellsAt, hc.1, B.canPut rfl hc.one, fun w21 h21 => ?_⟩
    have H21 := H.putAll 0 rfl rfl h21
    have B21 : Blk w21 b1 133 cs := H21.blk 0 rfl
    refine ⟨cs, hc.1, B21.cellsAt, cs, rfl, ?_, H21.ext⟩
    have : (tB s).take k = tB s := List.take_of_length_le (by rw [tB_length]; omega)
    rw [this] at hc
    exact hc

section
variable {w : World} {b : Nat} {cs : Array Value} {f : UInt8 → Bool}
theorem ascont_ok (h : Blk w b 133 cs) (hc : SetC cs f) (x : UInt8) : Calls Tryd.prog 105 #[.pointer (some ⟨b, 0, none⟩), .int .u8 (x.toNat : Int)] w fun e w' => e = .returned (.bool (f x)) ∧ Ext w w' := by
  apply ascont_vc
  unfold ascont_T
  have hx := x.toNat_lt
  exact ⟨b, 0, rfl, by omega, by omega, _, by rw [Int.toNat_natCast, Nat.zero_add, h.cell]; exact hc.2 x, rfl, .rfl⟩
theorem trimra_ok (s : ByteArray) (hs : s.size ≤ 9223372036854775807) (h : Blk w b 133 cs) (hc : SetC cs f) :
    Calls Tryd.prog 97 #[.string s, .pointer (some ⟨b, 0, none⟩)] w fun e w' => ∃ r, e = .returned (.string r) ∧ r.size ≤ s.size ∧ (tB r).all f = (tB s).all f ∧ Ext w w' := by
  apply trimra_vc
  unfold trimra_T
  refine ⟨fun r w' => r.size ≤ s.size ∧ (tB r).all f = (tB s).all f ∧ Ext w w', fun r _ => r.size, ⟨Nat.le_refl _, rfl, .rfl⟩, ?_⟩
  rintro r w4 ⟨hr, ha, hx⟩
  refine ⟨fun h0 => ?_, fun _ => ⟨r, rfl, hr, ha, hx⟩⟩
  rw [i64_fit (by omega) (by omega)]
  have e1 : ((r.size : Int) - 1) = ((r.size - 1 : Nat) : Int) := by omega
  rw [e1]
  simp only [Int.toNat_natCast]
  obtain ⟨x, hx', hb⟩ := bAt_u8 r (i := r.size - 1) (by omega)
  rw [hb]
  refine ⟨by omega, by omega, (ascont_ok (h.ext hx) hc x).mono ?_⟩
  rintro e w8 ⟨rfl, e8⟩
  have hx8 := hx.trans e8
  refine ⟨_, rfl, fun _ => ⟨r, rfl, hr, ha, hx8⟩, fun hf => ⟨by omega, by omega, ⟨?_, ?_, hx8⟩, ?_⟩⟩
  · rw [← tB_length, tB_extract]; simp; omega
  · rw [tB_extract, List.drop_zero, ← ha]
    have : tB r = (tB r).take (r.size - 1) ++ [x] := by
      have := List.take_add_one (l := tB r) (i := r.size - 1)
      rw [hx', List.take_of_length_le (by rw [tB_length]; omega)] at this
      exact this
    conv => rhs; rw [this, List.all_append]
    simp [hf]
  · rw [← tB_length, tB_extract]; simp [tB_length]; omega
theorem trimla_ok (s : ByteArray) (hs : s.size ≤ 9223372036854775807) (h : Blk w b 133 cs) (hc : SetC cs f) :
    Calls Tryd.prog 96 #[.string s, .pointer (some ⟨b, 0, none⟩)] w fun e w' => ∃ r, e = .returned (.string r) ∧ (tB r = [] ↔ (tB s).all f = true) ∧ Ext w w' := by
  apply trimla_vc
  unfold trimla_T
  refine ⟨fun r w' => (tB r).all f = (tB s).all f ∧ Ext w w', fun r _ => r.size, ⟨rfl, .rfl⟩, ?_⟩
  rintro r w4 ⟨ha, hx⟩
  refine ⟨fun h0 => ?_, fun h0 => ⟨r, rfl, ?_, hx⟩⟩
  · obtain ⟨x, hx', hb⟩ := bAt_u8 r (i := 0) (by omega)
    rw [hb]
    refine ⟨by omega, by omega, (ascont_ok (h.ext hx) hc x).mono ?_⟩
    rintro e w8 ⟨rfl, e8⟩
    have hx8 := hx.trans e8
    cases hr : tB r with
    | nil => rw [hr] at hx'; simp at hx'
    | cons y l =>
      rw [hr] at hx'
      cases hx'
      refine ⟨_, rfl, fun hf => ⟨r, rfl, ?_, hx8⟩, fun hf => ⟨by omega, by omega, ⟨?_, hx8⟩, ?_⟩⟩
      · rw [hr, ← ha, hr]; simp [hf]
      · rw [tB_extract, List.take_of_length_le (by rw [tB_length]; omega), ← ha, hr]; simp [hf]
      · show (r.extract 1 r.size).size < r.size
        rw [← tB_length, tB_extract]; simp [tB_length]; omega
  · have : tB r = [] := List.length_eq_zero_iff.1 (by rw [tB_length]; omega)
    rw [← ha, this]; simp
end

theorem ba_nil {s : ByteArray} : s = ⟨#[]⟩ ↔ tB s = [] := by rw [← tB_inj]; rfl
theorem trim_ok (s : ByteArray) (hs : s.size ≤ 9223372036854775807) {c : ByteArray} (hc : 2 ≤ c.size) (hc' : c.size < 9223372036854775807) (ha : ∀ x ∈ tB c, x.toNat < 128) (w : World) :
    Calls Tryd.prog 79 #[.string s, .string c] w fun e w' => ∃ r, e = .returned (.string r) ∧ (r = ⟨#[]⟩ ↔ (tB s).all (fun x => (tB c).contains x) = true) ∧ Ext w w' := by
  apply strim_vc
  unfold strim_T
  refine ⟨fun h => ?_, fun _ => ⟨fun h => by omega, fun _ => (mkascii_ok c w hc' ha).mono ?_⟩⟩
  · rcases h with h | h
    · exact ⟨s, rfl, by rw [h]; simp [tB], .rfl⟩
    · rw [h] at hc; cases hc
  · rintro e w39 ⟨cs, rfl, hs', e39⟩
    refine ⟨cs, hs'.1, true, rfl, fun b42 w43 h43 => ?_⟩
    rw [zero_set] at h43
    have H43 := (Hold.start e39).new h43
    have B43 := H43.blk 0 rfl
    refine ⟨hs'.1, B43.canPut (by rw [hs'.1]; simp) hs'.one, fun w45 h45 => ⟨fun _ => ?_, fun h => by cases h⟩⟩
    have H45 := H43.putAll 0 rfl (by rw [hs'.1]; simp) h45
    have B45 : Blk w45 b42 133 cs := H45.blk 0 rfl
    refine (trimra_ok s hs B45 hs').mono ?_
    rintro e w49 ⟨r, rfl, hrs, hr, e49⟩
    refine ⟨r, rfl, (trimla_ok r (by omega) (B45.ext e49) hs').mono ?_⟩
    rintro e w52 ⟨q, rfl, hq, e52⟩
    exact ⟨q, rfl, q, rfl, by rw [ba_nil, hq, hr], (H45.step (e49.trans e52)).ext⟩

def letC : ByteArray := ⟨#[97, 98, 99, 100, 101, 102, 103, 104, 105, 106, 107, 108, 109, 110, 111, 112, 113, 114, 115, 116, 117, 118, 119, 120, 121, 122]⟩
def othC : ByteArray := ⟨#[97, 98, 99, 100, 101, 102, 103, 104, 105, 106, 107, 108, 109, 110, 111, 112, 113, 114, 115, 116, 117, 118, 119, 120, 121, 122, 48, 49, 50, 51, 52, 53, 54, 55, 56, 57, 95]⟩
theorem let_all : ∀ i : Fin 256, decide (0 ≤ Lib.indexByte (tB letC) (UInt8.ofNat i.1)) = letterB (UInt8.ofNat i.1) := by decide +kernel
theorem oth_all : ∀ i : Fin 256, (tB othC).contains (UInt8.ofNat i.1) = otherB (UInt8.ofNat i.1) := by decide +kernel
theorem let_eq (x : UInt8) : 0 ≤ Lib.indexByte (tB letC) x ↔ letterB x = true := by
  have := let_all ⟨x.toNat, x.toNat_lt⟩
  rw [UInt8.ofNat_toNat] at this
  rw [← this, decide_eq_true_eq]
theorem oth_eq (x : UInt8) : (tB othC).contains x = otherB x := by
  have := oth_all ⟨x.toNat, x.toNat_lt⟩
  rwa [UInt8.ofNat_toNat] at this
theorem oth_ascii : ∀ x ∈ tB othC, x.toNat < 128 := by decide +kernel

theorem sisname_ok (s : ByteArray) (w : World) : Calls Tryd.prog 58 #[.string s] w fun e w' => e = .returned (.bool (isName s)) ∧ Ext w w' := by
  apply sisname_vc
  unfold sisname_T
  refine ⟨fun ⟨hne, hle⟩ => ?_, fun h => ⟨?_, .rfl⟩⟩
  · have h0 : 0 < s.size := by
      rcases Nat.eq_zero_or_pos s.size with h | h
      · exact absurd (ba_nil.2 (List.length_eq_zero_iff.1 (by rw [tB_length]; exact h))) hne
      · exact h
    obtain ⟨x, hx, hb⟩ := bAt_u8 s h0
    refine ⟨by omega, by omega, ?_⟩
    rw [hb]
    refine (idxbyte_ok letC (x.toNat : Int) w).mono ?_
    rintro e w3 ⟨rfl, rfl⟩
    have hxx : ((x.toNat : Int)).toNat.toUInt8 = x := by simp
    rw [hxx]
    cases hl : tB s with
    | nil => rw [hl] at hx; simp at hx
    | cons y l =>
      rw [hl] at hx
      cases hx
      have hlen : l.length + 1 ≤ 24 := by have := tB_length s; rw [hl] at this; simp at this; omega
      refine ⟨_, rfl, fun hge => ?_, fun hlt => ⟨?_, .rfl⟩⟩
      · refine (trim_ok s (by omega) (c := othC) (by decide) (by decide) oth_ascii _).mono ?_
        rintro e w7 ⟨r, rfl, hr, e7⟩
        refine ⟨r, rfl, ?_, e7⟩
        have : sEq r ⟨#[]⟩ = isName s := by
          rw [Bool.eq_iff_iff, sEq_iff, hr, hl]
          unfold isName isNameL
          rw [hl]
          have hx1 := (let_eq x).1 hge
          have hx2 : otherB x = true := by unfold otherB; rw [hx1]; rfl
          simp only [List.all_cons, oth_eq, hx1, hx2, Bool.true_and, List.length_cons, Bool.and_eq_true, decide_eq_true_eq]
          exact ⟨fun h => ⟨h, hlen⟩, fun h => h.1⟩
        rw [this]
      · have : isName s = false := by
          unfold isName isNameL
          rw [hl]
          have : letterB x = false := by
            rw [← Bool.not_eq_true, ← let_eq]; omega
          simp [this]
        rw [this]
  · have : isName s = false := by
      unfold isName isNameL
      rcases h with h | h
      · rw [h]; rfl
      · cases hl : tB s with
        | nil => rfl
        | cons y l =>
          have := tB_length s
          rw [hl] at this
          have hb : ¬ ((y :: l).length ≤ 24) := by omega
          simp only [hb, decide_false, Bool.and_false]
    rw [this]
end Go.Proofs.YtpjafkcmbinjiaaDoor

/- The contracts of package schema: schemas, and columns by name; the document's answer for them. -/
namespace Go.Proofs.YtpjafkcmbinjiaaDoor
open Go Go.Vc Go.RowKit
set_option maxRecDepth 20000

/-- What is asked of byte k of a name. -/
def nameB (k : Nat) (x : UInt8) : Bool := if k = 0 then letterB x else otherB x
theorem nameB_iff {k : Nat} {x : UInt8} : nameB k x = true ↔ (97 ≤ x.toNat ∧ x.toNat ≤ 122) ∨ (k ≠ 0 ∧ ((48 ≤ x.toNat ∧ x.toNat ≤ 57) ∨ x.toNat = 95)) := by
  unfold nameB otherB letterB
  split
  · simp only [decide_eq_true_eq]; omega
  · simp only [Bool.or_eq_true, decide_eq_true_eq]; omega
theorem isName_iff (s : ByteArray) : isName s = true ↔ 1 ≤ s.size ∧ s.size ≤ 24 ∧ ∀ (j : Nat) x, (tB s)[j]? = some x → nameB j x = true := by
  have hlen := tB_length s
  unfold isName
  cases hl : tB s with
  | nil => rw [hl] at hlen; simp at hlen; simp [isNameL]; omega
  | cons y l =>
    rw [hl] at hlen
    simp only [List.length_cons] at hlen
    unfold isNameL
    simp only [List.length_cons, Bool.and_eq_true, decide_eq_true_eq, List.all_eq_true]
    constructor
    · rintro ⟨⟨h1, h2⟩, h3⟩
      refine ⟨by omega, by omega, fun j x hj => ?_⟩
      cases j with
      | zero => cases hj; simpa [nameB] using h1
      | succ j => have := h2 x (List.mem_of_getElem? (show l[j]? = some x by simpa using hj)); simpa [nameB] using this
    · rintro ⟨h1, h2, h3⟩
      refine ⟨⟨by simpa [nameB] using h3 0 y rfl, fun z hz => ?_⟩, by omega⟩
      obtain ⟨j, hj⟩ := List.mem_iff_getElem?.1 hz
      simpa [nameB] using h3 (j + 1) z (by simpa using hj)

section
variable {w : World} {p rp : Option Addr} {n c rn rc : Nat} {cols : List Col} {row : List Val}

theorem r5isname_ok (s : ByteArray) (hs : s.size ≤ 9223372036854775807) (w : World) : Calls Tryd.prog 32 #[.string s] w fun e w' => e = .returned (.bool (isName s)) ∧ Ext w w' := by
  apply r5isname_vc
  unfold r5isname_T
  refine ⟨fun i w' => ∃ k : Nat, i = (k : Int) ∧ k ≤ s.size ∧ (∀ (j : Nat) x, j < k → (tB s)[j]? = some x → nameB j x = true) ∧ Ext w w', fun i _ => s.size - i.toNat, ⟨0, rfl, Nat.zero_le _, fun j x h => by omega, .rfl⟩, ?_⟩
  rintro i w4 ⟨k, rfl, hk, hg, hx⟩
  refine ⟨fun hlt => ?_, fun hge => ⟨?_, hx⟩⟩
  · obtain ⟨x, hx', hb⟩ := bAt_u8 s (i := k) (by omega)
    simp only [Int.toNat_natCast]
    rw [hb]
    have bad : ¬ ((97 ≤ x.toNat ∧ x.toNat ≤ 122) ∨ (k ≠ 0 ∧ ((48 ≤ x.toNat ∧ x.toNat ≤ 57) ∨ x.toNat = 95))) → Ending.returned (Value.bool false) = Ending.returned (Value.bool (isName s)) ∧ Ext w w4 := by
      intro h
      refine ⟨?_, hx⟩
      have : isName s = false := by
        rw [← Bool.not_eq_true, isName_iff]
        rintro ⟨_, _, h3⟩
        exact h (nameB_iff.1 (h3 k x hx'))
      rw [this]
    have good : ((97 ≤ x.toNat ∧ x.toNat ≤ 122) ∨ (k ≠ 0 ∧ ((48 ≤ x.toNat ∧ x.toNat ≤ 57) ∨ x.toNat = 95))) → (∃ k' : Nat, IntKind.i64.wrap ((k : Int) + 1) = (k' : Int) ∧ k' ≤ s.size ∧ (∀ (j : Nat) x, j < k' → (tB s)[j]? = some x → nameB j x = true) ∧ Ext w w4) ∧
        s.size - (IntKind.i64.wrap ((k : Int) + 1)).toNat < s.size - k := by
      intro h
      rw [i64_next (by omega)]
      refine ⟨⟨k + 1, rfl, by omega, fun j y hj hy => ?_, hx⟩, by simp only [Int.toNat_natCast]; omega⟩
      by_cases hjk : j = k
      · subst hjk
        rw [hx'] at hy
        cases hy
        exact nameB_iff.2 h
      · exact hg j y (by omega) hy
    clear hg
    repeat' first
      | exact good (by omega)
      | exact bad (by omega)
      | omega
      | intro _
      | refine And.intro ?_ ?_
  · have hk' : k = s.size := by omega
    have : (decide ((1 : Int) ≤ (s.size : Int)) && decide ((s.size : Int) ≤ 24)) = isName s := by
      rw [Bool.eq_iff_iff, isName_iff, Bool.and_eq_true, decide_eq_true_eq, decide_eq_true_eq]
      refine ⟨fun h => ⟨by omega, by omega, fun j x hj => hg j x ?_ hj⟩, fun h => by omega⟩
      have := (List.getElem?_eq_some_iff.1 hj).1
      rw [tB_length] at this
      omega
    rw [this]

/-! ### Find -/
theorem sfind1_ok (x : Col) {fv : Nat} {name : ByteArray} (h : w.cell? ⟨fv, 0, none⟩ = some (.string name)) :
    Calls Tryd.prog 73 #[.agg #[.string x.name, .int .i64 x.kind, .bool x.null], .pointer (some ⟨fv, 0, none⟩)] w fun e w' => e = .returned (.bool (decide (x.name = name))) ∧ Ext w w' := by
  apply sfind1_vc
  unfold sfind1_T
  intro b1 w2 h1
  refine ⟨_, by rw [(Blk.new h1).cell]; rfl, _, cell_ext h h1.ext, ?_, h1.ext⟩
  have : sEq x.name name = decide (x.name = name) := by rw [Bool.eq_iff_iff, sEq_iff, decide_eq_true_eq]
  rw [this]
theorem ifcol_ok (h : Cols w p n c cols) {fv : Nat} {name : ByteArray} (hf : w.cell? ⟨fv, 0, none⟩ = some (.string name)) :
    Calls Tryd.prog 72 #[.slice p n c, .func (.func 73) #[] #[.pointer (some ⟨fv, 0, none⟩)]] w fun e w' => e = .returned (.int .i64 (findC cols name)) ∧ Ext w w' := by
  apply ifcol_vc
  unfold ifcol_T
  have hl := h.len
  have hm : n ≤ 9223372036854775807 := h.le
  refine ⟨fun i w' => ∃ k : Nat, i = (k : Int) ∧ k ≤ n ∧ (∀ (j : Nat) y, j < k → cols[j]? = some y → y.name ≠ name) ∧ Ext w w', fun i _ => n - i.toNat, ⟨0, rfl, Nat.zero_le _, fun j y hj => by omega, .rfl⟩, ?_⟩
  rintro i w4 ⟨k, rfl, hk, hb, hx⟩
  refine ⟨fun hlt => ?_, fun hge => ⟨?_, hx⟩⟩
  · have g : cols[k]? = some (cols[k]'(by omega)) := List.getElem?_eq_getElem _
    generalize cols[k]'(by omega) = x at g
    obtain ⟨b, o, hp, c0, c1, c2⟩ := (h.ext hx).col g
    simp only [Int.toNat_natCast]
    refine ⟨b, o, hp, by omega, by omega, _, c0, _, c1, _, c2, (sfind1_ok x (cell_ext hf hx)).mono ?_⟩
    rintro e w13 ⟨rfl, e13⟩
    refine ⟨_, rfl, fun hd => ⟨?_, hx.trans e13⟩, fun hd => ?_⟩
    · rw [findC_at g (of_decide_eq_true hd) hb]
    · rw [i64_next (by omega)]
      refine ⟨⟨k + 1, rfl, by omega, fun j y hj hy => ?_, hx.trans e13⟩, by simp only [Int.toNat_natCast]; omega⟩
      by_cases hjk : j = k
      · subst hjk; rw [g] at hy; cases hy; exact of_decide_eq_false hd
      · exact hb j y (by omega) hy
  · rw [findC_none fun x hx => ?_]
    obtain ⟨j, hj⟩ := List.mem_iff_getElem?.1 hx
    exact hb j x (by have := (List.getElem?_eq_some_iff.1 hj).1; omega) hj
theorem sfind_ok (h : Cols w p n c cols) (name : ByteArray) : Calls Tryd.prog 54 #[.slice p n c, .string name] w fun e w' => e = .returned (.int .i64 (findC cols name)) ∧ Ext w w' := by
  apply sfind_vc
  unfold sfind_T
  intro b1 w2 h1
  refine (ifcol_ok (h.ext h1.ext) (Blk.new h1).one).mono ?_
  rintro e w5 ⟨rfl, e5⟩
  exact ⟨_, rfl, rfl, h1.ext.trans e5⟩
theorem r5find_ok (h : Cols w p n c cols) (name : ByteArray) : Calls Tryd.prog 33 #[.slice p n c, .string name] w fun e w' => e = .returned (.int .i64 (findC cols name)) ∧ Ext w w' := by
  apply r5find_vc
  unfold r5find_T
  have hl := h.len
  have hm : n ≤ 9223372036854775807 := h.le
  refine ⟨fun i w' => ∃ k : Nat, i = (k : Int) ∧ k ≤ n ∧ (∀ (j : Nat) y, j < k → cols[j]? = some y → y.name ≠ name) ∧ Ext w w', fun i _ => n - i.toNat, ⟨0, rfl, Nat.zero_le _, fun j y hj => by omega, .rfl⟩, ?_⟩
  rintro i w4 ⟨k, rfl, hk, hb, hx⟩
  refine ⟨fun hlt => ?_, fun hge => ⟨?_, hx⟩⟩
  · have g : cols[k]? = some (cols[k]'(by omega)) := List.getElem?_eq_getElem _
    generalize cols[k]'(by omega) = x at g
    obtain ⟨b, o, hp, c0, c1, c2⟩ := (h.ext hx).col g
    simp only [Int.toNat_natCast]
    refine ⟨b, o, hp, by omega, by omega, _, c0, fun hd => ⟨?_, hx⟩, fun hd => ?_⟩
    · rw [findC_at g hd hb]
    · rw [i64_next (by omega)]
      refine ⟨⟨k + 1, rfl, by omega, fun j y hj hy => ?_, hx⟩, by simp only [Int.toNat_natCast]; omega⟩
      by_cases hjk : j = k
      · subst hjk; rw [g] at hy; cases hy; exact hd
      · exact hb j y (by omega) hy
  · rw [findC_none fun x hx => ?_]
    obtain ⟨j, hj⟩ := List.mem_iff_getElem?.1 hx
    exact hb j x (by have := (List.getElem?_eq_some_iff.1 hj).1; omega) hj

/-! ### Right -/
/-- The map of names that were met. -/
def metL (l : List Col) : List (ByteArray × Value) := l.foldl (fun m x => setS m x.name (.bool true)) []
theorem metL_snoc (l : List Col) (x : Col) : metL (l ++ [x]) = setS (metL l) x.name (.bool true) := by simp [metL]
theorem metL_look (l : List Col) (s : ByteArray) : (lookS (metL l) s).getD (.bool false) = .bool ((l.map Col.name).contains s) := by
  have key : ∀ (l : List Col) (m : List (ByteArray × Value)), lookS (l.foldl (fun m x => setS m x.name (.bool true)) m) s = if (l.map Col.name).contains s then some (.bool true) else lookS m s := by
    intro l
    induction l with
    | nil => intro m; simp
    | cons x l ih =>
      intro m
      rw [List.foldl_cons, ih, lookS_setS, List.map_cons]
      by_cases hx : x.name = s
      · subst hx; simp
      · simp [hx, Ne.symm hx]
  unfold metL
  rw [key]
  cases (l.map Col.name).contains s <;> rfl
theorem sright_ok (h : Cols w p n c cols) : Calls Tryd.prog 35 #[.slice p n c] w fun e w' => e = .returned (.bool (rightC cols)) ∧ Ext w w' := by
  apply sright_vc
  unfold sright_T
  intro b1 w2 h1
  have hl := h.len
  have hm : n ≤ 9223372036854775807 := h.le
  have H1 := (Hold.start (Ext.rfl (w := w))).new h1
  refine ⟨fun i w' => ∃ (k : Nat) (es : Array MapEntry) (clock : Nat), i = (k : Int) ∧ k ≤ n ∧ colsOk [] (cols.take k) = true ∧ MapL es (metL (cols.take k)) ∧ Hold w w' [(b1, .map es clock)] [], fun i _ => n - i.toNat, ⟨0, _, _, rfl, Nat.zero_le _, by simp [colsOk], by simp [metL, MapL], H1⟩, ?_⟩
  rintro i w7 ⟨k, es, clock, rfl, hk, hok, hmap, H⟩
  refine ⟨fun hlt => ?_, fun hge => ⟨?_, H.ext⟩⟩
  · have g : cols[k]? = some (cols[k]'(by omega)) := List.getElem?_eq_getElem _
    generalize cols[k]'(by omega) = x at g
    obtain ⟨b, o, hp, c0, c1, c2⟩ := (h.ext H.ext).col g
    have hdec : colOk ((cols.take k).map Col.name) x = false → rightC cols = false := by
      intro hv
      unfold rightC
      have hc : cols = cols.take k ++ x :: cols.drop (k + 1) := by
        obtain ⟨hk', rfl⟩ := List.getElem?_eq_some_iff.1 g
        rw [← List.drop_eq_getElem_cons hk', List.take_append_drop]
      have : colsOk [] cols = false := by
        conv => lhs; rw [hc, colsOk_append]
        rw [hok, List.nil_append]
        unfold colsOk
        rw [hv]; rfl
      rw [this, Bool.and_false]
    simp only [Int.toNat_natCast]
    refine ⟨b, o, hp, by omega, by omega, _, c0, _, c1, _, c2, fun b15 w16 h16 => ?_⟩
    have H16 := H.new h16
    obtain ⟨q0, q1, q2⟩ := (H16.blk 0 rfl).c3
    refine ⟨⟨_, q0⟩, (H16.blk 0 rfl).frozen _, ⟨_, q1⟩, (H16.blk 0 rfl).frozen _, ⟨_, q2⟩, (H16.blk 0 rfl).frozen _, fun w21 h21 => ?_⟩
    have H21 := H16.put 0 rfl h21
    have B : Blk w21 b15 48 #[.string x.name, .int .i64 x.kind, .bool x.null] := H21.blk 0 rfl
    obtain ⟨q0, q1, q2⟩ := B.c3
    refine ⟨_, q0, (sisname_ok x.name w21).mono ?_⟩
    rintro e w25 ⟨rfl, e25⟩
    have H25 := H21.step e25
    have B25 := B.ext e25
    obtain ⟨q0, q1, q2⟩ := B25.c3
    have hM : w25.heap[b1]? = some (.map es clock) := H25.holds 1 _ rfl
    refine ⟨_, rfl, fun hn => ⟨?_, H25.ext⟩, fun hn => ⟨_, q0, ((cols.take k).map Col.name).contains x.name, fun w1 hs => ?_, fun hin => ⟨?_, H25.ext⟩, fun hin => ⟨_, q1, fun hlow => ⟨?_, H25.ext⟩, fun hge => ⟨_, q1, fun hhi => ⟨?_, H25.ext⟩, fun hle => ⟨_, q0, ?_⟩⟩⟩⟩⟩
    · rw [hdec (by unfold colOk; rw [hn]; rfl)]
    · rw [← metL_look]
      exact map_look (kt := 9) (e := 4) (by kernel_rfl) (by kernel_rfl) (run_zeroOf (by kernel_rfl) w1) ((hs b1 (H25.lt 1 rfl)).trans hM) hmap
    · rw [hdec (by unfold colOk; rw [hn, hin]; rfl)]
    · rw [hdec (by unfold colOk; rw [hn, hin, decide_eq_false (by omega)]; rfl)]
    · rw [hdec (by unfold colOk; rw [hn, hin, decide_eq_false (by omega)]; rfl)]
    · obtain ⟨w42, es', clock', hrun, hobj, hmap', hbut, hsz⟩ := map_set (P := Tryd.prog) (t := 91) (kt := 9) (e := 4) (s := x.name) (by kernel_rfl) (by kernel_rfl) hM hmap (.bool true)
      refine ⟨w42, hrun, ?_⟩
      rw [i64_next (by omega)]
      have htk : cols.take (k + 1) = cols.take k ++ [x] := by rw [List.take_add_one, g]; rfl
      refine ⟨⟨k + 1, es', clock', rfl, by omega, ?_, ?_, (H25.upd 1 rfl hbut hobj).tail⟩, by simp only [Int.toNat_natCast]; omega⟩
      · rw [htk, colsOk_append, hok, List.nil_append]
        unfold colsOk colOk
        rw [hn, hin, decide_eq_true (by omega)]; rfl
      · rw [htk, metL_snoc]; exact hmap'
  · have hk' : k = n := by omega
    subst hk'
    rw [List.take_of_length_le (by omega)] at hok
    have : (decide ((0 : Int) < (k : Int)) && decide ((k : Int) ≤ 16)) = rightC cols := by
      unfold rightC
      rw [hok, Bool.and_true, Bool.eq_iff_iff, Bool.and_eq_true, decide_eq_true_eq, decide_eq_true_eq, decide_eq_true_eq]
      omega
    rw [this]
end
end Go.Proofs.YtpjafkcmbinjiaaDoor

/- A kid's cells, where they lie. -/
namespace Go.Vc
open Go Go.RowKit
theorem ExAt.kid {w : World} {x : Ex} {o a b c d : Value} {p : Option Addr} {n m : Nat} (h : ExAt w x [o, a, b, c, d, .slice p n m]) {i : Nat} {k : Ex} (hk : x.kids[i]? = some k) :
    ∃ (q r : Nat) (kp : Option Addr) (kn kc : Nat), p = some ⟨q, r, none⟩ ∧ i < n ∧ ExAt w k [.int .i64 k.op, .string k.name, .int .i64 k.v.k, .int .i64 k.v.n, .string k.v.s, .slice kp kn kc] ∧ ∀ {w' : World}, Ext w w' →
      w'.cell? ⟨q, r + i * 6, none⟩ = some (.int .i64 k.op) ∧ w'.cell? ⟨q, r + i * 6 + 1, none⟩ = some (.string k.name) ∧ w'.cell? ⟨q, r + i * 6 + 2, none⟩ = some (.int .i64 k.v.k) ∧ w'.cell? ⟨q, r + i * 6 + 3, none⟩ = some (.int .i64 k.v.n) ∧
      w'.cell? ⟨q, r + i * 6 + 4, none⟩ = some (.string k.v.s) ∧ w'.cell? ⟨q, r + i * 6 + 5, none⟩ = some (.slice kp kn kc) := by
  obtain ⟨op, name, v, kids⟩ := x
  unfold ExAt at h
  obtain ⟨p', n', c', css, h1, h2, h3, h4, h5, h6, h7⟩ := h
  simp only [List.cons.injEq, Value.slice.injEq, and_true] at h1
  obtain ⟨_, _, _, _, _, rfl, rfl, rfl⟩ := h1
  obtain ⟨kc, hkc, hx⟩ := h7.get hk
  have hi : i < css.length := (List.getElem?_eq_some_iff.1 hkc).1
  have hg : ∀ j, j < 6 → css.flatten[i * 6 + j]? = kc[j]? := fun j hj => by rw [flatten_get h5 hj, hkc]; rfl
  obtain ⟨kp, kn, kcap, rfl, _⟩ := hx.six
  rcases h6 with h6 | ⟨q, r, hp, hc⟩
  · exfalso
    have := hg 0 (by decide)
    rw [h6] at this
    simp at this
  · have hcell : ∀ {w' : World}, Ext w w' → ∀ j v, j < 6 → ([Value.int .i64 k.op, .string k.name, .int .i64 k.v.k, .int .i64 k.v.n, .string k.v.s, .slice kp kn kcap])[j]? = some v → w'.cell? ⟨q, r + i * 6 + j, none⟩ = some v := fun {w'} e j v hj hv => by
      rw [Nat.add_assoc]
      exact cell_ext (hc _ _ ((hg j hj).trans hv)) e
    exact ⟨q, r, kp, kn, kcap, hp, by omega, hx, fun {w'} e => ⟨hcell e 0 _ (by decide) rfl, hcell e 1 _ (by decide) rfl, hcell e 2 _ (by decide) rfl, hcell e 3 _ (by decide) rfl, hcell e 4 _ (by decide) rfl, hcell e 5 _ (by decide) rfl⟩⟩
end Go.Vc

/- The contracts of package prune: sides, comparisons, bare. -/
namespace Go.Proofs.YtpjafkcmbinjiaaDoor
open Go Go.Vc Go.RowKit
set_option maxRecDepth 20000
attribute [local irreducible] Calls Put Drew New

abbrev Zns := Ls Zn.cs
theorem _root_.Go.Vc.Ls.zone {w : World} {p : Option Addr} {n c : Nat} {l : List Zn} (h : Zns w p n c l) {i : Nat} {z : Zn} (hi : l[i]? = some z) :
    ∃ b o, p = some ⟨b, o, none⟩ ∧ w.cell? ⟨b, o + i * 7, none⟩ = some (.int .i64 z.nulls) ∧ w.cell? ⟨b, o + i * 7 + 1, none⟩ = some (.int .i64 z.lo.k) ∧ w.cell? ⟨b, o + i * 7 + 2, none⟩ = some (.int .i64 z.lo.n) ∧ w.cell? ⟨b, o + i * 7 + 3, none⟩ = some (.string z.lo.s) ∧
      w.cell? ⟨b, o + i * 7 + 4, none⟩ = some (.int .i64 z.hi.k) ∧ w.cell? ⟨b, o + i * 7 + 5, none⟩ = some (.int .i64 z.hi.n) ∧ w.cell? ⟨b, o + i * 7 + 6, none⟩ = some (.string z.hi.s) := by
  obtain ⟨b, o, hp, hc⟩ := h.lies.things Zn.cs_length (by decide) hi
  refine ⟨b, o, hp, by have := hc 0 _ rfl; simpa [Nat.add_assoc] using this, ?_, ?_, ?_, ?_, ?_, ?_⟩
  · have := hc 1 _ rfl; rwa [← Nat.add_assoc] at this
  · have := hc 2 _ rfl; rwa [← Nat.add_assoc] at this
  · have := hc 3 _ rfl; rwa [← Nat.add_assoc] at this
  · have := hc 4 _ rfl; rwa [← Nat.add_assoc] at this
  · have := hc 5 _ rfl; rwa [← Nat.add_assoc] at this
  · have := hc 6 _ rfl; rwa [← Nat.add_assoc] at this

/-- What a side's cells say. -/
structure SdAt (s : Sd) (lo hi : Val) (nulls m : Int) : Prop where
  lo : lo = s.lo
  hi : hi = s.hi
  null : s.null = decide (0 < nulls)
  full : s.full = decide (nulls ≠ m)
  le : nulls ≤ m
theorem cmp_when {op : Int} {a b : Sd} (hf : a.full = true) (hg : b.full = true) : S3.i (cmpS3 op a b) =
    bits .or .i64 (bits .or .i64 (if (a.null || b.null) then 4 else 0) (if (if op = 9 then decide (cmpV a.lo b.hi ≤ 0) && decide (0 ≤ cmpV a.hi b.lo) else if op = 10 then decide (cmpV a.lo b.hi < 0) else decide (cmpV a.lo b.hi ≤ 0)) then 2 else 0))
      (if (if op = 9 then !decide (cmpV a.lo b.hi = 0) || !decide (cmpV a.hi b.lo = 0) else if op = 10 then decide (0 ≤ cmpV a.hi b.lo) else decide (0 < cmpV a.hi b.lo)) then 1 else 0) := by
  rw [s3_make]
  unfold cmpS3
  rw [if_neg (by rw [hf, hg]; decide)]
  by_cases h9 : op = 9
  · simp [h9]
  · by_cases h10 : op = 10
    · simp [h10]
    · simp [h9, h10]
set_option maxHeartbeats 4000000 in
theorem pcompared_ok {op : Int} {a b : Sd} {al ah bl bh : Val} {an am bn bm : Int} (ha : SdAt a al ah an am) (hb : SdAt b bl bh bn bm) (w : World) :
    Calls Tryd.prog 44 #[.int .i64 op, .agg #[.int .i64 al.k, .int .i64 al.n, .string al.s, .int .i64 ah.k, .int .i64 ah.n, .string ah.s, .int .i64 an, .int .i64 am], .agg #[.int .i64 bl.k, .int .i64 bl.n, .string bl.s, .int .i64 bh.k, .int .i64 bh.n, .string bh.s, .int .i64 bn, .int .i64 bm]] w
      fun e w' => e = .returned (.int .i64 (cmpS3 op a b).i) ∧ Ext w w' := by
  obtain ⟨rfl, rfl, na, fa, _⟩ := ha
  obtain ⟨rfl, rfl, nb, fb, _⟩ := hb
  have notfull : (a.full = false ∨ b.full = false) → (cmpS3 op a b).i = if (a.null || b.null) = true then 4 else 0 := by
    intro h
    have : (!a.full || !b.full) = true := by rcases h with h | h <;> simp [h]
    unfold cmpS3
    rw [if_pos this]
    cases (a.null || b.null) <;> rfl
  have isfull : an ≠ am → bn ≠ bm → a.full = true ∧ b.full = true := fun h1 h2 => by rw [fa, fb]; exact ⟨decide_eq_true h1, decide_eq_true h2⟩
  apply pcompared_vc
  unfold pcompared_T
  have H := Hold.start (Ext.rfl (w := w))
  repeat' (first
    | refine And.intro (fun hq => ?_) (fun hq => ?_)
    | (intro _ _ hS; replace H := H.new hS; clear hS)
    | (intro _ hS; replace H := H.step (Drew.ext hS); clear hS)
    | (first | refine ⟨_, H.get 0 rfl rfl, ?_⟩ | refine ⟨_, H.get 1 rfl rfl, ?_⟩)
    | (refine (pwhen_ok _ _ _).mono ?_
       rintro e W ⟨rfl, eX⟩
       replace H := H.step eX
       refine ⟨_, rfl, ?_⟩)
    | (refine (vcompare_ok _ _ _).mono ?_
       rintro e W ⟨rfl, eX⟩
       replace H := H.step eX
       refine ⟨_, rfl, ?_⟩
       try refine And.intro eX.same ?_)
    | (refine And.intro ?_ H.ext))
  all_goals (
    apply congrArg Ending.returned; apply congrArg (Value.int .i64)
    have hnull : (if (a.null || b.null) = true then (4 : Int) else 0) = if 0 < an then 4 else if 0 < bn then 4 else 0 := by
      rw [na, nb]
      by_cases h1 : 0 < an
      · simp [h1]
      · simp [h1]
    first
    | (rw [notfull (by first | exact .inl (by rw [fa]; exact decide_eq_false (by omega)) | exact .inr (by rw [fb]; exact decide_eq_false (by omega))), hnull]
       clear notfull isfull hnull H
       by_cases h1 : 0 < an <;> by_cases h2 : 0 < bn <;> first | (exfalso; omega) | simp [h1, h2])
    | (obtain ⟨q1, q2⟩ := isfull (by assumption) (by assumption)
       rw [cmp_when q1 q2, hnull]
       clear notfull isfull hnull H
       by_cases h9 : op = 9 <;> by_cases h10 : op = 10 <;> by_cases h1 : 0 < an <;> by_cases h2 : 0 < bn <;> first | (exfalso; omega) | simp [h9, h10, h1, h2]))

set_option maxHeartbeats 4000000 in
theorem pside_ok {cols : List Col} {zones : List Zn} {m : Int} {x : Ex} {w : World} {p zp : Option Addr} {n c zn zc : Nat} {cs : List Value} (hc : Cols w p n c cols) (hz : Zns w zp zn zc zones) (hzo : zonesL cols zones m = true) (hx : ExAt w x cs)
    (ho : NodeOk x) (hk : (kindF cols x).2 = 0) :
    Calls Tryd.prog 41 #[.agg #[.slice p n c, .slice zp zn zc, .int .i64 m], .agg cs.toArray] w fun e w' => ∃ (lo hi : Val) (nulls k : Int),
      e = .returned (.tuple #[.agg #[.int .i64 lo.k, .int .i64 lo.n, .string lo.s, .int .i64 hi.k, .int .i64 hi.n, .string hi.s, .int .i64 nulls, .int .i64 k], .bool (sideF cols zones m x).isSome]) ∧
      (∀ s, sideF cols zones m x = some s → SdAt s lo hi nulls k) ∧ Ext w w' := by
  obtain ⟨xp, xn, xc, rfl, _⟩ := hx.six
  apply pside_vc
  unfold pside_T
  have H := Hold.start (Ext.rfl (w := w))
  repeat (first
    | (intro _ _ hS; replace H := H.new hS; clear hS)
    | (intro _ hS; (first | replace H := H.put 0 rfl hS | replace H := H.put 1 rfl hS | replace H := H.put 2 rfl hS | replace H := H.put 3 rfl hS | replace H := H.put 4 rfl hS | replace H := H.put 5 rfl hS | replace H := H.put 6 rfl hS | replace H := H.put 7 rfl hS); clear hS; try simp only [setA, List.setIfInBounds_toArray, List.set_cons_zero, List.set_cons_succ, Nat.zero_add, Nat.reduceAdd] at H)
    | (intro _ hS; replace H := H.step (Drew.ext hS); clear hS)
    | (first | refine ⟨⟨_, H.get 0 rfl rfl⟩, ?_⟩ | refine ⟨⟨_, H.get 1 rfl rfl⟩, ?_⟩ | refine ⟨⟨_, H.get 2 rfl rfl⟩, ?_⟩ | refine ⟨⟨_, H.get 3 rfl rfl⟩, ?_⟩ | refine ⟨⟨_, H.get 4 rfl rfl⟩, ?_⟩ | refine ⟨⟨_, H.get 5 rfl rfl⟩, ?_⟩ | refine ⟨⟨_, H.get 6 rfl rfl⟩, ?_⟩ | refine ⟨⟨_, H.get 7 rfl rfl⟩, ?_⟩)
    | (first | refine ⟨H.frz 0 rfl, ?_⟩ | refine ⟨H.frz 1 rfl, ?_⟩ | refine ⟨H.frz 2 rfl, ?_⟩ | refine ⟨H.frz 3 rfl, ?_⟩ | refine ⟨H.frz 4 rfl, ?_⟩ | refine ⟨H.frz 5 rfl, ?_⟩ | refine ⟨H.frz 6 rfl, ?_⟩ | refine ⟨H.frz 7 rfl, ?_⟩)
    | (first | refine ⟨_, H.get 0 rfl rfl, ?_⟩ | refine ⟨_, H.get 1 rfl rfl, ?_⟩ | refine ⟨_, H.get 2 rfl rfl, ?_⟩ | refine ⟨_, H.get 3 rfl rfl, ?_⟩ | refine ⟨_, H.get 4 rfl rfl, ?_⟩ | refine ⟨_, H.get 5 rfl rfl, ?_⟩ | refine ⟨_, H.get 6 rfl rfl, ?_⟩ | refine ⟨_, H.get 7 rfl rfl, ?_⟩)
    | (first | refine ⟨_, _, _, H.get 0 rfl rfl, ?_⟩ | refine ⟨_, _, _, H.get 1 rfl rfl, ?_⟩ | refine ⟨_, _, _, H.get 2 rfl rfl, ?_⟩ | refine ⟨_, _, _, H.get 3 rfl rfl, ?_⟩ | refine ⟨_, _, _, H.get 4 rfl rfl, ?_⟩ | refine ⟨_, _, _, H.get 5 rfl rfl, ?_⟩ | refine ⟨_, _, _, H.get 6 rfl rfl, ?_⟩ | refine ⟨_, _, _, H.get 7 rfl rfl, ?_⟩))
  have hvo : x.v.Ok := ho.2.2.2
  refine ⟨fun h2 => ?_, fun h2 => ?_⟩
  · have hs : sideF cols zones m x = some ⟨decide (x.v.k = 0), decide (x.v.k ≠ 0), x.v, x.v⟩ := by unfold sideF; rw [if_pos h2]
    repeat (first
      | (intro _ _ hS; replace H := H.new hS; clear hS)
      | (intro _ hS; (first | replace H := H.put 0 rfl hS | replace H := H.put 1 rfl hS | replace H := H.put 2 rfl hS | replace H := H.put 3 rfl hS | replace H := H.put 4 rfl hS | replace H := H.put 5 rfl hS | replace H := H.put 6 rfl hS | replace H := H.put 7 rfl hS); clear hS; try simp only [setA, List.setIfInBounds_toArray, List.set_cons_zero, List.set_cons_succ, Nat.zero_add, Nat.reduceAdd] at H)
      | (intro _ hS; replace H := H.step (Drew.ext hS); clear hS)
      | (first | refine ⟨⟨_, H.get 0 rfl rfl⟩, ?_⟩ | refine ⟨⟨_, H.get 1 rfl rfl⟩, ?_⟩ | refine ⟨⟨_, H.get 2 rfl rfl⟩, ?_⟩ | refine ⟨⟨_, H.get 3 rfl rfl⟩, ?_⟩ | refine ⟨⟨_, H.get 4 rfl rfl⟩, ?_⟩ | refine ⟨⟨_, H.get 5 rfl rfl⟩, ?_⟩ | refine ⟨⟨_, H.get 6 rfl rfl⟩, ?_⟩ | refine ⟨⟨_, H.get 7 rfl rfl⟩, ?_⟩)
      | (first | refine ⟨H.frz 0 rfl, ?_⟩ | refine ⟨H.frz 1 rfl, ?_⟩ | refine ⟨H.frz 2 rfl, ?_⟩ | refine ⟨H.frz 3 rfl, ?_⟩ | refine ⟨H.frz 4 rfl, ?_⟩ | refine ⟨H.frz 5 rfl, ?_⟩ | refine ⟨H.frz 6 rfl, ?_⟩ | refine ⟨H.frz 7 rfl, ?_⟩)
      | (first | refine ⟨_, H.get 0 rfl rfl, ?_⟩ | refine ⟨_, H.get 1 rfl rfl, ?_⟩ | refine ⟨_, H.get 2 rfl rfl, ?_⟩ | refine ⟨_, H.get 3 rfl rfl, ?_⟩ | refine ⟨_, H.get 4 rfl rfl, ?_⟩ | refine ⟨_, H.get 5 rfl rfl, ?_⟩ | refine ⟨_, H.get 6 rfl rfl, ?_⟩ | refine ⟨_, H.get 7 rfl rfl, ?_⟩)
      | (first | refine ⟨_, _, _, H.get 0 rfl rfl, ?_⟩ | refine ⟨_, _, _, H.get 1 rfl rfl, ?_⟩ | refine ⟨_, _, _, H.get 2 rfl rfl, ?_⟩ | refine ⟨_, _, _, H.get 3 rfl rfl, ?_⟩ | refine ⟨_, _, _, H.get 4 rfl rfl, ?_⟩ | refine ⟨_, _, _, H.get 5 rfl rfl, ?_⟩ | refine ⟨_, _, _, H.get 6 rfl rfl, ?_⟩ | refine ⟨_, _, _, H.get 7 rfl rfl, ?_⟩))
    refine ⟨fun hzero => ?_, fun hnz => ?_⟩
    · repeat (first
        | (intro _ _ hS; replace H := H.new hS; clear hS)
        | (intro _ hS; (first | replace H := H.put 0 rfl hS | replace H := H.put 1 rfl hS | replace H := H.put 2 rfl hS | replace H := H.put 3 rfl hS | replace H := H.put 4 rfl hS | replace H := H.put 5 rfl hS | replace H := H.put 6 rfl hS | replace H := H.put 7 rfl hS); clear hS; try simp only [setA, List.setIfInBounds_toArray, List.set_cons_zero, List.set_cons_succ, Nat.zero_add, Nat.reduceAdd] at H)
        | (intro _ hS; replace H := H.step (Drew.ext hS); clear hS)
        | (first | refine ⟨⟨_, H.get 0 rfl rfl⟩, ?_⟩ | refine ⟨⟨_, H.get 1 rfl rfl⟩, ?_⟩ | refine ⟨⟨_, H.get 2 rfl rfl⟩, ?_⟩ | refine ⟨⟨_, H.get 3 rfl rfl⟩, ?_⟩ | refine ⟨⟨_, H.get 4 rfl rfl⟩, ?_⟩ | refine ⟨⟨_, H.get 5 rfl rfl⟩, ?_⟩ | refine ⟨⟨_, H.get 6 rfl rfl⟩, ?_⟩ | refine ⟨⟨_, H.get 7 rfl rfl⟩, ?_⟩)
        | (first | refine ⟨H.frz 0 rfl, ?_⟩ | refine ⟨H.frz 1 rfl, ?_⟩ | refine ⟨H.frz 2 rfl, ?_⟩ | refine ⟨H.frz 3 rfl, ?_⟩ | refine ⟨H.frz 4 rfl, ?_⟩ | refine ⟨H.frz 5 rfl, ?_⟩ | refine ⟨H.frz 6 rfl, ?_⟩ | refine ⟨H.frz 7 rfl, ?_⟩)
        | (first | refine ⟨_, H.get 0 rfl rfl, ?_⟩ | refine ⟨_, H.get 1 rfl rfl, ?_⟩ | refine ⟨_, H.get 2 rfl rfl, ?_⟩ | refine ⟨_, H.get 3 rfl rfl, ?_⟩ | refine ⟨_, H.get 4 rfl rfl, ?_⟩ | refine ⟨_, H.get 5 rfl rfl, ?_⟩ | refine ⟨_, H.get 6 rfl rfl, ?_⟩ | refine ⟨_, H.get 7 rfl rfl, ?_⟩)
        | (first | refine ⟨_, _, _, H.get 0 rfl rfl, ?_⟩ | refine ⟨_, _, _, H.get 1 rfl rfl, ?_⟩ | refine ⟨_, _, _, H.get 2 rfl rfl, ?_⟩ | refine ⟨_, _, _, H.get 3 rfl rfl, ?_⟩ | refine ⟨_, _, _, H.get 4 rfl rfl, ?_⟩ | refine ⟨_, _, _, H.get 5 rfl rfl, ?_⟩ | refine ⟨_, _, _, H.get 6 rfl rfl, ?_⟩ | refine ⟨_, _, _, H.get 7 rfl rfl, ?_⟩))
      refine ⟨x.v, x.v, 1, 1, by rw [hs]; rfl, fun s h => ?_, H.ext⟩
      rw [hs] at h; cases h
      exact ⟨rfl, rfl, by rw [decide_eq_true hzero.1]; rfl, by simp [hzero.1], by decide⟩
    · repeat (first
        | (intro _ _ hS; replace H := H.new hS; clear hS)
        | (intro _ hS; (first | replace H := H.put 0 rfl hS | replace H := H.put 1 rfl hS | replace H := H.put 2 rfl hS | replace H := H.put 3 rfl hS | replace H := H.put 4 rfl hS | replace H := H.put 5 rfl hS | replace H := H.put 6 rfl hS | replace H := H.put 7 rfl hS); clear hS; try simp only [setA, List.setIfInBounds_toArray, List.set_cons_zero, List.set_cons_succ, Nat.zero_add, Nat.reduceAdd] at H)
        | (intro _ hS; replace H := H.step (Drew.ext hS); clear hS)
        | (first | refine ⟨⟨_, H.get 0 rfl rfl⟩, ?_⟩ | refine ⟨⟨_, H.get 1 rfl rfl⟩, ?_⟩ | refine ⟨⟨_, H.get 2 rfl rfl⟩, ?_⟩ | refine ⟨⟨_, H.get 3 rfl rfl⟩, ?_⟩ | refine ⟨⟨_, H.get 4 rfl rfl⟩, ?_⟩ | refine ⟨⟨_, H.get 5 rfl rfl⟩, ?_⟩ | refine ⟨⟨_, H.get 6 rfl rfl⟩, ?_⟩ | refine ⟨⟨_, H.get 7 rfl rfl⟩, ?_⟩)
        | (first | refine ⟨H.frz 0 rfl, ?_⟩ | refine ⟨H.frz 1 rfl, ?_⟩ | refine ⟨H.frz 2 rfl, ?_⟩ | refine ⟨H.frz 3 rfl, ?_⟩ | refine ⟨H.frz 4 rfl, ?_⟩ | refine ⟨H.frz 5 rfl, ?_⟩ | refine ⟨H.frz 6 rfl, ?_⟩ | refine ⟨H.frz 7 rfl, ?_⟩)
        | (first | refine ⟨_, H.get 0 rfl rfl, ?_⟩ | refine ⟨_, H.get 1 rfl rfl, ?_⟩ | refine ⟨_, H.get 2 rfl rfl, ?_⟩ | refine ⟨_, H.get 3 rfl rfl, ?_⟩ | refine ⟨_, H.get 4 rfl rfl, ?_⟩ | refine ⟨_, H.get 5 rfl rfl, ?_⟩ | refine ⟨_, H.get 6 rfl rfl, ?_⟩ | refine ⟨_, H.get 7 rfl rfl, ?_⟩)
        | (first | refine ⟨_, _, _, H.get 0 rfl rfl, ?_⟩ | refine ⟨_, _, _, H.get 1 rfl rfl, ?_⟩ | refine ⟨_, _, _, H.get 2 rfl rfl, ?_⟩ | refine ⟨_, _, _, H.get 3 rfl rfl, ?_⟩ | refine ⟨_, _, _, H.get 4 rfl rfl, ?_⟩ | refine ⟨_, _, _, H.get 5 rfl rfl, ?_⟩ | refine ⟨_, _, _, H.get 6 rfl rfl, ?_⟩ | refine ⟨_, _, _, H.get 7 rfl rfl, ?_⟩))
      refine ⟨x.v, x.v, 0, 1, by rw [hs]; rfl, fun s h => ?_, H.ext⟩
      rw [hs] at h; cases h
      have hne : x.v.k ≠ 0 := by
        intro h0
        unfold Val.Ok at hvo
        rcases hvo with ⟨_, a, b⟩ | h | h | h
        · rcases hnz with q | q | q
          · exact q h0
          · exact q a
          · exact q b
        · omega
        · omega
        · omega
      exact ⟨rfl, rfl, by simp [hne], by simp [hne], by decide⟩
  · refine ⟨fun h1 => ?_, fun h1 => ?_⟩
    · obtain ⟨col, hcol, _⟩ := col_node h1 ho hk
      obtain ⟨z, hzi, hzok⟩ := zone_get hzo hcol
      obtain ⟨zb, zo, hzp, _⟩ := hz.zone hzi
      have hlen := hz.len
      have hlt := (List.getElem?_eq_some_iff.1 hzi).1
      have h0 : 0 ≤ findC cols x.name := by
        obtain ⟨_, hk2⟩ := kids_kinds hk
        rw [hk2] at hk
        unfold kindN at hk
        rw [show wantOf x.op = 0 by rw [h1]; rfl, if_neg (by simp), if_pos h1] at hk
        split at hk
        · exact absurd hk (by decide)
        · omega
      have hs : sideF cols zones m x = some ⟨decide (0 < z.nulls), decide (z.nulls < m), z.lo, z.hi⟩ := by unfold sideF; rw [if_neg h2, if_pos h1, hzi]; rfl
      have hle : 0 ≤ z.nulls ∧ z.nulls ≤ m := by
        unfold zoneOk at hzok
        rw [Bool.and_eq_true, decide_eq_true_eq] at hzok
        exact ⟨hzok.1.2.2.1, hzok.1.2.2.2.1⟩
      repeat' (first
        | (refine And.intro ?_ (fun _ _ hS => ?_)
           rotate_left
           have eX := hS.ext; replace H := H.new hS
           (try refine And.intro eX.same ?_)
           rotate_left)
        | (intro _ _ hS
           have eX := hS.ext; replace H := H.new hS
           (try refine And.intro eX.same ?_))
        | (intro _ hS; replace H := H.step (Drew.ext hS); clear hS)
        | (intro _ hS
           (first | replace H := H.put 0 rfl hS | replace H := H.put 1 rfl hS | replace H := H.put 2 rfl hS)
           clear hS
           try simp only [setA, List.setIfInBounds_toArray, List.set_cons_zero, List.set_cons_succ, Nat.zero_add, Nat.reduceAdd] at H)
        | (first | refine ⟨⟨_, H.get 0 rfl rfl⟩, ?_⟩ | refine ⟨⟨_, H.get 1 rfl rfl⟩, ?_⟩ | refine ⟨⟨_, H.get 2 rfl rfl⟩, ?_⟩)
        | (first | refine ⟨H.frz 0 rfl, ?_⟩ | refine ⟨H.frz 1 rfl, ?_⟩ | refine ⟨H.frz 2 rfl, ?_⟩)
        | (first | refine ⟨_, H.get 0 rfl rfl, ?_⟩ | refine ⟨_, H.get 1 rfl rfl, ?_⟩ | refine ⟨_, H.get 2 rfl rfl, ?_⟩ | refine ⟨_, H.get 3 rfl rfl, ?_⟩ | refine ⟨_, H.get 4 rfl rfl, ?_⟩)
        | (first | refine ⟨_, _, _, H.get 0 rfl rfl, ?_⟩ | refine ⟨_, _, _, H.get 1 rfl rfl, ?_⟩ | refine ⟨_, _, _, H.get 2 rfl rfl, ?_⟩ | refine ⟨_, _, _, H.get 3 rfl rfl, ?_⟩ | refine ⟨_, _, _, H.get 4 rfl rfl, ?_⟩)
        | (refine (sfind_ok (hc.ext H.ext) x.name).mono ?_
           rintro e W ⟨rfl, eX⟩
           replace H := H.step eX
           refine ⟨_, rfl, ?_⟩
           (try refine And.intro eX.same ?_))
        | (obtain ⟨zb, zo, hzp, z0, z1, z2, z3, z4, z5, z6⟩ := (hz.ext H.ext).zone hzi
           refine ⟨zb, zo, hzp, h0, by omega, _, z0, _, z1, _, z2, _, z3, _, z4, _, z5, _, z6, ?_⟩))
      all_goals (
        refine ⟨z.lo, z.hi, z.nulls, m, by rw [hs]; rfl, fun s h => ?_, H.ext⟩
        rw [hs] at h; cases h
        exact ⟨rfl, rfl, rfl, by rw [decide_eq_decide]; omega, hle.2⟩)
    · have hs : sideF cols zones m x = none := by unfold sideF; rw [if_neg h2, if_neg h1]
      repeat (first
        | (intro _ _ hS; replace H := H.new hS; clear hS)
        | (intro _ hS; (first | replace H := H.put 0 rfl hS | replace H := H.put 1 rfl hS | replace H := H.put 2 rfl hS | replace H := H.put 3 rfl hS | replace H := H.put 4 rfl hS | replace H := H.put 5 rfl hS | replace H := H.put 6 rfl hS | replace H := H.put 7 rfl hS); clear hS; try simp only [setA, List.setIfInBounds_toArray, List.set_cons_zero, List.set_cons_succ, Nat.zero_add, Nat.reduceAdd] at H)
        | (intro _ hS; replace H := H.step (Drew.ext hS); clear hS)
        | (first | refine ⟨⟨_, H.get 0 rfl rfl⟩, ?_⟩ | refine ⟨⟨_, H.get 1 rfl rfl⟩, ?_⟩ | refine ⟨⟨_, H.get 2 rfl rfl⟩, ?_⟩ | refine ⟨⟨_, H.get 3 rfl rfl⟩, ?_⟩ | refine ⟨⟨_, H.get 4 rfl rfl⟩, ?_⟩ | refine ⟨⟨_, H.get 5 rfl rfl⟩, ?_⟩ | refine ⟨⟨_, H.get 6 rfl rfl⟩, ?_⟩ | refine ⟨⟨_, H.get 7 rfl rfl⟩, ?_⟩)
        | (first | refine ⟨H.frz 0 rfl, ?_⟩ | refine ⟨H.frz 1 rfl, ?_⟩ | refine ⟨H.frz 2 rfl, ?_⟩ | refine ⟨H.frz 3 rfl, ?_⟩ | refine ⟨H.frz 4 rfl, ?_⟩ | refine ⟨H.frz 5 rfl, ?_⟩ | refine ⟨H.frz 6 rfl, ?_⟩ | refine ⟨H.frz 7 rfl, ?_⟩)
        | (first | refine ⟨_, H.get 0 rfl rfl, ?_⟩ | refine ⟨_, H.get 1 rfl rfl, ?_⟩ | refine ⟨_, H.get 2 rfl rfl, ?_⟩ | refine ⟨_, H.get 3 rfl rfl, ?_⟩ | refine ⟨_, H.get 4 rfl rfl, ?_⟩ | refine ⟨_, H.get 5 rfl rfl, ?_⟩ | refine ⟨_, H.get 6 rfl rfl, ?_⟩ | refine ⟨_, H.get 7 rfl rfl, ?_⟩)
        | (first | refine ⟨_, _, _, H.get 0 rfl rfl, ?_⟩ | refine ⟨_, _, _, H.get 1 rfl rfl, ?_⟩ | refine ⟨_, _, _, H.get 2 rfl rfl, ?_⟩ | refine ⟨_, _, _, H.get 3 rfl rfl, ?_⟩ | refine ⟨_, _, _, H.get 4 rfl rfl, ?_⟩ | refine ⟨_, _, _, H.get 5 rfl rfl, ?_⟩ | refine ⟨_, _, _, H.get 6 rfl rfl, ?_⟩ | refine ⟨_, _, _, H.get 7 rfl rfl, ?_⟩))
      refine ⟨nullV, nullV, 0, 0, by rw [hs]; rfl, fun s h => ?_, H.ext⟩
      rw [hs] at h; cases h
end Go.Proofs.YtpjafkcmbinjiaaDoor
