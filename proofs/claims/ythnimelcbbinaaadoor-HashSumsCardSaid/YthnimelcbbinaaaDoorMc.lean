/- Texts of the proof, one behind the other. -/
import Derived.Test.YthnimelcbbinaaaDoorMb
import Derived.SizedLaws
import Derived.Lib.Bytealg
import Derived.Lib.AppendZeros
import Derived.Lib.LaidTab
import Derived.Test.YthnimelcbbinaaaDoorRows
import Derived.JoinedOf
set_option linter.unusedVariables false
set_option linter.unusedSimpArgs false
/- What is handed in, opened: of whatever depth. -/
namespace Go.Vc
open Go Go.RowKit

/-- The cells cs are a value of type t that can be read, and each string and slice in it is within the platform's reach. -/
def Arg (P : Program) (w : World) (t : TypeId) (cs : List Value) : Prop :=
  ∃ (H : Type) (enc : TypeId × Value → H) (fuel : Nat) (d : DataW H) (ps : List MemPlace), DataW.trod enc P w 0 (fun _ => true) true fuel t cs = some (d, ps) ∧ ∀ n ∈ d.weights P t, n ≤ 140737488351232

theorem mapM_some {α β : Type} {f : α → Option β} : ∀ {l : List α} {ys : List β}, l.mapM f = some ys → ys.length = l.length ∧ ∀ (i : Nat) x, l[i]? = some x → ∃ y, ys[i]? = some y ∧ f x = some y := by
  intro l
  induction l with
  | nil => intro ys h; simp at h; subst h; exact ⟨rfl, fun i x hx => by simp at hx⟩
  | cons a l ih =>
    intro ys h
    rw [List.mapM_cons] at h
    cases ha : f a with
    | none => rw [ha] at h; simp at h
    | some b =>
      rw [ha] at h
      cases hl : l.mapM f with
      | none => rw [hl] at h; simp at h
      | some zs =>
        rw [hl] at h
        simp at h
        subst h
        obtain ⟨h1, h2⟩ := ih hl
        refine ⟨by simp [h1], fun i x hx => ?_⟩
        cases i with
        | zero => simp at hx; subst hx; exact ⟨b, rfl, ha⟩
        | succ i => simp at hx; obtain ⟨y, hy, hf⟩ := h2 i x hx; exact ⟨y, by simpa using hy, hf⟩

theorem cells?_some {w : World} {b n : Nat} {a : Addr} {cs : List Value} (h : w.cells? b a n = some cs) : cs.length = n ∧ ∀ (j : Nat) v, cs[j]? = some v → w.cell? (a.add j) = some v := by
  unfold World.cells? at h
  split at h
  · obtain ⟨h1, h2⟩ := mapM_some h
    simp at h1
    refine ⟨h1, fun j v hj => ?_⟩
    have hjn : j < n := by have := (List.getElem?_eq_some_iff.1 hj).1; omega
    obtain ⟨y, hy, hf⟩ := h2 j j (by simp [hjn])
    rw [hj] at hy; cases hy
    exact hf
  · cases h

theorem weightsAll_mem {H : Type} {P : Program} {e : TypeId} : ∀ {ds : List (DataW H)} {d : DataW H}, d ∈ ds → ∀ n ∈ d.weights P e, n ∈ DataW.weightsAll P e ds := by
  intro ds
  induction ds with
  | nil => intro d h; cases h
  | cons x r ih =>
    intro d h n hn
    simp only [DataW.weightsAll, List.mem_append]
    rcases List.mem_cons.1 h with rfl | h
    · exact .inl hn
    · exact .inr (ih h n hn)

section
variable {P : Program} {w : World} {t : TypeId} {cs : List Value}

theorem Arg.int {k : IntKind} (hu : P.underlying t = some (.int k)) (h : Arg P w t cs) : ∃ n, cs = [.int k n] ∧ (Lit.int k n).wf = true := by
  obtain ⟨H, enc, fuel, d, ps, h, _⟩ := h
  cases fuel with
  | zero => cases h
  | succ f =>
    simp only [DataW.trod, hu] at h
    split at h <;> simp_all

theorem Arg.bool (hu : P.underlying t = some .bool) (h : Arg P w t cs) : ∃ b, cs = [.bool b] := by
  obtain ⟨H, enc, fuel, d, ps, h, _⟩ := h
  cases fuel with
  | zero => cases h
  | succ f =>
    simp only [DataW.trod, hu] at h
    split at h <;> simp_all

theorem Arg.string (hu : P.underlying t = some .string) (h : Arg P w t cs) : ∃ s, cs = [.string s] ∧ s.size ≤ 140737488351232 := by
  obtain ⟨H, enc, fuel, d, ps, h, hw⟩ := h
  cases fuel with
  | zero => cases h
  | succ f =>
    simp only [DataW.trod, hu] at h
    split at h <;> simp_all
    rename_i s
    obtain ⟨_, rfl, rfl⟩ := h
    exact hw _ (by simp [DataW.weights])

theorem Arg.struct {fs : Array Field} (hu : P.underlying t = some (.struct fs)) (h : Arg P w t cs) : cs.length = P.cellsOf t ∧ ∀ f ∈ fs.toList, Arg P w f.type ((cs.drop f.offset).take (P.cellsOf f.type)) := by
  obtain ⟨H, enc, fuel, d, ps, h, hw⟩ := h
  cases fuel with
  | zero => cases h
  | succ n =>
    simp only [DataW.trod, hu] at h
    split at h
    · rename_i hl
      refine ⟨hl, fun f hf => ?_⟩
      cases hm : fs.toList.mapM fun f => DataW.trod enc P w 0 (fun _ => true) true n f.type ((cs.drop f.offset).take (P.cellsOf f.type)) with
      | none => rw [hm] at h; cases h
      | some xs =>
        rw [hm] at h
        cases h
        obtain ⟨i, hi⟩ := List.mem_iff_getElem?.1 hf
        obtain ⟨h1, h2⟩ := mapM_some hm
        obtain ⟨y, hy, hfy⟩ := h2 i f hi
        refine ⟨H, enc, n, y.1, y.2, hfy, fun k hk => hw k ?_⟩
        simp only [DataW.weights, hu]
        exact DataW.weights_mem_each (j := i) (by simp [hi]) (by simp [hy]) k hk
    · cases h

theorem Arg.array {n : Nat} {e : TypeId} (hu : P.underlying t = some (.array n e)) (h : Arg P w t cs) : cs.length = P.cellsOf t ∧ ∀ i, i < n → Arg P w e ((cs.drop (i * P.cellsOf e)).take (P.cellsOf e)) := by
  obtain ⟨H, enc, fuel, d, ps, h, hw⟩ := h
  cases fuel with
  | zero => cases h
  | succ m =>
    simp only [DataW.trod, hu] at h
    split at h
    · rename_i hl
      refine ⟨hl, fun i hi => ?_⟩
      cases hm : (List.range n).mapM fun i => DataW.trod enc P w 0 (fun _ => true) true m e ((cs.drop (i * P.cellsOf e)).take (P.cellsOf e)) with
      | none => rw [hm] at h; cases h
      | some xs =>
        rw [hm] at h
        cases h
        obtain ⟨h1, h2⟩ := mapM_some hm
        obtain ⟨y, hy, hfy⟩ := h2 i i (by simp [hi])
        refine ⟨H, enc, m, y.1, y.2, hfy, fun k hk => hw k ?_⟩
        simp only [DataW.weights, hu]
        exact weightsAll_mem (List.mem_map.2 ⟨y, List.mem_of_getElem? hy, rfl⟩) k hk
    · cases h

theorem flatten_get {css : List (List Value)} {s : Nat} (hs : ∀ x ∈ css, x.length = s) {i j : Nat} (hj : j < s) : css.flatten[i * s + j]? = (css[i]?).bind fun x => x[j]? := by
  induction css generalizing i with
  | nil => simp
  | cons a r ih =>
    have ha := hs a (by simp)
    cases i with
    | zero => simp only [Nat.zero_mul, Nat.zero_add, List.flatten_cons]; rw [List.getElem?_append_left (by omega)]; rfl
    | succ i =>
      simp only [List.flatten_cons]
      rw [List.getElem?_append_right (by rw [ha, Nat.add_mul]; omega), show (i + 1) * s + j - a.length = i * s + j by rw [ha, Nat.add_mul]; omega, ih fun x hx => hs x (by simp [hx])]
      rfl

theorem Arg.slice {e : TypeId} (hu : P.underlying t = some (.slice e)) (h0 : 0 < P.cellsOf e) (h : Arg P w t cs) :
    ∃ (p : Option Addr) (n c : Nat) (css : List (List Value)), cs = [.slice p n c] ∧ n ≤ c ∧ c ≤ maxLen ∧ c * P.bytesOf e ≤ 140737488351232 ∧ css.length = c ∧ (∀ x ∈ css, x.length = P.cellsOf e ∧ Arg P w e x) ∧ At w p css.flatten ∧ (p = none → n = 0 ∧ c = 0) := by
  obtain ⟨H, enc, fuel, d, ps, h, hw⟩ := h
  cases fuel with
  | zero => cases h
  | succ m =>
    have shape : (cs = [.slice none 0 0]) ∨ ∃ a n c, cs = [.slice (some a) n c] := by
      match cs, h with
      | [], h => simp [DataW.trod, hu] at h
      | [.slice none 0 0], _ => exact .inl rfl
      | [.slice none (n + 1) c], h => simp [DataW.trod, hu] at h
      | [.slice none 0 (c + 1)], h => simp [DataW.trod, hu] at h
      | [.slice (some a) n c], _ => exact .inr ⟨a, n, c, rfl⟩
      | [.bool _], h => simp [DataW.trod, hu] at h
      | [.int _ _], h => simp [DataW.trod, hu] at h
      | [.float _ _], h => simp [DataW.trod, hu] at h
      | [.complex _ _ _], h => simp [DataW.trod, hu] at h
      | [.string _], h => simp [DataW.trod, hu] at h
      | [.pointer _], h => simp [DataW.trod, hu] at h
      | [.map _], h => simp [DataW.trod, hu] at h
      | [.chan _], h => simp [DataW.trod, hu] at h
      | [.nilFunc], h => simp [DataW.trod, hu] at h
      | [.func _ _ _], h => simp [DataW.trod, hu] at h
      | [.nilIface], h => simp [DataW.trod, hu] at h
      | [.iface _ _], h => simp [DataW.trod, hu] at h
      | [.tuple _], h => simp [DataW.trod, hu] at h
      | [.agg _], h => simp [DataW.trod, hu] at h
      | _ :: _ :: _, h => simp [DataW.trod, hu] at h
    rcases shape with rfl | ⟨a, len, cap, rfl⟩
    · exact ⟨none, 0, 0, [], rfl, Nat.le_refl _, Nat.zero_le _, by simp, rfl, fun x hx => by simp at hx, At.nil _ _, fun _ => ⟨rfl, rfl⟩⟩
    · simp only [DataW.trod, hu] at h
      split at h
      · rename_i hc
        obtain ⟨_, hlc, hcm⟩ := hc
        let elemAt : Nat → Option (DataW H × List MemPlace) := fun i => (w.cells? 0 (a.add (i * P.cellsOf e)) (P.cellsOf e)).bind (DataW.trod enc P w 0 (fun _ => true) true m e)
        change ((List.range len).mapM elemAt).bind _ = _ at h
        cases hm1 : (List.range len).mapM elemAt with
        | none => rw [hm1] at h; cases h
        | some elems =>
          rw [hm1] at h
          simp only [Option.bind_some, if_true] at h
          change ((List.range (cap - len)).mapM fun j => elemAt (len + j)).map _ = _ at h
          cases hm2 : (List.range (cap - len)).mapM fun j => elemAt (len + j) with
          | none => rw [hm2] at h; cases h
          | some rest =>
            rw [hm2] at h
            simp only [Option.map_some, Option.some.injEq, Prod.mk.injEq] at h
            obtain ⟨rfl, _⟩ := h
            obtain ⟨a1, a2⟩ := mapM_some hm1
            obtain ⟨b1, b2⟩ := mapM_some hm2
            simp only [List.length_range] at a1 b1
            simp only [DataW.weights, hu, List.length_map, List.mem_cons, List.mem_append] at hw
            have all : ∀ i, i < cap → ∃ cs, w.cells? 0 (a.add (i * P.cellsOf e)) (P.cellsOf e) = some cs ∧ Arg P w e cs := by
              intro i hi
              have key : ∃ y, elemAt i = some y ∧ ((∃ j : Nat, elems[j]? = some y) ∨ ∃ j : Nat, rest[j]? = some y) := by
                rcases Nat.lt_or_ge i len with hl | hl
                · obtain ⟨y, hy, hf⟩ := a2 i i (List.getElem?_range hl)
                  exact ⟨y, hf, .inl ⟨i, hy⟩⟩
                · obtain ⟨y, hy, hf⟩ := b2 (i - len) (i - len) (List.getElem?_range (by omega))
                  rw [show len + (i - len) = i by omega] at hf
                  exact ⟨y, hf, .inr ⟨_, hy⟩⟩
              obtain ⟨y, hf, hy⟩ := key
              have hf' : (w.cells? 0 (a.add (i * P.cellsOf e)) (P.cellsOf e)).bind (DataW.trod enc P w 0 (fun _ => true) true m e) = some y := hf
              clear hf
              cases hcs : w.cells? 0 (a.add (i * P.cellsOf e)) (P.cellsOf e) with
              | none => rw [hcs] at hf'; cases hf'
              | some cs =>
                rw [hcs] at hf'
                have hf : DataW.trod enc P w 0 (fun _ => true) true m e cs = some y := hf'
                refine ⟨cs, rfl, H, enc, m, y.1, y.2, hf, fun k hk => hw k (.inr ?_)⟩
                rcases hy with ⟨j, hy⟩ | ⟨j, hy⟩
                · exact .inl (weightsAll_mem (List.mem_map.2 ⟨y, List.mem_of_getElem? hy, rfl⟩) k hk)
                · exact .inr (weightsAll_mem (List.mem_map.2 ⟨y, List.mem_of_getElem? hy, rfl⟩) k hk)
            obtain ⟨css, hcl, hcss⟩ : ∃ css : List (List Value), css.length = cap ∧ ∀ i x, css[i]? = some x → w.cells? 0 (a.add (i * P.cellsOf e)) (P.cellsOf e) = some x ∧ Arg P w e x := by
              refine ⟨(List.range cap).map fun i => (w.cells? 0 (a.add (i * P.cellsOf e)) (P.cellsOf e)).getD [], by simp, fun i x hx => ?_⟩
              rw [List.getElem?_map] at hx
              have hi : i < cap := by
                rcases Nat.lt_or_ge i cap with h' | h'
                · exact h'
                · rw [List.getElem?_eq_none (by simpa using h')] at hx; cases hx
              rw [List.getElem?_range hi] at hx
              obtain ⟨cs, h1, h2⟩ := all i hi
              simp only [Option.map_some, h1, Option.getD_some, Option.some.injEq] at hx
              subst hx
              exact ⟨h1, h2⟩
            have hlen : ∀ x ∈ css, x.length = P.cellsOf e := fun x hx => by
              obtain ⟨i, hi⟩ := List.mem_iff_getElem?.1 hx
              exact (cells?_some (hcss i x hi).1).1
            refine ⟨some a, len, cap, css, rfl, hlc, hcm, ?_, hcl, fun x hx => ?_, ?_, fun e => by cases e⟩
            · have := hw ((elems.length + rest.length) * P.bytesOf e) (.inl rfl)
              rw [a1, b1, show len + (cap - len) = cap by omega] at this
              exact this
            · obtain ⟨i, hi⟩ := List.mem_iff_getElem?.1 hx
              exact ⟨hlen x hx, (hcss i x hi).2⟩
            · cases hcz : css with
              | nil => exact .inl rfl
              | cons c0 r =>
                rw [← hcz]
                have h00 := cells?_some (hcss 0 c0 (by rw [hcz]; rfl)).1
                have hc0 : 0 < c0.length := by rw [h00.1]; exact h0
                have hcell := h00.2 0 c0[0] (by simp [hc0])
                obtain ⟨ab, ao, ag⟩ := a
                have hs : ag = none := by
                  cases ag with
                  | none => rfl
                  | some y =>
                    have e0 : ((⟨ab, ao, some y⟩ : Addr).add (0 * P.cellsOf e)).add 0 = ⟨ab, ao, some y⟩ := by rw [Nat.zero_mul, Addr.add_zero', Addr.add_zero']
                    rw [e0] at hcell
                    simp only [World.cell?, Option.isSome_some, if_true] at hcell
                    split at hcell <;> cases hcell
                subst hs
                refine .inr ⟨ab, ao, rfl, fun i v hv => ?_⟩
                have hdm : i = i / P.cellsOf e * P.cellsOf e + i % P.cellsOf e := by rw [Nat.mul_comm]; exact (Nat.div_add_mod _ _).symm
                have hj := Nat.mod_lt i h0
                rw [hdm, flatten_get hlen hj] at hv
                cases hx : css[i / P.cellsOf e]? with
                | none => rw [hx] at hv; cases hv
                | some x =>
                  rw [hx] at hv
                  have := (cells?_some (hcss _ x hx).1).2 _ v hv
                  rw [Addr.add_lit, Addr.add_lit] at this
                  rw [hdm, ← Nat.add_assoc]; exact this
      · cases h
end

/-- An argument at the top. -/
theorem Arg.of {H : Type} {enc : TypeId × Value → H} {P : Program} {w : World} {ts : List TypeId} {ds : List (DataW H)} {t : TypeId} {v : Value} {d : DataW H} {ps : List MemPlace} {j : Nat}
    (h : DataW.Trod enc P w 0 (fun _ => true) true t v d ps) (hz : (DataW.weightsEach P ts ds).all (· ≤ reachBytes) = true) (ht : ts[j]? = some t) (hd : ds[j]? = some d) : Arg P w t v.cells.toList := by
  obtain ⟨fuel, h⟩ := h
  refine ⟨H, enc, fuel, d, ps, h, fun n hn => ?_⟩
  have := List.all_eq_true.1 hz n (DataW.weights_mem_each ht hd n hn)
  exact of_decide_eq_true this

theorem plain_cells {P : Program} {w : World} {r : Reach} {base : Nat} {t : TypeId} {v : Value} (hu : isAggD (P.underlying t) = false) (h : Value.okWide P w r base t v) (hn : P.underlying t ≠ none) : v.cells.toList = [v] := by
  have : ∀ cs, v ≠ .agg cs := by
    intro cs e
    subst e
    unfold Value.okWide at h
    split at h
    · rename_i hh; rw [hh] at hu; cases hu
    · rename_i hh; rw [hh] at hu; cases hu
    · unfold Cell.okWide at h
      split at h <;> simp_all [Cell.ok]
  cases v with
  | agg cs => exact absurd rfl (this cs)
  | _ => rfl
end Go.Vc

/- Values, rows and lists of rows as the memory bears them; how two values stand. Plain Lean, no program. -/
namespace Go.Vc
open Go Go.RowKit

/-! ### Numbers and texts, held against one another -/
def cmpI (x y : Int) : Int := if x < y then -1 else if y < x then 1 else 0
def cmpS (a b : ByteArray) : Int := Lib.compareBytes (tB a) (tB b)

section
variable {α β : Type} {c d : α → α → Int}
def lexC (c d : α → α → Int) (x y : α) : Int := if c x y ≠ 0 then c x y else d x y
theorem Cmp.on (f : β → α) (hc : Cmp c) : Cmp fun x y => c (f x) (f y) := ⟨fun _ _ => hc.anti _ _, fun _ _ _ => hc.trans _ _ _⟩
theorem Cmp.neg (hc : Cmp c) : Cmp fun x y => - c x y := by
  refine ⟨fun x y => by rw [hc.anti x y], fun x y z h k => ?_⟩
  have h1 := hc.anti x y
  have h2 := hc.anti y z
  have h3 := hc.anti x z
  have := hc.trans z y x (by omega) (by omega)
  omega
theorem Cmp.none : Cmp (fun _ _ : α => (0 : Int)) := ⟨fun _ _ => by simp, fun _ _ _ _ _ => Int.le_refl 0⟩
end

/-! ### Values -/
structure Val where
  k : Int
  n : Int
  s : ByteArray

theorem Val.ext' {a b : Val} : a = b ↔ a.k = b.k ∧ a.n = b.n ∧ a.s = b.s := by cases a; cases b; simp
instance : DecidableEq Val := fun _ _ => decidable_of_iff _ Val.ext'.symm
instance : Inhabited Val := ⟨⟨0, 0, ⟨#[]⟩⟩⟩
def nullV : Val := ⟨0, 0, ⟨#[]⟩⟩
def numV (n : Int) : Val := ⟨1, n, ⟨#[]⟩⟩

def Val.cs (v : Val) : List Value := [.int .i64 v.k, .int .i64 v.n, .string v.s]
def Val.agg (v : Val) : Value := .agg #[.int .i64 v.k, .int .i64 v.n, .string v.s]
def i64F (x : Int) : Prop := -9223372036854775808 ≤ x ∧ x ≤ 9223372036854775807
def Val.fit (v : Val) : Prop := i64F v.k ∧ i64F v.n

theorem Val.cs_length (v : Val) : v.cs.length = 3 := rfl
theorem Val.cs_one (v : Val) : ∀ u ∈ v.cs, u.oneCell' = true := by
  intro u hu
  simp only [Val.cs, List.mem_cons, List.not_mem_nil, or_false] at hu
  rcases hu with rfl | rfl | rfl <;> rfl

/-- May a value be? -/
def Val.Ok (v : Val) : Prop := (v.k = 0 ∧ v.n = 0 ∧ v.s = ⟨#[]⟩) ∨ (v.k = 1 ∧ v.s = ⟨#[]⟩) ∨ (v.k = 2 ∧ (v.n = 0 ∨ v.n = 1) ∧ v.s = ⟨#[]⟩) ∨ (v.k = 3 ∧ v.n = 0 ∧ v.s.size ≤ 1024)
instance (v : Val) : Decidable v.Ok := by unfold Val.Ok; exact inferInstance
def Val.right (v : Val) : Bool := decide v.Ok
def rightL (l : List Val) : Bool := l.all Val.right

def cmpV : Val → Val → Int := lexC (fun a b => cmpI a.k b.k) (lexC (fun a b => cmpI a.n b.n) fun a b => cmpS a.s b.s)
/-- The document's way to hold two values against one another. -/
def lessV (a b : Val) : Bool := if a.k ≠ b.k then decide (a.k < b.k) else if a.k = 3 then sLt a.s b.s else decide (a.n < b.n)
def rcmpV (a b : Val) : Int := if lessV a b then -1 else if lessV b a then 1 else 0
/-! ### Lists of things of some cells each -/
section
variable {α : Type}
structure Ls (enc : α → List Value) (w : World) (p : Option Addr) (n c : Nat) (l : List α) : Prop where
  len : l.length = n
  cap : n ≤ c ∧ c ≤ maxLen
  lies : At w p (l.flatMap enc)
  nil : p = none → n = 0 ∧ c = 0
variable {enc : α → List Value} {s : Nat} {w w' : World} {p : Option Addr} {n c : Nat} {l : List α}
theorem Ls.ext (h : Ls enc w p n c l) (e : Ext w w') : Ls enc w' p n c l := ⟨h.len, h.cap, h.lies.ext e, h.nil⟩
theorem Ls.le (h : Ls enc w p n c l) : n ≤ maxLen := Nat.le_trans h.cap.1 h.cap.2
theorem Ls.kept (h : Ls enc w p n c l) (hk : ∀ b o, p = some ⟨b, o, none⟩ → b < w.heap.size → w'.heap[b]? = w.heap[b]?) : Ls enc w' p n c l := ⟨h.len, h.cap, h.lies.kept hk, h.nil⟩
theorem Ls.nothing (enc : α → List Value) (w : World) : Ls enc w none 0 0 [] := ⟨rfl, ⟨Nat.le_refl _, Nat.zero_le _⟩, .inl rfl, fun _ => ⟨rfl, rfl⟩⟩
theorem flatMap_get {enc : α → List Value} (hs : ∀ x, (enc x).length = s) {i j : Nat} {x : α} (hi : l[i]? = some x) (hj : j < s) : (l.flatMap enc)[i * s + j]? = (enc x)[j]? := by
  rw [List.flatMap_def, flatten_get (s := s) (by intro y hy; obtain ⟨z, _, rfl⟩ := List.mem_map.1 hy; exact hs z) hj, List.getElem?_map, hi]
  rfl
/-- The cells of thing i. -/
theorem At.things (hs : ∀ x, (enc x).length = s) (h0 : 0 < s) (h : At w p (l.flatMap enc)) {i : Nat} {x : α} (hi : l[i]? = some x) :
    ∃ b o, p = some ⟨b, o, none⟩ ∧ ∀ j v, (enc x)[j]? = some v → w.cell? ⟨b, o + (i * s + j), none⟩ = some v := by
  rcases h with h | ⟨b, o, hp, hc⟩
  · have := flatMap_get (enc := enc) (s := s) hs hi h0
    rw [h] at this
    have h1 : (enc x)[0]? = some ((enc x)[0]'(by rw [hs]; exact h0)) := List.getElem?_eq_getElem _
    rw [h1] at this; simp at this
  · refine ⟨b, o, hp, fun j v hv => hc _ _ ?_⟩
    have hj : j < s := by rw [← hs x]; exact (List.getElem?_eq_some_iff.1 hv).1
    rw [flatMap_get hs hi hj, hv]
theorem flatMap_length (hs : ∀ x, (enc x).length = s) : ∀ l : List α, (l.flatMap enc).length = l.length * s
  | [] => by simp
  | x :: l => by rw [List.flatMap_cons, List.length_append, hs, flatMap_length hs l, List.length_cons, Nat.succ_mul, Nat.add_comm]
theorem flatMap_take (hs : ∀ x, (enc x).length = s) : ∀ (l : List α) (k : Nat), (l.take k).flatMap enc = (l.flatMap enc).take (k * s)
  | [], k => by simp
  | x :: l, 0 => by simp
  | x :: l, k + 1 => by
    rw [List.take_succ_cons, List.flatMap_cons, List.flatMap_cons, flatMap_take hs l k, Nat.succ_mul, Nat.add_comm, List.take_append, hs, Nat.add_sub_cancel_left, List.take_of_length_le (l := enc x) (by rw [hs]; omega)]
theorem flatMap_drop (hs : ∀ x, (enc x).length = s) : ∀ (l : List α) (k : Nat), (l.drop k).flatMap enc = (l.flatMap enc).drop (k * s)
  | [], k => by simp
  | x :: l, 0 => by simp
  | x :: l, k + 1 => by
    rw [List.drop_succ_cons, List.flatMap_cons, flatMap_drop hs l k, Nat.succ_mul, Nat.add_comm, List.drop_append, hs, Nat.add_sub_cancel_left, @List.drop_eq_nil_of_le _ (enc x) _ (by rw [hs]; omega), List.nil_append]
/-- s[lo:hi]. -/
theorem Ls.slice (hs : ∀ x, (enc x).length = s) (h : Ls enc w p n c l) {lo hi : Nat} (h1 : lo ≤ hi) (h2 : hi ≤ n) : Ls enc w (slBase p lo c s) (hi - lo) (c - lo) ((l.take hi).drop lo) := by
  have hc := h.cap
  refine ⟨by rw [List.length_drop, List.length_take, h.len]; omega, ⟨by omega, by omega⟩, ?_, fun e => ?_⟩
  · rw [flatMap_drop hs, flatMap_take hs]
    exact h.lies.slice lo hi c s (by omega)
  · have := h.nil (slBase_none e); omega
theorem Ls.take (hs : ∀ x, (enc x).length = s) (h : Ls enc w p n c l) {k : Nat} (h2 : k ≤ n) : Ls enc w p k c (l.take k) := by
  have hc := h.cap
  refine ⟨by rw [List.length_take, h.len]; omega, ⟨by omega, hc.2⟩, ?_, fun e => ?_⟩
  · rw [flatMap_take hs]; exact h.lies.take _
  · have := h.nil e; omega
/-- A row of our own that holds things. -/
theorem Mine.ls {B : Nat} {t : TypeId} (hs : ∀ x, (enc x).length = s) (h0 : 0 < s) (h : Mine B t s w p n c (l.flatMap enc)) : Ls enc w p n c l := by
  have h1 := h.len
  rw [flatMap_length hs] at h1
  exact ⟨Nat.eq_of_mul_eq_mul_right h0 h1, h.cap, h.at, h.isNil⟩
theorem list_lift {β : Type} {f : α → β} {Q : α → Prop} : ∀ {ys : List β}, (∀ y ∈ ys, ∃ a, y = f a ∧ Q a) → ∃ l : List α, ys = l.map f ∧ ∀ a ∈ l, Q a
  | [], _ => ⟨[], rfl, by simp⟩
  | y :: ys, h => by
    obtain ⟨a, rfl, ha⟩ := h y (by simp)
    obtain ⟨l, rfl, hl⟩ := list_lift (ys := ys) fun z hz => h z (by simp [hz])
    exact ⟨a :: l, rfl, fun b hb => by rcases List.mem_cons.1 hb with rfl | hb; exact ha; exact hl b hb⟩
/-- A slice that came in. -/
theorem arg_ls {P : Program} {t e : TypeId} {v : Value} {Q : α → Prop} (hu : P.underlying t = some (.slice e)) (h0 : 0 < P.cellsOf e) (hQ : ∀ x, Arg P w e x → ∃ a, x = enc a ∧ Q a) (hs : ∀ a, (enc a).length = P.cellsOf e) (h : Arg P w t [v]) :
    ∃ p n c l, v = .slice p n c ∧ Ls enc w p n c l ∧ (∀ a ∈ l, Q a) ∧ c * P.bytesOf e ≤ 140737488351232 := by
  obtain ⟨p, n, c, css, he, h1, h2, h3, h4, h5, h6, h7⟩ := Arg.slice hu h0 h
  cases he
  obtain ⟨full, rfl, hf⟩ := list_lift (f := enc) (Q := Q) (ys := css) fun x hx => hQ x (h5 x hx).2
  rw [← List.flatMap_def] at h6
  rw [List.length_map] at h4
  refine ⟨p, n, c, full.take n, rfl, ⟨by rw [List.length_take]; omega, ⟨h1, h2⟩, ?_, h7⟩, fun a ha => hf a (List.mem_of_mem_take ha), h3⟩
  rw [flatMap_take hs]
  exact h6.take _
end

/-! ### Slices as things -/
structure Sl where
  p : Option Addr
  n : Nat
  c : Nat
def Sl.v (h : Sl) : Value := .slice h.p h.n h.c
def Sl.cs (h : Sl) : List Value := [.slice h.p h.n h.c]
theorem Sl.cs_length (h : Sl) : h.cs.length = 1 := rfl
theorem Sl.cs_one (h : Sl) : ∀ u ∈ h.cs, u.oneCell' = true := by intro u hu; simp [Sl.cs] at hu; subst hu; rfl

/-- Values in a row. -/
abbrev Vs := Ls Val.cs
/-- Rows: their heads hs, what they hold. -/
structure Rws (w : World) (p : Option Addr) (n c : Nat) (hs : List Sl) (L : List (List Val)) : Prop where
  heads : Ls Sl.cs w p n c hs
  rows : ∀ (i : Nat) (h : Sl) (r : List Val), hs[i]? = some h → L[i]? = some r → Vs w h.p h.n h.c r
  len : L.length = n
section
variable {w w' : World} {p : Option Addr} {n c : Nat} {hs : List Sl} {L : List (List Val)}
theorem Rws.ext (h : Rws w p n c hs L) (e : Ext w w') : Rws w' p n c hs L := ⟨h.heads.ext e, fun i x r hx hr => (h.rows i x r hx hr).ext e, h.len⟩
theorem Rws.hlen (h : Rws w p n c hs L) : hs.length = n := h.heads.len
theorem Rws.nothing (w : World) : Rws w none 0 0 [] [] := ⟨Ls.nothing _ w, by simp, rfl⟩
theorem Rws.get (h : Rws w p n c hs L) {i : Nat} {r : List Val} (hi : L[i]? = some r) : ∃ x, hs[i]? = some x ∧ Vs w x.p x.n x.c r ∧ ∃ b o, p = some ⟨b, o, none⟩ ∧ w.cell? ⟨b, o + i, none⟩ = some (.slice x.p x.n x.c) := by
  have hlt : i < hs.length := by rw [h.hlen, ← h.len]; exact (List.getElem?_eq_some_iff.1 hi).1
  obtain ⟨b, o, hp, hc⟩ := h.heads.lies.things Sl.cs_length (by decide) (List.getElem?_eq_getElem hlt)
  refine ⟨hs[i], List.getElem?_eq_getElem hlt, h.rows i _ _ (List.getElem?_eq_getElem hlt) hi, b, o, hp, ?_⟩
  have := hc 0 _ rfl
  simpa using this
theorem Ls.val {r : List Val} (h : Vs w p n c r) {i : Nat} {v : Val} (hi : r[i]? = some v) :
    ∃ b o, p = some ⟨b, o, none⟩ ∧ w.cell? ⟨b, o + i * 3, none⟩ = some (.int .i64 v.k) ∧ w.cell? ⟨b, o + i * 3 + 1, none⟩ = some (.int .i64 v.n) ∧ w.cell? ⟨b, o + i * 3 + 2, none⟩ = some (.string v.s) := by
  obtain ⟨b, o, hp, hc⟩ := h.lies.things Val.cs_length (by decide) hi
  exact ⟨b, o, hp, by have := hc 0 _ rfl; simpa [Nat.add_assoc] using this, by have := hc 1 _ rfl; rwa [← Nat.add_assoc] at this, by have := hc 2 _ rfl; rwa [← Nat.add_assoc] at this⟩
theorem Rws.take (h : Rws w p n c hs L) {k : Nat} (hk : k ≤ n) : Rws w p k c (hs.take k) (L.take k) :=
  ⟨h.heads.take Sl.cs_length hk, fun i x r hx hr => h.rows i x r (by rw [List.getElem?_take] at hx; split at hx; exact hx; cases hx) (by rw [List.getElem?_take] at hr; split at hr; exact hr; cases hr), by rw [List.length_take, h.len]; omega⟩
theorem Rws.le (h : Rws w p n c hs L) : n ≤ maxLen := h.heads.le
end

/-- The types and the places of a struct's fields. -/
def structOf (P : Program) (t : TypeId) : Option (List (TypeId × Nat)) := match P.underlying t with
  | some (.struct fs) => some (fs.toList.map fun f => (f.type, f.offset))
  | _ => none
theorem Arg.fields {P : Program} {w : World} {t : TypeId} {cs : List Value} {l : List (TypeId × Nat)} (hu : structOf P t = some l) (h : Arg P w t cs) :
    cs.length = P.cellsOf t ∧ ∀ x ∈ l, Arg P w x.1 ((cs.drop x.2).take (P.cellsOf x.1)) := by
  unfold structOf at hu
  split at hu
  · rename_i fs hfs
    cases hu
    obtain ⟨h1, h2⟩ := Arg.struct hfs h
    refine ⟨h1, fun x hx => ?_⟩
    obtain ⟨f, hf, rfl⟩ := List.mem_map.1 hx
    exact h2 f hf
  · cases hu
end Go.Vc

/- The contracts of hash: Grow, Concat, Sum. -/
namespace Go.Proofs.YthnimelcbbinaaaDoor
open Go Go.Vc Go.RowKit
set_option maxRecDepth 20000
attribute [local irreducible] Calls Put Drew New

theorem undB : Tryd.prog.underlying 22 = some (.slice 5) := by kernel_rfl
theorem undInt : Tryd.prog.underlying 3 = some (.int .i64) := by kernel_rfl
theorem tyB : tyOf Tryd.prog 5 = some { agg := false, ls := [.int .u8], zero := .int .u8 0, bytes := 1, big := false, n := 1 } := by kernel_rfl
theorem sizeB : (Tryd.prog.info? 5).map (·.size) = some 1 := by kernel_rfl
/-- Room for T bytes. -/
theorem growb_ok {w0 W : World} {fs : List (Nat × Obj)} {ms : List Row} (H : Hold w0 W fs ms) {T : Nat} (hT : T ≤ 1000000) :
    Calls Tryd.prog 20 #[.slice none 0 0, .int .i64 (T : Int)] W fun e W' => ∃ (q : Option Addr) (d : Nat), e = .returned (.slice q 0 d) ∧ Hold w0 W' fs (⟨5, 1, q, 0, d, []⟩ :: ms) := by
  apply growb_vc
  unfold growb_T
  have e0 : IntKind.i64.wrap (((0 : Nat) : Int) - ((0 : Nat) : Int)) = 0 := by decide
  have e1 : IntKind.i64.wrap ((T : Int) - 0) = (T : Int) := i64_fit (by omega) (by omega)
  rw [e0, e1]
  refine ⟨fun h => by omega, fun _ => ⟨fun hpos => ?_, fun hz => ⟨none, 0, rfl, H.nilRow _ _⟩⟩⟩
  obtain ⟨i, d, hi, hz, hd, hsz, hls, hag, hby⟩ := tyOf_spec tyB
  have hsize : i.size = 1 := by rw [hsz]; rfl
  have hb1 : i.bytes = 1 := by have : (1 : Nat) = i.bytes := hby; omega
  have hrun := Lib.run_append_nil_zeros (P := Tryd.prog) W 22 3 22 5 i (.int .u8 0) .i64 .i64 undB undInt hi hz T (by omega) (by omega) (by omega) (by rw [hb1]; omega)
  refine ⟨by omega, by omega, _, _, _, _, hrun, by omega, by omega, _, _, rfl, ?_⟩
  have hge := grownCap_ge W T 0 5
  have hle := grownCap_le_maxLen W T 0 5 (by unfold maxLen; omega)
  have hD : Drew W W.drew := by with_unfolding_all exact rfl
  refine (H.step (Drew.ext hD)).madeRow (cap := grownCap W T 0 5) (b := W.heap.size) (cs := Builtin.zeroCells (Value.int .u8 0).cells T ++ Builtin.zeroCells (Value.int .u8 0).cells (grownCap W T 0 5 - T)) ?_ hle ?_
  · have : New W.drew (.cells (Builtin.zeroCells (Value.int .u8 0).cells T ++ Builtin.zeroCells (Value.int .u8 0).cells (grownCap W T 0 5 - T)) 5) W.heap.size (W.drew.alloc (.cells (Builtin.zeroCells (Value.int .u8 0).cells T ++ Builtin.zeroCells (Value.int .u8 0).cells (grownCap W T 0 5 - T)) 5)) := by
      with_unfolding_all exact ⟨rfl, rfl⟩
    exact this
  · rw [Array.size_append, size_zeroCells, size_zeroCells]
    have : (Value.int .u8 0).cells.size = 1 := rfl
    rw [this]; omega
/-- Rows of bytes, as they are handed in. -/
structure Bts (w : World) (p : Option Addr) (n c : Nat) (hs : List Sl) (L : List (List UInt8)) : Prop where
  heads : Ls Sl.cs w p n c hs
  rows : ∀ (i : Nat) (h : Sl) (r : List UInt8), hs[i]? = some h → L[i]? = some r → InB w h.p h.n h.c r
  len : L.length = n
theorem Bts.ext {w w' : World} {p : Option Addr} {n c : Nat} {hs : List Sl} {L : List (List UInt8)} (h : Bts w p n c hs L) (e : Ext w w') : Bts w' p n c hs L := ⟨h.heads.ext e, fun i x r hx hr => (h.rows i x r hx hr).ext e, h.len⟩
theorem Bts.get {w : World} {p : Option Addr} {n c : Nat} {hs : List Sl} {L : List (List UInt8)} (h : Bts w p n c hs L) {i : Nat} {r : List UInt8} (hr : L[i]? = some r) :
    ∃ (x : Sl) (b o : Nat), p = some ⟨b, o, none⟩ ∧ InB w x.p x.n x.c r ∧ w.cell? ⟨b, o + i, none⟩ = some (.slice x.p x.n x.c) := by
  have hi := (List.getElem?_eq_some_iff.1 hr).1
  have hl := h.heads.len
  have hx : hs[i]? = some (hs[i]'(by rw [hl, ← h.len]; exact hi)) := List.getElem?_eq_getElem _
  obtain ⟨b, o, hp, hc⟩ := h.heads.lies.things Sl.cs_length (by decide) hx
  have := hc 0 _ rfl
  rw [Nat.mul_one, Nat.add_zero] at this
  exact ⟨_, b, o, hp, h.rows i _ r hx hr, this⟩
def total (L : List (List UInt8)) : Nat := L.flatten.length
theorem total_take {L : List (List UInt8)} {j : Nat} {r : List UInt8} (h : L[j]? = some r) : total (L.take (j + 1)) = total (L.take j) + r.length := by
  unfold total; rw [take_snoc h]; simp
theorem total_le (L : List (List UInt8)) (j : Nat) : total (L.take j) ≤ total L := by
  unfold total
  have : L.flatten = (L.take j).flatten ++ (L.drop j).flatten := by rw [← List.flatten_append, List.take_append_drop]
  rw [this, List.length_append]; omega
set_option maxHeartbeats 4000000 in
theorem concat_ok {w0 W : World} {fs : List (Nat × Obj)} {p : Option Addr} {n c : Nat} {hs : List Sl} {L : List (List UInt8)} (H0 : Hold w0 W fs []) (hL : Bts W p n c hs L) (hT : total L ≤ 1000000) :
    Calls Tryd.prog 14 #[.slice p n c] W fun e W' => ∃ (q : Option Addr) (k d : Nat), e = .returned (.slice q k d) ∧ InB W' q k d L.flatten ∧ Hold w0 W' fs [] ∧ Ext W W' := by
  have hl := hL.len
  have hn : n ≤ 9223372036854775807 := hL.heads.le
  apply concat_vc
  unfold concat_T
  refine ⟨fun s i W1 => ∃ j : Nat, i = (j : Int) ∧ j ≤ n ∧ s = (total (L.take j) : Int) ∧ Hold W W1 [] [], fun _ i _ => n - i.toNat, ⟨0, rfl, Nat.zero_le _, rfl, Hold.start Ext.rfl⟩, ?_⟩
  rintro s i W1 ⟨j, rfl, hj, rfl, K⟩
  refine ⟨fun hlt => ?_, fun hge => ?_⟩
  · have gr : L[j]? = some (L[j]'(by omega)) := List.getElem?_eq_getElem _
    generalize L[j]'(by omega) = r at gr
    obtain ⟨x, b, o, hp, hx, hc⟩ := (hL.ext K.ext).get gr
    have h1 := total_take gr
    have h2 := total_le L (j + 1)
    have hxl := hx.len
    simp only [Int.toNat_natCast]
    have e1 : IntKind.i64.wrap ((total (L.take j) : Int) + (x.n : Int)) = ((total (L.take (j + 1)) : Nat) : Int) := by
      rw [h1, hxl]; exact i64_fit (by omega) (by omega)
    refine ⟨b, o, hp, by omega, hlt, _, _, _, hc, ?_⟩
    rw [e1, i64_next (by omega)]
    exact ⟨fun h => by omega, fun _ => ⟨⟨j + 1, rfl, by omega, rfl, K⟩, by simp only [Int.toNat_natCast]; omega⟩⟩
  · rw [List.take_of_length_le (by omega)]
    refine (growb_ok K hT).mono ?_
    rintro e W2 ⟨q, d, rfl, K2⟩
    refine ⟨_, _, _, rfl, ?_⟩
    refine ⟨fun q k d i W3 => ∃ j : Nat, i = (j : Int) ∧ j ≤ n ∧ k = total (L.take j) ∧ Hold W W3 [] [⟨5, 1, q, k, d, vB (L.take j).flatten⟩], fun _ _ _ i _ => n - i.toNat, ⟨0, rfl, Nat.zero_le _, rfl, K2⟩, ?_⟩
    clear K K2
    rintro q k d i W3 ⟨j, rfl, hj, rfl, K⟩
    refine ⟨fun hlt => ?_, fun hge2 => ?_⟩
    · have gr : L[j]? = some (L[j]'(by omega)) := List.getElem?_eq_getElem _
      generalize L[j]'(by omega) = r at gr
      obtain ⟨x, b, o, hp, hx, hc⟩ := (hL.ext K.ext).get gr
      have h1 := total_take gr
      have h2 := total_le L (j + 1)
      have hxl := hx.len
      simp only [Int.toNat_natCast]
      obtain ⟨p', c', W4, hrun, K4⟩ := K.append (ty := 22) (P := Tryd.prog) (q := x.p) (m := x.n) (d' := x.c) (news := vB r) 0 rfl undB tyB rfl (by decide) hx.lies (by rw [vB_length, hxl, Nat.mul_one]) hx.nil vB_one (by dsimp only; omega) (by unfold maxLen; omega)
      refine ⟨b, o, hp, by omega, hlt, _, _, _, hc, _, _, _, _, hrun, ?_⟩
      rw [i64_next (by omega)]
      refine ⟨⟨j + 1, rfl, by omega, by rw [h1, hxl], ?_⟩, by simp only [Int.toNat_natCast]; omega⟩
      rw [take_snoc gr, List.flatten_append, vB_append]
      simpa using K4
    · have ht : L.take j = L := List.take_of_length_le (by omega)
      rw [ht] at K ⊢
      have hm := K.row 0 rfl
      exact ⟨q, _, d, rfl, ⟨by unfold total; rfl, hm.cap, hm.at, hm.isNil⟩, H0.step K.ext, K.ext⟩
end Go.Proofs.YthnimelcbbinaaaDoor

/- The contract of hash.Sum. -/
namespace Go.Proofs.YthnimelcbbinaaaDoor
open Go Go.Vc Go.RowKit
set_option maxRecDepth 20000
attribute [local irreducible] Calls Put Drew New

/-- Of the numbers f the first i, the rest 0. -/
def upTo (f : Nat → Nat) (n i : Nat) : List Nat := (List.range n).map fun j => if j < i then f j else 0
theorem upTo_get {f : Nat → Nat} {n i j : Nat} (hj : j < n) : (upTo f n i)[j]? = some (if j < i then f j else 0) := by
  unfold upTo; rw [List.getElem?_map, List.getElem?_range hj]; rfl
theorem upTo_len (f : Nat → Nat) (n i : Nat) : (upTo f n i).length = n := by simp [upTo]
theorem upTo_zero (f : Nat → Nat) (n : Nat) : upTo f n 0 = List.replicate n 0 := by
  apply List.ext_getElem?
  intro j
  rcases Nat.lt_or_ge j n with h | h
  · rw [upTo_get h, if_neg (by omega), List.getElem?_replicate, if_pos h]
  · rw [List.getElem?_eq_none (by rw [upTo_len]; exact h), List.getElem?_eq_none (by simpa using h)]
theorem upTo_step {f : Nat → Nat} {n i : Nat} (hi : i < n) : upTo f n (i + 1) = (upTo f n i).set i (f i) := by
  apply List.ext_getElem?
  intro j
  rw [List.getElem?_set]
  rcases Nat.lt_or_ge j n with h | h
  · rw [upTo_get h]
    by_cases e : i = j
    · subst e; rw [if_pos (by omega), if_pos rfl, if_pos (by rw [upTo_len]; exact h)]
    · rw [if_neg e, upTo_get h]
      by_cases h2 : j < i
      · rw [if_pos (by omega), if_pos h2]
      · rw [if_neg (by omega), if_neg h2]
  · rw [if_neg (by omega), List.getElem?_eq_none (by rw [upTo_len]; exact h), List.getElem?_eq_none (by rw [upTo_len]; exact h)]
theorem upTo_all (f : Nat → Nat) (n : Nat) : upTo f n n = (List.range n).map f := by
  unfold upTo
  exact List.map_congr_left fun j hj => by rw [if_pos (List.mem_range.1 hj)]
def outN (h : List Nat) (i : Nat) : Nat := g0 h (i / 4) / 2 ^ (8 * (i % 4)) % 256
theorem upTo_out (h : List Nat) : upTo (outN h) 32 32 = outL h := upTo_all _ _
theorem out_val {x i : Nat} (hx : x < 4294967296) : IntKind.u8.wrap (shrI .u32 (x : Int) (8 * (i % 4))) = ((x / 2 ^ (8 * (i % 4)) % 256 : Nat) : Int) := by
  rw [shr_u32 _ _ (by omega), IntKind.wrap_u8]; omega
theorem zero32 : zeroA Tryd.prog 24 = vA .u8 (List.replicate 32 0) := by kernel_rfl
theorem zero64 : zeroA Tryd.prog 39 = vA .u8 (List.replicate 64 0) := by kernel_rfl
def nats (l : List UInt8) : List Nat := l.map UInt8.toNat
theorem nats_len (l : List UInt8) : (nats l).length = l.length := by simp [nats]
theorem nats_lt (l : List UInt8) : ∀ x ∈ nats l, x < 256 := by
  intro x hx
  obtain ⟨y, _, rfl⟩ := List.mem_map.1 hx
  exact y.toNat_lt
theorem pad_eq (b : List Nat) (k : Nat) : (b.drop (64 * k)).take 64 ++ (List.replicate 64 0).drop (min (b.length - 64 * k) 64) = padL ((b.drop (64 * k)).take 64) := by
  unfold padL
  rw [List.drop_replicate, List.length_take, List.length_drop, Nat.min_comm]
theorem padL_len {b : List Nat} (h : b.length ≤ 64) : (padL b).length = 64 := by simp [padL]; omega
theorem padL_lt {b : List Nat} (h : ∀ x ∈ b, x < 256) : ∀ x ∈ padL b, x < 256 := by
  intro x hx
  rcases List.mem_append.1 hx with hx | hx
  · exact h x hx
  · rw [(List.mem_replicate.1 hx).2]; decide
theorem part_lt {b : List Nat} (h : ∀ x ∈ b, x < 256) (k : Nat) : ∀ x ∈ (b.drop (64 * k)).take 64, x < 256 := fun x hx => h x (List.mem_of_mem_drop (List.mem_of_mem_take hx))
theorem blocks_at {n k : Nat} (h1 : k = 1 ∨ 64 * (k - 1) < n) (hk : 1 ≤ k) (h2 : n ≤ 64 * k) : blocksN n = k := by
  unfold blocksN
  split
  · rename_i h; subst h; rcases h1 with h1 | h1 <;> omega
  · omega
theorem slice_bytes {w : World} {p : Option Addr} {n c : Nat} {l : List UInt8} (h : InB w p n c l) {k : Nat} (hk : k ≤ n) : At w (slBase p k c 1) (vN .u8 ((nats l).drop k)) := by
  have hl := h.len
  have := h.lies.slice k n c 1 h.cap.1
  rw [vB_nats] at this
  rw [Nat.mul_one, Nat.mul_one, List.take_of_length_le (by rw [vN_length]; simp [hl])] at this
  unfold nats
  have e : vN .u8 ((l.map UInt8.toNat).drop k) = (vN .u8 (l.map UInt8.toNat)).drop k := by simp [vN, List.map_drop]
  rw [e]; exact this
set_option maxHeartbeats 4000000 in
theorem hSum_ok {w : World} {p : Option Addr} {n c : Nat} {hs : List Sl} {L : List (List UInt8)} (hT : HTab w) (hL : Bts w p n c hs L) (ht : total L ≤ 1000000) :
    Calls Tryd.prog 8 #[.slice p n c] w fun e w' => e = .returned (.agg (vA .u8 (sumL (nats L.flatten)))) ∧ Ext w w' := by
  apply hSum_vc
  unfold hSum_T
  intro b1 w2 h1
  rw [zero32] at h1
  have H := (Hold.start (Ext.rfl (w := w))).new h1
  refine (concat_ok H (hL.ext H.ext) ht).mono ?_
  rintro e w5 ⟨q, m, d, rfl, hq, H1, _⟩
  replace H := H1
  clear H1
  have hm : m ≤ 1000000 := by have := hq.len; unfold total at ht; omega
  refine ⟨_, _, _, rfl, vA .u32 ivL, by kernel_rfl, (hT.ext H.ext).first, ?_⟩
  intro b10 w11 h10
  rw [zero8] at h10
  have K := (Hold.start (Ext.rfl (w := w5))).new h10
  refine ⟨by kernel_rfl, K.canPut 0 rfl (by kernel_rfl) vA_one, ?_⟩
  intro w13 hS
  replace K := K.putAll 0 rfl (by kernel_rfl) hS
  have c0 := K.getN 0 rfl (g0_get (l := ivL) (i := 0) (by decide))
  refine ⟨by decide, by decide, _, c0, by decide, by decide, ⟨_, c0⟩, K.frz 0 rfl, ?_⟩
  rw [show (16842784 : Int) = ((16842784 : Nat) : Int) from rfl, xor_u32 (g0_lt ivL_w.2 0) (by decide)]
  intro w17 hS
  replace K := K.putN 0 rfl hS
  have K : Hold w5 w17 [(b10, .cells (vA .u32 h0L) 38 (0, 0))] [] := K
  generalize hb : nats L.flatten = b
  have hbl : b.length = m := by rw [← hb, nats_len, hq.len]
  have hbt : ∀ x ∈ b, x < 256 := by rw [← hb]; exact nats_lt _
  refine ⟨fun i W => ∃ k : Nat, i = ((64 * k : Nat) : Int) ∧ (k = 0 ∨ k = 1 ∨ 64 * (k - 1) < m) ∧ Hold w5 W [(b10, .cells (vA .u32 (stateL b k)) 38 (0, 0))] [], fun i _ => 2000000 - i.toNat, ⟨0, rfl, .inl rfl, K⟩, ?_⟩
  clear K c0 hS
  rintro i W ⟨k, rfl, hk, K⟩
  have hw := stateL_w b k
  refine ⟨fun hgo => ?_, fun hend => ?_⟩
  · have hkm : 64 * k ≤ m := by omega
    intro b25 w26 h25
    rw [zero64] at h25
    replace K := K.new h25
    intro w28 hD
    replace K := K.step (Drew.ext hD)
    simp only [Int.toNat_natCast]
    have hsrc := slice_bytes (hq.ext K.ext) hkm
    rw [hb] at hsrc
    obtain ⟨w31, hrun, K1⟩ := K.copyN (P := Tryd.prog) (dT := 22) (sT := 22) (ty := 3) undB sizeB 0 rfl (src := b.drop (64 * k)) (sLen := m - 64 * k) (sCap := d - 64 * k) (dLen := 64) (dCap := 64) hsrc (by rw [List.length_drop, hbl]) (by simp) (by decide)
    refine ⟨by omega, by omega, _, _, hrun, ?_⟩
    replace K := K1
    have ep : (b.drop (64 * k)).take 64 ++ (List.replicate 64 0).drop (min (m - 64 * k) 64) = padL ((b.drop (64 * k)).take 64) := by rw [← hbl]; exact pad_eq b k
    rw [ep] at K
    have hp64 := padL_len (b := (b.drop (64 * k)).take 64) (by simp; omega)
    have hplt := padL_lt (part_lt hbt k)
    have en : IntKind.i64.wrap (((64 * k : Nat) : Int) + ((min (m - 64 * k) 64 : Nat) : Int)) = ((min (64 * (k + 1)) m : Nat) : Int) := by
      rw [i64_fit (by omega) (by omega)]; omega
    rw [en, u64_nat (by omega)]
    refine ⟨_, by rw [vA_size, hw.1], K.cellsAt 1 rfl, _, by rw [vA_size, hp64], K.cellsAt 0 rfl, ?_⟩
    have ed : decide (((min (64 * (k + 1)) m : Nat) : Int) = (m : Int)) = decide (b.length ≤ 64 * (k + 1)) := by
      rw [hbl]; exact decide_eq_decide.2 (by omega)
    rw [ed]
    refine (hnext_ok hw hp64 hplt (by omega) _ (hT.ext (H.ext.trans K.ext))).mono ?_
    rintro e w35 ⟨rfl, eX⟩
    replace K := K.step eX
    have hst : blockL (stateL b k) (padL ((b.drop (64 * k)).take 64)) (min (64 * (k + 1)) m) (decide (b.length ≤ 64 * (k + 1))) = stateL b (k + 1) := by rw [stateL, hbl]
    rw [hst]
    have hw1 := stateL_w b (k + 1)
    refine ⟨_, by rw [vA_size, hw1.1], rfl, by rw [vA_size, hw1.1], K.canPut 1 rfl (by rw [vA_size, vA_size, hw1.1, hw.1]) vA_one, ?_⟩
    intro w37 hS
    replace K := K.putAll 1 rfl (by rw [vA_size, vA_size, hw1.1, hw.1]) hS
    have e64 : IntKind.i64.wrap (((64 * k : Nat) : Int) + 64) = ((64 * (k + 1) : Nat) : Int) := by
      rw [i64_fit (by omega) (by omega)]; omega
    rw [e64]
    refine ⟨⟨k + 1, rfl, ?_, K.tail⟩, by simp only [Int.toNat_natCast]; omega⟩
    rcases hgo with h | h
    · right; left; omega
    · right; right; rw [Nat.add_sub_cancel]; omega
  · have hk1 : 1 ≤ k := by omega
    have hbk : blocksN b.length = k := by rw [hbl]; exact blocks_at (by omega) hk1 (by omega)
    intro b40 w41 h40
    rw [zero32] at h40
    replace K := K.new h40
    rw [← upTo_zero (outN (stateL b k)) 32] at K
    refine ⟨fun i W => ∃ j : Nat, i = (j : Int) ∧ j ≤ 32 ∧ Hold w5 W [(b40, .cells (vA .u8 (upTo (outN (stateL b k)) 32 j)) 24 (0, 0)), (b10, .cells (vA .u32 (stateL b k)) 38 (0, 0))] [], fun i _ => 32 - i.toNat, ⟨0, rfl, by decide, K⟩, ?_⟩
    clear K
    rintro i W ⟨j, rfl, hj, K⟩
    refine ⟨fun hlt => ?_, fun hge => ?_⟩
    · rw [quo4 (by omega), eight4]
      simp only [Int.toNat_natCast, Nat.zero_add]
      have c0 := K.getN 1 rfl (g0_get (l := stateL b k) (i := j / 4) (by rw [hw.1]; omega))
      refine ⟨by omega, by omega, _, c0, by omega, by omega, by omega, ⟨_, K.getN 0 rfl (upTo_get (by omega))⟩, K.frz 0 rfl, ?_⟩
      rw [out_val (g0_lt hw.2 _)]
      intro w51 hS
      replace K := K.putN 0 rfl hS
      rw [i64_next (by omega)]
      refine ⟨⟨j + 1, rfl, by omega, ?_⟩, by simp only [Int.toNat_natCast]; omega⟩
      rw [upTo_step (by omega)]
      exact K
    · have : j = 32 := by omega
      subst this
      rw [upTo_out] at K
      have hsum : outL (stateL b k) = sumL b := by unfold sumL; rw [hbk]
      rw [hsum] at K
      have H2 := H.step K.ext
      refine ⟨_, by rw [vA_size, sumL_len], K.cellsAt 0 rfl, by rw [vA_size, sumL_len], H2.canPut 0 rfl (by rw [vA_size, vA_size, sumL_len]; rfl) vA_one, ?_⟩
      intro w55 hS
      have H3 := H2.putAll 0 rfl (by rw [vA_size, vA_size, sumL_len]; rfl) hS
      exact ⟨_, by rw [vA_size, sumL_len], H3.cellsAt 0 rfl, rfl, H3.ext⟩
end Go.Proofs.YthnimelcbbinaaaDoor

/- The verification conditions of the functions, evaluated: printed by program. -/
namespace Go.Proofs.YthnimelcbbinaaaDoor
open Go Go.Vc
set_option maxRecDepth 20000

end Go.Proofs.YthnimelcbbinaaaDoor

/- The contracts of hash: Hex, Unhex. -/
namespace Go.Proofs.YthnimelcbbinaaaDoor
open Go Go.Vc Go.RowKit
set_option maxRecDepth 20000
attribute [local irreducible] Calls Put Drew New

def digitsS : ByteArray := ByteArray.mk #[48, 49, 50, 51, 52, 53, 54, 55, 56, 57, 97, 98, 99, 100, 101, 102]
theorem digits_at : ∀ i, i < 16 → bAt digitsS i = ((hexD i : Nat) : Int) := by decide +kernel
theorem hexD_lt {i : Nat} (h : i < 16) : hexD i < 256 := by unfold hexD; split <;> omega
theorem hexL_lt {d : List Nat} (h : ∀ x ∈ d, x < 256) : ∀ x ∈ hexL d, x < 256 := by
  intro x hx
  unfold hexL at hx
  obtain ⟨y, hy, hx⟩ := List.mem_flatMap.1 hx
  have := h y hy
  simp only [List.mem_cons, List.not_mem_nil, or_false] at hx
  rcases hx with rfl | rfl <;> exact hexD_lt (by omega)
theorem hexL_len (d : List Nat) : (hexL d).length = 2 * d.length := by
  unfold hexL
  induction d with
  | nil => rfl
  | cons x d ih => rw [List.flatMap_cons, List.length_append, ih, List.length_cons]; simp; omega
/-- Bytes out of numbers. -/
def bytesN (l : List Nat) : ByteArray := ⟨(l.map UInt8.ofNat).toArray⟩
theorem hexL_take {d : List Nat} {j x : Nat} (h : d[j]? = some x) : hexL (d.take (j + 1)) = hexL (d.take j) ++ [hexD (x / 16), hexD (x % 16)] := by
  rw [take_snoc h]; unfold hexL; rw [List.flatMap_append]; rfl
set_option maxHeartbeats 4000000 in
theorem hHex_ok {D : List Nat} (hD : D.length = 32) (hb : ∀ x ∈ D, x < 256) (w : World) :
    Calls Tryd.prog 12 #[.agg (vA .u8 D)] w fun e w' => e = .returned (.string (bytesN (hexL D))) ∧ Ext w w' := by
  apply hHex_vc
  unfold hHex_T
  intro b1 w2 h1
  have H := (Hold.start (Ext.rfl (w := w))).new (o := .cells (vA .u8 D) 24) h1
  refine ⟨vA .u8 D, by rw [vA_size, hD], H.cellsAt 0 rfl, ?_⟩
  refine ⟨fun q k d i W => ∃ j : Nat, i = (j : Int) ∧ j ≤ 32 ∧ k = 2 * j ∧ Hold w W [] [⟨5, 1, q, k, d, vN .u8 (hexL (D.take j))⟩], fun _ _ _ i _ => 32 - i.toNat, ⟨0, rfl, by decide, rfl, H.tail.nilRow _ _⟩, ?_⟩
  clear H
  rintro q k d i W ⟨j, rfl, hj, rfl, H⟩
  refine ⟨fun hlt => ?_, fun hge => ?_⟩
  · have gx : D[j]? = some (g0 D j) := g0_get (by omega)
    have hx : g0 D j < 256 := g0_byte hb j
    simp only [Int.toNat_natCast]
    refine ⟨by omega, hlt, _, vA_get gx, ?_⟩
    intro w20 hDr
    replace H := H.step (Drew.ext hDr)
    have e1 : shrI .u8 ((g0 D j : Nat) : Int) 4 = ((g0 D j / 16 : Nat) : Int) := shr_nat .u8 _ 4 (by decide)
    have e2 : bits .and .u8 ((g0 D j : Nat) : Int) 15 = ((g0 D j % 16 : Nat) : Int) := by
      have := and_u8 hx (b := 15) (by decide)
      refine this.trans ?_
      rw [show g0 D j &&& 15 = g0 D j % 16 from Nat.and_two_pow_sub_one_eq_mod (n := 4) _]
    rw [e1, e2]
    simp only [Int.toNat_natCast]
    refine ⟨by omega, by omega, by omega, by omega, ?_⟩
    intro b22 w23 hN
    have hN : New w20 (.cells #[.int .u8 (bAt digitsS (g0 D j / 16)), .int .u8 (bAt digitsS (g0 D j % 16))] 5) b22 w23 := hN
    rw [digits_at _ (by omega), digits_at _ (by omega)] at hN
    replace H := H.new hN
    obtain ⟨p', c', w28, hrun, H1⟩ := H.append (ty := 22) (P := Tryd.prog) (q := some ⟨b22, 0, none⟩) (m := 2) (d' := 2) (news := [.int .u8 ((hexD (g0 D j / 16) : Nat) : Int), .int .u8 ((hexD (g0 D j % 16) : Nat) : Int)]) 0 rfl undB tyB rfl (by decide) (H.blk 0 rfl).at rfl (fun e => by cases e) (by
      intro u hu
      simp only [List.mem_cons, List.not_mem_nil, or_false] at hu
      rcases hu with rfl | rfl <;> rfl) (by dsimp only; omega) (by unfold maxLen; omega)
    refine ⟨_, _, _, _, hrun, ?_⟩
    rw [i64_next (by omega)]
    refine ⟨⟨j + 1, rfl, by omega, by omega, ?_⟩, by simp only [Int.toNat_natCast]; omega⟩
    rw [hexL_take gx, vN_append]
    exact H1.tail
  · have : j = 32 := by omega
    subst this
    rw [List.take_of_length_le (by omega)] at H
    have hm := H.row 0 rfl
    rw [vN_bytes (hexL_lt hb)] at hm
    exact ⟨_, hm.at.bytes' (by simp [hexL_len, hD]), rfl, H.ext⟩

/-! ### Unhex -/
/-- The number of a digit; below 0: none. -/
def digN (c : Nat) : Int := match unD1 c with | some x => (x : Int) | none => -1
def digAt (S : List Nat) (j : Nat) : Int := digN (g0 S j)
def pairN (S : List Nat) (k : Nat) : Nat := 16 * (digAt S (2 * k)).toNat + (digAt S (2 * k + 1)).toNat
def ValidT (S : List Nat) : Prop := S.length = 64 ∧ ∀ j, j < 64 → 0 ≤ digAt S j
instance (S : List Nat) : Decidable (ValidT S) := by unfold ValidT; exact inferInstance
def unhexF (S : List Nat) : List Nat × Int := if ValidT S then ((List.range 32).map (pairN S), 0) else (List.replicate 32 0, 2)
def halfL (S : List Nat) (i : Nat) : List Nat := (List.range 32).map fun k => if 2 * k + 1 < i then pairN S k else if 2 * k < i then (digAt S (2 * k)).toNat else 0
end Go.Proofs.YthnimelcbbinaaaDoor

/- The contracts of the document's BLAKE2s: words, orders, places, mixed. -/
namespace Go.Proofs.YthnimelcbbinaaaDoor
open Go Go.Vc Go.RowKit
set_option maxRecDepth 20000
attribute [local irreducible] Calls Put Drew New

def letters (l : List Nat) : ByteArray := bytesN (l.map (97 + ·))
theorem rWords_ok {w0 W : World} {fs : List (Nat × Obj)} (H : Hold w0 W fs []) : Calls Tryd.prog 16 #[] W fun e W' => ∃ b, e = .returned (.slice (some ⟨b, 0, none⟩) 8 8) ∧ Hold w0 W' ((b, .cells (vA .u32 ivL) 36 (0, 0)) :: fs) [] := by
  apply rWords_vc
  unfold rWords_T
  intro b1 w2 h1
  exact ⟨b1, rfl, H.new (o := .cells (vA .u32 ivL) 36) h1⟩
theorem rOrder_ok {r : Nat} (hr : r < 10) (W : World) : Calls Tryd.prog 22 #[.int .i64 (r : Int)] W fun e W' => e = .returned (.string (letters (ordersL.getD r []))) ∧ Ext W W' := by
  apply rOrder_vc
  unfold rOrder_T
  intro b1 w2 h1
  have H := (Hold.start (Ext.rfl (w := W))).new h1
  simp only [Int.toNat_natCast]
  refine ⟨b1, 0, rfl, by omega, by omega, letters (ordersL.getD r []), ?_, rfl, H.ext⟩
  rw [Nat.zero_add]
  refine H.get 0 rfl ?_
  rcases (by omega : r = 0 ∨ r = 1 ∨ r = 2 ∨ r = 3 ∨ r = 4 ∨ r = 5 ∨ r = 6 ∨ r = 7 ∨ r = 8 ∨ r = 9) with rfl | rfl | rfl | rfl | rfl | rfl | rfl | rfl | rfl | rfl <;> kernel_rfl
theorem rPlaces_ok {i : Nat} (hi : i < 8) (W : World) : Calls Tryd.prog 24 #[.int .i64 (i : Int)] W fun e W' => e = .returned (.string (letters (placeN i))) ∧ Ext W W' := by
  apply rPlaces_vc
  unfold rPlaces_T
  intro b1 w2 h1
  have H := (Hold.start (Ext.rfl (w := W))).new h1
  simp only [Int.toNat_natCast]
  refine ⟨b1, 0, rfl, by omega, by omega, letters (placeN i), ?_, rfl, H.ext⟩
  rw [Nat.zero_add]
  refine H.get 0 rfl ?_
  rcases (by omega : i = 0 ∨ i = 1 ∨ i = 2 ∨ i = 3 ∨ i = 4 ∨ i = 5 ∨ i = 6 ∨ i = 7) with rfl | rfl | rfl | rfl | rfl | rfl | rfl | rfl <;> kernel_rfl
theorem rrotr_ok {x r : Nat} (hx : x < 4294967296) (hr : r ≤ 32) (w : World) :
    Calls Tryd.prog 27 #[.int .u32 (x : Int), .int .i64 (r : Int)] w fun e w' => e = .returned (.int .u32 ((rot x r : Nat) : Int)) ∧ Ext w w' := by
  apply rrotr_vc
  unfold rrotr_T
  intro w1 hD
  have e1 : IntKind.i64.wrap (32 - (r : Int)) = ((32 - r : Nat) : Int) := by rw [i64_fit (by omega) (by omega)]; omega
  rw [e1]
  simp only [Int.toNat_natCast]
  rw [shl_u32 _ _ (by omega), shr_u32 _ _ hr, or_u32 (Nat.lt_of_le_of_lt (Nat.div_le_self _ _) hx) (Nat.mod_lt _ (by decide))]
  exact ⟨by omega, by omega, rfl, Drew.ext hD⟩
theorem letter_at {l : List Nat} {j x : Nat} (h : l[j]? = some x) (hx : x < 100) : j < (letters l).size ∧ bAt (letters l) j = ((97 + x : Nat) : Int) := by
  have hlt := (List.getElem?_eq_some_iff.1 h).1
  have hsz : (letters l).size = l.length := by unfold letters bytesN; simp [ByteArray.size]
  refine ⟨by omega, ?_⟩
  unfold bAt letters bytesN
  have : ((l.map (97 + ·)).map UInt8.ofNat)[j]? = some (UInt8.ofNat (97 + x)) := by
    rw [List.getElem?_map, List.getElem?_map, h]; rfl
  rw [List.getD_eq_getElem?_getD]
  simp only [this, Option.getD_some]
  rw [UInt8.toNat_ofNat']
  congr 1; omega
theorem letter_num {x : Nat} (hx : x < 100) : IntKind.u8.wrap (((97 + x : Nat) : Int) - 97) = (x : Int) := by
  rw [IntKind.wrap_u8]; omega
theorem letter_int {x : Nat} (hx : x < 100) : IntKind.i64.wrap (x : Int) = (x : Int) := i64_fit (by omega) (by omega)

/-! ### Four places -/
structure Dis (n p0 p1 p2 p3 : Nat) : Prop where
  l0 : p0 < n
  l1 : p1 < n
  l2 : p2 < n
  l3 : p3 < n
  n01 : p0 ≠ p1
  n02 : p0 ≠ p2
  n03 : p0 ≠ p3
  n12 : p1 ≠ p2
  n13 : p1 ≠ p3
  n23 : p2 ≠ p3
def m4 (V : List Nat) (p0 p1 p2 p3 a b c d : Nat) : List Nat := (((V.set p0 a).set p1 b).set p2 c).set p3 d
section
variable {V : List Nat} {p0 p1 p2 p3 a b c d x : Nat}
theorem m4_get0 (h : Dis V.length p0 p1 p2 p3) : (m4 V p0 p1 p2 p3 a b c d)[p0]? = some a := by
  unfold m4
  rw [List.getElem?_set, if_neg h.n03.symm, List.getElem?_set, if_neg h.n02.symm, List.getElem?_set, if_neg h.n01.symm, List.getElem?_set, if_pos rfl, if_pos h.l0]
theorem m4_get1 (h : Dis V.length p0 p1 p2 p3) : (m4 V p0 p1 p2 p3 a b c d)[p1]? = some b := by
  unfold m4
  rw [List.getElem?_set, if_neg h.n13.symm, List.getElem?_set, if_neg h.n12.symm, List.getElem?_set, if_pos rfl, if_pos (by simpa using h.l1)]
theorem m4_get2 (h : Dis V.length p0 p1 p2 p3) : (m4 V p0 p1 p2 p3 a b c d)[p2]? = some c := by
  unfold m4
  rw [List.getElem?_set, if_neg h.n23.symm, List.getElem?_set, if_pos rfl, if_pos (by simpa using h.l2)]
theorem m4_get3 (h : Dis V.length p0 p1 p2 p3) : (m4 V p0 p1 p2 p3 a b c d)[p3]? = some d := by
  unfold m4
  rw [List.getElem?_set, if_pos rfl, if_pos (by simpa using h.l3)]
theorem m4_set0 (h : Dis V.length p0 p1 p2 p3) : (m4 V p0 p1 p2 p3 a b c d).set p0 x = m4 V p0 p1 p2 p3 x b c d := by
  unfold m4
  rw [List.set_comm _ _ h.n03.symm, List.set_comm _ _ h.n02.symm, List.set_comm _ _ h.n01.symm, List.set_set]
theorem m4_set1 (h : Dis V.length p0 p1 p2 p3) : (m4 V p0 p1 p2 p3 a b c d).set p1 x = m4 V p0 p1 p2 p3 a x c d := by
  unfold m4
  rw [List.set_comm _ _ h.n13.symm, List.set_comm _ _ h.n12.symm, List.set_set]
theorem m4_set2 (h : Dis V.length p0 p1 p2 p3) : (m4 V p0 p1 p2 p3 a b c d).set p2 x = m4 V p0 p1 p2 p3 a b x d := by
  unfold m4
  rw [List.set_comm _ _ h.n23.symm, List.set_set]
theorem m4_set3 : (m4 V p0 p1 p2 p3 a b c d).set p3 x = m4 V p0 p1 p2 p3 a b c x := by
  unfold m4
  rw [List.set_set]
theorem m4_self (h : Dis V.length p0 p1 p2 p3) : m4 V p0 p1 p2 p3 (g0 V p0) (g0 V p1) (g0 V p2) (g0 V p3) = V := by
  unfold m4
  have e : ∀ p, p < V.length → V.set p (g0 V p) = V := fun p hp => by
    have := g0_get hp
    rw [List.getElem?_eq_getElem hp] at this
    rw [← Option.some.inj this]
    exact List.set_getElem_self hp
  rw [e p0 h.l0, e p1 h.l1, e p2 h.l2, e p3 h.l3]
end
theorem sum3 (a b x : Nat) : IntKind.u32.wrap (IntKind.u32.wrap ((a : Int) + (b : Int)) + (x : Int)) = (((a + b + x) % 4294967296 : Nat) : Int) := by
  rw [u32_wrap, u32_wrap]; omega
set_option maxHeartbeats 4000000 in
theorem rmixed_ok {V : List Nat} (hV : W16 V) {i : Nat} (hi : i < 8) {x y : Nat} (w : World) :
    Calls Tryd.prog 23 #[.agg (vA .u32 V), .string (letters (placeN i)), .int .u32 (x : Int), .int .u32 (y : Int)] w fun e w' => e = .returned (.agg (vA .u32 (mixL V (placeN i) x y))) ∧ Ext w w' := by
  have hmix := mixL_w (p := placeN i) (x := x) (y := y) hV
  have hp4 : (placeN i).length = 4 := by
    rcases (by omega : i = 0 ∨ i = 1 ∨ i = 2 ∨ i = 3 ∨ i = 4 ∨ i = 5 ∨ i = 6 ∨ i = 7) with rfl | rfl | rfl | rfl | rfl | rfl | rfl | rfl <;> rfl
  obtain ⟨_, q0⟩ := place_get i hi 0 (by decide)
  obtain ⟨_, q1⟩ := place_get i hi 1 (by decide)
  obtain ⟨_, q2⟩ := place_get i hi 2 (by decide)
  obtain ⟨_, q3⟩ := place_get i hi 3 (by decide)
  obtain ⟨n01, n02, n03, n12, n13, n23⟩ := place_ne i hi
  obtain ⟨z0, y0⟩ := letter_at (l := placeN i) (j := 0) (g0_get (by omega)) (by omega)
  obtain ⟨z1, y1⟩ := letter_at (l := placeN i) (j := 1) (g0_get (by omega)) (by omega)
  obtain ⟨z2, y2⟩ := letter_at (l := placeN i) (j := 2) (g0_get (by omega)) (by omega)
  obtain ⟨z3, y3⟩ := letter_at (l := placeN i) (j := 3) (g0_get (by omega)) (by omega)
  have hmd : mixL V (placeN i) x y = m4 V (g0 (placeN i) 0) (g0 (placeN i) 1) (g0 (placeN i) 2) (g0 (placeN i) 3) (quart (g0 V (g0 (placeN i) 0)) (g0 V (g0 (placeN i) 1)) (g0 V (g0 (placeN i) 2)) (g0 V (g0 (placeN i) 3)) x y).1 (quart (g0 V (g0 (placeN i) 0)) (g0 V (g0 (placeN i) 1)) (g0 V (g0 (placeN i) 2)) (g0 V (g0 (placeN i) 3)) x y).2.1 (quart (g0 V (g0 (placeN i) 0)) (g0 V (g0 (placeN i) 1)) (g0 V (g0 (placeN i) 2)) (g0 V (g0 (placeN i) 3)) x y).2.2.1 (quart (g0 V (g0 (placeN i) 0)) (g0 V (g0 (placeN i) 1)) (g0 V (g0 (placeN i) 2)) (g0 V (g0 (placeN i) 3)) x y).2.2.2 := rfl
  rw [hmd] at hmix ⊢
  have A0 := g0_lt hV.2 (g0 (placeN i) 0)
  have B0 := g0_lt hV.2 (g0 (placeN i) 1)
  have C0 := g0_lt hV.2 (g0 (placeN i) 2)
  have D0 := g0_lt hV.2 (g0 (placeN i) 3)
  have hdis : Dis V.length (g0 (placeN i) 0) (g0 (placeN i) 1) (g0 (placeN i) 2) (g0 (placeN i) 3) := by rw [hV.1]; exact ⟨q0, q1, q2, q3, n01, n02, n03, n12, n13, n23⟩
  have hself := m4_self hdis
  generalize hP : letters (placeN i) = P at z0 y0 z1 y1 z2 y2 z3 y3 ⊢
  generalize g0 (placeN i) 0 = p0 at *
  generalize g0 (placeN i) 1 = p1 at *
  generalize g0 (placeN i) 2 = p2 at *
  generalize g0 (placeN i) 3 = p3 at *
  generalize g0 V p0 = a at *
  generalize g0 V p1 = b at *
  generalize g0 V p2 = c at *
  generalize g0 V p3 = d at *
  have k0 : IntKind.i64.wrap (IntKind.u8.wrap (bAt P 0 - 97)) = (p0 : Int) := by rw [y0, letter_num (by omega), letter_int (by omega)]
  have k1 : IntKind.i64.wrap (IntKind.u8.wrap (bAt P 1 - 97)) = (p1 : Int) := by rw [y1, letter_num (by omega), letter_int (by omega)]
  have k2 : IntKind.i64.wrap (IntKind.u8.wrap (bAt P 2 - 97)) = (p2 : Int) := by rw [y2, letter_num (by omega), letter_int (by omega)]
  have k3 : IntKind.i64.wrap (IntKind.u8.wrap (bAt P 3 - 97)) = (p3 : Int) := by rw [y3, letter_num (by omega), letter_int (by omega)]
  have md : ∀ n, n % 4294967296 < 4294967296 := fun n => Nat.mod_lt _ (by decide)
  apply rmixed_vc
  unfold rmixed_T
  rw [k0, k1, k2, k3]
  simp only [Int.toNat_natCast, Nat.zero_add]
  intro b1 w2 h1
  have H := (Hold.start (Ext.rfl (w := w))).new (o := .cells (vA .u32 V) 49) h1
  intro b7 w8 h7
  rw [zero16] at h7
  replace H := H.new h7
  rw [← hself] at H
  refine ⟨by decide, by omega, by decide, by omega, by decide, by omega, by decide, by omega, ?_⟩
  intro _ hD
  replace H := H.step (Drew.ext hD)
  refine ⟨by omega, by omega, _, H.getN 1 rfl (m4_get0 hdis), by omega, by omega, _, H.getN 1 rfl (m4_get1 hdis), by omega, by omega, ⟨_, H.getN 1 rfl (m4_get0 hdis)⟩, H.frz 1 rfl, ?_⟩
  rw [sum3]
  intro _ hS
  replace H := H.putN 1 rfl hS
  rw [m4_set0 hdis] at H
  intro _ hD
  replace H := H.step (Drew.ext hD)
  refine ⟨by omega, by omega, _, H.getN 1 rfl (m4_get3 hdis), by omega, by omega, _, H.getN 1 rfl (m4_get0 hdis), ?_⟩
  rw [xor_u32 D0 (md _)]
  refine (rrotr_ok (r := 16) (Nat.xor_lt_two_pow (n := 32) D0 (md _)) (by decide) _).mono ?_
  rintro e W ⟨rfl, eX⟩
  replace H := H.step eX
  clear eX hD hS
  refine ⟨_, rfl, by omega, by omega, ⟨_, H.getN 1 rfl (m4_get3 hdis)⟩, H.frz 1 rfl, ?_⟩
  intro _ hS
  replace H := H.putN 1 rfl hS
  rw [m4_set3] at H
  have D1 := rot_lt (r := 16) (Nat.xor_lt_two_pow (n := 32) D0 (md (a + b + x)))
  intro _ hD
  replace H := H.step (Drew.ext hD)
  refine ⟨by omega, by omega, _, H.getN 1 rfl (m4_get2 hdis), by omega, by omega, _, H.getN 1 rfl (m4_get3 hdis), by omega, by omega, ⟨_, H.getN 1 rfl (m4_get2 hdis)⟩, H.frz 1 rfl, ?_⟩
  rw [add_u32]
  intro _ hS
  replace H := H.putN 1 rfl hS
  rw [m4_set2 hdis] at H
  intro _ hD
  replace H := H.step (Drew.ext hD)
  refine ⟨by omega, by omega, _, H.getN 1 rfl (m4_get1 hdis), by omega, by omega, _, H.getN 1 rfl (m4_get2 hdis), ?_⟩
  rw [xor_u32 B0 (md _)]
  refine (rrotr_ok (r := 12) (Nat.xor_lt_two_pow (n := 32) B0 (md _)) (by decide) _).mono ?_
  rintro e W ⟨rfl, eX⟩
  replace H := H.step eX
  clear eX hD hS
  refine ⟨_, rfl, by omega, by omega, ⟨_, H.getN 1 rfl (m4_get1 hdis)⟩, H.frz 1 rfl, ?_⟩
  intro _ hS
  replace H := H.putN 1 rfl hS
  rw [m4_set1 hdis] at H
  have B1 := rot_lt (r := 12) (Nat.xor_lt_two_pow (n := 32) B0 (md (c + rot (d ^^^ (a + b + x) % 4294967296) 16)))
  intro _ hD
  replace H := H.step (Drew.ext hD)
  refine ⟨by omega, by omega, _, H.getN 1 rfl (m4_get0 hdis), by omega, by omega, _, H.getN 1 rfl (m4_get1 hdis), by omega, by omega, ⟨_, H.getN 1 rfl (m4_get0 hdis)⟩, H.frz 1 rfl, ?_⟩
  rw [sum3]
  intro _ hS
  replace H := H.putN 1 rfl hS
  rw [m4_set0 hdis] at H
  intro _ hD
  replace H := H.step (Drew.ext hD)
  refine ⟨by omega, by omega, _, H.getN 1 rfl (m4_get3 hdis), by omega, by omega, _, H.getN 1 rfl (m4_get0 hdis), ?_⟩
  rw [xor_u32 D1 (md _)]
  refine (rrotr_ok (r := 8) (Nat.xor_lt_two_pow (n := 32) D1 (md _)) (by decide) _).mono ?_
  rintro e W ⟨rfl, eX⟩
  replace H := H.step eX
  clear eX hD hS
  refine ⟨_, rfl, by omega, by omega, ⟨_, H.getN 1 rfl (m4_get3 hdis)⟩, H.frz 1 rfl, ?_⟩
  intro _ hS
  replace H := H.putN 1 rfl hS
  rw [m4_set3] at H
  intro _ hD
  replace H := H.step (Drew.ext hD)
  refine ⟨by omega, by omega, _, H.getN 1 rfl (m4_get2 hdis), by omega, by omega, _, H.getN 1 rfl (m4_get3 hdis), by omega, by omega, ⟨_, H.getN 1 rfl (m4_get2 hdis)⟩, H.frz 1 rfl, ?_⟩
  rw [add_u32]
  intro _ hS
  replace H := H.putN 1 rfl hS
  rw [m4_set2 hdis] at H
  intro _ hD
  replace H := H.step (Drew.ext hD)
  refine ⟨by omega, by omega, _, H.getN 1 rfl (m4_get1 hdis), by omega, by omega, _, H.getN 1 rfl (m4_get2 hdis), ?_⟩
  rw [xor_u32 B1 (md _)]
  refine (rrotr_ok (r := 7) (Nat.xor_lt_two_pow (n := 32) B1 (md _)) (by decide) _).mono ?_
  rintro e W ⟨rfl, eX⟩
  replace H := H.step eX
  clear eX hD hS
  refine ⟨_, rfl, by omega, by omega, ⟨_, H.getN 1 rfl (m4_get1 hdis)⟩, H.frz 1 rfl, ?_⟩
  intro _ hS
  replace H := H.putN 1 rfl hS
  rw [m4_set1 hdis] at H
  refine ⟨_, by rw [vA_size]; exact hmix.1, H.cellsAt 1 rfl, by rw [vA_size]; exact hmix.1, H.canPut 0 rfl (by rw [vA_size, vA_size]; exact hmix.1) vA_one, ?_⟩
  intro _ hS2
  have H2 := H.putAll 0 rfl (by rw [vA_size, vA_size]; exact hmix.1) hS2
  exact ⟨_, by rw [vA_size]; exact hmix.1, H2.cellsAt 0 rfl, rfl, H2.ext⟩
end Go.Proofs.YthnimelcbbinaaaDoor

/- The contract of the document's BLAKE2s: a block. Printed by mkr2.py. -/
namespace Go.Proofs.YthnimelcbbinaaaDoor
open Go Go.Vc Go.RowKit
set_option maxRecDepth 20000
attribute [local irreducible] Calls Put Drew New

/-- The places of v at the start: of both halves the first k. -/
def vR (hh : List Nat) (k : Nat) : List Nat := (List.range 16).map fun j => if j < 8 then (if j < k then g0 hh j else 0) else (if j < 8 + k then g0 ivL (j - 8) else 0)
theorem vR_len (hh : List Nat) (k : Nat) : (vR hh k).length = 16 := by simp [vR]
theorem vR_get {hh : List Nat} {k j : Nat} (hj : j < 16) : (vR hh k)[j]? = some (if j < 8 then (if j < k then g0 hh j else 0) else (if j < 8 + k then g0 ivL (j - 8) else 0)) := by
  unfold vR; rw [List.getElem?_map, List.getElem?_range hj]; rfl
theorem vR_zero (hh : List Nat) : vR hh 0 = List.replicate 16 0 := by
  unfold vR
  rw [List.map_congr_left (g := fun _ => 0) fun k _ => by
    by_cases h : k < 8
    · rw [if_pos h, if_neg (by omega)]
    · rw [if_neg h, if_neg (by omega)]]
  rfl
theorem vR_all {hh : List Nat} (h : hh.length = 8) : vR hh 8 = hh ++ ivL := by
  have hi : ivL.length = 8 := rfl
  apply List.ext_getElem?
  intro j
  rcases Nat.lt_or_ge j 16 with hj | hj
  · rw [vR_get hj, List.getElem?_append]
    by_cases h8 : j < 8
    · rw [if_pos h8, if_pos h8, if_pos (by omega), g0_get (by omega)]
    · rw [if_neg h8, if_pos (by omega), if_neg (by omega), h, g0_get (by omega)]
  · rw [List.getElem?_eq_none (by rw [vR_len]; exact hj), List.getElem?_eq_none (by rw [List.length_append, h, hi]; exact hj)]
theorem vR_step {hh : List Nat} {k : Nat} (hk : k < 8) : ((vR hh k).set k (g0 hh k)).set (8 + k) (g0 ivL k) = vR hh (k + 1) := by
  apply List.ext_getElem?
  intro j
  rw [List.getElem?_set, List.getElem?_set]
  rcases Nat.lt_or_ge j 16 with hj | hj
  · by_cases e : 8 + k = j
    · subst e
      rw [if_pos rfl, if_pos (by rw [List.length_set, vR_len]; omega), vR_get hj, if_neg (by omega), if_pos (by omega), Nat.add_sub_cancel_left]
    · rw [if_neg e]
      by_cases e2 : k = j
      · subst e2
        rw [if_pos rfl, if_pos (by rw [vR_len]; omega), vR_get hj, if_pos hk, if_pos (by omega)]
      · rw [if_neg e2, vR_get hj, vR_get hj]
        by_cases h8 : j < 8
        · rw [if_pos h8, if_pos h8]
          by_cases h9 : j < k
          · rw [if_pos h9, if_pos (by omega)]
          · rw [if_neg h9, if_neg (by omega)]
        · rw [if_neg h8, if_neg h8]
          by_cases h9 : j < 8 + k
          · rw [if_pos h9, if_pos (by omega)]
          · rw [if_neg h9, if_neg (by omega)]
  · rw [if_neg (by omega), if_neg (by omega), List.getElem?_eq_none (by rw [vR_len]; exact hj), List.getElem?_eq_none (by rw [vR_len]; exact hj)]
theorem zeroB8 : zeroA Tryd.prog 37 = vA .u32 (List.replicate 8 0) := by kernel_rfl
set_option maxHeartbeats 8000000 in
theorem rblock_ok {hh b : List Nat} (hh8 : W8 hh) (hb64 : b.length = 64) (hb : ∀ x ∈ b, x < 256) {bp : Option Addr} {bc : Nat} {n : Nat} (hn : n < 9223372036854775808) (last : Bool) {w : World} (hat : At w bp (vN .u8 b)) :
    Calls Tryd.prog 17 #[.agg (vA .u32 hh), .slice bp (64 : Nat) bc, .int .u64 (n : Int), .bool last] w fun e w' => e = .returned (.agg (vA .u32 (blockL hh b n last))) ∧ Ext w w' := by
  apply rblock_vc
  unfold rblock_T
  obtain ⟨bb, bo, hbp, hbc⟩ : ∃ bb bo, bp = some ⟨bb, bo, none⟩ ∧ ∀ i v, (vN .u8 b)[i]? = some v → w.cell? ⟨bb, bo + i, none⟩ = some v := by
    rcases hat with h | h
    · have := congrArg List.length h
      rw [vN_length, hb64] at this
      exact absurd this (by decide)
    · exact h
  intro b1 w2 h1
  have H := (Hold.start (Ext.rfl (w := w))).new (o := .cells (vA .u32 hh) 37) h1
  intro b7 w8 h7
  rw [zeroB8] at h7
  replace H := H.new h7
  refine (rWords_ok H).mono ?_
  clear H
  rintro e w11 ⟨bq, rfl, H⟩
  refine ⟨_, _, _, rfl, ?_⟩
  intro b15 w16 h15
  rw [zero16] at h15
  replace H := H.new h15
  let G0 : List (Nat × Obj) := [(bq, .cells (vA .u32 ivL) 36 (0, 0)), (b7, .cells (vA .u32 (List.replicate 8 0)) 37 (0, 0)), (b1, .cells (vA .u32 hh) 37 (0, 0))]
  refine ⟨fun i W => ∃ k : Nat, i = (k : Int) ∧ k ≤ 64 ∧ Hold w W ((b15, .cells (vA .u32 (wpL b k)) 49 (0, 0)) :: G0) [], fun i _ => 64 - i.toNat, ⟨0, rfl, by decide, by rw [wpL_zero]; exact H⟩, ?_⟩
  clear H h1 h7 h15
  rintro i W ⟨k, rfl, hk, H⟩
  refine ⟨fun hlt => ?_, fun hge => ?_⟩
  · intro w24 hD
    replace H := H.step (Drew.ext hD)
    rw [quo4 (by omega), eight4]
    simp only [Int.toNat_natCast, Nat.zero_add]
    have c0 := H.getN 0 rfl (wpL_get (b := b) (i := k) (k := k / 4) (by omega))
    have gb : b[k]? = some (g0 b k) := g0_get (by omega)
    refine ⟨by omega, by omega, _, c0, bb, bo, hbp, by omega, by omega, _, cell_ext (hbc k _ (vN_get .u8 gb)) H.ext, by omega, by omega, by omega, ⟨_, c0⟩, H.frz 0 rfl, ?_⟩
    rw [wp_add hb]
    intro w31 hS
    replace H := H.putN 0 rfl hS
    rw [i64_next (by omega)]
    refine ⟨⟨k + 1, rfl, by omega, ?_⟩, by simp only [Int.toNat_natCast]; omega⟩
    rw [wpL_step (by omega)]
    exact H
  have : k = 64 := by omega
  subst this
  rw [wpL_all] at H
  have hwm : W16 (wordsL b) := wordsL_w' (wp_lt hb)
  intro b34 w35 h34
  rw [zero16] at h34
  replace H := H.new h34
  let G : List (Nat × Obj) := (b15, .cells (vA .u32 (wordsL b)) 49 (0, 0)) :: G0
  refine ⟨fun i W => ∃ k : Nat, i = (k : Int) ∧ k ≤ 8 ∧ Hold w W ((b34, .cells (vA .u32 (vR hh k)) 49 (0, 0)) :: G) [], fun i _ => 8 - i.toNat, ⟨0, rfl, by decide, by rw [vR_zero]; exact H⟩, ?_⟩
  clear H h34
  rintro i W ⟨k, rfl, hk, H⟩
  refine ⟨fun hlt => ?_, fun hge => ?_⟩
  · have e8 : IntKind.i64.wrap (8 + (k : Int)) = ((8 + k : Nat) : Int) := i64_fit (by omega) (by omega)
    rw [e8]
    simp only [Int.toNat_natCast, Nat.zero_add]
    refine ⟨by omega, by omega, _, H.getN 4 rfl (g0_get (i := k) (by rw [hh8.1]; omega)), by omega, by omega, ⟨_, H.getN 0 rfl (vR_get (j := k) (by omega))⟩, H.frz 0 rfl, ?_⟩
    intro w45 hS
    replace H := H.putN 0 rfl hS
    refine ⟨bq, 0, rfl, by omega, by omega, _, (by rw [Nat.zero_add]; exact H.getN 2 rfl (g0_get (i := k) (by have : ivL.length = 8 := rfl; omega))), by omega, by omega, ⟨_, H.getN 0 rfl (g0_get (i := 8 + k) (by rw [List.length_set, vR_len]; omega))⟩, H.frz 0 rfl, ?_⟩
    intro w51 hS
    replace H := H.putN 0 rfl hS
    rw [i64_next (by omega)]
    refine ⟨⟨k + 1, rfl, by omega, ?_⟩, by simp only [Int.toNat_natCast]; omega⟩
    rw [← vR_step (by omega)]
    exact H
  have : k = 8 := by omega
  subst this
  rw [vR_all hh8.1] at H
  have hlen : (hh ++ ivL).length = 16 := by rw [List.length_append, hh8.1]; rfl
  have hbd : ∀ x ∈ hh ++ ivL, x < 4294967296 := by
    intro x hx
    rcases List.mem_append.1 hx with hx | hx
    · exact hh8.2 x hx
    · exact ivL_w.2 x hx
  have m : ∀ n, n % 4294967296 < 4294967296 := fun n => Nat.mod_lt _ (by decide)
  have en : IntKind.u32.wrap (remI (n : Int) 4294967296) = ((n % 4294967296 : Nat) : Int) := by
    rw [show (4294967296 : Int) = ((4294967296 : Nat) : Int) from rfl, rem_nat, u32_nat (m n)]
  have en2 : IntKind.u32.wrap (quoI .u64 (n : Int) 4294967296) = ((n / 4294967296 % 4294967296 : Nat) : Int) := by
    rw [show (4294967296 : Int) = ((4294967296 : Nat) : Int) from rfl, quo_u64 _ (by omega), u32_wrap]; omega
  rw [en, en2]
  have c12 := H.getN 0 rfl (g0_get (i := 12) (by rw [hlen]; decide))
  refine ⟨by decide, by decide, _, c12, by decide, by decide, ⟨_, c12⟩, H.frz 0 rfl, ?_⟩
  rw [xor_u32 (g0_lt hbd _) (m _)]
  intro w56 hS
  replace H := H.putN 0 rfl hS
  have b12 := set_bound (i := 12) hbd (Nat.xor_lt_two_pow (n := 32) (g0_lt hbd 12) (m n))
  have c13 := H.getN 0 rfl (g0_get (i := 13) (by rw [List.length_set, hlen]; decide))
  refine ⟨by decide, by decide, _, c13, by decide, by decide, ⟨_, c13⟩, H.frz 0 rfl, ?_⟩
  rw [xor_u32 (g0_lt b12 _) (m _)]
  intro w60 hS
  replace H := H.putN 0 rfl hS
  have b13' := set_bound (i := 13) b12 (Nat.xor_lt_two_pow (n := 32) (g0_lt b12 13) (m (n / 4294967296)))
  clear c12 c13 hS
  refine ⟨fun hl => ?_, fun hl => ?_⟩
  · subst hl
    have c14 := H.getN 0 rfl (g0_get (i := 14) (by rw [List.length_set, List.length_set, hlen]; decide))
    refine ⟨by decide, by decide, _, c14, by decide, by decide, ⟨_, c14⟩, H.frz 0 rfl, ?_⟩
    have ones : bits .xor .u32 ((g0 (((hh ++ ivL).set 12 (g0 (hh ++ ivL) 12 ^^^ n % 4294967296)).set 13 (g0 ((hh ++ ivL).set 12 (g0 (hh ++ ivL) 12 ^^^ n % 4294967296)) 13 ^^^ n / 4294967296 % 4294967296)) 14 : Nat) : Int) 4294967295 = _ := xor_u32 (b := 4294967295) (g0_lt b13' 14) (by decide)
    rw [ones]
    intro w65 hS
    replace H := H.putN 0 rfl hS
    clear hS c14
    have hw0 := startL_w hh8 n true
    have H : Hold w w65 ((b34, .cells (vA .u32 (startL hh n true)) 49 (0, 0)) :: G) [] := H
    refine ⟨fun i W => ∃ r : Nat, i = (r : Int) ∧ r ≤ 10 ∧ Hold w W ((b34, .cells (vA .u32 (roundsL (wordsL b) r (startL hh n true))) 49 (0, 0)) :: G) [], fun i _ => 10 - i.toNat, ⟨0, rfl, by decide, H⟩, ?_⟩
    clear H
    rintro i W ⟨r, rfl, hr, H⟩
    have hw := roundsL_w (m := wordsL b) hw0 r
    refine ⟨fun hlt => ?_, fun hge => ?_⟩
    · have hr10 : r < 10 := by omega
      refine (rOrder_ok hr10 W).mono ?_
      rintro e W2 ⟨rfl, eX⟩
      replace H := H.step eX
      clear eX
      refine ⟨_, rfl, ?_⟩
      refine ⟨fun i W => ∃ j : Nat, i = (j : Int) ∧ j ≤ 8 ∧ Hold w W ((b34, .cells (vA .u32 (roundL (wordsL b) r j (roundsL (wordsL b) r (startL hh n true)))) 49 (0, 0)) :: G) [], fun i _ => 8 - i.toNat, ⟨0, rfl, by decide, H⟩, ?_⟩
      clear H
      rintro i W ⟨j, rfl, hj, H⟩
      refine ⟨fun hlt2 => ?_, fun hge2 => ?_⟩
      · have hj8 : j < 8 := by omega
        have hwj := roundL_w (m := wordsL b) (r := r) hw j
        have hstep : roundL (wordsL b) r (j + 1) (roundsL (wordsL b) r (startL hh n true)) = mixL (roundL (wordsL b) r j (roundsL (wordsL b) r (startL hh n true))) (placeN j) (g0 (wordsL b) (ordN r (2 * j))) (g0 (wordsL b) (ordN r (2 * j + 1))) := rfl
        generalize hv : roundL (wordsL b) r j (roundsL (wordsL b) r (startL hh n true)) = v at H hwj hstep
        intro w82 hD
        replace H := H.step (Drew.ext hD)
        have o0 := order_get r hr10 (2 * j) (by omega)
        have o1 := order_get r hr10 (2 * j + 1) (by omega)
        obtain ⟨z0, y0⟩ := letter_at o0.1 (by omega)
        obtain ⟨z1, y1⟩ := letter_at o1.1 (by omega)
        have e2 : IntKind.i64.wrap (2 * (j : Int)) = ((2 * j : Nat) : Int) := i64_fit (by omega) (by omega)
        have e3 : IntKind.i64.wrap (IntKind.i64.wrap (2 * (j : Int)) + 1) = ((2 * j + 1 : Nat) : Int) := by rw [e2]; exact i64_fit (by omega) (by omega)
        rw [e3, e2]
        simp only [Int.toNat_natCast]
        rw [y0, y1, letter_num (by omega), letter_num (by omega)]
        simp only [Int.toNat_natCast, Nat.zero_add]
        refine ⟨vA .u32 v, by rw [vA_size, hwj.1], H.cellsAt 0 rfl, by omega, by omega, by omega, by omega, _, H.getN 1 rfl (g0_get (by rw [hwm.1]; exact o0.2)), by omega, by omega, by omega, by omega, _, H.getN 1 rfl (g0_get (by rw [hwm.1]; exact o1.2)), ?_⟩
        refine (rPlaces_ok hj8 w82).mono ?_
        rintro e w88 ⟨rfl, eX⟩
        refine ⟨_, rfl, eX.same, ?_⟩
        replace H := H.step eX
        clear eX
        refine (rmixed_ok hwj hj8 w88).mono ?_
        rintro e w91 ⟨rfl, eX⟩
        replace H := H.step eX
        clear eX
        have hwn := mixL_w (p := placeN j) (x := g0 (wordsL b) (ordN r (2 * j))) (y := g0 (wordsL b) (ordN r (2 * j + 1))) hwj
        refine ⟨_, by rw [vA_size, hwn.1], rfl, by rw [vA_size, hwn.1], H.canPut 0 rfl (by rw [vA_size, vA_size, hwn.1, hwj.1]) vA_one, ?_⟩
        intro w93 hS
        replace H := H.putAll 0 rfl (by rw [vA_size, vA_size, hwn.1, hwj.1]) hS
        rw [i64_next (by omega)]
        refine ⟨⟨j + 1, rfl, by omega, ?_⟩, by simp only [Int.toNat_natCast]; omega⟩
        rw [hstep]
        exact H
      · have : j = 8 := by omega
        subst this
        rw [i64_next (by omega)]
        exact ⟨⟨r + 1, rfl, by omega, H⟩, by simp only [Int.toNat_natCast]; omega⟩
    · have : r = 10 := by omega
      subst this
      generalize hv : roundsL (wordsL b) 10 (startL hh n true) = v at H hw
      refine ⟨fun i W => ∃ k : Nat, i = (k : Int) ∧ k ≤ 8 ∧ Hold w W [(b34, .cells (vA .u32 v) 49 (0, 0)), (b15, .cells (vA .u32 (wordsL b)) 49 (0, 0)), (bq, .cells (vA .u32 ivL) 36 (0, 0)), (b7, .cells (vA .u32 (List.replicate 8 0)) 37 (0, 0)), (b1, .cells (vA .u32 (hsL hh v k)) 37 (0, 0))] [], fun i _ => 8 - i.toNat, ⟨0, rfl, by decide, by rw [hsL_zero hh8.1]; exact H⟩, ?_⟩
      clear H
      rintro i W ⟨k, rfl, hk, H⟩
      refine ⟨fun hlt => ?_, fun hge => ?_⟩
      · intro w83 hD
        replace H := H.step (Drew.ext hD)
        have e8 : IntKind.i64.wrap (8 + (k : Int)) = ((8 + k : Nat) : Int) := i64_fit (by omega) (by omega)
        rw [e8]
        simp only [Int.toNat_natCast, Nat.zero_add]
        have c0 := H.getN 4 rfl (hsL_get (h := hh) (v := v) (k := k) (i := k) (by omega))
        rw [if_neg (Nat.lt_irrefl k)] at c0
        refine ⟨by omega, by omega, _, c0, by omega, by omega, _, H.getN 0 rfl (g0_get (i := k) (by rw [hw.1]; omega)), by omega, by omega, _, H.getN 0 rfl (g0_get (i := 8 + k) (by rw [hw.1]; omega)), by omega, by omega, ⟨_, c0⟩, H.frz 4 rfl, ?_⟩
        rw [xor_u32 (g0_lt hh8.2 _) (g0_lt hw.2 _), xor_u32 (Nat.xor_lt_two_pow (n := 32) (g0_lt hh8.2 _) (g0_lt hw.2 _)) (g0_lt hw.2 _), Nat.xor_assoc, Nat.add_comm 8 k]
        intro w89 hS
        replace H := H.putN 4 rfl hS
        rw [i64_next (by omega)]
        refine ⟨⟨k + 1, rfl, by omega, ?_⟩, by simp only [Int.toNat_natCast]; omega⟩
        rw [hsL_step (by omega)]
        exact H
      · have : k = 8 := by omega
        subst this
        have hfin : hsL hh v 8 = blockL hh b n true := by unfold blockL; rw [hv]; exact hsL_all hh v
        rw [hfin] at H
        have hb8 := blockL_w (b := b) (n := n) (last := true) hh8
        refine ⟨_, by rw [vA_size, hb8.1], H.cellsAt 4 rfl, by rw [vA_size, hb8.1], H.canPut 3 rfl (by rw [vA_size, vA_size, hb8.1]; rfl) vA_one, ?_⟩
        intro w93 hS
        replace H := H.putAll 3 rfl (by rw [vA_size, vA_size, hb8.1]; rfl) hS
        exact ⟨_, by rw [vA_size, hb8.1], H.cellsAt 3 rfl, rfl, H.ext⟩
  · subst hl
    have hw0 := startL_w hh8 n false
    have H : Hold w w60 ((b34, .cells (vA .u32 (startL hh n false)) 49 (0, 0)) :: G) [] := H
    refine ⟨fun i W => ∃ r : Nat, i = (r : Int) ∧ r ≤ 10 ∧ Hold w W ((b34, .cells (vA .u32 (roundsL (wordsL b) r (startL hh n false))) 49 (0, 0)) :: G) [], fun i _ => 10 - i.toNat, ⟨0, rfl, by decide, H⟩, ?_⟩
    clear H
    rintro i W ⟨r, rfl, hr, H⟩
    have hw := roundsL_w (m := wordsL b) hw0 r
    refine ⟨fun hlt => ?_, fun hge => ?_⟩
    · have hr10 : r < 10 := by omega
      refine (rOrder_ok hr10 W).mono ?_
      rintro e W2 ⟨rfl, eX⟩
      replace H := H.step eX
      clear eX
      refine ⟨_, rfl, ?_⟩
      refine ⟨fun i W => ∃ j : Nat, i = (j : Int) ∧ j ≤ 8 ∧ Hold w W ((b34, .cells (vA .u32 (roundL (wordsL b) r j (roundsL (wordsL b) r (startL hh n false)))) 49 (0, 0)) :: G) [], fun i _ => 8 - i.toNat, ⟨0, rfl, by decide, H⟩, ?_⟩
      clear H
      rintro i W ⟨j, rfl, hj, H⟩
      refine ⟨fun hlt2 => ?_, fun hge2 => ?_⟩
      · have hj8 : j < 8 := by omega
        have hwj := roundL_w (m := wordsL b) (r := r) hw j
        have hstep : roundL (wordsL b) r (j + 1) (roundsL (wordsL b) r (startL hh n false)) = mixL (roundL (wordsL b) r j (roundsL (wordsL b) r (startL hh n false))) (placeN j) (g0 (wordsL b) (ordN r (2 * j))) (g0 (wordsL b) (ordN r (2 * j + 1))) := rfl
        generalize hv : roundL (wordsL b) r j (roundsL (wordsL b) r (startL hh n false)) = v at H hwj hstep
        intro w82 hD
        replace H := H.step (Drew.ext hD)
        have o0 := order_get r hr10 (2 * j) (by omega)
        have o1 := order_get r hr10 (2 * j + 1) (by omega)
        obtain ⟨z0, y0⟩ := letter_at o0.1 (by omega)
        obtain ⟨z1, y1⟩ := letter_at o1.1 (by omega)
        have e2 : IntKind.i64.wrap (2 * (j : Int)) = ((2 * j : Nat) : Int) := i64_fit (by omega) (by omega)
        have e3 : IntKind.i64.wrap (IntKind.i64.wrap (2 * (j : Int)) + 1) = ((2 * j + 1 : Nat) : Int) := by rw [e2]; exact i64_fit (by omega) (by omega)
        rw [e3, e2]
        simp only [Int.toNat_natCast]
        rw [y0, y1, letter_num (by omega), letter_num (by omega)]
        simp only [Int.toNat_natCast, Nat.zero_add]
        refine ⟨vA .u32 v, by rw [vA_size, hwj.1], H.cellsAt 0 rfl, by omega, by omega, by omega, by omega, _, H.getN 1 rfl (g0_get (by rw [hwm.1]; exact o0.2)), by omega, by omega, by omega, by omega, _, H.getN 1 rfl (g0_get (by rw [hwm.1]; exact o1.2)), ?_⟩
        refine (rPlaces_ok hj8 w82).mono ?_
        rintro e w88 ⟨rfl, eX⟩
        refine ⟨_, rfl, eX.same, ?_⟩
        replace H := H.step eX
        clear eX
        refine (rmixed_ok hwj hj8 w88).mono ?_
        rintro e w91 ⟨rfl, eX⟩
        replace H := H.step eX
        clear eX
        have hwn := mixL_w (p := placeN j) (x := g0 (wordsL b) (ordN r (2 * j))) (y := g0 (wordsL b) (ordN r (2 * j + 1))) hwj
        refine ⟨_, by rw [vA_size, hwn.1], rfl, by rw [vA_size, hwn.1], H.canPut 0 rfl (by rw [vA_size, vA_size, hwn.1, hwj.1]) vA_one, ?_⟩
        intro w93 hS
        replace H := H.putAll 0 rfl (by rw [vA_size, vA_size, hwn.1, hwj.1]) hS
        rw [i64_next (by omega)]
        refine ⟨⟨j + 1, rfl, by omega, ?_⟩, by simp only [Int.toNat_natCast]; omega⟩
        rw [hstep]
        exact H
      · have : j = 8 := by omega
        subst this
        rw [i64_next (by omega)]
        exact ⟨⟨r + 1, rfl, by omega, H⟩, by simp only [Int.toNat_natCast]; omega⟩
    · have : r = 10 := by omega
      subst this
      generalize hv : roundsL (wordsL b) 10 (startL hh n false) = v at H hw
      refine ⟨fun i W => ∃ k : Nat, i = (k : Int) ∧ k ≤ 8 ∧ Hold w W [(b34, .cells (vA .u32 v) 49 (0, 0)), (b15, .cells (vA .u32 (wordsL b)) 49 (0, 0)), (bq, .cells (vA .u32 ivL) 36 (0, 0)), (b7, .cells (vA .u32 (List.replicate 8 0)) 37 (0, 0)), (b1, .cells (vA .u32 (hsL hh v k)) 37 (0, 0))] [], fun i _ => 8 - i.toNat, ⟨0, rfl, by decide, by rw [hsL_zero hh8.1]; exact H⟩, ?_⟩
      clear H
      rintro i W ⟨k, rfl, hk, H⟩
      refine ⟨fun hlt => ?_, fun hge => ?_⟩
      · intro w83 hD
        replace H := H.step (Drew.ext hD)
        have e8 : IntKind.i64.wrap (8 + (k : Int)) = ((8 + k : Nat) : Int) := i64_fit (by omega) (by omega)
        rw [e8]
        simp only [Int.toNat_natCast, Nat.zero_add]
        have c0 := H.getN 4 rfl (hsL_get (h := hh) (v := v) (k := k) (i := k) (by omega))
        rw [if_neg (Nat.lt_irrefl k)] at c0
        refine ⟨by omega, by omega, _, c0, by omega, by omega, _, H.getN 0 rfl (g0_get (i := k) (by rw [hw.1]; omega)), by omega, by omega, _, H.getN 0 rfl (g0_get (i := 8 + k) (by rw [hw.1]; omega)), by omega, by omega, ⟨_, c0⟩, H.frz 4 rfl, ?_⟩
        rw [xor_u32 (g0_lt hh8.2 _) (g0_lt hw.2 _), xor_u32 (Nat.xor_lt_two_pow (n := 32) (g0_lt hh8.2 _) (g0_lt hw.2 _)) (g0_lt hw.2 _), Nat.xor_assoc, Nat.add_comm 8 k]
        intro w89 hS
        replace H := H.putN 4 rfl hS
        rw [i64_next (by omega)]
        refine ⟨⟨k + 1, rfl, by omega, ?_⟩, by simp only [Int.toNat_natCast]; omega⟩
        rw [hsL_step (by omega)]
        exact H
      · have : k = 8 := by omega
        subst this
        have hfin : hsL hh v 8 = blockL hh b n false := by unfold blockL; rw [hv]; exact hsL_all hh v
        rw [hfin] at H
        have hb8 := blockL_w (b := b) (n := n) (last := false) hh8
        refine ⟨_, by rw [vA_size, hb8.1], H.cellsAt 4 rfl, by rw [vA_size, hb8.1], H.canPut 3 rfl (by rw [vA_size, vA_size, hb8.1]; rfl) vA_one, ?_⟩
        intro w93 hS
        replace H := H.putAll 3 rfl (by rw [vA_size, vA_size, hb8.1]; rfl) hS
        exact ⟨_, by rw [vA_size, hb8.1], H.cellsAt 3 rfl, rfl, H.ext⟩
end Go.Proofs.YthnimelcbbinaaaDoor

/- The contracts of the document's BLAKE2s: Sum, Hex, digit, Unhex. -/
namespace Go.Proofs.YthnimelcbbinaaaDoor
open Go Go.Vc Go.RowKit
set_option maxRecDepth 20000
attribute [local irreducible] Calls Put Drew New

theorem made64 : madeCells #[Value.int .u8 0] 64 = vA .u8 (List.replicate 64 0) := madeCells_nat .u8 64
set_option maxHeartbeats 4000000 in
theorem rSum_ok {w : World} {p : Option Addr} {m d : Nat} {l : List UInt8} (hq : InB w p m d l) (hm : m ≤ 1000000) :
    Calls Tryd.prog 9 #[.slice p m d] w fun e w' => e = .returned (.agg (vA .u8 (sumL (nats l)))) ∧ Ext w w' := by
  apply rSum_vc
  unfold rSum_T
  intro b1 w2 h1
  rw [zero32] at h1
  have H := (Hold.start (Ext.rfl (w := w))).new h1
  refine (rWords_ok H).mono ?_
  clear H
  rintro e w5 ⟨bq, rfl, H⟩
  refine ⟨_, _, _, rfl, ?_⟩
  intro b9 w10 h9
  rw [zeroB8] at h9
  replace H := H.new h9
  let G : List (Nat × Obj) := [(bq, .cells (vA .u32 ivL) 36 (0, 0)), (b1, .cells (vA .u8 (List.replicate 32 0)) 24 (0, 0))]
  refine ⟨fun i W => ∃ k : Nat, i = (k : Int) ∧ k ≤ 8 ∧ Hold w W ((b9, .cells (vA .u32 (upTo (g0 ivL) 8 k)) 37 (0, 0)) :: G) [], fun i _ => 8 - i.toNat, ⟨0, rfl, by decide, by rw [upTo_zero]; exact H⟩, ?_⟩
  clear H h1 h9
  rintro i W ⟨k, rfl, hk, K⟩
  refine ⟨fun hlt => ?_, fun hge => ?_⟩
  · simp only [Int.toNat_natCast, Nat.zero_add]
    refine ⟨bq, 0, rfl, by omega, by omega, _, (by rw [Nat.zero_add]; exact K.getN 1 rfl (g0_get (i := k) (by have : ivL.length = 8 := rfl; omega))), by omega, by omega, ⟨_, K.getN 0 rfl (upTo_get (by omega))⟩, K.frz 0 rfl, ?_⟩
    intro w22 hS
    replace K := K.putN 0 rfl hS
    rw [i64_next (by omega)]
    refine ⟨⟨k + 1, rfl, by omega, ?_⟩, by simp only [Int.toNat_natCast]; omega⟩
    rw [upTo_step (by omega)]
    exact K
  have : k = 8 := by omega
  subst this
  have eiv : upTo (g0 ivL) 8 8 = ivL := by decide
  rw [eiv] at K
  have c0 := K.getN 0 rfl (g0_get (l := ivL) (i := 0) (by decide))
  refine ⟨by decide, by decide, _, c0, by decide, by decide, ⟨_, c0⟩, K.frz 0 rfl, ?_⟩
  rw [show (16842784 : Int) = ((16842784 : Nat) : Int) from rfl, xor_u32 (g0_lt ivL_w.2 0) (by decide)]
  intro w17 hS
  replace K := K.putN 0 rfl hS
  have K : Hold w w17 ((b9, .cells (vA .u32 h0L) 37 (0, 0)) :: G) [] := K
  generalize hb : nats l = b
  have hbl : b.length = m := by rw [← hb, nats_len, hq.len]
  have hbt : ∀ x ∈ b, x < 256 := by rw [← hb]; exact nats_lt _
  refine ⟨fun i W => ∃ k : Nat, i = ((64 * k : Nat) : Int) ∧ (k = 0 ∨ 64 * k < m) ∧ Hold w W ((b9, .cells (vA .u32 (stateL b k)) 37 (0, 0)) :: G) [], fun i _ => 2000000 - i.toNat, ⟨0, rfl, .inl rfl, K⟩, ?_⟩
  clear K c0 hS
  rintro i W ⟨k, rfl, hk, K⟩
  have hw := stateL_w b k
  have hkm : 64 * k ≤ m := by omega
  refine ⟨by decide, by decide, by decide, by decide, ?_⟩
  intro b34 w35 h34
  rw [made64] at h34
  replace K := K.new h34
  simp only [Int.toNat_natCast]
  have hsrc := slice_bytes (hq.ext K.ext) hkm
  rw [hb] at hsrc
  obtain ⟨w38, hrun, K1⟩ := K.copyN (P := Tryd.prog) (dT := 22) (sT := 22) (ty := 3) undB sizeB 0 rfl (src := b.drop (64 * k)) (sLen := m - 64 * k) (sCap := d - 64 * k) (dLen := 64) (dCap := 64) hsrc (by rw [List.length_drop, hbl]) (by simp) (by decide)
  refine ⟨by omega, by omega, _, _, hrun, ?_⟩
  replace K := K1
  clear K1 hrun h34
  have ep : (b.drop (64 * k)).take 64 ++ (List.replicate 64 0).drop (min (m - 64 * k) 64) = padL ((b.drop (64 * k)).take 64) := by rw [← hbl]; exact pad_eq b k
  rw [ep] at K
  have hp64 := padL_len (b := (b.drop (64 * k)).take 64) (by simp; omega)
  have hplt := padL_lt (part_lt hbt k)
  have en : IntKind.i64.wrap (((64 * k : Nat) : Int) + ((min (m - 64 * k) 64 : Nat) : Int)) = ((min (64 * (k + 1)) m : Nat) : Int) := by
    rw [i64_fit (by omega) (by omega)]; omega
  rw [en, u64_nat (by omega)]
  refine ⟨_, by rw [vA_size, hw.1], K.cellsAt 1 rfl, ?_⟩
  have ed : decide (((min (64 * (k + 1)) m : Nat) : Int) = (m : Int)) = decide (b.length ≤ 64 * (k + 1)) := by
    rw [hbl]; exact decide_eq_decide.2 (by omega)
  rw [ed]
  refine (rblock_ok hw hp64 hplt (bp := some ⟨b34, 0, none⟩) (bc := 64) (by omega) _ (K.blk 0 rfl).at).mono ?_
  rintro e w41 ⟨rfl, eX⟩
  replace K := K.step eX
  have hst : blockL (stateL b k) (padL ((b.drop (64 * k)).take 64)) (min (64 * (k + 1)) m) (decide (b.length ≤ 64 * (k + 1))) = stateL b (k + 1) := by rw [stateL, hbl]
  rw [hst]
  have hw1 := stateL_w b (k + 1)
  refine ⟨_, by rw [vA_size, hw1.1], rfl, by rw [vA_size, hw1.1], K.canPut 1 rfl (by rw [vA_size, vA_size, hw1.1, hw.1]) vA_one, ?_⟩
  intro w43 hS
  replace K := K.putAll 1 rfl (by rw [vA_size, vA_size, hw1.1, hw.1]) hS
  replace K := K.tail
  clear hS eX
  refine ⟨fun hlast => ?_, fun hmore => ?_⟩
  · have hbk : blocksN b.length = k + 1 := by rw [hbl]; exact blocks_at (by omega) (by omega) (by omega)
    intro b46 w47 h46
    rw [zero32] at h46
    replace K := K.new h46
    rw [← upTo_zero (outN (stateL b (k + 1))) 32] at K
    refine ⟨fun i W => ∃ j : Nat, i = (j : Int) ∧ j ≤ 32 ∧ Hold w W ((b46, .cells (vA .u8 (upTo (outN (stateL b (k + 1))) 32 j)) 24 (0, 0)) :: (b9, .cells (vA .u32 (stateL b (k + 1))) 37 (0, 0)) :: G) [], fun i _ => 32 - i.toNat, ⟨0, rfl, by decide, K⟩, ?_⟩
    clear K
    rintro i W ⟨j, rfl, hj, K⟩
    refine ⟨fun hlt => ?_, fun hge => ?_⟩
    · rw [quo4 (by omega), eight4]
      simp only [Int.toNat_natCast, Nat.zero_add]
      have c0 := K.getN 1 rfl (g0_get (l := stateL b (k + 1)) (i := j / 4) (by rw [hw1.1]; omega))
      refine ⟨by omega, by omega, _, c0, by omega, by omega, by omega, ⟨_, K.getN 0 rfl (upTo_get (by omega))⟩, K.frz 0 rfl, ?_⟩
      rw [out_val (g0_lt hw1.2 _)]
      intro w51 hS
      replace K := K.putN 0 rfl hS
      rw [i64_next (by omega)]
      refine ⟨⟨j + 1, rfl, by omega, ?_⟩, by simp only [Int.toNat_natCast]; omega⟩
      rw [upTo_step (by omega)]
      exact K
    · have : j = 32 := by omega
      subst this
      rw [upTo_out] at K
      have hsum : outL (stateL b (k + 1)) = sumL b := by unfold sumL; rw [hbk]
      rw [hsum] at K
      refine ⟨_, by rw [vA_size, sumL_len], K.cellsAt 0 rfl, by rw [vA_size, sumL_len], K.canPut 3 rfl (by rw [vA_size, vA_size, sumL_len]; rfl) vA_one, ?_⟩
      intro w55 hS
      have H3 := K.putAll 3 rfl (by rw [vA_size, vA_size, sumL_len]; rfl) hS
      exact ⟨_, by rw [vA_size, sumL_len], H3.cellsAt 3 rfl, rfl, H3.ext⟩
  · have e1 : min (64 * (k + 1)) m = 64 * (k + 1) := by omega
    rw [e1]
    exact ⟨⟨k + 1, rfl, by omega, K⟩, by simp only [Int.toNat_natCast]; omega⟩

/-! ### Texts -/
end Go.Proofs.YthnimelcbbinaaaDoor

/- The laws of hash: the known text; plain laws of texts; sums. -/
namespace Go.Proofs.YthnimelcbbinaaaDoor
open Go Go.Vc Go.RowKit
set_option maxRecDepth 20000
attribute [local irreducible] Calls Put Drew New

/-! ### Texts and digests, one to one -/
/-! ### A conversion's mark; a row of one slice -/
theorem freeze_new {w w' : World} {C : Array Value} {e : TypeId} {b : Nat} (h : New w (.cells C e) b w') (k : Nat) : New w (.cells C e (k, k + 1)) b (w'.freeze ⟨b, k, none⟩ 1) := by
  have hm : ∀ (a : Array Obj) (x : Obj) (f : Obj → Obj), (a.push x).modify a.size f = a.push (f x) := by
    intro a x f
    apply Array.ext
    · simp
    · intro i h1 h2
      simp only [Array.getElem_modify, Array.getElem_push]
      by_cases h : a.size = i
      · subst h
        simp
      · have hi : i < a.size := by simp at h1; omega
        simp [h, hi]
  unfold New at h ⊢
  obtain ⟨h1, h2⟩ := h
  refine ⟨h1, ?_⟩
  rw [h2, h1]
  unfold World.freeze
  rw [if_neg (by decide)]
  show ({ w.alloc (.cells C e) with heap := (w.heap.push (.cells C e)).modify w.heap.size _ } : World) = _
  rw [hm]
  rfl
theorem one_bts {w w' : World} {b : Nat} {p : Option Addr} {n c : Nat} {l : List UInt8} {t : TypeId} (h : New w (.cells #[.slice p n c] t) b w') (hl : InB w p n c l) : Bts w' (some ⟨b, 0, none⟩) 1 1 [⟨p, n, c⟩] [l] := by
  refine ⟨⟨rfl, ⟨Nat.le_refl _, by unfold maxLen; omega⟩, h.at, fun e => by cases e⟩, fun i x r hx hr => ?_, rfl⟩
  cases i with
  | zero => cases hx; cases hr; exact hl.ext h.ext
  | succ i => cases hx
def shownS : ByteArray := ByteArray.mk #[53, 48, 56, 99, 53, 101, 56, 99, 51, 50, 55, 99, 49, 52, 101, 50, 101, 49, 97, 55, 50, 98, 97, 51, 52, 101, 101, 98, 52, 53, 50, 102, 51, 55, 52, 53, 56, 98, 50, 48, 57, 101, 100, 54, 51, 97, 50, 57, 52, 100, 57, 57, 57, 98, 52, 99, 56, 54, 54, 55, 53, 57, 56, 50]
theorem shown_eq : bytesN (hexL (sumL (nats [97, 98, 99]))) = shownS := by
  have e : nats [97, 98, 99] = [97, 98, 99] := rfl
  rw [e, shown_sum]
  apply tB_inj.1
  decide +kernel
theorem shown03_ok {w : World} (hT : HTab w) : Calls Tryd.prog 7 #[] w fun e w' => e = .returned (.bool true) ∧ Ext w w' := by
  apply shown03_vc
  unfold shown03_T
  intro b1 w2 h1
  have h2 := freeze_new h1 3
  refine ⟨b1, 0, _, _, _, rfl, h1.obj, ?_⟩
  have h2' : New w (.cells (vB [97, 98, 99]).toArray 5 (3, 4)) b1 (w2.freeze ⟨b1, 3, none⟩ 1) := h2
  have hb : InB (w2.freeze ⟨b1, 3, none⟩ 1) (some ⟨b1, 0, none⟩) 3 3 [97, 98, 99] := ⟨rfl, ⟨Nat.le_refl _, by unfold maxLen; omega⟩, h2'.at, fun e => by cases e⟩
  intro b11 w12 h11
  have h11 : New (w2.freeze ⟨b1, 3, none⟩ 1) (.cells #[.slice (some ⟨b1, 0, none⟩) 3 3] 22) b11 w12 := h11
  have hB := one_bts h11 hb
  have e1 := h2.ext.trans h11.ext
  refine (hSum_ok (hT.ext e1) hB (by decide)).mono ?_
  rintro e w15 ⟨rfl, eX⟩
  replace e1 := e1.trans eX
  have ef : ([[97, 98, 99]] : List (List UInt8)).flatten = [97, 98, 99] := rfl
  rw [ef]
  refine ⟨_, by rw [vA_size, sumL_len], rfl, ?_⟩
  refine (hHex_ok (sumL_len _) (sumL_lt _) w15).mono ?_
  rintro e w18 ⟨rfl, eY⟩
  refine ⟨_, rfl, ?_, e1.trans eY⟩
  rw [shown_eq]
  rw [show sEq shownS (ByteArray.mk #[53, 48, 56, 99, 53, 101, 56, 99, 51, 50, 55, 99, 49, 52, 101, 50, 101, 49, 97, 55, 50, 98, 97, 51, 52, 101, 101, 98, 52, 53, 50, 102, 51, 55, 52, 53, 56, 98, 50, 48, 57, 101, 100, 54, 51, 97, 50, 57, 52, 100, 57, 57, 57, 98, 52, 99, 56, 54, 54, 55, 53, 57, 56, 50]) = true from sEq_self _]
/-! ### The laws -/
theorem u8arr : Tryd.prog.underlying 24 = some (.array 32 5) := by kernel_rfl
theorem u8u : Tryd.prog.underlying 5 = some (.int .u8) := by kernel_rfl
theorem eq_dig {a b : List Nat} (ha : a.length = 32) (hb : b.length = 32) (x y : Operand) : ∃ r : Bool, (∀ w1 : World, (do eqGuard .eql 24 x y (.agg (vA .u8 a)) (.agg (vA .u8 b)); binOp .eql 24 (.agg (vA .u8 a)) (.agg (vA .u8 b)) : Sem Value).run Tryd.prog w1 = .ok (.bool r) w1) ∧ r = decide (a = b) :=
  ⟨_, fun w => eq_nums u8arr tyB rfl u8u (by kernel_rfl) (by kernel_rfl) ha hb (by decide) x y w, rfl⟩
theorem inb_cut {w : World} {p : Option Addr} {n c : Nat} {l : List UInt8} (h : InB w p n c l) {k : Nat} (hk : k ≤ n) : InB w p k c (l.take k) := by
  have hl := h.len
  refine ⟨by rw [List.length_take]; omega, ⟨Nat.le_trans hk h.cap.1, h.cap.2⟩, ?_, fun e => ⟨by have := (h.nil e).1; omega, (h.nil e).2⟩⟩
  have := h.lies.take k
  have e : vB (l.take k) = (vB l).take k := by simp [vB, List.map_take]
  rw [e]; exact this
theorem lawSums_ok {w : World} (hT : HTab w) {p : Option Addr} {n c : Nat} {l : List UInt8} (h : InB w p n c l) :
    Calls Tryd.prog 3 #[.slice p n c] w fun e w' => e = .returned (.bool true) ∧ Ext w w' := by
  apply lawSums_vc
  unfold lawSums_T
  refine (shown03_ok hT).mono ?_
  rintro e w2 ⟨rfl, e1⟩
  have hM : mmI false (n : Int) 100000 = ((min n 100000 : Nat) : Int) := by unfold mmI; dsimp only; split <;> omega
  have hc := h.cap.1
  rw [hM, Int.toNat_natCast]
  refine ⟨_, rfl, by omega, by omega, fun _ => ?_, fun h => by cases h⟩
  have hcut := inb_cut (h.ext e1) (k := min n 100000) (Nat.min_le_left _ _)
  intro b5 w6 h5
  have h5 : New w2 (.cells #[.slice p (min n 100000) c] 22) b5 w6 := h5
  have hB := one_bts h5 hcut
  have e2 := e1.trans h5.ext
  have hlen := hcut.len
  have ef : ([l.take (min n 100000)] : List (List UInt8)).flatten = l.take (min n 100000) := by simp
  refine (hSum_ok (hT.ext e2) hB (by unfold total; rw [ef]; omega)).mono ?_
  rintro e w9 ⟨rfl, eX⟩
  rw [ef]
  refine ⟨_, by rw [vA_size, sumL_len], rfl, ?_⟩
  refine (rSum_ok ((hcut.ext h5.ext).ext eX) (by omega)).mono ?_
  rintro e w12 ⟨rfl, eY⟩
  refine ⟨_, by rw [vA_size, sumL_len], rfl, ?_⟩
  obtain ⟨r, hr, rfl⟩ := eq_dig (sumL_len (nats (l.take (min n 100000)))) (sumL_len _) _ _
  refine ⟨_, hr, ?_, (e2.trans eX).trans eY⟩
  simp
end Go.Proofs.YthnimelcbbinaaaDoor

/- Tables of tables: what a row's list says of their cells. -/
namespace Go.Vc
open Go

theorem cells_of_arr {H α : Type} {enc : TypeId × Value → H} {P : Program} {w : World} {base : Nat} {sp : Nat → Bool} {held : Bool} {fuel : Nat} {t e : TypeId} {n s : Nat} {cs : List Value} {zs : List α} {p : List MemPlace} {D : α → DataW H} {C : α → List Value}
    (ht : P.underlying t = some (.array n e)) (hce : P.cellsOf e = s) (hct : P.cellsOf t = n * s) (hs : ∀ z, (C z).length = s) (h0 : 0 < s)
    (inner : ∀ fuel cs z p, cs.length = s → DataW.trod enc P w base sp held fuel e cs = some (D z, p) → cs = C z)
    (h : DataW.trod enc P w base sp held fuel t cs = some (.agg (zs.map D), p)) : cs = zs.flatMap C := by
  cases fuel with
  | zero => simp [DataW.trod] at h
  | succ fuel =>
    simp only [DataW.trod, ht, hce, hct] at h
    split at h
    · rename_i hl
      obtain ⟨xs, hm, hx⟩ := Option.map_eq_some_iff.1 h
      have hxs : xs.map (·.1) = zs.map D := by
        have := congrArg Prod.fst hx
        simpa using this
      have hxl : xs.length = n := by simpa using Lib.mapM_length hm
      have hzl : zs.length = n := by
        have := congrArg List.length hxs
        simp at this
        omega
      have key : ∀ i, i < n → ∃ z, zs[i]? = some z ∧ (cs.drop (i * s)).take s = C z := by
        intro i hi
        obtain ⟨b, hb, hf⟩ := Lib.mapM_at hm i i (by simp [hi])
        have h2 : (xs.map (·.1))[i]? = some b.1 := by simp [hb]
        rw [hxs, List.getElem?_map] at h2
        obtain ⟨z, hz, he⟩ := Option.map_eq_some_iff.1 h2
        refine ⟨z, hz, inner fuel _ z b.2 ?_ ?_⟩
        · have hmul : (i + 1) * s ≤ n * s := Nat.mul_le_mul_right _ (by omega)
          have e1 : (i + 1) * s = i * s + s := Nat.succ_mul i s
          simp only [List.length_take, List.length_drop]
          omega
        · rw [hf, he]
      -- both lists, piece by piece
      have go : ∀ (m : Nat) (zs : List α) (cs : List Value), zs.length = m → cs.length = m * s → (∀ i, i < m → ∃ z, zs[i]? = some z ∧ (cs.drop (i * s)).take s = C z) → cs = zs.flatMap C := by
        intro m
        induction m with
        | zero =>
          intro zs cs hz hc _
          rw [List.length_eq_zero_iff] at hz
          rw [Nat.zero_mul, List.length_eq_zero_iff] at hc
          rw [hz, hc]; rfl
        | succ m ih =>
          intro zs cs hz hc hk
          match zs, hz with
          | z :: r, hz =>
            have hcm : (m + 1) * s = m * s + s := Nat.succ_mul m s
            obtain ⟨z', hz', h1⟩ := hk 0 (by omega)
            cases hz'
            rw [Nat.zero_mul, List.drop_zero] at h1
            have := ih r (cs.drop s) (by simpa using hz) (by rw [List.length_drop]; omega) (fun i hi => by
              obtain ⟨y, hy, h2⟩ := hk (i + 1) (by omega)
              refine ⟨y, by simpa using hy, ?_⟩
              rw [List.drop_drop, ← h2]
              congr 2
              rw [Nat.succ_mul]; omega)
            rw [List.flatMap_cons, ← h1, ← this, List.take_append_drop]
      exact go n zs cs hzl (by simpa using hl) key
    · cases h
end Go.Vc

/- A row's list of tables, looked up by name; rows of three numbers. -/
namespace Go.Vc
open Go

theorem laid_get {P : Program} {w : World} : ∀ {laid : List (String × DataW Unit)} {ps : List MemPlace}, DataW.LaidVars P w laid ps → ∀ {n : String} {d : DataW Unit}, (n, d) ∈ laid →
    ∃ g t cs fuel p, P.globalNamed n = some g ∧ (P.globals[g]?).map (·.type) = some t ∧ w.var? P n = some cs ∧ DataW.trod (fun _ => ()) P w 0 (fun _ => true) false fuel t cs.toList = some (d, p)
  | [], _, _, n, d, hm => by cases hm
  | (m, e) :: r, ps, h, n, d, hm => by
    obtain ⟨g, t, cs, fuel, p, q, h1, h2, h3, h4, h5, _⟩ := h
    rcases List.mem_cons.1 hm with hm | hm
    · cases hm; exact ⟨g, t, cs, fuel, p, h1, h2, h3, h4⟩
    · exact laid_get h5 hm
end Go.Vc

/- The laws of hash: parts, texts, back; the tables, the arguments, the walks. -/
namespace Go.Proofs.YthnimelcbbinaaaDoor
open Go Go.Vc Go.RowKit
set_option maxRecDepth 20000
attribute [local irreducible] Calls Put Drew New

/-! ### The tables -/
theorem uW : Tryd.prog.underlying 36 = some (.int .u32) := by kernel_rfl
theorem cB : Tryd.prog.cellsOf 5 = 1 := by kernel_rfl
theorem cW : Tryd.prog.cellsOf 36 = 1 := by kernel_rfl
theorem uState : Tryd.prog.underlying 38 = some (.array 8 36) := by kernel_rfl
theorem uOrd : Tryd.prog.underlying 54 = some (.array 10 53) := by kernel_rfl
theorem uOrd1 : Tryd.prog.underlying 53 = some (.array 16 5) := by kernel_rfl
theorem uPl : Tryd.prog.underlying 56 = some (.array 8 55) := by kernel_rfl
theorem uPl1 : Tryd.prog.underlying 55 = some (.array 4 5) := by kernel_rfl
def tabN (k : IntKind) (l : List Nat) : DataW Unit := Lib.tabData k (l.map Int.ofNat)
/-- A row of s numbers, whatever it was. -/
def rowC (s : Nat) (l : List Nat) : List Value := ((l ++ List.replicate s 0).take s).map fun x => Value.int .u8 ((x : Nat) : Int)
theorem rowC_len (s : Nat) (l : List Nat) : (rowC s l).length = s := by simp [rowC]
theorem nested_cells {W : World} {fuel : Nat} {cs : List Value} {L : List (List Nat)} {p : List MemPlace} {t e : TypeId} {n s : Nat} (h0 : 0 < s) (hl : ∀ r ∈ L, r.length = s)
    (ht : Tryd.prog.underlying t = some (.array n e)) (he : Tryd.prog.underlying e = some (.array s 5)) (hce : Tryd.prog.cellsOf e = s) (hct : Tryd.prog.cellsOf t = n * s)
    (h : DataW.trod (fun _ => ()) Tryd.prog W 0 (fun _ => true) false fuel t cs = some (.agg (L.map (tabN .u8)), p)) : cs = L.flatMap (rowC s) := by
  have e1 : L.map (tabN .u8) = L.map fun r => tabN .u8 ((r ++ List.replicate s 0).take s) := by
    apply List.map_congr_left
    intro r hr
    rw [List.take_append_of_le_length (by rw [hl r hr]; exact Nat.le_refl _), List.take_of_length_le (by rw [hl r hr]; exact Nat.le_refl _)]
  rw [e1] at h
  refine cells_of_arr (C := rowC s) (s := s) ht hce hct (rowC_len s) h0 (fun fuel cs z p _ h => ?_) h
  have := Lib.cells_of_tab he u8u cB hce h
  rw [this]
  unfold rowC
  rw [List.map_map]; rfl
theorem laid_first : Rows.laid_stackyard_hash_first (H := Unit) = tabN .u32 ivL := by kernel_rfl
theorem laid_orders : Rows.laid_stackyard_hash_orders (H := Unit) = .agg (ordersL.map (tabN .u8)) := by kernel_rfl
theorem laid_places : Rows.laid_stackyard_hash_places (H := Unit) = .agg (plcL.map (tabN .u8)) := by kernel_rfl
theorem tab_of {L : List (String × DataW Unit)} {W : World} (h1 : ("stackyard/hash.first", Rows.laid_stackyard_hash_first) ∈ L) (h2 : ("stackyard/hash.orders", Rows.laid_stackyard_hash_orders) ∈ L) (h3 : ("stackyard/hash.places", Rows.laid_stackyard_hash_places) ∈ L) (h : laidMet Tryd.prog L W) : HTab W := by
  obtain ⟨ps, hl, _⟩ := h
  constructor
  · obtain ⟨g, t, cs, fuel, p, hg, ht, hv, hd⟩ := laid_get hl (n := "stackyard/hash.first") (d := Rows.laid_stackyard_hash_first) h1
    obtain rfl : g = 0 := Option.some.inj (hg.symm.trans (by kernel_rfl))
    obtain rfl : t = 38 := Option.some.inj (ht.symm.trans (by kernel_rfl))
    rw [laid_first] at hd
    have hc := Lib.cells_of_tab uState uW cW (by kernel_rfl) hd
    have hcs : cs = vA .u32 ivL := by apply Array.ext'; rw [hc]; rfl
    intro k v hk
    rw [World.var?_cell hg hv, hcs, Nat.zero_add]; exact hk
  · obtain ⟨g, t, cs, fuel, p, hg, ht, hv, hd⟩ := laid_get hl (n := "stackyard/hash.orders") (d := Rows.laid_stackyard_hash_orders) h2
    obtain rfl : g = 1 := Option.some.inj (hg.symm.trans (by kernel_rfl))
    obtain rfl : t = 54 := Option.some.inj (ht.symm.trans (by kernel_rfl))
    rw [laid_orders] at hd
    have hc := nested_cells (by decide) (by decide) uOrd uOrd1 (by kernel_rfl) (by kernel_rfl) hd
    have hcs : cs = vA .u8 ordersL.flatten := by apply Array.ext'; rw [hc]; rfl
    intro k v hk
    rw [World.var?_cell hg hv, hcs, Nat.zero_add]; exact hk
  · obtain ⟨g, t, cs, fuel, p, hg, ht, hv, hd⟩ := laid_get hl (n := "stackyard/hash.places") (d := Rows.laid_stackyard_hash_places) h3
    obtain rfl : g = 2 := Option.some.inj (hg.symm.trans (by kernel_rfl))
    obtain rfl : t = 56 := Option.some.inj (ht.symm.trans (by kernel_rfl))
    rw [laid_places] at hd
    have hc := nested_cells (by decide) (by decide) uPl uPl1 (by kernel_rfl) (by kernel_rfl) hd
    have hcs : cs = vA .u8 plcL.flatten := by apply Array.ext'; rw [hc]; rfl
    intro k v hk
    rw [World.var?_cell hg hv, hcs, Nat.zero_add]; exact hk

/-! ### The arguments -/
theorem arg_byte {w : World} {cs : List Value} (h : Arg Tryd.prog w 5 cs) : ∃ x : Nat, cs = [.int .u8 (x : Int)] ∧ x < 256 := by
  obtain ⟨n, rfl, hwf⟩ := Arg.int u8u h
  obtain ⟨a0, a1⟩ := wf_u8 hwf
  exact ⟨n.toNat, by rw [show ((n.toNat : Nat) : Int) = n by omega], by omega⟩
theorem arg_bytes {w : World} {v : Value} (h : Arg Tryd.prog w 22 [v]) : ∃ p n c l, v = .slice p n c ∧ InB w p n c l ∧ n ≤ 140737488351232 := by
  obtain ⟨p, n, c, l, rfl, hl, hq, hb⟩ := arg_ls (e := 5) (enc := fun x : Nat => [.int .u8 (x : Int)]) (Q := fun x => x < 256) undB (by decide +kernel) (fun x hx => arg_byte hx) (fun _ => by kernel_rfl) h
  have hB : Tryd.prog.bytesOf 5 = 1 := by kernel_rfl
  rw [hB] at hb
  have hf : (l.flatMap fun x : Nat => [Value.int .u8 (x : Int)]) = vN .u8 l := by
    unfold vN
    clear hl hq
    induction l with
    | nil => rfl
    | cons x r ih => rw [List.flatMap_cons, ih]; rfl
  have hlies := hl.lies
  rw [hf, vN_bytes hq] at hlies
  have := hl.cap
  exact ⟨p, n, c, l.map UInt8.ofNat, rfl, ⟨by rw [List.length_map]; exact hl.len, hl.cap, hlies, hl.nil⟩, by omega⟩
/-! ### The walks -/
theorem sums_walk (W : World) (hT : HTab W) (v0 : Value) (a0 : Arg Tryd.prog W 22 [v0]) :
    Calls Tryd.prog 3 #[v0] W fun e w' => e = .returned (.bool true) ∧ Ext W w' := by
  obtain ⟨p, n, c, l, rfl, h, _⟩ := arg_bytes a0
  exact lawSums_ok hT h
theorem tabs_sums {W : World} (h : laidMetH Tryd.prog Rows.hashSumsRow.laid W) : HTab W := tab_of (L := Rows.hashSumsRow.laid) (by simp [Rows.hashSumsRow]) (by simp [Rows.hashSumsRow]) (by simp [Rows.hashSumsRow]) h
end Go.Proofs.YthnimelcbbinaaaDoor

/- Three closed facts of the seat's program, asked once: they want much memory. -/
namespace Go.Proofs.YthnimelcbbinaaaDoor
set_option maxRecDepth 100000 in
theorem Tryd.entersB : (Tryd.prog.mayEnter && (false == Tryd.prog.liftsFinal) && (Tryd.prog.make == some .cut)) = true := by kernel_rfl
theorem Tryd.enters : Tryd.prog.mayEnter = true ∧ Tryd.prog.liftsFinal = false ∧ Tryd.prog.make = some .cut := by
  have h := Tryd.entersB
  simp only [Bool.and_eq_true, beq_iff_eq] at h
  exact ⟨h.1.1, h.1.2.symm, h.2⟩
end Go.Proofs.YthnimelcbbinaaaDoor
