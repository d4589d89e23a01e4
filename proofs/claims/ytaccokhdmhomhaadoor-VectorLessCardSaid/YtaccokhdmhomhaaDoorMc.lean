/- Texts of the proof, one behind the other. -/
import Derived.Test.YtaccokhdmhomhaaDoorMb
import Derived.Lib.Bytealg
set_option linter.unusedVariables false
set_option linter.unusedSimpArgs false
/- Schemas: names, columns, rows that fit. Plain Lean, no program. -/
namespace Go.Vc
open Go Go.RowKit

/-! ### Names -/
def letterB (c : UInt8) : Bool := decide (97 ≤ c.toNat ∧ c.toNat ≤ 122)
def otherB (c : UInt8) : Bool := letterB c || decide (48 ≤ c.toNat ∧ c.toNat ≤ 57) || decide (c.toNat = 95)
def isNameL : List UInt8 → Bool
  | [] => false
  | c :: r => letterB c && r.all otherB && decide ((c :: r).length ≤ 24)
def isName (s : ByteArray) : Bool := isNameL (tB s)

/-! ### Columns -/
structure Col where
  name : ByteArray
  kind : Int
  null : Bool
theorem Col.ext' {a b : Col} : a = b ↔ a.name = b.name ∧ a.kind = b.kind ∧ a.null = b.null := by cases a; cases b; simp
instance : DecidableEq Col := fun _ _ => decidable_of_iff _ Col.ext'.symm
def Col.cs (c : Col) : List Value := [.string c.name, .int .i64 c.kind, .bool c.null]
def Col.agg (x : Col) : Value := .agg #[.string x.name, .int .i64 x.kind, .bool x.null]
theorem Col.cs_length (c : Col) : c.cs.length = 3 := rfl
theorem Col.cs_one (v : Col) : ∀ u ∈ v.cs, u.oneCell' = true := by
  intro u hu
  simp only [Col.cs, List.mem_cons, List.not_mem_nil, or_false] at hu
  rcases hu with rfl | rfl | rfl <;> rfl
abbrev Cols := Ls Col.cs
theorem Ls.col {w : World} {p : Option Addr} {n c : Nat} {l : List Col} (h : Cols w p n c l) {i : Nat} {x : Col} (hi : l[i]? = some x) :
    ∃ b o, p = some ⟨b, o, none⟩ ∧ w.cell? ⟨b, o + i * 3, none⟩ = some (.string x.name) ∧ w.cell? ⟨b, o + i * 3 + 1, none⟩ = some (.int .i64 x.kind) ∧ w.cell? ⟨b, o + i * 3 + 2, none⟩ = some (.bool x.null) := by
  obtain ⟨b, o, hp, hc⟩ := h.lies.things Col.cs_length (by decide) hi
  exact ⟨b, o, hp, by have := hc 0 _ rfl; simpa [Nat.add_assoc] using this, by have := hc 1 _ rfl; rwa [← Nat.add_assoc] at this, by have := hc 2 _ rfl; rwa [← Nat.add_assoc] at this⟩

/-- One column, after those of the names 'met'. -/
def colOk (met : List ByteArray) (c : Col) : Bool := isName c.name && !(met.contains c.name) && decide (1 ≤ c.kind ∧ c.kind ≤ 3)
def colsOk : List ByteArray → List Col → Bool
  | _, [] => true
  | met, c :: r => colOk met c && colsOk (met ++ [c.name]) r
def rightC (cols : List Col) : Bool := decide (1 ≤ cols.length ∧ cols.length ≤ 16) && colsOk [] cols
/-- Where a column stands, or -1. -/
def findC : List Col → ByteArray → Int
  | [], _ => -1
  | c :: r, s => if c.name = s then 0 else if findC r s < 0 then -1 else findC r s + 1
theorem findC_range : ∀ (l : List Col) (s : ByteArray), -1 ≤ findC l s ∧ findC l s < (l.length : Int)
  | [], _ => by simp [findC]
  | c :: r, s => by
    have := findC_range r s
    unfold findC
    simp only [List.length_cons]
    split
    · omega
    · split <;> omega
/-- The first place that has the name. -/
theorem findC_at {l : List Col} {s : ByteArray} {k : Nat} {x : Col} (hx : l[k]? = some x) (hn : x.name = s) (hb : ∀ (j : Nat) y, j < k → l[j]? = some y → y.name ≠ s) : findC l s = (k : Int) := by
  induction l generalizing k with
  | nil => simp at hx
  | cons c r ih =>
    cases k with
    | zero => cases hx; unfold findC; rw [if_pos hn]; rfl
    | succ k =>
      have h0 := hb 0 c (by omega) rfl
      have := ih (k := k) (by simpa using hx) fun j y hj hy => hb (j + 1) y (by omega) (by simpa using hy)
      unfold findC
      rw [if_neg h0, this, if_neg (by omega)]
      omega
theorem findC_none {l : List Col} {s : ByteArray} (hb : ∀ x ∈ l, x.name ≠ s) : findC l s = -1 := by
  induction l with
  | nil => rfl
  | cons c r ih =>
    unfold findC
    rw [if_neg (hb c (by simp)), ih fun x hx => hb x (by simp [hx])]
    rfl
theorem findC_get {l : List Col} {s : ByteArray} (h : 0 ≤ findC l s) : ∃ x, l[(findC l s).toNat]? = some x ∧ x.name = s := by
  induction l with
  | nil => simp [findC] at h
  | cons c r ih =>
    unfold findC at h ⊢
    split
    · exact ⟨c, rfl, ‹_›⟩
    · rename_i hne
      rw [if_neg hne] at h
      split at h
      · omega
      · rename_i hge
        rw [if_neg hge]
        obtain ⟨x, hx, hn⟩ := ih (by omega)
        exact ⟨x, by rw [show (findC r s + 1).toNat = (findC r s).toNat + 1 by omega]; simpa using hx, hn⟩

theorem colsOk_append (met : List ByteArray) (a b : List Col) : colsOk met (a ++ b) = (colsOk met a && colsOk (met ++ a.map Col.name) b) := by
  induction a generalizing met with
  | nil => simp [colsOk]
  | cons c a ih => simp [colsOk, ih, Bool.and_assoc]
/-- The document's look at one column. -/
def colRef (cols : List Col) (i : Nat) (c : Col) : Bool := isName c.name && decide (findC cols c.name = (i : Int)) && decide (1 ≤ c.kind ∧ c.kind ≤ 3)
/-! ### Rows that fit -/
def valFits (c : Col) (v : Val) : Bool := v.right && (decide (v.k = c.kind) || (c.null && decide (v.k = 0)))
def fitsL : List Col → List Val → Bool
  | [], [] => true
  | c :: cs, v :: vs => valFits c v && fitsL cs vs
  | _, _ => false
def fitsC (cols : List Col) (row : List Val) : Bool := rightC cols && fitsL cols row
theorem fitsL_length : ∀ {a : List Col} {b : List Val}, fitsL a b = true → a.length = b.length
  | [], [], _ => rfl
  | _ :: _, _ :: _, h => by
    unfold fitsL at h
    rw [Bool.and_eq_true] at h
    simp [fitsL_length h.2]
  | [], _ :: _, h => by cases h
  | _ :: _, [], h => by cases h
theorem fitsL_drop {a : List Col} {b : List Val} {k : Nat} {c : Col} {v : Val} (hc : a[k]? = some c) (hv : b[k]? = some v) : fitsL (a.drop k) (b.drop k) = (valFits c v && fitsL (a.drop (k + 1)) (b.drop (k + 1))) := by
  obtain ⟨h1, rfl⟩ := List.getElem?_eq_some_iff.1 hc
  obtain ⟨h2, rfl⟩ := List.getElem?_eq_some_iff.1 hv
  rw [List.drop_eq_getElem_cons h1, List.drop_eq_getElem_cons h2]
  rfl
theorem fitsL_get {a : List Col} {b : List Val} (h : fitsL a b = true) {k : Nat} {c : Col} {v : Val} (hc : a[k]? = some c) (hv : b[k]? = some v) : valFits c v = true := by
  induction a generalizing b k with
  | nil => simp at hc
  | cons x a ih =>
    cases b with
    | nil => simp at hv
    | cons y b =>
      unfold fitsL at h
      rw [Bool.and_eq_true] at h
      cases k with
      | zero => cases hc; cases hv; exact h.1
      | succ k => exact ih h.2 (by simpa using hc) (by simpa using hv)
end Go.Vc

/- Big arrays in memory, told as one. -/
namespace Go.Vc
open Go Go.RowKit

theorem setA_get : ∀ (vs : List Value) (cs : Array Value) (o i : Nat), (setA cs o vs)[i]? = if o ≤ i ∧ i < o + vs.length ∧ i < cs.size then vs[i - o]? else cs[i]?
  | [], cs, o, i => by unfold setA; simp; omega
  | v :: vs, cs, o, i => by
    unfold setA
    rw [setA_get vs, Array.getElem?_setIfInBounds, Array.size_setIfInBounds]
    simp only [List.length_cons]
    by_cases h : o = i
    · subst h
      rw [if_neg (by omega), if_pos rfl]
      split
      · rw [if_pos (by omega)]; simp
      · rw [if_neg (by omega), Array.getElem?_eq_none (by omega)]
    · rw [if_neg h]
      by_cases h2 : o ≤ i ∧ i < o + (vs.length + 1) ∧ i < cs.size
      · rw [if_pos (by omega), if_pos h2, show i - o = (i - (o + 1)) + 1 by omega, List.getElem?_cons_succ]
      · rw [if_neg (by omega), if_neg h2]
theorem setA_size : ∀ (vs : List Value) (cs : Array Value) (o : Nat), (setA cs o vs).size = cs.size
  | [], _, _ => rfl
  | v :: vs, cs, o => by unfold setA; rw [setA_size vs]; simp
/-- All cells are stored anew. -/
theorem setA_all {cs vs : Array Value} (h : vs.size = cs.size) : setA cs 0 vs.toList = vs := by
  apply Array.ext_getElem?
  intro i
  rw [setA_get]
  by_cases hi : i < cs.size
  · rw [if_pos (by simp; omega)]; simp
  · rw [if_neg (by omega), Array.getElem?_eq_none (by omega), Array.getElem?_eq_none (by omega)]
section
variable {w w' w0 W W' : World} {b : Nat} {t : TypeId} {cs vs : Array Value} {fs : List (Nat × Obj)} {ms : List Row}
theorem Blk.cellsAt (h : Blk w b t cs) : CellsAt w b 0 cs := fun k v hk => by rw [Nat.zero_add, h.cell]; exact hk
theorem Blk.canPut (h : Blk w b t cs) (hs : vs.size = cs.size) (h1 : ∀ (k : Nat) v, vs[k]? = some v → v.oneCell' = true) : CanPut w b 0 vs := fun k v hk => by
  have hk' := (Array.getElem?_eq_some_iff.1 hk).1
  exact ⟨h1 k v hk, ⟨cs[k]'(by omega), by rw [Nat.zero_add, h.cell]; exact Array.getElem?_eq_getElem _⟩, h.frozen _⟩
theorem Hold.putAll (h : Hold w0 W fs ms) (i : Nat) (hi : fs[i]? = some (b, .cells cs t (0, 0))) (hs : vs.size = cs.size) (e : Put W b 0 vs.toList W') : Hold w0 W' (fs.set i (b, .cells vs t (0, 0))) ms := by
  have := h.put i hi e
  rwa [setA_all hs] at this
end

end Go.Vc

/- The contracts of package schema: names. -/
namespace Go.Proofs.YtaccokhdmhomhaaDoor
open Go Go.Vc Go.RowKit
set_option maxRecDepth 20000

theorem idxbyte_ok (s : ByteArray) (c : Int) (w : World) : Calls Tryd.prog 75 #[.string s, .int .u8 c] w fun e w' => e = .returned (.int .i64 (Lib.indexByte (tB s) c.toNat.toUInt8)) ∧ w' = w := by
  apply sidxb_vc
  unfold sidxb_T
  apply slidxb_vc
  unfold slidxb_T
  refine ⟨_, _, ?_, _, rfl, rfl, rfl⟩
  rw [run_callFunc_extern Tryd.func100 (by kernel_rfl) (by kernel_rfl) (by kernel_rfl) (e := Extern.BytealgIndexByte.indexByte) (by kernel_rfl), Lib.run_indexByteString]
  rfl

theorem zero_set : zeroA Tryd.prog 117 = Array.replicate 256 (.bool false) := by kernel_rfl
/-- The cells of a set of bytes. -/
def SetC (cs : Array Value) (f : UInt8 → Bool) : Prop := cs.size = 256 ∧ ∀ x : UInt8, cs[x.toNat]? = some (.bool (f x))
theorem SetC.one {cs : Array Value} {f : UInt8 → Bool} (h : SetC cs f) (k : Nat) (v : Value) (hk : cs[k]? = some v) : v.oneCell' = true := by
  have hlt := (Array.getElem?_eq_some_iff.1 hk).1
  have := h.2 (UInt8.ofNat k)
  rw [h.1] at hlt
  rw [UInt8.toNat_ofNat', Nat.mod_eq_of_lt (by omega), hk] at this
  cases this; rfl
theorem bAt_u8 (s : ByteArray) {i : Nat} (h : i < s.size) : ∃ x : UInt8, (tB s)[i]? = some x ∧ bAt s i = (x.toNat : Int) :=
  ⟨(tB s)[i]'(by rw [tB_length]; exact h), List.getElem?_eq_getElem _, bAt_eq s i h⟩

theorem mkascii_ok (s : ByteArray) (w : World) (hs : s.size < 9223372036854775807) (ha : ∀ x ∈ tB s, x.toNat < 128) :
    Calls Tryd.prog 89 #[.string s] w fun e w' => ∃ cs, e = .returned (.tuple #[.agg cs, .bool true]) ∧ SetC cs (fun x => (tB s).contains x) ∧ Ext w w' := by
  apply mkascii_vc
  unfold mkascii_T
  intro b1 w2 h1
  rw [zero_set] at h1
  have H1 := (Hold.start (Ext.rfl (w := w))).new h1
  refine ⟨fun i w' => ∃ (k : Nat) (cs : Array Value), i = (k : Int) ∧ k ≤ s.size ∧ SetC cs (fun x => ((tB s).take k).contains x) ∧ Hold w w' [(b1, .cells cs 117 (0, 0))] [], fun i _ => s.size - i.toNat, ⟨0, _, rfl, Nat.zero_le _, ⟨by simp, fun x => ?_⟩, H1⟩, ?_⟩
  · have := x.toNat_lt
    rw [Array.getElem?_eq_getElem (by simp; omega)]; simp
  rintro i w7 ⟨k, cs, rfl, hk, hc, H⟩
  have B := H.blk 0 rfl
  simp only [Int.toNat_natCast, Nat.zero_add]
  refine ⟨fun hlt => ?_, fun hge => ?_⟩
  · obtain ⟨x, hx, hb⟩ := bAt_u8 s (i := k) (by omega)
    have hx8 := ha x (List.mem_of_getElem? hx)
    rw [hb]
    refine ⟨by omega, by omega, fun h => by omega, fun _ => ⟨by omega, by omega, ⟨_, by rw [Int.toNat_natCast, B.cell]; exact hc.2 x⟩, B.frozen _, fun w17 h17 => ?_⟩⟩
    rw [Int.toNat_natCast] at h17
    have H17 := H.put 0 rfl h17
    rw [i64_next (by omega)]
    refine ⟨⟨k + 1, _, rfl, by omega, ⟨by rw [setA_size]; exact hc.1, fun y => ?_⟩, H17⟩, by simp only [Int.toNat_natCast]; omega⟩
    have htk : (tB s).take (k + 1) = (tB s).take k ++ [x] := by
      rw [List.take_add_one, hx]; rfl
    show _ = some (Value.bool (((tB s).take (k + 1)).contains y))
    rw [setA_get, hc.1, htk]
    have hy := y.toNat_lt
    by_cases hxy : x = y
    · subst hxy
      rw [if_pos (by simp; omega)]
      simp
    · have hn : x.toNat ≠ y.toNat := fun e => hxy (UInt8.toNat_inj.1 e)
      rw [if_neg (by simp; omega), hc.2 y]
      simp [Ne.symm hxy]
  · refine ⟨cs, hc.1, B.cellsAt, hc.1, B.canPut rfl hc.one, fun w21 h21 => ?_⟩
    have H21 := H.putAll 0 rfl rfl h21
    have B21 : Blk w21 b1 117 cs := H21.blk 0 rfl
    refine ⟨cs, hc.1, B21.cellsAt, cs, rfl, ?_, H21.ext⟩
    have : (tB s).take k = tB s := List.take_of_length_le (by rw [tB_length]; omega)
    rw [this] at hc
    exact hc

section
variable {w : World} {b : Nat} {cs : Array Value} {f : UInt8 → Bool}
theorem ascont_ok (h : Blk w b 117 cs) (hc : SetC cs f) (x : UInt8) : Calls Tryd.prog 101 #[.pointer (some ⟨b, 0, none⟩), .int .u8 (x.toNat : Int)] w fun e w' => e = .returned (.bool (f x)) ∧ Ext w w' := by
  apply ascont_vc
  unfold ascont_T
  have hx := x.toNat_lt
  exact ⟨b, 0, rfl, by omega, by omega, _, by rw [Int.toNat_natCast, Nat.zero_add, h.cell]; exact hc.2 x, rfl, .rfl⟩
theorem trimra_ok (s : ByteArray) (hs : s.size ≤ 9223372036854775807) (h : Blk w b 117 cs) (hc : SetC cs f) :
    Calls Tryd.prog 91 #[.string s, .pointer (some ⟨b, 0, none⟩)] w fun e w' => ∃ r, e = .returned (.string r) ∧ r.size ≤ s.size ∧ (tB r).all f = (tB s).all f ∧ Ext w w' := by
  apply trimra_vc
  unfold trimra_T
  refine ⟨fun r w' => r.size ≤ s.size ∧ (tB r).all f = (tB s).all f ∧ Ext w w', fun r _ => r.size, ⟨Nat.le_refl _, rfl, .rfl⟩, ?_⟩
  rintro r w4 ⟨hr, ha, hx⟩
  refine ⟨fun h0 => ?_, fun _ => ⟨r, rfl, hr, ha, hx⟩⟩
  rw [i64_fit (by omega) (by omega)]
  have e1 : ((r.size : Int) - 1) = ((r.size - 1 : Nat) : Int) := by omega
  rw [e1]
  simp only [Int.toNat_natCast]
  obtain ⟨x, hx', hb⟩ := bAt_u8 r (i := r.size - 1) (by omega)
  rw [hb]
  refine ⟨by omega, by omega, (ascont_ok (h.ext hx) hc x).mono ?_⟩
  rintro e w8 ⟨rfl, e8⟩
  have hx8 := hx.trans e8
  refine ⟨_, rfl, fun _ => ⟨r, rfl, hr, ha, hx8⟩, fun hf => ⟨by omega, by omega, ⟨?_, ?_, hx8⟩, ?_⟩⟩
  · rw [← tB_length, tB_extract]; simp; omega
  · rw [tB_extract, List.drop_zero, ← ha]
    have : tB r = (tB r).take (r.size - 1) ++ [x] := by
      have := List.take_add_one (l := tB r) (i := r.size - 1)
      rw [hx', List.take_of_length_le (by rw [tB_length]; omega)] at this
      exact this
    conv => rhs; rw [this, List.all_append]
    simp [hf]
  · rw [← tB_length, tB_extract]; simp [tB_length]; omega
theorem trimla_ok (s : ByteArray) (hs : s.size ≤ 9223372036854775807) (h : Blk w b 117 cs) (hc : SetC cs f) :
    Calls Tryd.prog 90 #[.string s, .pointer (some ⟨b, 0, none⟩)] w fun e w' => ∃ r, e = .returned (.string r) ∧ (tB r = [] ↔ (tB s).all f = true) ∧ Ext w w' := by
  apply trimla_vc
  unfold trimla_T
  refine ⟨fun r w' => (tB r).all f = (tB s).all f ∧ Ext w w', fun r _ => r.size, ⟨rfl, .rfl⟩, ?_⟩
  rintro r w4 ⟨ha, hx⟩
  refine ⟨fun h0 => ?_, fun h0 => ⟨r, rfl, ?_, hx⟩⟩
  · obtain ⟨x, hx', hb⟩ := bAt_u8 r (i := 0) (by omega)
    rw [hb]
    refine ⟨by omega, by omega, (ascont_ok (h.ext hx) hc x).mono ?_⟩
    rintro e w8 ⟨rfl, e8⟩
    have hx8 := hx.trans e8
    cases hr : tB r with
    | nil => rw [hr] at hx'; simp at hx'
    | cons y l =>
      rw [hr] at hx'
      cases hx'
      refine ⟨_, rfl, fun hf => ⟨r, rfl, ?_, hx8⟩, fun hf => ⟨by omega, by omega, ⟨?_, hx8⟩, ?_⟩⟩
      · rw [hr, ← ha, hr]; simp [hf]
      · rw [tB_extract, List.take_of_length_le (by rw [tB_length]; omega), ← ha, hr]; simp [hf]
      · show (r.extract 1 r.size).size < r.size
        rw [← tB_length, tB_extract]; simp [tB_length]; omega
  · have : tB r = [] := List.length_eq_zero_iff.1 (by rw [tB_length]; omega)
    rw [← ha, this]; simp
end

theorem ba_nil {s : ByteArray} : s = ⟨#[]⟩ ↔ tB s = [] := by rw [← tB_inj]; rfl
theorem trim_ok (s : ByteArray) (hs : s.size ≤ 9223372036854775807) {c : ByteArray} (hc : 2 ≤ c.size) (hc' : c.size < 9223372036854775807) (ha : ∀ x ∈ tB c, x.toNat < 128) (w : World) :
    Calls Tryd.prog 76 #[.string s, .string c] w fun e w' => ∃ r, e = .returned (.string r) ∧ (r = ⟨#[]⟩ ↔ (tB s).all (fun x => (tB c).contains x) = true) ∧ Ext w w' := by
  apply strim_vc
  unfold strim_T
  refine ⟨fun h => ?_, fun _ => ⟨fun h => by omega, fun _ => (mkascii_ok c w hc' ha).mono ?_⟩⟩
  · rcases h with h | h
    · exact ⟨s, rfl, by rw [h]; simp [tB], .rfl⟩
    · rw [h] at hc; cases hc
  · rintro e w39 ⟨cs, rfl, hs', e39⟩
    refine ⟨cs, hs'.1, true, rfl, fun b42 w43 h43 => ?_⟩
    rw [zero_set] at h43
    have H43 := (Hold.start e39).new h43
    have B43 := H43.blk 0 rfl
    refine ⟨hs'.1, B43.canPut (by rw [hs'.1]; simp) hs'.one, fun w45 h45 => ⟨fun _ => ?_, fun h => by cases h⟩⟩
    have H45 := H43.putAll 0 rfl (by rw [hs'.1]; simp) h45
    have B45 : Blk w45 b42 117 cs := H45.blk 0 rfl
    refine (trimra_ok s hs B45 hs').mono ?_
    rintro e w49 ⟨r, rfl, hrs, hr, e49⟩
    refine ⟨r, rfl, (trimla_ok r (by omega) (B45.ext e49) hs').mono ?_⟩
    rintro e w52 ⟨q, rfl, hq, e52⟩
    exact ⟨q, rfl, q, rfl, by rw [ba_nil, hq, hr], (H45.step (e49.trans e52)).ext⟩

def letC : ByteArray := ⟨#[97, 98, 99, 100, 101, 102, 103, 104, 105, 106, 107, 108, 109, 110, 111, 112, 113, 114, 115, 116, 117, 118, 119, 120, 121, 122]⟩
def othC : ByteArray := ⟨#[97, 98, 99, 100, 101, 102, 103, 104, 105, 106, 107, 108, 109, 110, 111, 112, 113, 114, 115, 116, 117, 118, 119, 120, 121, 122, 48, 49, 50, 51, 52, 53, 54, 55, 56, 57, 95]⟩
theorem let_all : ∀ i : Fin 256, decide (0 ≤ Lib.indexByte (tB letC) (UInt8.ofNat i.1)) = letterB (UInt8.ofNat i.1) := by decide +kernel
theorem oth_all : ∀ i : Fin 256, (tB othC).contains (UInt8.ofNat i.1) = otherB (UInt8.ofNat i.1) := by decide +kernel
theorem let_eq (x : UInt8) : 0 ≤ Lib.indexByte (tB letC) x ↔ letterB x = true := by
  have := let_all ⟨x.toNat, x.toNat_lt⟩
  rw [UInt8.ofNat_toNat] at this
  rw [← this, decide_eq_true_eq]
theorem oth_eq (x : UInt8) : (tB othC).contains x = otherB x := by
  have := oth_all ⟨x.toNat, x.toNat_lt⟩
  rwa [UInt8.ofNat_toNat] at this
theorem oth_ascii : ∀ x ∈ tB othC, x.toNat < 128 := by decide +kernel

theorem sisname_ok (s : ByteArray) (w : World) : Calls Tryd.prog 56 #[.string s] w fun e w' => e = .returned (.bool (isName s)) ∧ Ext w w' := by
  apply sisname_vc
  unfold sisname_T
  refine ⟨fun ⟨hne, hle⟩ => ?_, fun h => ⟨?_, .rfl⟩⟩
  · have h0 : 0 < s.size := by
      rcases Nat.eq_zero_or_pos s.size with h | h
      · exact absurd (ba_nil.2 (List.length_eq_zero_iff.1 (by rw [tB_length]; exact h))) hne
      · exact h
    obtain ⟨x, hx, hb⟩ := bAt_u8 s h0
    refine ⟨by omega, by omega, ?_⟩
    rw [hb]
    refine (idxbyte_ok letC (x.toNat : Int) w).mono ?_
    rintro e w3 ⟨rfl, rfl⟩
    have hxx : ((x.toNat : Int)).toNat.toUInt8 = x := by simp
    rw [hxx]
    cases hl : tB s with
    | nil => rw [hl] at hx; simp at hx
    | cons y l =>
      rw [hl] at hx
      cases hx
      have hlen : l.length + 1 ≤ 24 := by have := tB_length s; rw [hl] at this; simp at this; omega
      refine ⟨_, rfl, fun hge => ?_, fun hlt => ⟨?_, .rfl⟩⟩
      · refine (trim_ok s (by omega) (c := othC) (by decide) (by decide) oth_ascii _).mono ?_
        rintro e w7 ⟨r, rfl, hr, e7⟩
        refine ⟨r, rfl, ?_, e7⟩
        have : sEq r ⟨#[]⟩ = isName s := by
          rw [Bool.eq_iff_iff, sEq_iff, hr, hl]
          unfold isName isNameL
          rw [hl]
          have hx1 := (let_eq x).1 hge
          have hx2 : otherB x = true := by unfold otherB; rw [hx1]; rfl
          simp only [List.all_cons, oth_eq, hx1, hx2, Bool.true_and, List.length_cons, Bool.and_eq_true, decide_eq_true_eq]
          exact ⟨fun h => ⟨h, hlen⟩, fun h => h.1⟩
        rw [this]
      · have : isName s = false := by
          unfold isName isNameL
          rw [hl]
          have : letterB x = false := by
            rw [← Bool.not_eq_true, ← let_eq]; omega
          simp [this]
        rw [this]
  · have : isName s = false := by
      unfold isName isNameL
      rcases h with h | h
      · rw [h]; rfl
      · cases hl : tB s with
        | nil => rfl
        | cons y l =>
          have := tB_length s
          rw [hl] at this
          have hb : ¬ ((y :: l).length ≤ 24) := by omega
          simp only [hb, decide_false, Bool.and_false]
    rw [this]
end Go.Proofs.YtaccokhdmhomhaaDoor

/- The verification conditions of the functions, evaluated: printed by program. -/
namespace Go.Proofs.YtaccokhdmhomhaaDoor
open Go Go.Vc
set_option maxRecDepth 20000

set_option maxRecDepth 100000 in
def vright_T (v0 : Int) (v1 : Int) (v2 : ByteArray) (w : World) (R : Ending → World → Prop) : Prop :=
  ∀ b1 w'2, New w (Obj.cells #[.int .i64 v0, .int .i64 v1, .string v2] 26) b1 w'2 → ∃ n4, w'2.cell? ⟨b1, 0, none⟩ = some (.int .i64 n4) ∧ ∀ b5 w'6, New w'2 (Obj.cells #[.int .i64 0, .int .i64 0, .string ⟨#[]⟩] 26) b5 w'6 → (∃ u8, w'6.cell? ⟨b5, 0, none⟩ = some u8) ∧ w'6.frozen? ⟨b5, 0, none⟩ = false ∧ (∃ u9, w'6.cell? ⟨b5, 1, none⟩ = some u9) ∧ w'6.frozen? ⟨b5, 1, none⟩ = false ∧ (∃ u10, w'6.cell? ⟨b5, 2, none⟩ = some u10) ∧ w'6.frozen? ⟨b5, 2, none⟩ = false ∧ ∀ w'11, Put w'6 b5 0 [.int .i64 n4, .int .i64 0, .string ⟨#[]⟩] w'11 → ∃ n13, w'11.cell? ⟨b1, 0, none⟩ = some (.int .i64 n13) ∧ (n13 = 0 → ∃ n15, w'11.cell? ⟨b1, 0, none⟩ = some (.int .i64 n15) ∧ (0 ≤ n15 → ∃ n17, w'11.cell? ⟨b1, 0, none⟩ = some (.int .i64 n17) ∧ (n17 < 4 → ∃ n19, w'11.cell? ⟨b1, 0, none⟩ = some (.int .i64 n19) ∧ ∃ n20, w'11.cell? ⟨b1, 1, none⟩ = some (.int .i64 n20) ∧ ∃ s21, w'11.cell? ⟨b1, 2, none⟩ = some (.string s21) ∧ ∃ n22, w'11.cell? ⟨b5, 0, none⟩ = some (.int .i64 n22) ∧ ∃ n23, w'11.cell? ⟨b5, 1, none⟩ = some (.int .i64 n23) ∧ ∃ s24, w'11.cell? ⟨b5, 2, none⟩ = some (.string s24) ∧ (n19 = n22 ∧ n20 = n23 ∧ s21 = s24 → ∃ s26, w'11.cell? ⟨b1, 2, none⟩ = some (.string s26) ∧ R (.returned (.bool (decide ((↑s26.size : Int) ≤ 1024)))) w'11) ∧ (n19 ≠ n22 ∨ n20 ≠ n23 ∨ s21 ≠ s24 → R (.returned (.bool false)) w'11)) ∧ (4 ≤ n17 → R (.returned (.bool false)) w'11)) ∧ (n15 < 0 → R (.returned (.bool false)) w'11)) ∧ (n13 ≠ 0 → (n13 = 1 → ∃ n32, w'11.cell? ⟨b1, 1, none⟩ = some (.int .i64 n32) ∧ (∃ u33, w'11.cell? ⟨b5, 1, none⟩ = some u33) ∧ w'11.frozen? ⟨b5, 1, none⟩ = false ∧ ∀ w'34, Put w'11 b5 1 [.int .i64 n32] w'34 → ∃ n36, w'34.cell? ⟨b1, 0, none⟩ = some (.int .i64 n36) ∧ (0 ≤ n36 → ∃ n38, w'34.cell? ⟨b1, 0, none⟩ = some (.int .i64 n38) ∧ (n38 < 4 → ∃ n40, w'34.cell? ⟨b1, 0, none⟩ = some (.int .i64 n40) ∧ ∃ n41, w'34.cell? ⟨b1, 1, none⟩ = some (.int .i64 n41) ∧ ∃ s42, w'34.cell? ⟨b1, 2, none⟩ = some (.string s42) ∧ ∃ n43, w'34.cell? ⟨b5, 0, none⟩ = some (.int .i64 n43) ∧ ∃ n44, w'34.cell? ⟨b5, 1, none⟩ = some (.int .i64 n44) ∧ ∃ s45, w'34.cell? ⟨b5, 2, none⟩ = some (.string s45) ∧ (n40 = n43 ∧ n41 = n44 ∧ s42 = s45 → ∃ s47, w'34.cell? ⟨b1, 2, none⟩ = some (.string s47) ∧ R (.returned (.bool (decide ((↑s47.size : Int) ≤ 1024)))) w'34) ∧ (n40 ≠ n43 ∨ n41 ≠ n44 ∨ s42 ≠ s45 → R (.returned (.bool false)) w'34)) ∧ (4 ≤ n38 → R (.returned (.bool false)) w'34)) ∧ (n36 < 0 → R (.returned (.bool false)) w'34)) ∧ (n13 ≠ 1 → (n13 = 2 → ∃ n53, w'11.cell? ⟨b1, 1, none⟩ = some (.int .i64 n53) ∧ (∃ u54, w'11.cell? ⟨b5, 1, none⟩ = some u54) ∧ w'11.frozen? ⟨b5, 1, none⟩ = false ∧ ∀ w'55, Put w'11 b5 1 [.int .i64 (bits BinOp.and IntKind.i64 n53 1)] w'55 → ∃ n57, w'55.cell? ⟨b1, 0, none⟩ = some (.int .i64 n57) ∧ (0 ≤ n57 → ∃ n59, w'55.cell? ⟨b1, 0, none⟩ = some (.int .i64 n59) ∧ (n59 < 4 → ∃ n61, w'55.cell? ⟨b1, 0, none⟩ = some (.int .i64 n61) ∧ ∃ n62, w'55.cell? ⟨b1, 1, none⟩ = some (.int .i64 n62) ∧ ∃ s63, w'55.cell? ⟨b1, 2, none⟩ = some (.string s63) ∧ ∃ n64, w'55.cell? ⟨b5, 0, none⟩ = some (.int .i64 n64) ∧ ∃ n65, w'55.cell? ⟨b5, 1, none⟩ = some (.int .i64 n65) ∧ ∃ s66, w'55.cell? ⟨b5, 2, none⟩ = some (.string s66) ∧ (n61 = n64 ∧ n62 = n65 ∧ s63 = s66 → ∃ s68, w'55.cell? ⟨b1, 2, none⟩ = some (.string s68) ∧ R (.returned (.bool (decide ((↑s68.size : Int) ≤ 1024)))) w'55) ∧ (n61 ≠ n64 ∨ n62 ≠ n65 ∨ s63 ≠ s66 → R (.returned (.bool false)) w'55)) ∧ (4 ≤ n59 → R (.returned (.bool false)) w'55)) ∧ (n57 < 0 → R (.returned (.bool false)) w'55)) ∧ (n13 ≠ 2 → (n13 = 3 → ∃ s74, w'11.cell? ⟨b1, 2, none⟩ = some (.string s74) ∧ (∃ u75, w'11.cell? ⟨b5, 2, none⟩ = some u75) ∧ w'11.frozen? ⟨b5, 2, none⟩ = false ∧ ∀ w'76, Put w'11 b5 2 [.string s74] w'76 → ∃ n78, w'76.cell? ⟨b1, 0, none⟩ = some (.int .i64 n78) ∧ (0 ≤ n78 → ∃ n80, w'76.cell? ⟨b1, 0, none⟩ = some (.int .i64 n80) ∧ (n80 < 4 → ∃ n82, w'76.cell? ⟨b1, 0, none⟩ = some (.int .i64 n82) ∧ ∃ n83, w'76.cell? ⟨b1, 1, none⟩ = some (.int .i64 n83) ∧ ∃ s84, w'76.cell? ⟨b1, 2, none⟩ = some (.string s84) ∧ ∃ n85, w'76.cell? ⟨b5, 0, none⟩ = some (.int .i64 n85) ∧ ∃ n86, w'76.cell? ⟨b5, 1, none⟩ = some (.int .i64 n86) ∧ ∃ s87, w'76.cell? ⟨b5, 2, none⟩ = some (.string s87) ∧ (n82 = n85 ∧ n83 = n86 ∧ s84 = s87 → ∃ s89, w'76.cell? ⟨b1, 2, none⟩ = some (.string s89) ∧ R (.returned (.bool (decide ((↑s89.size : Int) ≤ 1024)))) w'76) ∧ (n82 ≠ n85 ∨ n83 ≠ n86 ∨ s84 ≠ s87 → R (.returned (.bool false)) w'76)) ∧ (4 ≤ n80 → R (.returned (.bool false)) w'76)) ∧ (n78 < 0 → R (.returned (.bool false)) w'76)) ∧ (n13 ≠ 3 → ∃ n94, w'11.cell? ⟨b1, 0, none⟩ = some (.int .i64 n94) ∧ (0 ≤ n94 → ∃ n96, w'11.cell? ⟨b1, 0, none⟩ = some (.int .i64 n96) ∧ (n96 < 4 → ∃ n98, w'11.cell? ⟨b1, 0, none⟩ = some (.int .i64 n98) ∧ ∃ n99, w'11.cell? ⟨b1, 1, none⟩ = some (.int .i64 n99) ∧ ∃ s100, w'11.cell? ⟨b1, 2, none⟩ = some (.string s100) ∧ ∃ n101, w'11.cell? ⟨b5, 0, none⟩ = some (.int .i64 n101) ∧ ∃ n102, w'11.cell? ⟨b5, 1, none⟩ = some (.int .i64 n102) ∧ ∃ s103, w'11.cell? ⟨b5, 2, none⟩ = some (.string s103) ∧ (n98 = n101 ∧ n99 = n102 ∧ s100 = s103 → ∃ s105, w'11.cell? ⟨b1, 2, none⟩ = some (.string s105) ∧ R (.returned (.bool (decide ((↑s105.size : Int) ≤ 1024)))) w'11) ∧ (n98 ≠ n101 ∨ n99 ≠ n102 ∨ s100 ≠ s103 → R (.returned (.bool false)) w'11)) ∧ (4 ≤ n96 → R (.returned (.bool false)) w'11)) ∧ (n94 < 0 → R (.returned (.bool false)) w'11)))))

set_option maxRecDepth 100000 in
theorem vright_eq (v0 : Int) (v1 : Int) (v2 : ByteArray) (w : World) (R : Ending → World → Prop) : vright_T v0 v1 v2 w R = vcFn Tryd.prog [] [] Tryd.f60 [.agg #[.int .i64 v0, .int .i64 v1, .string v2]] w R := by kernel_rfl

set_option maxRecDepth 100000 in
theorem vright_vc (v0 : Int) (v1 : Int) (v2 : ByteArray) (w : World) (R : Ending → World → Prop) (hvc : vright_T v0 v1 v2 w R) : Calls Tryd.prog 60 #[.agg #[.int .i64 v0, .int .i64 v1, .string v2]] w R :=
  calls_of_vc (args := [.agg #[.int .i64 v0, .int .i64 v1, .string v2]]) [] [] Tryd.mixed Tryd.func60 (cast (vright_eq _ _ _ w R) hvc)

set_option maxRecDepth 100000 in
def vcompare_T (a0 : Int) (a1 : Int) (a2 : ByteArray) (b0 : Int) (b1 : Int) (b2 : ByteArray) (w : World) (R : Ending → World → Prop) : Prop :=
  ∀ b1_1 w'2, New w (Obj.cells #[.int .i64 a0, .int .i64 a1, .string a2] 26) b1_1 w'2 → ∀ b4 w'5, New w'2 (Obj.cells #[.int .i64 b0, .int .i64 b1, .string b2] 26) b4 w'5 → ∀ w'7, Drew w'5 w'7 → ∃ n9, w'7.cell? ⟨b1_1, 0, none⟩ = some (.int .i64 n9) ∧ ∃ n10, w'7.cell? ⟨b4, 0, none⟩ = some (.int .i64 n10) ∧ ∃ n11, w'7.cell? ⟨b1_1, 1, none⟩ = some (.int .i64 n11) ∧ ∃ n12, w'7.cell? ⟨b4, 1, none⟩ = some (.int .i64 n12) ∧ ∃ s13, w'7.cell? ⟨b1_1, 2, none⟩ = some (.string s13) ∧ ∃ s14, w'7.cell? ⟨b4, 2, none⟩ = some (.string s14) ∧ Calls Tryd.prog 96 #[.int .i64 n9, .int .i64 n10] w'7 fun e15 w16 ↦
 ∃ n17, e15 = .returned (.int .i64 n17) ∧ SameTo (some [b4, b1_1, b4, b1_1, b4, b1_1]) w'7 w'7 w16 ∧ Calls Tryd.prog 97 #[.int .i64 n11, .int .i64 n12] w16 fun e18 w19 ↦
 ∃ n20, e18 = .returned (.int .i64 n20) ∧ SameTo (some [b4, b1_1, b4, b1_1, b4, b1_1]) w'7 w16 w19 ∧ Calls Tryd.prog 98 #[.string s13, .string s14] w19 fun e21 w22 ↦
 ∃ n23, e21 = .returned (.int .i64 n23) ∧ ∀ b24 w'25, New w22 (Obj.cells #[.int .i64 n17, .int .i64 n20, .int .i64 n23] 3) b24 w'25 → Calls Tryd.prog 95 #[.slice (some ⟨b24, 0, none⟩) 3 3] w'25 fun e27 w28 ↦
 ∃ n29, e27 = .returned (.int .i64 n29) ∧ R (.returned (.int .i64 n29)) w28

set_option maxRecDepth 100000 in
theorem vcompare_eq (a0 : Int) (a1 : Int) (a2 : ByteArray) (b0 : Int) (b1 : Int) (b2 : ByteArray) (w : World) (R : Ending → World → Prop) : vcompare_T a0 a1 a2 b0 b1 b2 w R = vcFn Tryd.prog [] [(1, [2, 4, 6, 8, 12, 14, 16, 18, 22, 24, 26, 28, 11, 21, 30, 32, 34, 36, 0])] Tryd.f82 [.agg #[.int .i64 a0, .int .i64 a1, .string a2], .agg #[.int .i64 b0, .int .i64 b1, .string b2]] w R := by kernel_rfl

set_option maxRecDepth 100000 in
theorem vcompare_vc (a0 : Int) (a1 : Int) (a2 : ByteArray) (b0 : Int) (b1 : Int) (b2 : ByteArray) (w : World) (R : Ending → World → Prop) (hvc : vcompare_T a0 a1 a2 b0 b1 b2 w R) : Calls Tryd.prog 82 #[.agg #[.int .i64 a0, .int .i64 a1, .string a2], .agg #[.int .i64 b0, .int .i64 b1, .string b2]] w R :=
  calls_of_vc (args := [.agg #[.int .i64 a0, .int .i64 a1, .string a2], .agg #[.int .i64 b0, .int .i64 b1, .string b2]]) [] [(1, [2, 4, 6, 8, 12, 14, 16, 18, 22, 24, 26, 28, 11, 21, 30, 32, 34, 36, 0])] Tryd.mixed Tryd.func82 (cast (vcompare_eq _ _ _ _ _ _ w R) hvc)

set_option maxRecDepth 100000 in
def cmpor_T (vals_p : Option Addr) (vals_n : Nat) (vals_c : Nat) (w : World) (R : Ending → World → Prop) : Prop :=
  ∃ (I1 : Int → World → Prop), ∃ (M2 : Int → World → Nat), I1 0 w ∧ ∀ (n3 : Int) (w'4 : World), I1 n3 w'4 → (n3 < (↑vals_n : Int) → ∃ b7, ∃ o8, vals_p = some ⟨b7, o8, none⟩ ∧ 0 ≤ n3 ∧ n3 < (↑vals_n : Int) ∧ ∃ n9, w'4.cell? ⟨b7, (o8 + n3.toNat), none⟩ = some (.int .i64 n9) ∧ (n9 ≠ 0 → R (.returned (.int .i64 n9)) w'4) ∧ (n9 = 0 → I1 (IntKind.i64.wrap (n3 + 1)) w'4 ∧ M2 (IntKind.i64.wrap (n3 + 1)) w'4 < M2 n3 w'4)) ∧ ((↑vals_n : Int) ≤ n3 → R (.returned (.int .i64 0)) w'4)

set_option maxRecDepth 100000 in
theorem cmpor_eq (vals_p : Option Addr) (vals_n : Nat) (vals_c : Nat) (w : World) (R : Ending → World → Prop) : cmpor_T vals_p vals_n vals_c w R = vcFn Tryd.prog [] [] Tryd.f95 [.slice vals_p vals_n vals_c] w R := by kernel_rfl

set_option maxRecDepth 100000 in
theorem cmpor_vc (vals_p : Option Addr) (vals_n : Nat) (vals_c : Nat) (w : World) (R : Ending → World → Prop) (hvc : cmpor_T vals_p vals_n vals_c w R) : Calls Tryd.prog 95 #[.slice vals_p vals_n vals_c] w R :=
  calls_of_vc (args := [.slice vals_p vals_n vals_c]) [] [] Tryd.mixed Tryd.func95 (cast (cmpor_eq _ _ _ w R) hvc)

set_option maxRecDepth 100000 in
def cmpint_T (x : Int) (y : Int) (w : World) (R : Ending → World → Prop) : Prop :=
  Calls Tryd.prog 105 #[.int .i64 x] w fun e1 w2 ↦
 ∃ b3, e1 = .returned (.bool b3) ∧ Calls Tryd.prog 105 #[.int .i64 y] w2 fun e4 w5 ↦
 ∃ b6, e4 = .returned (.bool b6) ∧ (b3 = true → (b6 = true → R (.returned (.int .i64 0)) w5) ∧ (b6 = false → R (.returned (.int .i64 (-1))) w5)) ∧ (b3 = false → (b6 = true → R (.returned (.int .i64 1)) w5) ∧ (b6 = false → (x < y → R (.returned (.int .i64 (-1))) w5) ∧ (y ≤ x → (y < x → R (.returned (.int .i64 1)) w5) ∧ (x ≤ y → R (.returned (.int .i64 0)) w5))))

set_option maxRecDepth 100000 in
theorem cmpint_eq (x : Int) (y : Int) (w : World) (R : Ending → World → Prop) : cmpint_T x y w R = vcFn Tryd.prog [] [] Tryd.f96 [.int .i64 x, .int .i64 y] w R := by kernel_rfl

set_option maxRecDepth 100000 in
theorem cmpint_vc (x : Int) (y : Int) (w : World) (R : Ending → World → Prop) (hvc : cmpint_T x y w R) : Calls Tryd.prog 96 #[.int .i64 x, .int .i64 y] w R :=
  calls_of_vc (args := [.int .i64 x, .int .i64 y]) [] [] Tryd.mixed Tryd.func96 (cast (cmpint_eq _ _ w R) hvc)

set_option maxRecDepth 100000 in
def cmpint64_T (x : Int) (y : Int) (w : World) (R : Ending → World → Prop) : Prop :=
  Calls Tryd.prog 106 #[.int .i64 x] w fun e1 w2 ↦
 ∃ b3, e1 = .returned (.bool b3) ∧ Calls Tryd.prog 106 #[.int .i64 y] w2 fun e4 w5 ↦
 ∃ b6, e4 = .returned (.bool b6) ∧ (b3 = true → (b6 = true → R (.returned (.int .i64 0)) w5) ∧ (b6 = false → R (.returned (.int .i64 (-1))) w5)) ∧ (b3 = false → (b6 = true → R (.returned (.int .i64 1)) w5) ∧ (b6 = false → (x < y → R (.returned (.int .i64 (-1))) w5) ∧ (y ≤ x → (y < x → R (.returned (.int .i64 1)) w5) ∧ (x ≤ y → R (.returned (.int .i64 0)) w5))))

set_option maxRecDepth 100000 in
theorem cmpint64_eq (x : Int) (y : Int) (w : World) (R : Ending → World → Prop) : cmpint64_T x y w R = vcFn Tryd.prog [] [] Tryd.f97 [.int .i64 x, .int .i64 y] w R := by kernel_rfl

set_option maxRecDepth 100000 in
theorem cmpint64_vc (x : Int) (y : Int) (w : World) (R : Ending → World → Prop) (hvc : cmpint64_T x y w R) : Calls Tryd.prog 97 #[.int .i64 x, .int .i64 y] w R :=
  calls_of_vc (args := [.int .i64 x, .int .i64 y]) [] [] Tryd.mixed Tryd.func97 (cast (cmpint64_eq _ _ w R) hvc)

set_option maxRecDepth 100000 in
def isnani_T (x : Int) (w : World) (R : Ending → World → Prop) : Prop :=
  R (.returned (.bool !decide (x = x))) w

set_option maxRecDepth 100000 in
theorem isnani_eq (x : Int) (w : World) (R : Ending → World → Prop) : isnani_T x w R = vcFn Tryd.prog [] [] Tryd.f105 [.int .i64 x] w R := by kernel_rfl

set_option maxRecDepth 100000 in
theorem isnani_vc (x : Int) (w : World) (R : Ending → World → Prop) (hvc : isnani_T x w R) : Calls Tryd.prog 105 #[.int .i64 x] w R :=
  calls_of_vc (args := [.int .i64 x]) [] [] Tryd.mixed Tryd.func105 (cast (isnani_eq _ w R) hvc)

set_option maxRecDepth 100000 in
def isnani64_T (x : Int) (w : World) (R : Ending → World → Prop) : Prop :=
  R (.returned (.bool !decide (x = x))) w

set_option maxRecDepth 100000 in
theorem isnani64_eq (x : Int) (w : World) (R : Ending → World → Prop) : isnani64_T x w R = vcFn Tryd.prog [] [] Tryd.f106 [.int .i64 x] w R := by kernel_rfl

set_option maxRecDepth 100000 in
theorem isnani64_vc (x : Int) (w : World) (R : Ending → World → Prop) (hvc : isnani64_T x w R) : Calls Tryd.prog 106 #[.int .i64 x] w R :=
  calls_of_vc (args := [.int .i64 x]) [] [] Tryd.mixed Tryd.func106 (cast (isnani64_eq _ w R) hvc)

set_option maxRecDepth 100000 in
def strcmp_T (a : ByteArray) (b : ByteArray) (w : World) (R : Ending → World → Prop) : Prop :=
  Calls Tryd.prog 107 #[.string a, .string b] w fun e1 w2 ↦
 ∃ n3, e1 = .returned (.int .i64 n3) ∧ R (.returned (.int .i64 n3)) w2

set_option maxRecDepth 100000 in
theorem strcmp_eq (a : ByteArray) (b : ByteArray) (w : World) (R : Ending → World → Prop) : strcmp_T a b w R = vcFn Tryd.prog [] [] Tryd.f98 [.string a, .string b] w R := by kernel_rfl

set_option maxRecDepth 100000 in
theorem strcmp_vc (a : ByteArray) (b : ByteArray) (w : World) (R : Ending → World → Prop) (hvc : strcmp_T a b w R) : Calls Tryd.prog 98 #[.string a, .string b] w R :=
  calls_of_vc (args := [.string a, .string b]) [] [] Tryd.mixed Tryd.func98 (cast (strcmp_eq _ _ w R) hvc)

set_option maxRecDepth 100000 in
def strcmp0_T (a : ByteArray) (b : ByteArray) (w : World) (R : Ending → World → Prop) : Prop :=
  ∃ n1, ∃ (w'2 : World), Sem.run Tryd.prog (callFunc 113 #[.string a, .string b]) w = Result.ok (Next.value (.int .i64 n1)) w'2 ∧ R (.returned (.int .i64 n1)) w'2

set_option maxRecDepth 100000 in
theorem strcmp0_eq (a : ByteArray) (b : ByteArray) (w : World) (R : Ending → World → Prop) : strcmp0_T a b w R = vcFn Tryd.prog [] [] Tryd.f107 [.string a, .string b] w R := by kernel_rfl

set_option maxRecDepth 100000 in
theorem strcmp0_vc (a : ByteArray) (b : ByteArray) (w : World) (R : Ending → World → Prop) (hvc : strcmp0_T a b w R) : Calls Tryd.prog 107 #[.string a, .string b] w R :=
  calls_of_vc (args := [.string a, .string b]) [] [] Tryd.mixed Tryd.func107 (cast (strcmp0_eq _ _ w R) hvc)


end Go.Proofs.YtaccokhdmhomhaaDoor

/- The contracts of package value, of the document's answer for it, and of the words that hold rows against one another. -/
namespace Go.Proofs.YtaccokhdmhomhaaDoor
open Go Go.Vc Go.RowKit
set_option maxRecDepth 20000

theorem strcmp0_ok (a b : ByteArray) (w : World) : Calls Tryd.prog 107 #[.string a, .string b] w fun e w' => e = .returned (.int .i64 (cmpS a b)) ∧ w' = w := by
  apply strcmp0_vc
  unfold strcmp0_T
  refine ⟨_, _, ?_, rfl, rfl⟩
  rw [run_callFunc_extern Tryd.func113 (by kernel_rfl) (by kernel_rfl) (by kernel_rfl) (e := Extern.BytealgCompare.compare) (by kernel_rfl), Lib.run_compareString]
  rfl
theorem strcmp_ok (a b : ByteArray) (w : World) : Calls Tryd.prog 98 #[.string a, .string b] w fun e w' => e = .returned (.int .i64 (cmpS a b)) ∧ Ext w w' := by
  apply strcmp_vc
  unfold strcmp_T
  refine (strcmp0_ok a b w).mono ?_
  rintro e w' ⟨rfl, rfl⟩
  exact ⟨_, rfl, rfl, .rfl⟩
theorem isnani_ok (x : Int) (w : World) : Calls Tryd.prog 105 #[.int .i64 x] w fun e w' => e = .returned (.bool false) ∧ Ext w w' := by
  apply isnani_vc
  unfold isnani_T
  exact ⟨by simp, .rfl⟩
theorem isnani64_ok (x : Int) (w : World) : Calls Tryd.prog 106 #[.int .i64 x] w fun e w' => e = .returned (.bool false) ∧ Ext w w' := by
  apply isnani64_vc
  unfold isnani64_T
  exact ⟨by simp, .rfl⟩
theorem cmpint_ok (x y : Int) (w : World) : Calls Tryd.prog 96 #[.int .i64 x, .int .i64 y] w fun e w' => e = .returned (.int .i64 (cmpI x y)) ∧ Ext w w' := by
  apply cmpint_vc
  unfold cmpint_T
  refine (isnani_ok x w).mono ?_
  rintro e w1 ⟨rfl, e1⟩
  refine ⟨_, rfl, (isnani_ok y w1).mono ?_⟩
  rintro e w2 ⟨rfl, e2⟩
  have e12 := e1.trans e2
  refine ⟨_, rfl, ⟨fun h => (by cases h), fun _ => ⟨fun h => (by cases h), fun _ => ⟨fun h => ⟨?_, e12⟩, fun h => ⟨fun h' => ⟨?_, e12⟩, fun h' => ⟨?_, e12⟩⟩⟩⟩⟩⟩
  · unfold cmpI; rw [if_pos h]
  · unfold cmpI; rw [if_neg (by omega), if_pos h']
  · unfold cmpI; rw [if_neg (by omega), if_neg (by omega)]
theorem cmpint64_ok (x y : Int) (w : World) : Calls Tryd.prog 97 #[.int .i64 x, .int .i64 y] w fun e w' => e = .returned (.int .i64 (cmpI x y)) ∧ Ext w w' := by
  apply cmpint64_vc
  unfold cmpint64_T
  refine (isnani64_ok x w).mono ?_
  rintro e w1 ⟨rfl, e1⟩
  refine ⟨_, rfl, (isnani64_ok y w1).mono ?_⟩
  rintro e w2 ⟨rfl, e2⟩
  have e12 := e1.trans e2
  refine ⟨_, rfl, ⟨fun h => (by cases h), fun _ => ⟨fun h => (by cases h), fun _ => ⟨fun h => ⟨?_, e12⟩, fun h => ⟨fun h' => ⟨?_, e12⟩, fun h' => ⟨?_, e12⟩⟩⟩⟩⟩⟩
  · unfold cmpI; rw [if_pos h]
  · unfold cmpI; rw [if_neg (by omega), if_pos h']
  · unfold cmpI; rw [if_neg (by omega), if_neg (by omega)]

/-- The first of the numbers that is not 0. -/
def orI : List Int → Int
  | [] => 0
  | x :: l => if x ≠ 0 then x else orI l
theorem orI_drop {l : List Int} {k : Nat} {x : Int} (h : l[k]? = some x) : orI (l.drop k) = if x ≠ 0 then x else orI (l.drop (k + 1)) := by
  obtain ⟨hk, rfl⟩ := List.getElem?_eq_some_iff.1 h
  rw [List.drop_eq_getElem_cons hk, orI]
theorem cmpor_ok (w : World) {p : Option Addr} {n c : Nat} {l : List Int} (hl : l.length = n) (hn : n < 9223372036854775807) (h : At w p (vI .i64 l)) : Calls Tryd.prog 95 #[.slice p n c] w fun e w' => e = .returned (.int .i64 (orI l)) ∧ Ext w w' := by
  apply cmpor_vc
  unfold cmpor_T
  refine ⟨fun i w' => ∃ k : Nat, i = (k : Int) ∧ k ≤ n ∧ orI (l.drop k) = orI l ∧ Ext w w', fun i _ => n - i.toNat, ⟨0, rfl, Nat.zero_le _, rfl, .rfl⟩, ?_⟩
  rintro i w' ⟨k, rfl, hk, ho, hx⟩
  refine ⟨fun hlt => ?_, fun hge => ⟨?_, hx⟩⟩
  · obtain ⟨b, o, hp, hc⟩ := (h.ext hx).getI (i := k) (by omega)
    have hd := orI_drop (l := l) (k := k) (List.getElem?_eq_getElem (by omega))
    refine ⟨b, o, hp, by omega, by omega, _, by rw [Int.toNat_natCast]; exact hc, fun hne => ⟨?_, hx⟩, fun he => ?_⟩
    · rw [← ho, hd, if_pos hne]
    · rw [i64_next (by omega)]
      refine ⟨⟨k + 1, rfl, by omega, ?_, hx⟩, by simp only [Int.toNat_natCast]; omega⟩
      rw [← ho, hd, if_neg (by simpa using he)]
  · rw [← ho, List.drop_eq_nil_of_le (by omega)]; rfl

theorem nil_size : (ByteArray.mk #[]).size = 0 := rfl
theorem vright_ok (v : Val) (w : World) : Calls Tryd.prog 60 #[v.agg] w fun e w' => e = .returned (.bool v.right) ∧ Ext w w' := by
  apply vright_vc
  unfold vright_T
  intro b1 w2 h1
  have H1 := (Hold.start (Ext.rfl (w := w))).new h1
  obtain ⟨p0, p1, p2⟩ := (H1.blk 0 rfl).c3
  refine ⟨_, p0, fun b5 w6 h5 => ?_⟩
  have H5 := H1.new h5
  obtain ⟨q0, q1, q2⟩ := (H5.blk 0 rfl).c3
  refine ⟨⟨_, q0⟩, (H5.blk 0 rfl).frozen _, ⟨_, q1⟩, (H5.blk 0 rfl).frozen _, ⟨_, q2⟩, (H5.blk 0 rfl).frozen _, fun w11 h11 => ?_⟩
  have H11 := H5.put 0 rfl h11
  have B1 : Blk w11 b1 26 #[.int .i64 v.k, .int .i64 v.n, .string v.s] := H11.blk 1 rfl
  have B5 : Blk w11 b5 26 #[.int .i64 v.k, .int .i64 0, .string ⟨#[]⟩] := H11.blk 0 rfl
  obtain ⟨a0, a1, a2⟩ := B1.c3
  obtain ⟨d0, d1, d2⟩ := B5.c3
  have hx := H11.ext
  have key : ∀ (b : Bool) w', Ext w w' → (b = true ↔ v.Ok) → Ending.returned (Value.bool b) = Ending.returned (Value.bool v.right) ∧ Ext w w' := by
    intro b w' hx hb
    refine ⟨?_, hx⟩
    have : b = v.right := by unfold Val.right; rw [Bool.eq_iff_iff, hb]; simp
    rw [this]
  refine ⟨_, a0, fun hk => ?_, fun hk0 => ⟨fun hk => ?_, fun hk1 => ⟨fun hk => ?_, fun hk2 => ⟨fun hk => ?_, fun hk3 => ?_⟩⟩⟩⟩
  · refine ⟨_, a0, fun _ => ⟨_, a0, fun _ => ⟨_, a0, _, a1, _, a2, _, d0, _, d1, _, d2, fun he => ⟨_, a2, key _ _ hx ?_⟩, fun he => key _ _ hx ?_⟩, fun _ => by omega⟩, fun _ => by omega⟩
    · unfold Val.Ok; rw [he.2.2]; simp [hk, he.2.1, nil_size]
    · unfold Val.Ok; constructor
      · intro h; cases h
      · intro h; rcases h with h | h | h | h
        · rcases he with e | e | e
          · exact absurd rfl e
          · exact absurd h.2.1 e
          · exact absurd h.2.2 e
        · omega
        · omega
        · omega
  · refine ⟨_, a1, ⟨_, d1⟩, B5.frozen _, fun w34 h34 => ?_⟩
    have H34 := H11.put 0 rfl h34
    have B1' : Blk w34 b1 26 #[.int .i64 v.k, .int .i64 v.n, .string v.s] := H34.blk 1 rfl
    have B5' : Blk w34 b5 26 #[.int .i64 v.k, .int .i64 v.n, .string ⟨#[]⟩] := H34.blk 0 rfl
    obtain ⟨a0, a1, a2⟩ := B1'.c3
    obtain ⟨d0, d1, d2⟩ := B5'.c3
    refine ⟨_, a0, fun _ => ⟨_, a0, fun _ => ⟨_, a0, _, a1, _, a2, _, d0, _, d1, _, d2, fun he => ⟨_, a2, key _ _ H34.ext ?_⟩, fun he => key _ _ H34.ext ?_⟩, fun _ => by omega⟩, fun _ => by omega⟩
    · unfold Val.Ok; rw [he.2.2]; simp [hk, nil_size]
    · unfold Val.Ok; constructor
      · intro h; cases h
      · intro h; rcases h with h | h | h | h
        · omega
        · rcases he with e | e | e
          · exact absurd rfl e
          · exact absurd rfl e
          · exact absurd h.2 e
        · omega
        · omega
  · refine ⟨_, a1, ⟨_, d1⟩, B5.frozen _, fun w34 h34 => ?_⟩
    have H34 := H11.put 0 rfl h34
    have B1' : Blk w34 b1 26 #[.int .i64 v.k, .int .i64 v.n, .string v.s] := H34.blk 1 rfl
    have B5' : Blk w34 b5 26 #[.int .i64 v.k, .int .i64 (bits .and .i64 v.n 1), .string ⟨#[]⟩] := H34.blk 0 rfl
    rw [and1_i64] at B5'
    obtain ⟨a0, a1, a2⟩ := B1'.c3
    obtain ⟨d0, d1, d2⟩ := B5'.c3
    refine ⟨_, a0, fun _ => ⟨_, a0, fun _ => ⟨_, a0, _, a1, _, a2, _, d0, _, d1, _, d2, fun he => ⟨_, a2, key _ _ H34.ext ?_⟩, fun he => key _ _ H34.ext ?_⟩, fun _ => by omega⟩, fun _ => by omega⟩
    · unfold Val.Ok
      have : v.n = 0 ∨ v.n = 1 := by omega
      rw [he.2.2]; simp [hk, this, nil_size]
    · unfold Val.Ok; constructor
      · intro h; cases h
      · intro h; rcases h with h | h | h | h
        · omega
        · omega
        · rcases he with e | e | e
          · exact absurd rfl e
          · omega
          · exact absurd h.2.2 e
        · omega
  · refine ⟨_, a2, ⟨_, d2⟩, B5.frozen _, fun w34 h34 => ?_⟩
    have H34 := H11.put 0 rfl h34
    have B1' : Blk w34 b1 26 #[.int .i64 v.k, .int .i64 v.n, .string v.s] := H34.blk 1 rfl
    have B5' : Blk w34 b5 26 #[.int .i64 v.k, .int .i64 0, .string v.s] := H34.blk 0 rfl
    obtain ⟨a0, a1, a2⟩ := B1'.c3
    obtain ⟨d0, d1, d2⟩ := B5'.c3
    refine ⟨_, a0, fun _ => ⟨_, a0, fun _ => ⟨_, a0, _, a1, _, a2, _, d0, _, d1, _, d2, fun he => ⟨_, a2, key _ _ H34.ext ?_⟩, fun he => key _ _ H34.ext ?_⟩, fun _ => by omega⟩, fun _ => by omega⟩
    · unfold Val.Ok; simp only [decide_eq_true_eq]
      constructor
      · intro h; exact .inr (.inr (.inr ⟨hk, he.2.1, by omega⟩))
      · intro h; rcases h with h | h | h | h <;> omega
    · unfold Val.Ok; constructor
      · intro h; cases h
      · intro h; rcases h with h | h | h | h
        · omega
        · omega
        · omega
        · rcases he with e | e | e
          · exact absurd rfl e
          · exact absurd h.2.1 e
          · exact absurd rfl e
  · have no : ¬ v.Ok := by unfold Val.Ok; omega
    refine ⟨_, a0, fun _ => ⟨_, a0, fun _ => ⟨_, a0, _, a1, _, a2, _, d0, _, d1, _, d2, fun he => by omega, fun he => key _ _ hx (by simp [no])⟩, fun _ => key _ _ hx (by simp [no])⟩, fun _ => key _ _ hx (by simp [no])⟩

theorem vcompare_ok (a b : Val) (w : World) : Calls Tryd.prog 82 #[a.agg, b.agg] w fun e w' => e = .returned (.int .i64 (cmpV a b)) ∧ Ext w w' := by
  apply vcompare_vc
  unfold vcompare_T
  intro b1 w2 h1 b4 w5 h4 w7 h7
  have H := (((Hold.start (Ext.rfl (w := w))).new h1).new h4).step h7.ext
  obtain ⟨p0, p1, p2⟩ := (H.blk 1 rfl).c3
  obtain ⟨q0, q1, q2⟩ := (H.blk 0 rfl).c3
  refine ⟨_, p0, _, q0, _, p1, _, q1, _, p2, _, q2, (cmpint_ok _ _ w7).mono ?_⟩
  rintro e w16 ⟨rfl, e16⟩
  refine ⟨_, rfl, e16.same, (cmpint64_ok _ _ w16).mono ?_⟩
  rintro e w19 ⟨rfl, e19⟩
  refine ⟨_, rfl, e19.same, (strcmp_ok _ _ w19).mono ?_⟩
  rintro e w22 ⟨rfl, e22⟩
  refine ⟨_, rfl, fun b24 w25 h24 => ?_⟩
  have H25 := ((H.step e16).step e19).step e22
  have H26 := H25.new h24
  refine (cmpor_ok (l := [cmpI a.k b.k, cmpI a.n b.n, cmpS a.s b.s]) w25 rfl (by simp) h24.at).mono ?_
  rintro e w28 ⟨rfl, e28⟩
  refine ⟨_, rfl, ?_, (H26.step e28).ext⟩
  have : orI [cmpI a.k b.k, cmpI a.n b.n, cmpS a.s b.s] = cmpV a b := by
    rw [cmpV_def]
    simp only [orI]
    congr 1
    congr 1
    by_cases h : cmpS a.s b.s = 0 <;> simp [h]
  rw [this]

end Go.Proofs.YtaccokhdmhomhaaDoor

/- The contracts of package schema: schemas, and columns by name; the document's answer for them. -/
namespace Go.Proofs.YtaccokhdmhomhaaDoor
open Go Go.Vc Go.RowKit
set_option maxRecDepth 20000

/-- What is asked of byte k of a name. -/
def nameB (k : Nat) (x : UInt8) : Bool := if k = 0 then letterB x else otherB x
section
variable {w : World} {p rp : Option Addr} {n c rn rc : Nat} {cols : List Col} {row : List Val}

/-! ### Find -/
theorem sfind1_ok (x : Col) {fv : Nat} {name : ByteArray} (h : w.cell? ⟨fv, 0, none⟩ = some (.string name)) :
    Calls Tryd.prog 67 #[.agg #[.string x.name, .int .i64 x.kind, .bool x.null], .pointer (some ⟨fv, 0, none⟩)] w fun e w' => e = .returned (.bool (decide (x.name = name))) ∧ Ext w w' := by
  apply sfind1_vc
  unfold sfind1_T
  intro b1 w2 h1
  refine ⟨_, by rw [(Blk.new h1).cell]; rfl, _, cell_ext h h1.ext, ?_, h1.ext⟩
  have : sEq x.name name = decide (x.name = name) := by rw [Bool.eq_iff_iff, sEq_iff, decide_eq_true_eq]
  rw [this]
theorem ifcol_ok (h : Cols w p n c cols) {fv : Nat} {name : ByteArray} (hf : w.cell? ⟨fv, 0, none⟩ = some (.string name)) :
    Calls Tryd.prog 66 #[.slice p n c, .func (.func 67) #[] #[.pointer (some ⟨fv, 0, none⟩)]] w fun e w' => e = .returned (.int .i64 (findC cols name)) ∧ Ext w w' := by
  apply ifcol_vc
  unfold ifcol_T
  have hl := h.len
  have hm : n ≤ 9223372036854775807 := h.le
  refine ⟨fun i w' => ∃ k : Nat, i = (k : Int) ∧ k ≤ n ∧ (∀ (j : Nat) y, j < k → cols[j]? = some y → y.name ≠ name) ∧ Ext w w', fun i _ => n - i.toNat, ⟨0, rfl, Nat.zero_le _, fun j y hj => by omega, .rfl⟩, ?_⟩
  rintro i w4 ⟨k, rfl, hk, hb, hx⟩
  refine ⟨fun hlt => ?_, fun hge => ⟨?_, hx⟩⟩
  · have g : cols[k]? = some (cols[k]'(by omega)) := List.getElem?_eq_getElem _
    generalize cols[k]'(by omega) = x at g
    obtain ⟨b, o, hp, c0, c1, c2⟩ := (h.ext hx).col g
    simp only [Int.toNat_natCast]
    refine ⟨b, o, hp, by omega, by omega, _, c0, _, c1, _, c2, (sfind1_ok x (cell_ext hf hx)).mono ?_⟩
    rintro e w13 ⟨rfl, e13⟩
    refine ⟨_, rfl, fun hd => ⟨?_, hx.trans e13⟩, fun hd => ?_⟩
    · rw [findC_at g (of_decide_eq_true hd) hb]
    · rw [i64_next (by omega)]
      refine ⟨⟨k + 1, rfl, by omega, fun j y hj hy => ?_, hx.trans e13⟩, by simp only [Int.toNat_natCast]; omega⟩
      by_cases hjk : j = k
      · subst hjk; rw [g] at hy; cases hy; exact of_decide_eq_false hd
      · exact hb j y (by omega) hy
  · rw [findC_none fun x hx => ?_]
    obtain ⟨j, hj⟩ := List.mem_iff_getElem?.1 hx
    exact hb j x (by have := (List.getElem?_eq_some_iff.1 hj).1; omega) hj
theorem sfind_ok (h : Cols w p n c cols) (name : ByteArray) : Calls Tryd.prog 43 #[.slice p n c, .string name] w fun e w' => e = .returned (.int .i64 (findC cols name)) ∧ Ext w w' := by
  apply sfind_vc
  unfold sfind_T
  intro b1 w2 h1
  refine (ifcol_ok (h.ext h1.ext) (Blk.new h1).one).mono ?_
  rintro e w5 ⟨rfl, e5⟩
  exact ⟨_, rfl, rfl, h1.ext.trans e5⟩
/-! ### Right -/
/-- The map of names that were met. -/
def metL (l : List Col) : List (ByteArray × Value) := l.foldl (fun m x => setS m x.name (.bool true)) []
theorem metL_snoc (l : List Col) (x : Col) : metL (l ++ [x]) = setS (metL l) x.name (.bool true) := by simp [metL]
theorem metL_look (l : List Col) (s : ByteArray) : (lookS (metL l) s).getD (.bool false) = .bool ((l.map Col.name).contains s) := by
  have key : ∀ (l : List Col) (m : List (ByteArray × Value)), lookS (l.foldl (fun m x => setS m x.name (.bool true)) m) s = if (l.map Col.name).contains s then some (.bool true) else lookS m s := by
    intro l
    induction l with
    | nil => intro m; simp
    | cons x l ih =>
      intro m
      rw [List.foldl_cons, ih, lookS_setS, List.map_cons]
      by_cases hx : x.name = s
      · subst hx; simp
      · simp [hx, Ne.symm hx]
  unfold metL
  rw [key]
  cases (l.map Col.name).contains s <;> rfl
theorem sright_ok (h : Cols w p n c cols) : Calls Tryd.prog 27 #[.slice p n c] w fun e w' => e = .returned (.bool (rightC cols)) ∧ Ext w w' := by
  apply sright_vc
  unfold sright_T
  intro b1 w2 h1
  have hl := h.len
  have hm : n ≤ 9223372036854775807 := h.le
  have H1 := (Hold.start (Ext.rfl (w := w))).new h1
  refine ⟨fun i w' => ∃ (k : Nat) (es : Array MapEntry) (clock : Nat), i = (k : Int) ∧ k ≤ n ∧ colsOk [] (cols.take k) = true ∧ MapL es (metL (cols.take k)) ∧ Hold w w' [(b1, .map es clock)] [], fun i _ => n - i.toNat, ⟨0, _, _, rfl, Nat.zero_le _, by simp [colsOk], by simp [metL, MapL], H1⟩, ?_⟩
  rintro i w7 ⟨k, es, clock, rfl, hk, hok, hmap, H⟩
  refine ⟨fun hlt => ?_, fun hge => ⟨?_, H.ext⟩⟩
  · have g : cols[k]? = some (cols[k]'(by omega)) := List.getElem?_eq_getElem _
    generalize cols[k]'(by omega) = x at g
    obtain ⟨b, o, hp, c0, c1, c2⟩ := (h.ext H.ext).col g
    have hdec : colOk ((cols.take k).map Col.name) x = false → rightC cols = false := by
      intro hv
      unfold rightC
      have hc : cols = cols.take k ++ x :: cols.drop (k + 1) := by
        obtain ⟨hk', rfl⟩ := List.getElem?_eq_some_iff.1 g
        rw [← List.drop_eq_getElem_cons hk', List.take_append_drop]
      have : colsOk [] cols = false := by
        conv => lhs; rw [hc, colsOk_append]
        rw [hok, List.nil_append]
        unfold colsOk
        rw [hv]; rfl
      rw [this, Bool.and_false]
    simp only [Int.toNat_natCast]
    refine ⟨b, o, hp, by omega, by omega, _, c0, _, c1, _, c2, fun b15 w16 h16 => ?_⟩
    have H16 := H.new h16
    obtain ⟨q0, q1, q2⟩ := (H16.blk 0 rfl).c3
    refine ⟨⟨_, q0⟩, (H16.blk 0 rfl).frozen _, ⟨_, q1⟩, (H16.blk 0 rfl).frozen _, ⟨_, q2⟩, (H16.blk 0 rfl).frozen _, fun w21 h21 => ?_⟩
    have H21 := H16.put 0 rfl h21
    have B : Blk w21 b15 55 #[.string x.name, .int .i64 x.kind, .bool x.null] := H21.blk 0 rfl
    obtain ⟨q0, q1, q2⟩ := B.c3
    refine ⟨_, q0, (sisname_ok x.name w21).mono ?_⟩
    rintro e w25 ⟨rfl, e25⟩
    have H25 := H21.step e25
    have B25 := B.ext e25
    obtain ⟨q0, q1, q2⟩ := B25.c3
    have hM : w25.heap[b1]? = some (.map es clock) := H25.holds 1 _ rfl
    refine ⟨_, rfl, fun hn => ⟨?_, H25.ext⟩, fun hn => ⟨_, q0, ((cols.take k).map Col.name).contains x.name, fun w1 hs => ?_, fun hin => ⟨?_, H25.ext⟩, fun hin => ⟨_, q1, fun hlow => ⟨?_, H25.ext⟩, fun hge => ⟨_, q1, fun hhi => ⟨?_, H25.ext⟩, fun hle => ⟨_, q0, ?_⟩⟩⟩⟩⟩
    · rw [hdec (by unfold colOk; rw [hn]; rfl)]
    · rw [← metL_look]
      exact map_look (kt := 9) (e := 4) (by kernel_rfl) (by kernel_rfl) (run_zeroOf (by kernel_rfl) w1) ((hs b1 (H25.lt 1 rfl)).trans hM) hmap
    · rw [hdec (by unfold colOk; rw [hn, hin]; rfl)]
    · rw [hdec (by unfold colOk; rw [hn, hin, decide_eq_false (by omega)]; rfl)]
    · rw [hdec (by unfold colOk; rw [hn, hin, decide_eq_false (by omega)]; rfl)]
    · obtain ⟨w42, es', clock', hrun, hobj, hmap', hbut, hsz⟩ := map_set (P := Tryd.prog) (t := 83) (kt := 9) (e := 4) (s := x.name) (by kernel_rfl) (by kernel_rfl) hM hmap (.bool true)
      refine ⟨w42, hrun, ?_⟩
      rw [i64_next (by omega)]
      have htk : cols.take (k + 1) = cols.take k ++ [x] := by rw [List.take_add_one, g]; rfl
      refine ⟨⟨k + 1, es', clock', rfl, by omega, ?_, ?_, (H25.upd 1 rfl hbut hobj).tail⟩, by simp only [Int.toNat_natCast]; omega⟩
      · rw [htk, colsOk_append, hok, List.nil_append]
        unfold colsOk colOk
        rw [hn, hin, decide_eq_true (by omega)]; rfl
      · rw [htk, metL_snoc]; exact hmap'
  · have hk' : k = n := by omega
    subst hk'
    rw [List.take_of_length_le (by omega)] at hok
    have : (decide ((0 : Int) < (k : Int)) && decide ((k : Int) ≤ 16)) = rightC cols := by
      unfold rightC
      rw [hok, Bool.and_true, Bool.eq_iff_iff, Bool.and_eq_true, decide_eq_true_eq, decide_eq_true_eq, decide_eq_true_eq]
      omega
    rw [this]
end
end Go.Proofs.YtaccokhdmhomhaaDoor

/- The contracts of package schema: rows that fit; the document's answer for them. -/
namespace Go.Proofs.YtaccokhdmhomhaaDoor
open Go Go.Vc Go.RowKit
set_option maxRecDepth 20000

section
variable {w : World} {p rp : Option Addr} {n c rn rc : Nat} {cols : List Col} {row : List Val}

/-! ### Rows that fit -/
theorem spairs_ok (w : World) : Calls Tryd.prog 77 #[.slice p n c, .slice rp rn rc] w fun e w' => ∃ b1 b4, e = .returned (.func (.func 94) #[] #[.pointer (some ⟨b1, 0, none⟩), .pointer (some ⟨b4, 0, none⟩)]) ∧
    ∀ fs ms w0, Hold w0 w fs ms → Hold w0 w' ((b4, .cells #[.slice rp rn rc] 50) :: (b1, .cells #[.slice p n c] 22) :: fs) ms := by
  apply spairs_vc
  unfold spairs_T
  intro b1 w2 h1 b4 w5 h4
  exact ⟨b1, b4, rfl, fun fs ms w0 h => (h.new h1).new h4⟩

theorem spairs1_ok {l0 fv0 fv1 : Nat} (w0 : World) (h : Cols w0 p n c cols) (hr : Vs w0 rp rn rc row) (hlen : rn = n) (Inv : Nat → World → Prop) (Stop : World → Prop) {w : World} (h0 : Inv 0 w)
    (hex : ∀ k W, Inv k W → Ext w0 W) (hc0 : ∀ k W, Inv k W → W.cell? ⟨fv0, 0, none⟩ = some (.slice p n c)) (hc1 : ∀ k W, Inv k W → W.cell? ⟨fv1, 0, none⟩ = some (.slice rp rn rc))
    (hstep : ∀ k W W', Inv k W → Ext W W' → Inv k W')
    (hy : ∀ k x v W (R : Bool → World → Prop), k < n → cols[k]? = some x → row[k]? = some v → Inv k W → (∀ W', Inv (k + 1) W' → R true W') → (∀ W', Stop W' → R false W') → Yield Tryd.prog l0 #[x.agg, v.agg] W R) :
    Calls Tryd.prog 94 #[.func (.yield l0) #[] #[], .pointer (some ⟨fv0, 0, none⟩), .pointer (some ⟨fv1, 0, none⟩)] w fun e W' => e = .returned (.tuple #[]) ∧ (Inv n W' ∨ Stop W') := by
  apply spairs1_vc
  unfold spairs1_T
  subst hlen
  have hl := h.len
  have hrl := hr.len
  have hm : rn ≤ 9223372036854775807 := h.le
  refine ⟨_, _, _, hc0 _ _ h0, fun i W => ∃ k : Nat, i = (k : Int) ∧ k ≤ rn ∧ Inv k W, fun i _ => rn - i.toNat, ⟨0, rfl, Nat.zero_le _, h0⟩, ?_⟩
  rintro i w7 ⟨k, rfl, hk, hI⟩
  refine ⟨fun hlt => ?_, fun hge => ?_⟩
  · have g : cols[k]? = some (cols[k]'(by omega)) := List.getElem?_eq_getElem _
    generalize cols[k]'(by omega) = x at g
    have gv : row[k]? = some (row[k]'(by omega)) := List.getElem?_eq_getElem _
    generalize row[k]'(by omega) = v at gv
    obtain ⟨b, o, hp, c0, c1, c2⟩ := (h.ext (hex _ _ hI)).col g
    simp only [Int.toNat_natCast]
    refine ⟨b, o, hp, by omega, by omega, _, c0, _, c1, _, c2, fun b15 w16 h16 => ?_⟩
    have H16 := (Hold.start (Ext.rfl (w := w7))).new h16
    obtain ⟨q0, q1, q2⟩ := (H16.blk 0 rfl).c3
    refine ⟨⟨_, q0⟩, (H16.blk 0 rfl).frozen _, ⟨_, q1⟩, (H16.blk 0 rfl).frozen _, ⟨_, q2⟩, (H16.blk 0 rfl).frozen _, fun w21 h21 w23 h23 => ?_⟩
    have H21 := (H16.put 0 rfl h21).step h23.ext
    have B : Blk w23 b15 55 #[.string x.name, .int .i64 x.kind, .bool x.null] := H21.blk 0 rfl
    obtain ⟨q0, q1, q2⟩ := B.c3
    have hI23 := hstep _ _ _ hI H21.ext
    obtain ⟨b2, o2, hp2, d0, d1, d2⟩ := (hr.ext (hex _ _ hI23)).val gv
    refine ⟨_, q0, _, q1, _, q2, _, _, _, hc1 _ _ hI23, b2, o2, hp2, by omega, by omega, _, d0, _, d1, _, d2, ?_⟩
    refine hy k x v w23 _ (by omega) g gv hI23 (fun W' hI' => ⟨fun h => (by cases h), fun _ => ?_⟩) fun W' hS => ⟨fun _ => ⟨by trivial, .inr hS⟩, fun h => (by cases h)⟩
    rw [i64_next (by omega)]
    exact ⟨⟨k + 1, rfl, by omega, hI'⟩, by simp only [Int.toNat_natCast]; omega⟩
  · have : k = rn := by omega
    subst this
    exact ⟨rfl, .inl hI⟩

theorem sfits0_ok (h : Cols w p n c cols) (hr : Vs w rp rn rc row) : Calls Tryd.prog 58 #[.slice p n c, .slice rp rn rc] w fun e w' => e = .returned (.bool (fitsL cols row)) ∧ Ext w w' := by
  apply sfits0_vc
  unfold sfits0_T
  intro b1 w2 h1
  have hl := h.len
  have hrl := hr.len
  have hm : n ≤ 9223372036854775807 := h.le
  have H1 := (Hold.start (Ext.rfl (w := w))).new h1
  refine ⟨fun hne => ?_, fun heq => (spairs_ok w2).mono ?_⟩
  · have B1 := H1.blk 0 rfl
    refine ⟨⟨_, B1.one⟩, B1.frozen 0, fun w6 h6 => ?_⟩
    have H6 := H1.box 0 rfl h6
    refine ⟨_, (H6.blk 0 rfl).one, ?_, H6.ext⟩
    have : fitsL cols row = false := by
      rw [← Bool.not_eq_true]
      intro hf
      have := fitsL_length hf
      omega
    rw [this]
  · rintro e w11 ⟨bc, br, rfl, hH⟩
    have H11 := hH _ _ _ H1
    refine ⟨_, rfl, _, _, rfl, by kernel_rfl, fun r d l w18 hB hY => ?_⟩
    have HB := H11.began hB
    let fs : Nat → Bool → List (Nat × Obj) := fun q v => [(l, .loop (r q)), (d, .deferred (some [])), (br, .cells #[.slice rp rn rc] 50), (bc, .cells #[.slice p n c] 22), (b1, .cells #[.bool v] 4)]
    refine (spairs1_ok (cols := cols) (row := row) w h hr (by omega) (fun k W => (fitsL (cols.drop k) (row.drop k) = fitsL cols row) ∧ Hold w W (fs 0 false) []) (fun W => fitsL cols row = false ∧ Hold w W (fs 3 false) []) ⟨rfl, HB⟩ (fun k W hI => hI.2.ext) (fun k W hI => (hI.2.blk 3 rfl).one) (fun k W hI => (hI.2.blk 2 rfl).one) (fun k W W' hI e => ⟨hI.1, hI.2.step e⟩) ?_).mono ?_
    · rintro k x v W R hk g gv ⟨hf, H⟩ yes no
      have hfd := fitsL_drop g gv
      refine hY _ _ _ _ _ _ W R (H.loop 0 rfl) fun b29 w30 h30 => ?_
      have H30 := H.new h30
      obtain ⟨q0, q1, q2⟩ := (H30.blk 0 rfl).c3
      refine ⟨⟨_, q0⟩, (H30.blk 0 rfl).frozen _, ⟨_, q1⟩, (H30.blk 0 rfl).frozen _, ⟨_, q2⟩, (H30.blk 0 rfl).frozen _, fun w35 h35 b37 w38 h38 => ?_⟩
      have H38 := (H30.put 0 rfl h35).new h38
      obtain ⟨q0, q1, q2⟩ := (H38.blk 0 rfl).c3
      refine ⟨⟨_, q0⟩, (H38.blk 0 rfl).frozen _, ⟨_, q1⟩, (H38.blk 0 rfl).frozen _, ⟨_, q2⟩, (H38.blk 0 rfl).frozen _, fun w43 h43 => ?_⟩
      have H43 := H38.put 0 rfl h43
      refine ⟨H43.loop 2 rfl, ?_⟩
      rintro Wb rfl
      have H45 := H43.turn 2 1 rfl
      have Bv : Blk (turn r l 1 w43) b37 26 #[.int .i64 v.k, .int .i64 v.n, .string v.s] := H45.blk 0 rfl
      obtain ⟨v0, v1, v2⟩ := Bv.c3
      refine ⟨_, v0, _, v1, _, v2, (vright_ok v _).mono ?_⟩
      rintro e w51 ⟨rfl, e51⟩
      have H51 := H45.step e51
      have Bv : Blk w51 b37 26 #[.int .i64 v.k, .int .i64 v.n, .string v.s] := H51.blk 0 rfl
      have Bc : Blk w51 b29 55 #[.string x.name, .int .i64 x.kind, .bool x.null] := H51.blk 1 rfl
      obtain ⟨v0, v1, v2⟩ := Bv.c3
      obtain ⟨c0, c1, c2⟩ := Bc.c3
      have B1 : Blk w51 b1 4 #[.bool false] := H51.blk 6 rfl
      -- a value that does not fit
      have stop : valFits x v = false → (∃ u, w51.cell? ⟨b1, 0, none⟩ = some u) ∧ w51.frozen? ⟨b1, 0, none⟩ = false ∧ ∀ w55 : World, Put w51 b1 0 [.bool false] w55 → Rec r l 1 w55 ∧ R false (turn r l 3 w55) := by
        intro hb
        refine ⟨⟨_, B1.one⟩, B1.frozen 0, fun w55 h55 => ?_⟩
        have H55 := H51.box 6 rfl h55
        refine ⟨H55.loop 2 rfl, no _ ⟨?_, (H55.turn 2 3 rfl).tail.tail⟩⟩
        rw [← hf, hfd, hb]; rfl
      have go : valFits x v = true → Rec r l 1 w51 ∧ R true (turn r l 0 w51) := by
        intro hb
        refine ⟨H51.loop 2 rfl, yes _ ⟨?_, (H51.turn 2 0 rfl).tail.tail⟩⟩
        rw [← hf, hfd, hb]; rfl
      refine ⟨_, rfl, fun hb => stop (by unfold valFits; rw [hb]; rfl), fun hb => ⟨_, v0, _, c1, fun hne => ⟨_, c2, fun hnull => ⟨_, v0, fun h0 => stop ?_, fun h0 => go ?_⟩, fun hnull => stop ?_⟩, fun he => go ?_⟩⟩
      · unfold valFits; rw [hb, decide_eq_false hne, hnull, decide_eq_false h0]; rfl
      · unfold valFits; rw [hb, decide_eq_false hne, hnull, decide_eq_true h0]; rfl
      · unfold valFits; rw [hb, decide_eq_false hne, hnull]; rfl
      · unfold valFits; rw [hb, decide_eq_true he]; rfl
    · rintro e W ⟨rfl, hI | hS⟩
      · obtain ⟨hf, H⟩ := hI
        refine ⟨⟨_, rfl⟩, .inl ⟨H.loop 0 rfl, ?_⟩⟩
        have H2 := H.turn 0 2 rfl
        have B1 : Blk (turn r l 2 W) b1 4 #[.bool false] := H2.blk 4 rfl
        refine ⟨⟨_, B1.one⟩, B1.frozen 0, fun w82 h82 => ?_⟩
        have H82 := H2.box 4 rfl h82
        have H83 := H82.shut 1 rfl
        refine ⟨H82.dfr 1 rfl, _, (H83.blk 4 rfl).one, ?_, H83.ext⟩
        rw [← hf, List.drop_eq_nil_of_le (by omega), List.drop_eq_nil_of_le (by omega)]; rfl
      · obtain ⟨hf, H⟩ := hS
        refine ⟨⟨_, rfl⟩, .inr (.inl ⟨H.loop 0 rfl, ?_⟩)⟩
        have H2 := H.turn 0 4 rfl
        have H83 := H2.shut 1 rfl
        refine ⟨H2.dfr 1 rfl, _, (H83.blk 4 rfl).one, ?_, H83.ext⟩
        rw [hf]
theorem sfits_ok (h : Cols w p n c cols) (hr : Vs w rp rn rc row) : Calls Tryd.prog 30 #[.slice p n c, .slice rp rn rc] w fun e w' => e = .returned (.bool (fitsC cols row)) ∧ Ext w w' := by
  apply sfits_vc
  unfold sfits_T
  refine (sright_ok h).mono ?_
  rintro e w2 ⟨rfl, e2⟩
  refine ⟨_, rfl, fun hb => (sfits0_ok (h.ext e2) (hr.ext e2)).mono ?_, fun hb => ⟨by unfold fitsC; rw [hb]; rfl, e2⟩⟩
  rintro e w6 ⟨rfl, e6⟩
  exact ⟨_, rfl, by unfold fitsC; rw [hb]; rfl, e2.trans e6⟩
end
end Go.Proofs.YtaccokhdmhomhaaDoor

/- What is handed in, opened, with the depth that is left: for things that hold things of their own type. -/
namespace Go.Vc
open Go Go.RowKit

/-- As 'Arg', of a depth that is told. -/
def ArgF (f : Nat) (P : Program) (w : World) (t : TypeId) (cs : List Value) : Prop :=
  ∃ (H : Type) (enc : TypeId × Value → H) (d : DataW H) (ps : List MemPlace), DataW.trod enc P w 0 (fun _ => true) true f t cs = some (d, ps) ∧ ∀ n ∈ d.weights P t, n ≤ 140737488351232
theorem Arg.told {P : Program} {w : World} {t : TypeId} {cs : List Value} (h : Arg P w t cs) : ∃ f, ArgF f P w t cs := by
  obtain ⟨H, enc, f, d, ps, h, hw⟩ := h
  exact ⟨f, H, enc, d, ps, h, hw⟩
theorem ArgF.arg {f : Nat} {P : Program} {w : World} {t : TypeId} {cs : List Value} (h : ArgF f P w t cs) : Arg P w t cs := by
  obtain ⟨H, enc, d, ps, h, hw⟩ := h
  exact ⟨H, enc, f, d, ps, h, hw⟩
theorem ArgF.pos {f : Nat} {P : Program} {w : World} {t : TypeId} {cs : List Value} (h : ArgF f P w t cs) : ∃ n, f = n + 1 := by
  obtain ⟨H, enc, d, ps, h, hw⟩ := h
  cases f with
  | zero => cases h
  | succ n => exact ⟨n, rfl⟩
section
variable {P : Program} {w : World} {t : TypeId} {cs : List Value}

theorem ArgF.struct {fs : Array Field} {n : Nat} (hu : P.underlying t = some (.struct fs)) (h : ArgF (n + 1) P w t cs) : cs.length = P.cellsOf t ∧ ∀ f ∈ fs.toList, ArgF n P w f.type ((cs.drop f.offset).take (P.cellsOf f.type)) := by
  obtain ⟨H, enc, d, ps, h, hw⟩ := h
  · simp only [DataW.trod, hu] at h
    split at h
    · rename_i hl
      refine ⟨hl, fun f hf => ?_⟩
      cases hm : fs.toList.mapM fun f => DataW.trod enc P w 0 (fun _ => true) true n f.type ((cs.drop f.offset).take (P.cellsOf f.type)) with
      | none => rw [hm] at h; cases h
      | some xs =>
        rw [hm] at h
        cases h
        obtain ⟨i, hi⟩ := List.mem_iff_getElem?.1 hf
        obtain ⟨h1, h2⟩ := mapM_some hm
        obtain ⟨y, hy, hfy⟩ := h2 i f hi
        refine ⟨H, enc, y.1, y.2, hfy, fun k hk => hw k ?_⟩
        simp only [DataW.weights, hu]
        exact DataW.weights_mem_each (j := i) (by simp [hi]) (by simp [hy]) k hk
    · cases h

theorem ArgF.slice {e : TypeId} {m : Nat} (hu : P.underlying t = some (.slice e)) (h0 : 0 < P.cellsOf e) (h : ArgF (m + 1) P w t cs) :
    ∃ (p : Option Addr) (n c : Nat) (css : List (List Value)), cs = [.slice p n c] ∧ n ≤ c ∧ c ≤ maxLen ∧ c * P.bytesOf e ≤ 140737488351232 ∧ css.length = c ∧ (∀ x ∈ css, x.length = P.cellsOf e ∧ ArgF m P w e x) ∧ At w p css.flatten ∧ (p = none → n = 0 ∧ c = 0) := by
  obtain ⟨H, enc, d, ps, h, hw⟩ := h
  · have shape : (cs = [.slice none 0 0]) ∨ ∃ a n c, cs = [.slice (some a) n c] := by
      match cs, h with
      | [], h => simp [DataW.trod, hu] at h
      | [.slice none 0 0], _ => exact .inl rfl
      | [.slice none (n + 1) c], h => simp [DataW.trod, hu] at h
      | [.slice none 0 (c + 1)], h => simp [DataW.trod, hu] at h
      | [.slice (some a) n c], _ => exact .inr ⟨a, n, c, rfl⟩
      | [.bool _], h => simp [DataW.trod, hu] at h
      | [.int _ _], h => simp [DataW.trod, hu] at h
      | [.float _ _], h => simp [DataW.trod, hu] at h
      | [.complex _ _ _], h => simp [DataW.trod, hu] at h
      | [.string _], h => simp [DataW.trod, hu] at h
      | [.pointer _], h => simp [DataW.trod, hu] at h
      | [.map _], h => simp [DataW.trod, hu] at h
      | [.chan _], h => simp [DataW.trod, hu] at h
      | [.nilFunc], h => simp [DataW.trod, hu] at h
      | [.func _ _ _], h => simp [DataW.trod, hu] at h
      | [.nilIface], h => simp [DataW.trod, hu] at h
      | [.iface _ _], h => simp [DataW.trod, hu] at h
      | [.tuple _], h => simp [DataW.trod, hu] at h
      | [.agg _], h => simp [DataW.trod, hu] at h
      | _ :: _ :: _, h => simp [DataW.trod, hu] at h
    rcases shape with rfl | ⟨a, len, cap, rfl⟩
    · exact ⟨none, 0, 0, [], rfl, Nat.le_refl _, Nat.zero_le _, by simp, rfl, fun x hx => by simp at hx, At.nil _ _, fun _ => ⟨rfl, rfl⟩⟩
    · simp only [DataW.trod, hu] at h
      split at h
      · rename_i hc
        obtain ⟨_, hlc, hcm⟩ := hc
        let elemAt : Nat → Option (DataW H × List MemPlace) := fun i => (w.cells? 0 (a.add (i * P.cellsOf e)) (P.cellsOf e)).bind (DataW.trod enc P w 0 (fun _ => true) true m e)
        change ((List.range len).mapM elemAt).bind _ = _ at h
        cases hm1 : (List.range len).mapM elemAt with
        | none => rw [hm1] at h; cases h
        | some elems =>
          rw [hm1] at h
          simp only [Option.bind_some, if_true] at h
          change ((List.range (cap - len)).mapM fun j => elemAt (len + j)).map _ = _ at h
          cases hm2 : (List.range (cap - len)).mapM fun j => elemAt (len + j) with
          | none => rw [hm2] at h; cases h
          | some rest =>
            rw [hm2] at h
            simp only [Option.map_some, Option.some.injEq, Prod.mk.injEq] at h
            obtain ⟨rfl, _⟩ := h
            obtain ⟨a1, a2⟩ := mapM_some hm1
            obtain ⟨b1, b2⟩ := mapM_some hm2
            simp only [List.length_range] at a1 b1
            simp only [DataW.weights, hu, List.length_map, List.mem_cons, List.mem_append] at hw
            have all : ∀ i, i < cap → ∃ cs, w.cells? 0 (a.add (i * P.cellsOf e)) (P.cellsOf e) = some cs ∧ ArgF m P w e cs := by
              intro i hi
              have key : ∃ y, elemAt i = some y ∧ ((∃ j : Nat, elems[j]? = some y) ∨ ∃ j : Nat, rest[j]? = some y) := by
                rcases Nat.lt_or_ge i len with hl | hl
                · obtain ⟨y, hy, hf⟩ := a2 i i (List.getElem?_range hl)
                  exact ⟨y, hf, .inl ⟨i, hy⟩⟩
                · obtain ⟨y, hy, hf⟩ := b2 (i - len) (i - len) (List.getElem?_range (by omega))
                  rw [show len + (i - len) = i by omega] at hf
                  exact ⟨y, hf, .inr ⟨_, hy⟩⟩
              obtain ⟨y, hf, hy⟩ := key
              have hf' : (w.cells? 0 (a.add (i * P.cellsOf e)) (P.cellsOf e)).bind (DataW.trod enc P w 0 (fun _ => true) true m e) = some y := hf
              clear hf
              cases hcs : w.cells? 0 (a.add (i * P.cellsOf e)) (P.cellsOf e) with
              | none => rw [hcs] at hf'; cases hf'
              | some cs =>
                rw [hcs] at hf'
                have hf : DataW.trod enc P w 0 (fun _ => true) true m e cs = some y := hf'
                refine ⟨cs, rfl, H, enc, y.1, y.2, hf, fun k hk => hw k (.inr ?_)⟩
                rcases hy with ⟨j, hy⟩ | ⟨j, hy⟩
                · exact .inl (weightsAll_mem (List.mem_map.2 ⟨y, List.mem_of_getElem? hy, rfl⟩) k hk)
                · exact .inr (weightsAll_mem (List.mem_map.2 ⟨y, List.mem_of_getElem? hy, rfl⟩) k hk)
            obtain ⟨css, hcl, hcss⟩ : ∃ css : List (List Value), css.length = cap ∧ ∀ i x, css[i]? = some x → w.cells? 0 (a.add (i * P.cellsOf e)) (P.cellsOf e) = some x ∧ ArgF m P w e x := by
              refine ⟨(List.range cap).map fun i => (w.cells? 0 (a.add (i * P.cellsOf e)) (P.cellsOf e)).getD [], by simp, fun i x hx => ?_⟩
              rw [List.getElem?_map] at hx
              have hi : i < cap := by
                rcases Nat.lt_or_ge i cap with h' | h'
                · exact h'
                · rw [List.getElem?_eq_none (by simpa using h')] at hx; cases hx
              rw [List.getElem?_range hi] at hx
              obtain ⟨cs, h1, h2⟩ := all i hi
              simp only [Option.map_some, h1, Option.getD_some, Option.some.injEq] at hx
              subst hx
              exact ⟨h1, h2⟩
            have hlen : ∀ x ∈ css, x.length = P.cellsOf e := fun x hx => by
              obtain ⟨i, hi⟩ := List.mem_iff_getElem?.1 hx
              exact (cells?_some (hcss i x hi).1).1
            refine ⟨some a, len, cap, css, rfl, hlc, hcm, ?_, hcl, fun x hx => ?_, ?_, fun e => by cases e⟩
            · have := hw ((elems.length + rest.length) * P.bytesOf e) (.inl rfl)
              rw [a1, b1, show len + (cap - len) = cap by omega] at this
              exact this
            · obtain ⟨i, hi⟩ := List.mem_iff_getElem?.1 hx
              exact ⟨hlen x hx, (hcss i x hi).2⟩
            · cases hcz : css with
              | nil => exact .inl rfl
              | cons c0 r =>
                rw [← hcz]
                have h00 := cells?_some (hcss 0 c0 (by rw [hcz]; rfl)).1
                have hc0 : 0 < c0.length := by rw [h00.1]; exact h0
                have hcell := h00.2 0 c0[0] (by simp [hc0])
                obtain ⟨ab, ao, ag⟩ := a
                have hs : ag = none := by
                  cases ag with
                  | none => rfl
                  | some y =>
                    have e0 : ((⟨ab, ao, some y⟩ : Addr).add (0 * P.cellsOf e)).add 0 = ⟨ab, ao, some y⟩ := by rw [Nat.zero_mul, Addr.add_zero', Addr.add_zero']
                    rw [e0] at hcell
                    simp only [World.cell?, Option.isSome_some, if_true] at hcell
                    split at hcell <;> cases hcell
                subst hs
                refine .inr ⟨ab, ao, rfl, fun i v hv => ?_⟩
                have hdm : i = i / P.cellsOf e * P.cellsOf e + i % P.cellsOf e := by rw [Nat.mul_comm]; exact (Nat.div_add_mod _ _).symm
                have hj := Nat.mod_lt i h0
                rw [hdm, flatten_get hlen hj] at hv
                cases hx : css[i / P.cellsOf e]? with
                | none => rw [hx] at hv; cases hv
                | some x =>
                  rw [hx] at hv
                  have := (cells?_some (hcss _ x hx).1).2 _ v hv
                  rw [Addr.add_lit, Addr.add_lit] at this
                  rw [hdm, ← Nat.add_assoc]; exact this
      · cases h
end


end Go.Vc

/- Expressions: as the memory bears them; which are well formed. Plain Lean, no program. -/
namespace Go.Vc
open Go Go.RowKit

inductive Ex where
  | mk (op : Int) (name : ByteArray) (v : Val) (kids : List Ex)
def Ex.op : Ex → Int | .mk o _ _ _ => o
def Ex.name : Ex → ByteArray | .mk _ n _ _ => n
def Ex.v : Ex → Val | .mk _ _ v _ => v
def Ex.kids : Ex → List Ex | .mk _ _ _ k => k

mutual
def ExAt (w : World) : Ex → List Value → Prop
  | .mk op name v kids, cs => ∃ (p : Option Addr) (n c : Nat) (css : List (List Value)), cs = [.int .i64 op, .string name, .int .i64 v.k, .int .i64 v.n, .string v.s, .slice p n c] ∧ (n ≤ c ∧ c ≤ maxLen) ∧ (p = none → n = 0 ∧ c = 0) ∧ css.length = n ∧
      (∀ x ∈ css, x.length = 6) ∧ At w p css.flatten ∧ ExsAt w kids css
def ExsAt (w : World) : List Ex → List (List Value) → Prop
  | [], [] => True
  | x :: xs, c :: cs => ExAt w x c ∧ ExsAt w xs cs
  | [], _ :: _ => False
  | _ :: _, [] => False
end

theorem ExsAt.length {w : World} : ∀ {xs : List Ex} {css : List (List Value)}, ExsAt w xs css → css.length = xs.length
  | [], [], _ => rfl
  | x :: xs, c :: cs, h => by
    unfold ExsAt at h
    simp [ExsAt.length h.2]
  | [], _ :: _, h => by unfold ExsAt at h; exact h.elim
  | _ :: _, [], h => by unfold ExsAt at h; exact h.elim
theorem ExsAt.get {w : World} : ∀ {xs : List Ex} {css : List (List Value)}, ExsAt w xs css → ∀ {i : Nat} {x : Ex}, xs[i]? = some x → ∃ c, css[i]? = some c ∧ ExAt w x c
  | [], [], _, i, x, hx => by simp at hx
  | x :: xs, c :: cs, h, i, y, hy => by
    unfold ExsAt at h
    cases i with
    | zero => cases hy; exact ⟨c, rfl, h.1⟩
    | succ i =>
      obtain ⟨c', h1, h2⟩ := ExsAt.get h.2 (i := i) (by simpa using hy)
      exact ⟨c', by simpa using h1, h2⟩
  | [], _ :: _, h, _, _, _ => by unfold ExsAt at h; exact h.elim
  | _ :: _, [], h, _, _, _ => by unfold ExsAt at h; exact h.elim
mutual
theorem ExAt.ext {w w' : World} (e : Ext w w') : ∀ {x : Ex} {cs : List Value}, ExAt w x cs → ExAt w' x cs
  | .mk op name v kids, cs, h => by
    unfold ExAt at h ⊢
    obtain ⟨p, n, c, css, h1, h2, h3, h4, h5, h6, h7⟩ := h
    exact ⟨p, n, c, css, h1, h2, h3, h4, h5, h6.ext e, ExsAt.ext e h7⟩
theorem ExsAt.ext {w w' : World} (e : Ext w w') : ∀ {xs : List Ex} {css : List (List Value)}, ExsAt w xs css → ExsAt w' xs css
  | [], [], _ => by unfold ExsAt; trivial
  | x :: xs, c :: cs, h => by
    unfold ExsAt at h ⊢
    exact ⟨ExAt.ext e h.1, ExsAt.ext e h.2⟩
  | [], _ :: _, h => by unfold ExsAt at h; exact h.elim
  | _ :: _, [], h => by unfold ExsAt at h; exact h.elim
end
/-- An expression's cells, and its kids. -/
theorem ExAt.cells {w : World} {x : Ex} {cs : List Value} (h : ExAt w x cs) : ∃ (p : Option Addr) (n c : Nat), cs = [.int .i64 x.op, .string x.name, .int .i64 x.v.k, .int .i64 x.v.n, .string x.v.s, .slice p n c] ∧ (n ≤ c ∧ c ≤ maxLen) ∧ x.kids.length = n ∧ (p = none → n = 0 ∧ c = 0) ∧
    ∀ {w' : World}, Ext w w' → ∀ {i : Nat} {k : Ex}, x.kids[i]? = some k → ∃ kc b o, ExAt w' k kc ∧ p = some ⟨b, o, none⟩ ∧ ∀ (j : Nat) v, kc[j]? = some v → w'.cell? ⟨b, o + (i * 6 + j), none⟩ = some v := by
  obtain ⟨op, name, v, kids⟩ := x
  unfold ExAt at h
  obtain ⟨p, n, c, css, h1, h2, h3, h4, h5, h6, h7⟩ := h
  refine ⟨p, n, c, h1, h2, by rw [← h4, h7.length]; rfl, h3, fun {w'} e {i} {k} hk => ?_⟩
  obtain ⟨kc, hkc, hx⟩ := h7.get hk
  rcases h6 with h6 | ⟨b, o, hp, hc⟩
  · exfalso
    have hl := h5 kc (List.mem_of_getElem? hkc)
    have := flatten_get (css := css) (s := 6) h5 (i := i) (j := 0) (by decide)
    rw [h6, hkc] at this
    have h0 : kc[0]? = some (kc[0]'(by omega)) := List.getElem?_eq_getElem _
    simp [h0] at this
  · refine ⟨kc, b, o, hx.ext e, hp, fun j v hv => cell_ext (hc _ _ ?_) e⟩
    have hj : j < 6 := by rw [← h5 kc (List.mem_of_getElem? hkc)]; exact (List.getElem?_eq_some_iff.1 hv).1
    rw [flatten_get h5 hj, hkc]
    exact hv

/-! ### Which are well formed -/
def manyOf (op : Int) : Int := if op = 1 ∨ op = 2 then 0 else if op = 8 ∨ op = 14 ∨ op = 15 ∨ op = 16 then 1 else if 3 ≤ op ∧ op ≤ 13 then 2 else -1
def NodeOk (x : Ex) : Prop := (x.kids.length : Int) = manyOf x.op ∧ (x.op = 1 ∨ x.name = ⟨#[]⟩) ∧ (x.op = 2 ∨ x.v = nullV) ∧ x.v.Ok
instance (x : Ex) : Decidable (NodeOk x) := by unfold NodeOk; exact inferInstance
mutual
def nodesT : Ex → List Ex
  | .mk o n v ks => .mk o n v ks :: nodesTs ks
def nodesTs : List Ex → List Ex
  | [] => []
  | k :: r => nodesT k ++ nodesTs r
end
mutual
def depthT : Ex → Nat
  | .mk _ _ _ ks => 1 + depthTs ks
def depthTs : List Ex → Nat
  | [] => 0
  | k :: r => max (depthT k) (depthTs r)
end
def FormedP (x : Ex) : Prop := (∀ y ∈ nodesT x, NodeOk y) ∧ depthT x ≤ 40 ∧ (nodesT x).length ≤ 400
instance (x : Ex) : Decidable (FormedP x) := by unfold FormedP; exact inferInstance
def formedB (x : Ex) : Bool := decide (FormedP x)

mutual
/-- The program's walk: no deeper than may be. -/
def walkT : Ex → Nat → List (Nat × Ex)
  | .mk o n v ks, d => (d, .mk o n v ks) :: (if 40 < d then [] else walkTs ks (d + 1))
def walkTs : List Ex → Nat → List (Nat × Ex)
  | [], _ => []
  | k :: r, d => walkT k d ++ walkTs r d
end
def goW : List (Nat × Ex) → Nat → Bool
  | [], _ => true
  | p :: r, m => if 40 < p.1 ∨ 400 < m + 1 ∨ ¬ NodeOk p.2 then false else goW r (m + 1)
theorem goW_iff : ∀ (l : List (Nat × Ex)) (m : Nat), m ≤ 400 → (goW l m = true ↔ (∀ p ∈ l, p.1 ≤ 40 ∧ NodeOk p.2) ∧ m + l.length ≤ 400)
  | [], m, hm => by simp [goW, hm]
  | p :: r, m, hm => by
    unfold goW
    split
    · rename_i h
      constructor
      · intro h'; cases h'
      · rintro ⟨h1, h2⟩
        have := h1 p (by simp)
        simp only [List.length_cons] at h2
        rcases h with h | h | h
        · omega
        · omega
        · exact absurd this.2 h
    · rename_i h
      have h1 : p.1 ≤ 40 := by omega
      have h2 : m + 1 ≤ 400 := by omega
      have h3 : NodeOk p.2 := Decidable.not_not.1 fun hn => h (.inr (.inr hn))
      rw [goW_iff r (m + 1) h2]
      simp only [List.length_cons, List.mem_cons, forall_eq_or_imp]
      constructor
      · rintro ⟨a, b⟩; exact ⟨⟨⟨h1, h3⟩, a⟩, by omega⟩
      · rintro ⟨⟨_, a⟩, b⟩; exact ⟨a, by omega⟩
mutual
theorem walkT_spec : ∀ (x : Ex) (d : Nat), ((∀ p ∈ walkT x d, p.1 ≤ 40) ↔ d + depthT x ≤ 41) ∧ (d + depthT x ≤ 41 → (walkT x d).map (·.2) = nodesT x)
  | .mk o n v ks, d => by
    have hk := walkTs_spec ks (d + 1)
    unfold walkT depthT nodesT
    by_cases hd : 40 < d
    · rw [if_pos hd]
      refine ⟨⟨fun h => ?_, fun h => ?_⟩, fun h => ?_⟩
      · have := h (d, .mk o n v ks) (by simp); simp at this; omega
      · omega
      · omega
    · rw [if_neg hd]
      refine ⟨⟨fun h => ?_, fun h => ?_⟩, fun h => ?_⟩
      · have := hk.1 fun p hp => h p (by simp [hp])
        omega
      · intro p hp
        rcases List.mem_cons.1 hp with rfl | hp
        · simp; omega
        · exact hk.2.1 (.inr (by omega)) p hp
      · rw [List.map_cons, hk.2.2 (.inr (by omega))]
theorem walkTs_spec : ∀ (xs : List Ex) (d : Nat), ((∀ p ∈ walkTs xs d, p.1 ≤ 40) → depthTs xs = 0 ∨ d + depthTs xs ≤ 41) ∧ ((depthTs xs = 0 ∨ d + depthTs xs ≤ 41) → ∀ p ∈ walkTs xs d, p.1 ≤ 40) ∧ ((depthTs xs = 0 ∨ d + depthTs xs ≤ 41) → (walkTs xs d).map (·.2) = nodesTs xs)
  | [], d => by simp [walkTs, depthTs, nodesTs]
  | k :: r, d => by
    have h1 := walkT_spec k d
    have h2 := walkTs_spec r d
    have hpos : 1 ≤ depthT k := by cases k; unfold depthT; omega
    unfold walkTs depthTs nodesTs
    refine ⟨fun h => ?_, fun h => ?_, fun h => ?_⟩
    · have a := h1.1.1 fun p hp => h p (List.mem_append_left _ hp)
      have b := h2.1 fun p hp => h p (List.mem_append_right _ hp)
      omega
    · intro p hp
      rcases List.mem_append.1 hp with hp | hp
      · exact h1.1.2 (by omega) p hp
      · exact h2.2.1 (by omega) p hp
    · rw [List.map_append, h1.2 (by omega), h2.2.2 (by omega)]
end
theorem goW_formed (x : Ex) : goW (walkT x 1) 0 = formedB x := by
  obtain ⟨h1, h2⟩ := walkT_spec x 1
  unfold formedB
  rw [Bool.eq_iff_iff, goW_iff _ _ (by omega), decide_eq_true_eq]
  unfold FormedP
  constructor
  · rintro ⟨a, b⟩
    have hd := h1.1 fun p hp => (a p hp).1
    have hm := h2 hd
    refine ⟨fun y hy => ?_, by omega, ?_⟩
    · rw [← hm] at hy
      obtain ⟨p, hp, rfl⟩ := List.mem_map.1 hy
      exact (a p hp).2
    · rw [← hm, List.length_map]; omega
  · rintro ⟨a, b, c⟩
    have hd : 1 + depthT x ≤ 41 := by omega
    have hm := h2 hd
    refine ⟨fun p hp => ⟨h1.2 hd p hp, a _ ?_⟩, ?_⟩
    · rw [← hm]; exact List.mem_map.2 ⟨p, hp, rfl⟩
    · rw [← hm, List.length_map] at c; omega

mutual
/-- The document's look: how many nodes are left; below 0: no. -/
def refF : Ex → Int → Int → Int
  | .mk o n v ks, d, left => if d < 1 ∨ left < 1 ∨ ¬ NodeOk (.mk o n v ks) then -1 else refFs ks (d - 1) (left - 1)
def refFs : List Ex → Int → Int → Int
  | [], _, left => left
  | k :: r, d, left => if left < 0 then left else refFs r d (refF k d left)
end
mutual
theorem refF_spec : ∀ (x : Ex) (d left : Int), (0 ≤ refF x d left ↔ (∀ y ∈ nodesT x, NodeOk y) ∧ (depthT x : Int) ≤ d ∧ ((nodesT x).length : Int) ≤ left) ∧ (0 ≤ refF x d left → refF x d left = left - (nodesT x).length)
  | .mk o n v ks, d, left => by
    have hk := refFs_spec ks (d - 1) (left - 1)
    unfold refF depthT nodesT
    simp only [List.length_cons, List.mem_cons, forall_eq_or_imp]
    split
    · rename_i h
      refine ⟨⟨fun h' => absurd h' (by decide), ?_⟩, fun h' => absurd h' (by decide)⟩
      rintro ⟨⟨a, _⟩, b, c⟩
      exfalso
      rcases h with h | h | h
      · omega
      · omega
      · exact h a
    · rename_i h
      have h1 : 1 ≤ d := by omega
      have h2 : 1 ≤ left := by omega
      have h3 : NodeOk (.mk o n v ks) := Decidable.not_not.1 fun hn => h (.inr (.inr hn))
      refine ⟨?_, fun h' => by rw [hk.2 h']; omega⟩
      rw [hk.1 (by omega)]
      constructor
      · rintro ⟨a, b, c⟩; exact ⟨⟨h3, a⟩, by omega, by omega⟩
      · rintro ⟨⟨_, a⟩, b, c⟩; exact ⟨a, by omega, by omega⟩
theorem refFs_spec : ∀ (xs : List Ex) (d left : Int), (0 ≤ left → (0 ≤ refFs xs d left ↔ (∀ y ∈ nodesTs xs, NodeOk y) ∧ (depthTs xs : Int) ≤ max d 0 ∧ ((nodesTs xs).length : Int) ≤ left)) ∧ (0 ≤ refFs xs d left → refFs xs d left = left - (nodesTs xs).length)
  | [], d, left => by
    unfold refFs nodesTs depthTs
    refine ⟨fun h => ⟨fun _ => ⟨by simp, by omega, by simpa using h⟩, fun _ => h⟩, fun _ => by simp⟩
  | k :: r, d, left => by
    have h1 := refF_spec k d left
    have h2 := refFs_spec r d (refF k d left)
    have hpos : 1 ≤ depthT k := by cases k; unfold depthT; omega
    have neg : refF k d left < 0 → refFs r d (refF k d left) < 0 := fun hn => by
      cases r with
      | nil => unfold refFs; exact hn
      | cons a b => unfold refFs; rw [if_pos hn]; exact hn
    unfold refFs nodesTs depthTs
    simp only [List.length_append, List.mem_append]
    refine ⟨fun hl => ?_, fun h => ?_⟩
    · rw [if_neg (by omega)]
      constructor
      · intro h
        have hk : 0 ≤ refF k d left := by
          rcases Int.lt_or_le (refF k d left) 0 with hlt | hge
          · have := neg hlt; omega
          · exact hge
        obtain ⟨a1, a2, a3⟩ := h1.1.1 hk
        obtain ⟨b1, b2, b3⟩ := (h2.1 hk).1 h
        have e := h1.2 hk
        refine ⟨fun y hy => ?_, by omega, by omega⟩
        rcases hy with hy | hy
        · exact a1 y hy
        · exact b1 y hy
      · rintro ⟨a, b, c⟩
        have hk : 0 ≤ refF k d left := h1.1.2 ⟨fun y hy => a y (.inl hy), by omega, by omega⟩
        have e := h1.2 hk
        exact (h2.1 hk).2 ⟨fun y hy => a y (.inr hy), by omega, by omega⟩
    · split at h
      · omega
      · rename_i hge
        rw [if_neg hge]
        have hk : 0 ≤ refF k d left := by
          rcases Int.lt_or_le (refF k d left) 0 with hlt | hge
          · have := neg hlt; omega
          · exact hge
        have e := h1.2 hk
        rw [h2.2 h]
        omega
end
/-- An expression's cells. -/
theorem ExAt.six {w : World} {x : Ex} {cs : List Value} (h : ExAt w x cs) : ∃ (p : Option Addr) (n c : Nat), cs = [.int .i64 x.op, .string x.name, .int .i64 x.v.k, .int .i64 x.v.n, .string x.v.s, .slice p n c] ∧ x.kids.length = n ∧ n ≤ 9223372036854775807 ∧
    ∀ {w' : World}, Ext w w' → ∀ {i : Nat} {k : Ex}, x.kids[i]? = some k → ∃ kc b o, ExAt w k kc ∧ p = some ⟨b, o, none⟩ ∧ ∀ (j : Nat) v, kc[j]? = some v → w'.cell? ⟨b, o + i * 6 + j, none⟩ = some v := by
  obtain ⟨p, n, c, h1, h2, h3, h4, h5⟩ := h.cells
  refine ⟨p, n, c, h1, h3, Nat.le_trans h2.1 h2.2, fun {w'} e {i} {k} hk => ?_⟩
  obtain ⟨kc, b, o, a1, a2, a3⟩ := h5 Ext.rfl hk
  exact ⟨kc, b, o, a1, a2, fun j v hv => by rw [Nat.add_assoc]; exact cell_ext (a3 j v hv) e⟩

theorem depthTs_get : ∀ {l : List Ex} {i : Nat} {k : Ex}, l[i]? = some k → depthT k ≤ depthTs l
  | [], i, k, h => by simp at h
  | x :: r, i, k, h => by
    unfold depthTs
    cases i with
    | zero => cases h; omega
    | succ i => have := depthTs_get (l := r) (i := i) (by simpa using h); omega
theorem walkTs_take {l : List Ex} {i : Nat} {k : Ex} (d : Nat) (h : l[i]? = some k) : walkTs (l.take (i + 1)) d = walkTs (l.take i) d ++ walkT k d := by
  induction l generalizing i with
  | nil => simp at h
  | cons x r ih =>
    cases i with
    | zero => cases h; simp [walkTs]
    | succ i => simp [walkTs, ih (i := i) (by simpa using h)]
theorem walkTs_pre {l : List Ex} (i : Nat) (d : Nat) : ∃ r, walkTs l d = walkTs (l.take i) d ++ r := by
  induction l generalizing i with
  | nil => exact ⟨[], by simp [walkTs]⟩
  | cons x r ih =>
    cases i with
    | zero => exact ⟨walkTs (x :: r) d, by simp [walkTs]⟩
    | succ i => obtain ⟨q, hq⟩ := ih i; exact ⟨q, by simp [walkTs, hq]⟩
theorem walkTs_at {l : List Ex} {i : Nat} {k : Ex} {d j : Nat} {p : Nat × Ex} (h : l[i]? = some k) (hp : (walkT k d)[j]? = some p) : (walkTs l d)[(walkTs (l.take i) d).length + j]? = some p := by
  obtain ⟨r, hr⟩ := walkTs_pre (l := l) (i + 1) d
  rw [hr, walkTs_take d h, List.append_assoc, List.getElem?_append_right (by omega), Nat.add_sub_cancel_left, List.getElem?_append_left (List.getElem?_eq_some_iff.1 hp).1, hp]


/-! ### The table of shapes -/
def wantOf (op : Int) : Int := if 3 ≤ op ∧ op ≤ 8 then 1 else if 12 ≤ op ∧ op ≤ 14 then 2 else if op = 16 then 3 else 0
def kindOf (op : Int) : Int := if 3 ≤ op ∧ op ≤ 8 ∨ op = 16 then 1 else if 9 ≤ op ∧ op ≤ 15 then 2 else 0
def shapeC (i : Nat) : List Value := [.int .i64 (manyOf i), .int .i64 (wantOf i), .int .i64 (kindOf i)]
def shapesA : Array Value := ((List.range 17).flatMap shapeC).toArray
theorem shapes_at {i : Nat} (h : i < 17) : shapesA[i * 3]? = some (.int .i64 (manyOf i)) ∧ shapesA[i * 3 + 1]? = some (.int .i64 (wantOf i)) ∧ shapesA[i * 3 + 2]? = some (.int .i64 (kindOf i)) := by
  have hi : (List.range 17)[i]? = some i := List.getElem?_range h
  have hs : ∀ x, (shapeC x).length = 3 := fun x => rfl
  have key : ∀ j : Nat, j < 3 → shapesA[i * 3 + j]? = (shapeC i)[j]? := fun j hj => by
    have := flatMap_get hs hi hj
    unfold shapesA
    rw [List.getElem?_toArray]; exact this
  exact ⟨key 0 (by decide), key 1 (by decide), key 2 (by decide)⟩
theorem many_range {op : Int} (h : 0 ≤ manyOf op) : 1 ≤ op ∧ op ≤ 16 := by
  unfold manyOf at h
  split at h
  · omega
  · split at h
    · omega
    · split at h <;> omega
end Go.Vc

/- Numbers: signs of bitwise operations; products of 64 bits; which results are numbers of 64 bits. -/
namespace Go.Vc
open Go

theorem wrap_bv (v : BitVec 64) : IntKind.i64.wrap ((v.toNat : Nat) : Int) = v.toInt := by
  rw [IntKind.wrap_i64, BitVec.toInt_eq_toNat_cond]
  have := v.isLt
  split <;> omega
theorem toInt_of {a : Int} (h0 : -9223372036854775808 ≤ a) (h1 : a ≤ 9223372036854775807) : (BitVec.ofInt 64 a).toInt = a := by
  rw [BitVec.toInt_ofInt, Int.bmod_def]
  split <;> omega
theorem and_i64_bv (a b : Int) : bits .and .i64 a b = (BitVec.ofInt 64 a &&& BitVec.ofInt 64 b).toInt := by
  rw [← wrap_bv]; rfl
theorem xor_i64_bv (a b : Int) : bits .xor .i64 a b = (BitVec.ofInt 64 a ^^^ BitVec.ofInt 64 b).toInt := by
  rw [← wrap_bv]; rfl
theorem i64_range (v : BitVec 64) : -9223372036854775808 ≤ v.toInt ∧ v.toInt ≤ 9223372036854775807 := by
  rw [BitVec.toInt_eq_toNat_cond]
  have := v.isLt
  split <;> omega
theorem and_neg {a b : Int} (a0 : -9223372036854775808 ≤ a) (a1 : a ≤ 9223372036854775807) (b0 : -9223372036854775808 ≤ b) (b1 : b ≤ 9223372036854775807) : bits .and .i64 a b < 0 ↔ a < 0 ∧ b < 0 := by
  have h := BitVec.msb_and (x := BitVec.ofInt 64 a) (y := BitVec.ofInt 64 b)
  rw [BitVec.msb_eq_toInt, BitVec.msb_eq_toInt, BitVec.msb_eq_toInt, toInt_of a0 a1, toInt_of b0 b1] at h
  rw [and_i64_bv, ← decide_eq_true_iff (p := BitVec.toInt _ < 0), h]; simp
theorem xor_neg {a b : Int} (a0 : -9223372036854775808 ≤ a) (a1 : a ≤ 9223372036854775807) (b0 : -9223372036854775808 ≤ b) (b1 : b ≤ 9223372036854775807) : bits .xor .i64 a b < 0 ↔ ¬ (a < 0 ↔ b < 0) := by
  have h := BitVec.msb_xor (x := BitVec.ofInt 64 a) (y := BitVec.ofInt 64 b)
  rw [BitVec.msb_eq_toInt, BitVec.msb_eq_toInt, BitVec.msb_eq_toInt, toInt_of a0 a1, toInt_of b0 b1] at h
  rw [xor_i64_bv, ← decide_eq_true_iff (p := BitVec.toInt _ < 0), h]
  by_cases ha : a < 0 <;> by_cases hb : b < 0 <;> simp [ha, hb]
theorem xor_range (a b : Int) : -9223372036854775808 ≤ bits .xor .i64 a b ∧ bits .xor .i64 a b ≤ 9223372036854775807 := by rw [xor_i64_bv]; exact i64_range _

/-- A number of 64 bits. -/
def fitI (x : Int) : Prop := -9223372036854775808 ≤ x ∧ x ≤ 9223372036854775807
instance (x : Int) : Decidable (fitI x) := by unfold fitI; exact inferInstance
theorem add_over {a b : Int} (ha : fitI a) (hb : fitI b) : bits .and .i64 (bits .xor .i64 a (IntKind.i64.wrap (a + b))) (bits .xor .i64 b (IntKind.i64.wrap (a + b))) < 0 ↔ ¬ fitI (a + b) := by
  unfold fitI at *
  have hw := IntKind.wrap_i64 (a + b)
  obtain ⟨x0, x1⟩ := xor_range a (IntKind.i64.wrap (a + b))
  obtain ⟨y0, y1⟩ := xor_range b (IntKind.i64.wrap (a + b))
  rw [and_neg x0 x1 y0 y1, xor_neg ha.1 ha.2 (by omega) (by omega), xor_neg hb.1 hb.2 (by omega) (by omega)]
  omega
theorem sub_over {a b : Int} (ha : fitI a) (hb : fitI b) : bits .and .i64 (bits .xor .i64 a b) (bits .xor .i64 a (IntKind.i64.wrap (a - b))) < 0 ↔ ¬ fitI (a - b) := by
  unfold fitI at *
  have hw := IntKind.wrap_i64 (a - b)
  obtain ⟨x0, x1⟩ := xor_range a b
  obtain ⟨y0, y1⟩ := xor_range a (IntKind.i64.wrap (a - b))
  rw [and_neg x0 x1 y0 y1, xor_neg ha.1 ha.2 hb.1 hb.2, xor_neg ha.1 ha.2 (by omega) (by omega)]
  omega

theorem shr32_u64 (v : Nat) : shrI .u64 (v : Int) 32 = ((v / 4294967296 : Nat) : Int) := by
  have : shrI .u64 (v : Int) 32 = Int.fdiv (v : Int) 4294967296 := rfl
  rw [this, Int.fdiv_eq_ediv_of_nonneg _ (by decide)]; omega
theorem and32_u64 {v : Nat} (h : v < 18446744073709551616) : bits .and .u64 (v : Int) 4294967295 = ((v % 4294967296 : Nat) : Int) := by
  have := bits_mask .u64 64 (by decide) (fun m h0 h1 => by simp [IntKind.wrap, IntKind.bits, IntKind.signed]; omega) 32 (by decide) (v : Int) (by omega) (by show (v : Int) < 18446744073709551616; omega)
  rw [show ((2 : Int) ^ 32 - 1) = 4294967295 from rfl, show ((2 : Int) ^ 32) = 4294967296 from rfl] at this
  rw [this]; omega
/-- The product of two numbers of 64 bits, in two words. -/
theorem mul64_hi {x y : Nat} (hx : x < 18446744073709551616) (hy : y < 18446744073709551616) :
    (IntKind.u64.wrap (IntKind.u64.wrap (IntKind.u64.wrap (shrI .u64 (x : Int) 32 * shrI .u64 (y : Int) 32) + shrI .u64 (IntKind.u64.wrap (IntKind.u64.wrap (shrI .u64 (x : Int) 32 * bits .and .u64 (y : Int) 4294967295) + shrI .u64 (IntKind.u64.wrap (bits .and .u64 (x : Int) 4294967295 * bits .and .u64 (y : Int) 4294967295)) 32)) 32) +
      shrI .u64 (IntKind.u64.wrap (bits .and .u64 (IntKind.u64.wrap (IntKind.u64.wrap (shrI .u64 (x : Int) 32 * bits .and .u64 (y : Int) 4294967295) + shrI .u64 (IntKind.u64.wrap (bits .and .u64 (x : Int) 4294967295 * bits .and .u64 (y : Int) 4294967295)) 32)) 4294967295 + IntKind.u64.wrap (bits .and .u64 (x : Int) 4294967295 * shrI .u64 (y : Int) 32))) 32)) = ((x * y / 18446744073709551616 : Nat) : Int) := by
  rw [shr32_u64, shr32_u64, and32_u64 hx, and32_u64 hy]
  have hxd : x = x / 4294967296 * 4294967296 + x % 4294967296 := by omega
  have hyd : y = y / 4294967296 * 4294967296 + y % 4294967296 := by omega
  have hx1 : x / 4294967296 ≤ 4294967295 := by omega
  have hy1 : y / 4294967296 ≤ 4294967295 := by omega
  have hx0 : x % 4294967296 ≤ 4294967295 := by omega
  have hy0 : y % 4294967296 ≤ 4294967295 := by omega
  generalize x / 4294967296 = a at *
  generalize x % 4294967296 = b at *
  generalize y / 4294967296 = c at *
  generalize y % 4294967296 = d at *
  have p11 := Nat.mul_le_mul hx1 hy1
  have p10 := Nat.mul_le_mul hx1 hy0
  have p01 := Nat.mul_le_mul hx0 hy1
  have p00 := Nat.mul_le_mul hx0 hy0
  have hxy : x * y = a * c * 18446744073709551616 + (a * d + b * c) * 4294967296 + b * d := by
    rw [hxd, hyd]
    simp only [Nat.add_mul, Nat.mul_add]
    have e1 : a * 4294967296 * (c * 4294967296) = a * c * 18446744073709551616 := by rw [Nat.mul_mul_mul_comm]
    have e2 : a * 4294967296 * d = a * d * 4294967296 := by rw [Nat.mul_right_comm]
    have e3 : b * (c * 4294967296) = b * c * 4294967296 := by rw [Nat.mul_assoc]
    rw [e1, e2, e3]; omega
  rw [hxy, ← Int.natCast_mul, ← Int.natCast_mul, ← Int.natCast_mul, ← Int.natCast_mul]
  generalize a * c = p at *
  generalize a * d = q at *
  generalize b * c = r at *
  generalize b * d = s at *
  rw [u64_fit (n := (s : Int)) (by omega) (by omega), shr32_u64, u64_fit (n := (q : Int)) (by omega) (by omega), ← Int.natCast_add, u64_fit (n := ((q + s / 4294967296 : Nat) : Int)) (by omega) (by omega), shr32_u64, and32_u64 (by omega), u64_fit (n := (r : Int)) (by omega) (by omega), ← Int.natCast_add,
    u64_fit (n := (((q + s / 4294967296) % 4294967296 + r : Nat) : Int)) (by omega) (by omega), shr32_u64, u64_fit (n := (p : Int)) (by omega) (by omega)]
  rw [← Int.natCast_add, u64_fit (n := ((p + (q + s / 4294967296) / 4294967296 : Nat) : Int)) (by omega) (by omega), ← Int.natCast_add, u64_fit (by omega) (by omega)]
  omega
end Go.Vc

/- What expressions come to: kinds and values. Plain Lean, no program. -/
namespace Go.Vc
open Go Go.RowKit

/-! ### One behind the other, till one has an error -/
section
variable {α : Type} {f : Ex → α × Int}
def runL (f : Ex → α × Int) : List Ex → List α × Int
  | [] => ([], 0)
  | k :: r => if (f k).2 ≠ 0 then ([], (f k).2) else if (runL f r).2 ≠ 0 then ([], (runL f r).2) else ((f k).1 :: (runL f r).1, 0)
theorem runL_snoc (l : List Ex) (k : Ex) (h : (runL f l).2 = 0) : runL f (l ++ [k]) = if (f k).2 ≠ 0 then ([], (f k).2) else ((runL f l).1 ++ [(f k).1], 0) := by
  induction l with
  | nil => simp [runL]
  | cons x r ih =>
    unfold runL at h
    split at h
    · rename_i hx; exact absurd h hx
    · rename_i hx
      split at h
      · rename_i hr; exact absurd h hr
      · rename_i hr
        have := ih (by omega)
        rw [List.cons_append, runL, if_neg hx, this, runL, if_neg hx, if_neg hr]
        split
        · rename_i hk; simp
        · simp
theorem runL_take {l : List Ex} {j : Nat} {k : Ex} (hk : l[j]? = some k) (h : (runL f (l.take j)).2 = 0) : runL f (l.take (j + 1)) = if (f k).2 ≠ 0 then ([], (f k).2) else ((runL f (l.take j)).1 ++ [(f k).1], 0) := by
  have : l.take (j + 1) = l.take j ++ [k] := by rw [List.take_add_one, hk]; rfl
  rw [this, runL_snoc _ _ h]
theorem runL_err (a b : List Ex) (h : (runL f a).2 ≠ 0) : runL f (a ++ b) = ([], (runL f a).2) := by
  induction a with
  | nil => exact absurd rfl h
  | cons x r ih =>
    rw [List.cons_append]
    unfold runL at h ⊢
    split
    · rfl
    · rename_i hx
      rw [if_neg hx] at h
      split at h
      · rename_i hr
        rw [ih hr]; simp [hr]
      · exact absurd rfl h
theorem runL_stop {l : List Ex} {j : Nat} {k : Ex} (hk : l[j]? = some k) (h : (runL f (l.take j)).2 = 0) (he : (f k).2 ≠ 0) : runL f l = ([], (f k).2) := by
  have h1 := runL_take (f := f) hk h
  rw [if_pos he] at h1
  have h2 := runL_err (f := f) (l.take (j + 1)) (l.drop (j + 1)) (by rw [h1]; exact he)
  rw [List.take_append_drop, h1] at h2
  exact h2
theorem runL_len {l : List Ex} (h : (runL f l).2 = 0) : (runL f l).1.length = l.length := by
  induction l with
  | nil => rfl
  | cons x r ih =>
    unfold runL at h ⊢
    split at h
    · rename_i hx; exact absurd h hx
    · rename_i hx
      split at h
      · rename_i hr; exact absurd h hr
      · rename_i hr
        rw [if_neg hx, if_neg hr]
        simp [ih (by omega)]
theorem runL_get {l : List Ex} (h : (runL f l).2 = 0) {i : Nat} {k : Ex} (hk : l[i]? = some k) : (f k).2 = 0 ∧ (runL f l).1[i]? = some (f k).1 := by
  induction l generalizing i with
  | nil => simp at hk
  | cons x r ih =>
    unfold runL at h ⊢
    split at h
    · rename_i hx; exact absurd h hx
    · rename_i hx
      split at h
      · rename_i hr; exact absurd h hr
      · rename_i hr
        rw [if_neg hx, if_neg hr]
        cases i with
        | zero => cases hk; exact ⟨by omega, rfl⟩
        | succ i => simpa using ih (by omega) (i := i) (by simpa using hk)
end

/-! ### Kinds -/
def alikeB (a b : Int) : Bool := decide (a = b) || decide (a = 0) || decide (b = 0)
def kindN (cols : List Col) (op : Int) (name : ByteArray) (v : Val) (l : List Int) : Int × Int :=
  if wantOf op ≠ 0 ∧ ¬ (∀ g ∈ l, alikeB g (wantOf op) = true) then (0, 121)
  else if op = 1 then (if findC cols name < 0 then (0, 120) else (((cols[(findC cols name).toNat]?).map Col.kind).getD 0, 0))
  else if op = 2 then (v.k, 0)
  else if (op = 9 ∨ op = 10 ∨ op = 11) ∧ alikeB (l.getD 0 0) (l.getD 1 0) = false then (0, 121)
  else (kindOf op, 0)
mutual
def kindF (cols : List Col) : Ex → Int × Int
  | .mk op name v ks => if (kindsF cols ks).2 ≠ 0 then (0, (kindsF cols ks).2) else kindN cols op name v (kindsF cols ks).1
def kindsF (cols : List Col) : List Ex → List Int × Int
  | [] => ([], 0)
  | k :: r => if (kindF cols k).2 ≠ 0 then ([], (kindF cols k).2) else if (kindsF cols r).2 ≠ 0 then ([], (kindsF cols r).2) else ((kindF cols k).1 :: (kindsF cols r).1, 0)
end
theorem kindsF_eq (cols : List Col) (l : List Ex) : kindsF cols l = runL (kindF cols) l := by
  induction l with
  | nil => simp [kindsF, runL]
  | cons k r ih => rw [kindsF, runL, ih]
theorem kindF_eq (cols : List Col) (x : Ex) : kindF cols x = if (runL (kindF cols) x.kids).2 ≠ 0 then (0, (runL (kindF cols) x.kids).2) else kindN cols x.op x.name x.v (runL (kindF cols) x.kids).1 := by
  cases x; rw [kindF, kindsF_eq]; rfl

/-! ### Values -/
def truthV (b : Bool) : Val := ⟨2, if b then 1 else 0, ⟨#[]⟩⟩
def thirdI (v : Val) : Int := if v.k = 0 then 2 else v.n
def answerV (n : Int) : Val := if n = 2 then nullV else truthV (decide (n = 1))
def andI (i j : Int) : Int := if i = 0 ∨ j = 0 then 0 else if i = 2 ∨ j = 2 then 2 else 1
def orJ (i j : Int) : Int := if i = 1 ∨ j = 1 then 1 else if i = 2 ∨ j = 2 then 2 else 0
def tabA (f : Int → Int → Int) : Array Value := ((List.range 9).map fun i => Value.int .i64 (f ((i / 3 : Nat) : Int) ((i % 3 : Nat) : Int))).toArray
theorem tabA_at (f : Int → Int → Int) {i j : Nat} (hi : i < 3) (hj : j < 3) : (tabA f)[i * 3 + j]? = some (.int .i64 (f i j)) := by
  unfold tabA
  rw [List.getElem?_toArray, List.getElem?_map, List.getElem?_range (by omega)]
  simp only [Option.map_some]
  rw [show (i * 3 + j) / 3 = i by omega, show (i * 3 + j) % 3 = j by omega]
def overF (x : Int) : Int × Int := if fitI x then (x, 0) else (0, 100)
def arithF (op a b : Int) : Int × Int :=
  if (op = 6 ∨ op = 7) ∧ b = 0 then (0, 101) else if op = 3 then overF (a + b) else if op = 4 then overF (a - b) else if op = 5 then overF (a * b) else if op = 6 then overF (a.tdiv b) else if op = 7 then (a.tmod b, 0) else (0, 0)
def pairF (op : Int) (a b : Val) : Val × Int :=
  if op = 12 then (answerV (andI (thirdI a) (thirdI b)), 0) else if op = 13 then (answerV (orJ (thirdI a) (thirdI b)), 0)
  else if a.k = 0 ∨ b.k = 0 then (nullV, 0)
  else if op = 9 then (truthV (decide (cmpV a b = 0)), 0) else if op = 10 then (truthV (decide (cmpV a b < 0)), 0) else if op = 11 then (truthV (decide (cmpV a b ≤ 0)), 0)
  else if (arithF op a.n b.n).2 ≠ 0 then (nullV, (arithF op a.n b.n).2) else (numV (arithF op a.n b.n).1, 0)
def singleF (op : Int) (v : Val) : Val × Int :=
  if op = 15 then (truthV (decide (v.k = 0)), 0) else if v.k = 0 then (v, 0) else if op = 14 then (truthV (decide (v.n = 0)), 0)
  else if op = 16 then (numV v.s.size, 0) else pairF 4 (numV 0) v
def valueN (cols : List Col) (row : List Val) (op : Int) (name : ByteArray) (v : Val) (l : List Val) : Val × Int :=
  if op = 1 then ((row[(findC cols name).toNat]?).getD nullV, 0) else if op = 2 then (v, 0) else if l.length = 1 then singleF op (l.getD 0 nullV) else pairF op (l.getD 0 nullV) (l.getD 1 nullV)
mutual
def valueF (cols : List Col) (row : List Val) : Ex → Val × Int
  | .mk op name v ks => if (valuesF cols row ks).2 ≠ 0 then (nullV, (valuesF cols row ks).2) else valueN cols row op name v (valuesF cols row ks).1
def valuesF (cols : List Col) (row : List Val) : List Ex → List Val × Int
  | [] => ([], 0)
  | k :: r => if (valueF cols row k).2 ≠ 0 then ([], (valueF cols row k).2) else if (valuesF cols row r).2 ≠ 0 then ([], (valuesF cols row r).2) else ((valueF cols row k).1 :: (valuesF cols row r).1, 0)
end
theorem valuesF_eq (cols : List Col) (row : List Val) (l : List Ex) : valuesF cols row l = runL (valueF cols row) l := by
  induction l with
  | nil => simp [valuesF, runL]
  | cons k r ih => rw [valuesF, runL, ih]
theorem valueF_eq (cols : List Col) (row : List Val) (x : Ex) : valueF cols row x = if (runL (valueF cols row) x.kids).2 ≠ 0 then (nullV, (runL (valueF cols row) x.kids).2) else valueN cols row x.op x.name x.v (runL (valueF cols row) x.kids).1 := by
  cases x; rw [valueF, valuesF_eq]; rfl

/-! ### Type and Eval -/
def typeF (cols : List Col) (x : Ex) : Int × Int := if rightC cols = false then (0, 50) else if formedB x = false then (0, 122) else kindF cols x
def evalF (cols : List Col) (row : List Val) (x : Ex) : Val × Int := if (typeF cols x).2 ≠ 0 then (nullV, (typeF cols x).2) else if fitsC cols row = false then (nullV, 2) else valueF cols row x

/-! ### Quotients -/
theorem tdiv_fit {a b : Int} (ha : fitI a) (hb : b ≠ 0) : fitI (a.tdiv b) ↔ ¬ (a = -9223372036854775808 ∧ b = -1) := by
  unfold fitI at *
  by_cases h1 : b = -1
  · subst h1
    rw [Int.tdiv_neg, Int.tdiv_one]; omega
  · have hn : (a.tdiv b).natAbs = a.natAbs / b.natAbs := Int.natAbs_tdiv a b
    have : ¬ (a = -9223372036854775808 ∧ b = -1) := fun h => h1 h.2
    simp only [this, not_false_eq_true, iff_true]
    by_cases h2 : b = 1
    · subst h2; rw [Int.tdiv_one]; exact ha
    · have hb2 : 2 ≤ b.natAbs := by omega
      have : a.natAbs / b.natAbs ≤ a.natAbs / 2 := Nat.div_le_div_left hb2 (by decide)
      omega
theorem tmod_fit {a b : Int} (hb : fitI b) (h0 : b ≠ 0) : fitI (a.tmod b) := by
  unfold fitI at *
  have : (a.tmod b).natAbs = a.natAbs % b.natAbs := Int.natAbs_tmod a b
  have h2 := Nat.mod_lt a.natAbs (y := b.natAbs) (by omega)
  omega
end Go.Vc

/- An expression that has a kind has a value of that kind, or null, or one of two errors. Plain Lean, no program. -/
namespace Go.Vc
open Go Go.RowKit

theorem self_node (x : Ex) : x ∈ nodesT x := by cases x; unfold nodesT; exact List.mem_cons_self
theorem nodesTs_mem : ∀ {l : List Ex} {i : Nat} {k y : Ex}, l[i]? = some k → y ∈ nodesT k → y ∈ nodesTs l
  | [], i, k, y, h, _ => by simp at h
  | x :: r, i, k, y, h, hy => by
    unfold nodesTs
    cases i with
    | zero => cases h; exact List.mem_append_left _ hy
    | succ i => exact List.mem_append_right _ (nodesTs_mem (i := i) (by simpa using h) hy)
theorem kid_node {x k y : Ex} {i : Nat} (h : x.kids[i]? = some k) (hy : y ∈ nodesT k) : y ∈ nodesT x := by
  cases x; unfold nodesT; exact List.mem_cons_of_mem _ (nodesTs_mem h hy)
theorem kid_depth {x k : Ex} {i : Nat} (h : x.kids[i]? = some k) : depthT k + 1 ≤ depthT x := by
  have := depthTs_get h
  obtain ⟨o, n, v, ks⟩ := x
  have e : depthT (.mk o n v ks) = 1 + depthTs ks := by rw [depthT]
  simp only [Ex.kids] at this
  omega

/-- A value of kind k (or null), or an error. -/
def GoodV (k : Int) (v : Val) : Prop := v.Ok ∧ fitI v.n ∧ (v.k = 0 ∨ v.k = k)
def Good (k : Int) (q : Val × Int) : Prop := (q.2 = 0 ∧ GoodV k q.1) ∨ ((q.2 = 100 ∨ q.2 = 101) ∧ q.1 = nullV)
theorem null_ok : nullV.Ok := .inl ⟨rfl, rfl, rfl⟩
theorem GoodV.null (k : Int) : GoodV k nullV := ⟨null_ok, by unfold fitI nullV; decide, .inl rfl⟩
theorem GoodV.truth (b : Bool) : GoodV 2 (truthV b) := by
  refine ⟨.inr (.inr (.inl ⟨rfl, ?_, rfl⟩)), ?_, .inr rfl⟩
  · cases b
    · exact .inl rfl
    · exact .inr rfl
  · cases b <;> (unfold fitI truthV; decide)
theorem GoodV.num {n : Int} (h : fitI n) : GoodV 1 (numV n) := ⟨.inr (.inl ⟨rfl, rfl⟩), h, .inr rfl⟩
theorem GoodV.answer (n : Int) : GoodV 2 (answerV n) := by
  unfold answerV
  split
  · exact .null 2
  · exact .truth _
theorem GoodV.trio {v : Val} (h : GoodV 2 v) : 0 ≤ thirdI v ∧ thirdI v < 3 := by
  obtain ⟨ho, _, hk⟩ := h
  unfold thirdI
  unfold Val.Ok at ho
  split
  · omega
  · rcases ho with ho | ho | ho | ho <;> omega
theorem overF_spec (x : Int) : ((overF x).2 = 0 ∧ fitI (overF x).1) ∨ (overF x).2 = 100 := by
  unfold overF
  split
  · exact .inl ⟨rfl, ‹_›⟩
  · exact .inr rfl
theorem arithF_spec (op a b : Int) (hb : fitI b) : ((arithF op a b).2 = 0 ∧ fitI (arithF op a b).1) ∨ (arithF op a b).2 = 100 ∨ (arithF op a b).2 = 101 := by
  have z : fitI 0 := by unfold fitI; decide
  unfold arithF
  split
  · exact .inr (.inr rfl)
  · rename_i h0
    split
    · rcases overF_spec (a + b) with h | h
      · exact .inl h
      · exact .inr (.inl h)
    · split
      · rcases overF_spec (a - b) with h | h
        · exact .inl h
        · exact .inr (.inl h)
      · split
        · rcases overF_spec (a * b) with h | h
          · exact .inl h
          · exact .inr (.inl h)
        · split
          · rcases overF_spec (a.tdiv b) with h | h
            · exact .inl h
            · exact .inr (.inl h)
          · split
            · exact .inl ⟨rfl, tmod_fit hb (by omega)⟩
            · exact .inl ⟨rfl, z⟩
theorem pairF_arith {op : Int} (h12 : op ≠ 12) (h13 : op ≠ 13) (h9 : op ≠ 9) (h10 : op ≠ 10) (h11 : op ≠ 11) (a b : Val) (hb : fitI b.n) : Good 1 (pairF op a b) := by
  unfold pairF
  rw [if_neg h12, if_neg h13]
  by_cases hz : a.k = 0 ∨ b.k = 0
  · rw [if_pos hz]; exact .inl ⟨rfl, .null 1⟩
  · rw [if_neg hz, if_neg h9, if_neg h10, if_neg h11]
    split
    · rename_i he
      rcases arithF_spec op a.n b.n hb with h | h
      · exact absurd h.1 he
      · exact .inr ⟨h, rfl⟩
    · rename_i he
      rcases arithF_spec op a.n b.n hb with h | h
      · exact .inl ⟨rfl, .num h.2⟩
      · exfalso; omega

theorem alike_want {g w : Int} (h : alikeB g w = true) (hw : w ≠ 0) : g = w ∨ g = 0 := by
  unfold alikeB at h
  simp only [Bool.or_eq_true, decide_eq_true_eq] at h
  omega
/-- One node, its kids being reckoned. -/
theorem node_good {cols : List Col} {row : List Val} {op : Int} {name : ByteArray} {v : Val} {l : List Int} {vl : List Val} (hm : (vl.length : Int) = manyOf op) (hl : l.length = vl.length) (hv : v.Ok) (hvn : fitI v.n)
    (hrel : ∀ (i : Nat) g u, l[i]? = some g → vl[i]? = some u → GoodV g u) (hk : (kindN cols op name v l).2 = 0) (hf : fitsL cols row = true) (hr : ∀ u ∈ row, fitI u.n) :
    Good (kindN cols op name v l).1 (valueN cols row op name v vl) ∧ (op = 12 ∨ op = 13 → (∀ u ∈ vl, GoodV 2 u)) ∧ (op = 1 → 0 ≤ findC cols name ∧ findC cols name < (row.length : Int)) := by
  have hop := many_range (op := op) (by omega)
  have hrel' : ∀ u ∈ vl, wantOf op ≠ 0 → GoodV (wantOf op) u := by
    intro u hu hw
    obtain ⟨i, hi⟩ := List.mem_iff_getElem?.1 hu
    have hi' : i < l.length := by rw [hl]; exact (List.getElem?_eq_some_iff.1 hi).1
    obtain ⟨h1, h2, h3⟩ := hrel i l[i] u (List.getElem?_eq_getElem hi') hi
    refine ⟨h1, h2, ?_⟩
    unfold kindN at hk
    split at hk
    · exact absurd hk (by decide)
    · rename_i hal
      have := Decidable.not_not.1 fun hn => hal ⟨hw, hn⟩
      rcases alike_want (this l[i] (List.getElem_mem hi')) hw with h | h <;> omega
  have hwant : ¬ (wantOf op ≠ 0 ∧ ¬ (∀ g ∈ l, alikeB g (wantOf op) = true)) := by
    intro h
    unfold kindN at hk
    rw [if_pos h] at hk
    cases hk
  unfold kindN at hk ⊢
  rw [if_neg hwant] at hk ⊢
  unfold valueN
  by_cases h1 : op = 1
  · rw [if_pos h1] at hk ⊢
    rw [if_pos h1]
    split at hk
    · exact absurd hk (by decide)
    · rename_i hge
      rw [if_neg hge]
      obtain ⟨c, hc, hn⟩ := findC_get (l := cols) (s := name) (by omega)
      have hrange := findC_range cols name
      have hlen := fitsL_length hf
      have hu : row[(findC cols name).toNat]? = some (row[(findC cols name).toNat]'(by omega)) := List.getElem?_eq_getElem _
      generalize row[(findC cols name).toNat]'(by omega) = u at hu
      have hfit := fitsL_get hf hc hu
      unfold valFits at hfit
      simp only [Bool.and_eq_true, Bool.or_eq_true, decide_eq_true_eq] at hfit
      refine ⟨.inl ⟨rfl, ?_⟩, fun h => by omega, fun _ => by omega⟩
      rw [hc, hu]
      exact ⟨of_decide_eq_true hfit.1, hr u (List.mem_of_getElem? hu), by rcases hfit.2 with h | h <;> simp [h]⟩
  rw [if_neg h1] at hk ⊢
  rw [if_neg h1]
  by_cases h2 : op = 2
  · rw [if_pos h2] at hk ⊢
    rw [if_pos h2]
    exact ⟨.inl ⟨rfl, hv, hvn, .inr rfl⟩, fun h => by omega, fun h => absurd h h1⟩
  rw [if_neg h2] at hk ⊢
  rw [if_neg h2]
  split at hk
  · exact absurd hk (by decide)
  rename_i h9
  rw [if_neg h9]
  have h2nd : op = 12 ∨ op = 13 → ∀ u ∈ vl, GoodV 2 u := by
    intro h u hu
    have hw : wantOf op = 2 := by unfold wantOf; rw [if_neg (by omega), if_pos (by omega)]
    have := hrel' u hu (by omega)
    rwa [hw] at this
  refine ⟨?_, h2nd, fun h => absurd h h1⟩
  by_cases hone : vl.length = 1
  · rw [if_pos hone]
    obtain ⟨a, rfl⟩ := List.length_eq_one_iff.1 hone
    have hm1 : op = 8 ∨ op = 14 ∨ op = 15 ∨ op = 16 := by
      unfold manyOf at hm
      simp only [List.length_cons, List.length_nil] at hm
      split at hm
      · omega
      · split at hm
        · assumption
        · split at hm <;> omega
    show Good (kindOf op) (singleF op a)
    have ga := hrel' a (by simp)
    obtain ⟨ga1, ga2, _⟩ := hrel 0 (l[0]'(by rw [hl]; simp)) a (List.getElem?_eq_getElem _) rfl
    unfold singleF
    by_cases h15 : op = 15
    · rw [if_pos h15]
      have : kindOf op = 2 := by unfold kindOf; rw [if_neg (by omega), if_pos (by omega)]
      rw [this]; exact .inl ⟨rfl, .truth _⟩
    rw [if_neg h15]
    by_cases hz : a.k = 0
    · rw [if_pos hz]; exact .inl ⟨rfl, ga1, ga2, .inl hz⟩
    rw [if_neg hz]
    by_cases h14 : op = 14
    · rw [if_pos h14]
      have : kindOf op = 2 := by unfold kindOf; rw [if_neg (by omega), if_pos (by omega)]
      rw [this]; exact .inl ⟨rfl, .truth _⟩
    rw [if_neg h14]
    have hk1 : kindOf op = 1 := by unfold kindOf; rw [if_pos (by omega)]
    rw [hk1]
    by_cases h16 : op = 16
    · rw [if_pos h16]
      have hw : wantOf op = 3 := by unfold wantOf; rw [if_neg (by omega), if_neg (by omega), if_pos h16]
      have := ga (by omega)
      rw [hw] at this
      obtain ⟨ho, _, hk3⟩ := this
      refine .inl ⟨rfl, .num ?_⟩
      unfold Val.Ok at ho
      unfold fitI
      rcases ho with ho | ho | ho | ho <;> omega
    · rw [if_neg h16]
      exact pairF_arith (by decide) (by decide) (by decide) (by decide) (by decide) _ _ ga2
  · rw [if_neg hone]
    have hm2 : (3 ≤ op ∧ op ≤ 7) ∨ (9 ≤ op ∧ op ≤ 13) := by
      unfold manyOf at hm
      split at hm
      · omega
      · split at hm
        · exfalso; omega
        · split at hm <;> omega
    have htwo : vl.length = 2 := by
      unfold manyOf at hm
      rw [if_neg (by omega), if_neg (by omega), if_pos (by omega)] at hm
      omega
    match vl, htwo with
    | [a, b], _ =>
      show Good (kindOf op) (pairF op a b)
      obtain ⟨b1, b2, _⟩ := hrel 1 (l[1]'(by rw [hl]; simp)) b (List.getElem?_eq_getElem _) rfl
      rcases hm2 with h | h
      · have hk1 : kindOf op = 1 := by unfold kindOf; rw [if_pos (by omega)]
        rw [hk1]
        exact pairF_arith (by omega) (by omega) (by omega) (by omega) (by omega) _ _ b2
      · have hk2 : kindOf op = 2 := by unfold kindOf; rw [if_neg (by omega), if_pos (by omega)]
        rw [hk2]
        unfold pairF
        split
        · exact .inl ⟨rfl, .answer _⟩
        · split
          · exact .inl ⟨rfl, .answer _⟩
          · split
            · exact .inl ⟨rfl, .null 2⟩
            · split
              · exact .inl ⟨rfl, .truth _⟩
              · split
                · exact .inl ⟨rfl, .truth _⟩
                · split
                  · exact .inl ⟨rfl, .truth _⟩
                  · exfalso; omega

/-- The kinds and the values of the kids. -/
theorem kids_kinds {cols : List Col} {x : Ex} (h : (kindF cols x).2 = 0) : (runL (kindF cols) x.kids).2 = 0 ∧ kindF cols x = kindN cols x.op x.name x.v (runL (kindF cols) x.kids).1 := by
  rw [kindF_eq] at h ⊢
  split at h
  · rename_i hn; exact absurd h hn
  · rename_i hn
    exact ⟨by omega, by rw [if_neg hn]⟩
theorem typed {cols : List Col} {row : List Val} (hf : fitsL cols row = true) (hr : ∀ u ∈ row, fitI u.n) : ∀ (N : Nat) (x : Ex), depthT x ≤ N → (∀ y ∈ nodesT x, NodeOk y ∧ fitI y.v.n) → (kindF cols x).2 = 0 → Good (kindF cols x).1 (valueF cols row x) := by
  intro N
  induction N with
  | zero => intro x hd; cases x; unfold depthT at hd; omega
  | succ N ih =>
    intro x hd hn hk
    obtain ⟨hk1, hk2⟩ := kids_kinds hk
    have hkid : ∀ (i : Nat) k, x.kids[i]? = some k → Good (kindF cols k).1 (valueF cols row k) := fun i k hi =>
      ih k (by have := kid_depth hi; omega) (fun y hy => hn y (kid_node hi hy)) (runL_get hk1 hi).1
    rw [valueF_eq]
    split
    · rename_i he
      -- some kid has an error
      have : (runL (valueF cols row) x.kids).2 = 100 ∨ (runL (valueF cols row) x.kids).2 = 101 := by
        have key : ∀ l : List Ex, (∀ k ∈ l, (valueF cols row k).2 = 0 ∨ (valueF cols row k).2 = 100 ∨ (valueF cols row k).2 = 101) → (runL (valueF cols row) l).2 = 0 ∨ (runL (valueF cols row) l).2 = 100 ∨ (runL (valueF cols row) l).2 = 101 := by
          intro l
          induction l with
          | nil => intro _; exact .inl rfl
          | cons k r ih2 =>
            intro h
            have h1 := h k (by simp)
            have h2 := ih2 fun q hq => h q (by simp [hq])
            unfold runL
            split
            · rename_i hne; rcases h1 with h1 | h1
              · exact absurd h1 hne
              · exact .inr h1
            · split
              · rename_i hne; rcases h2 with h2 | h2
                · exact absurd h2 hne
                · exact .inr h2
              · exact .inl rfl
        rcases key x.kids (fun k hk => by
          obtain ⟨i, hi⟩ := List.mem_iff_getElem?.1 hk
          rcases hkid i k hi with h | h
          · exact .inl h.1
          · exact .inr h.1) with h | h
        · exact absurd h he
        · exact h
      exact .inr ⟨this, rfl⟩
    · rename_i he
      have hv1 : (runL (valueF cols row) x.kids).2 = 0 := by omega
      obtain ⟨hno, hnf⟩ := hn x (self_node x)
      rw [hk2]
      have hlv := runL_len hv1
      have hlk := runL_len hk1
      refine (node_good (by rw [hlv]; exact hno.1) (by omega) hno.2.2.2 hnf (fun i g u hg hu => ?_) (by rw [← hk2]; exact hk) hf hr).1
      have hi : i < x.kids.length := by rw [← hlk]; exact (List.getElem?_eq_some_iff.1 hg).1
      have hki : x.kids[i]? = some x.kids[i] := List.getElem?_eq_getElem hi
      have e1 := runL_get hk1 hki
      have e2 := runL_get hv1 hki
      rw [hg] at e1
      rw [hu] at e2
      have := hkid i _ hki
      cases e1.2
      cases e2.2
      rcases this with h | h
      · exact h.2
      · have := e2.1; omega
end Go.Vc

/- What the laws on expressions say of kinds and values. Plain Lean, no program. -/
namespace Go.Vc
open Go Go.RowKit

def mk1 (op : Int) (a : Ex) : Ex := .mk op ⟨#[]⟩ nullV [a]
def mk2 (op : Int) (a b : Ex) : Ex := .mk op ⟨#[]⟩ nullV [a, b]
def F2 (a b : Ex) : Prop := (∀ y ∈ nodesT a, NodeOk y) ∧ (∀ y ∈ nodesT b, NodeOk y) ∧ depthT a ≤ 39 ∧ depthT b ≤ 39 ∧ (nodesT a).length + (nodesT b).length ≤ 399
def F1 (a : Ex) : Prop := (∀ y ∈ nodesT a, NodeOk y) ∧ depthT a ≤ 39 ∧ (nodesT a).length ≤ 399
theorem F2.symm {a b : Ex} (h : F2 a b) : F2 b a := ⟨h.2.1, h.1, h.2.2.2.1, h.2.2.1, by have := h.2.2.2.2; omega⟩
section
variable {cols : List Col} {row : List Val} {op : Int} {a b x : Ex}
/-- An expression has a value over a row just if all is well; else it has an error, and no value. -/
def Well (cols : List Col) (row : List Val) (x : Ex) : Prop := rightC cols = true ∧ formedB x = true ∧ (kindF cols x).2 = 0 ∧ fitsL cols row = true ∧ (valueF cols row x).2 = 0
def FitX (x : Ex) : Prop := ∀ y ∈ nodesT x, fitI y.v.n
def FitR (row : List Val) : Prop := ∀ u ∈ row, fitI u.n
end

section
variable {cols : List Col} {row : List Val} {op : Int} {a b x : Ex} {name : ByteArray} {v : Val} {g h : Int}
theorem FitX.mk2 (ha : FitX a) (hb : FitX b) : FitX (mk2 op a b) := by
  intro y hy
  unfold Go.Vc.mk2 at hy
  rw [nodesT, nodesTs, nodesTs, nodesTs] at hy
  simp only [List.mem_cons, List.mem_append, List.not_mem_nil, or_false] at hy
  rcases hy with rfl | hy | hy
  · show fitI 0; unfold fitI; decide
  · exact ha y hy
  · exact hb y hy
theorem FitX.mk1 (ha : FitX a) : FitX (mk1 op a) := by
  intro y hy
  unfold Go.Vc.mk1 at hy
  rw [nodesT, nodesTs, nodesTs] at hy
  simp only [List.mem_cons, List.mem_append, List.not_mem_nil, or_false] at hy
  rcases hy with rfl | hy
  · show fitI 0; unfold fitI; decide
  · exact ha y hy

/-- Both sides are well. -/
def Sides (cols : List Col) (row : List Val) (a b : Ex) : Prop := rightC cols = true ∧ F2 a b ∧ (kindF cols a).2 = 0 ∧ (kindF cols b).2 = 0 ∧ fitsL cols row = true ∧ (valueF cols row a).2 = 0 ∧ (valueF cols row b).2 = 0
theorem Sides.symm (h : Sides cols row a b) : Sides cols row b a := ⟨h.1, h.2.1.symm, h.2.2.2.1, h.2.2.1, h.2.2.2.2.1, h.2.2.2.2.2.2, h.2.2.2.2.2.1⟩
end

/-! ### The laws -/
section
variable {cols : List Col} {row : List Val} {a b x : Ex}
end
end Go.Vc

/- Answers that a condition may have: zones, sides, sets. Plain Lean, no program. -/
namespace Go.Vc
open Go Go.RowKit

structure Zn where
  nulls : Int
  lo : Val
  hi : Val
def Zn.cs (z : Zn) : List Value := [.int .i64 z.nulls, .int .i64 z.lo.k, .int .i64 z.lo.n, .string z.lo.s, .int .i64 z.hi.k, .int .i64 z.hi.n, .string z.hi.s]
theorem Zn.cs_length (z : Zn) : z.cs.length = 7 := rfl

/-! ### Sets of answers -/
structure S3 where
  no : Bool
  yes : Bool
  null : Bool
deriving DecidableEq
def S3.i (s : S3) : Int := (if s.no then 1 else 0) + (if s.yes then 2 else 0) + (if s.null then 4 else 0)
def S3.not (s : S3) : S3 := ⟨s.yes, s.no, s.null⟩
def S3.any (s : S3) : Bool := s.no || s.yes || s.null
def S3.and (s t : S3) : S3 := ⟨s.no && t.any || t.no && s.any, s.yes && t.yes, s.null && (t.yes || t.null) || t.null && s.yes⟩
def S3.or (s t : S3) : S3 := (s.not.and t.not).not
def S3.all : S3 := ⟨true, true, true⟩
def S3.Le (s t : S3) : Prop := (s.no = true → t.no = true) ∧ (s.yes = true → t.yes = true) ∧ (s.null = true → t.null = true)
instance (s t : S3) : Decidable (S3.Le s t) := by unfold S3.Le; exact inferInstance
/-! ### Zones -/
def zoneOk (c : Col) (z : Zn) (n : Int) : Bool := decide (z.lo.Ok ∧ z.hi.Ok ∧ 0 ≤ z.nulls ∧ z.nulls ≤ n ∧ (0 < z.nulls → c.null = true)) && (if z.nulls = n then decide (z.lo = nullV ∧ z.hi = nullV) else decide (z.lo.k = c.kind ∧ z.hi.k = c.kind ∧ cmpV z.lo z.hi ≤ 0))
def zonesL : List Col → List Zn → Int → Bool
  | [], [], _ => true
  | c :: cs, z :: zs, n => zoneOk c z n && zonesL cs zs n
  | _, _, _ => false
def zonesOk (cols : List Col) (zones : List Zn) (n : Int) : Bool := decide (zones.length = cols.length ∧ 0 ≤ n ∧ n ≤ 1024) && zonesL cols zones n

/-- What a side of a comparison may be. -/
structure Sd where
  null : Bool
  full : Bool
  lo : Val
  hi : Val
def sideF (cols : List Col) (zones : List Zn) (n : Int) (x : Ex) : Option Sd :=
  if x.op = 2 then some ⟨decide (x.v.k = 0), decide (x.v.k ≠ 0), x.v, x.v⟩
  else if x.op = 1 then (zones[(findC cols x.name).toNat]?).map fun z => ⟨decide (0 < z.nulls), decide (z.nulls < n), z.lo, z.hi⟩
  else none
def cmpS3 (op : Int) (a b : Sd) : S3 :=
  if (!a.full || !b.full) = true then ⟨false, false, a.null || b.null⟩
  else if op = 9 then ⟨decide (cmpV a.lo b.hi ≠ 0 ∨ cmpV a.hi b.lo ≠ 0), decide (cmpV a.lo b.hi ≤ 0 ∧ 0 ≤ cmpV a.hi b.lo), a.null || b.null⟩
  else if op = 10 then ⟨decide (0 ≤ cmpV a.hi b.lo), decide (cmpV a.lo b.hi < 0), a.null || b.null⟩
  else ⟨decide (0 < cmpV a.hi b.lo), decide (cmpV a.lo b.hi ≤ 0), a.null || b.null⟩
def ownS (v : Val) : S3 := ⟨decide (v.k ≠ 0 ∧ v.n ≠ 1), decide (v.k ≠ 0 ∧ v.n = 1), decide (v.k = 0)⟩
def colS (z : Zn) (n : Int) : S3 := ⟨decide (z.nulls < n ∧ z.lo.n = 0), decide (z.nulls < n ∧ z.hi.n = 1), decide (0 < z.nulls)⟩
def nodeS (cols : List Col) (zones : List Zn) (n : Int) (op : Int) (name : ByteArray) (v : Val) (ks : List Ex) (l : List S3) : S3 :=
  if op = 2 then ownS v
  else if op = 1 then (match zones[(findC cols name).toNat]? with | some z => colS z n | none => .all)
  else if op = 14 then (l.getD 0 .all).not
  else if op = 12 then (l.getD 0 .all).and (l.getD 1 .all)
  else if op = 13 then (l.getD 0 .all).or (l.getD 1 .all)
  else if op = 15 then (match (ks[0]?).bind (sideF cols zones n) with | some a => ⟨a.full, a.null, false⟩ | none => .all)
  else if op = 9 ∨ op = 10 ∨ op = 11 then (match (ks[0]?).bind (sideF cols zones n), (ks[1]?).bind (sideF cols zones n) with | some a, some b => cmpS3 op a b | _, _ => .all)
  else .all
mutual
def ansF (cols : List Col) (zones : List Zn) (n : Int) : Ex → S3
  | .mk op name v ks => nodeS cols zones n op name v ks (anssF cols zones n ks)
def anssF (cols : List Col) (zones : List Zn) (n : Int) : List Ex → List S3
  | [] => []
  | k :: r => ansF cols zones n k :: anssF cols zones n r
end
mutual
def bareF : Ex → Bool
  | .mk op _ _ ks => !(decide (3 ≤ op ∧ op ≤ 8)) && baresF ks
def baresF : List Ex → Bool
  | [] => true
  | k :: r => bareF k && baresF r
end
/-- The answers, and whether a row may have to be looked at. -/
def answersF (cols : List Col) (zones : List Zn) (n : Int) (x : Ex) : Int × Int :=
  if (typeF cols x).2 ≠ 0 then (0, (typeF cols x).2) else if (typeF cols x).1 ≠ 2 ∧ (typeF cols x).1 ≠ 0 then (0, 121) else if zonesOk cols zones n = false then (0, 2) else if n = 0 then (0, 0) else ((ansF cols zones n x).i, 0)
def mayF (cols : List Col) (zones : List Zn) (n : Int) (x : Ex) : Bool × Int :=
  if (answersF cols zones n x).2 ≠ 0 then (false, (answersF cols zones n x).2) else (decide (0 < n) && (!bareF x || decide ((answersF cols zones n x).1 % 4 / 2 = 1)), 0)

/-! ### Conditions without errors -/
section
variable {cols : List Col} {row : List Val} {zones : List Zn} {n : Int} {x : Ex}
/-! ### Each row's answer is one of them -/
/-- A zone holds a value. -/
def Cov (z : Zn) (n : Int) (u : Val) : Prop := (u.k = 0 → 0 < z.nulls) ∧ (u.k ≠ 0 → z.nulls < n ∧ cmpV z.lo u ≤ 0 ∧ cmpV u z.hi ≤ 0)
/-- A side holds a value. -/
def InSd (a : Sd) (u : Val) : Prop := (u.k = 0 → a.null = true) ∧ (u.k ≠ 0 → a.full = true ∧ cmpV a.lo u ≤ 0 ∧ cmpV u a.hi ≤ 0)
end
end Go.Vc

/- Each row's answer is one of those that a condition may have; more rows, more answers. Plain Lean, no program. -/
namespace Go.Vc
open Go Go.RowKit

section
variable {cols : List Col} {row : List Val} {zones zones' : List Zn} {n n' : Int}
/-- A node that names a column. -/
theorem col_node {x : Ex} (h1 : x.op = 1) (ho : NodeOk x) (hk : (kindF cols x).2 = 0) : ∃ c, cols[(findC cols x.name).toNat]? = some c ∧ kindF cols x = (c.kind, 0) := by
  obtain ⟨_, hk2⟩ := kids_kinds hk
  rw [hk2] at hk ⊢
  unfold kindN at hk ⊢
  have hw : wantOf x.op = 0 := by rw [h1]; rfl
  rw [hw, if_neg (by simp), if_pos h1] at hk ⊢
  split at hk
  · exact absurd hk (by decide)
  · rename_i hge
    rw [if_neg hge]
    obtain ⟨c, hc, _⟩ := findC_get (l := cols) (s := x.name) (by omega)
    exact ⟨c, hc, by rw [hc]; rfl⟩
theorem col_value {x : Ex} (h1 : x.op = 1) (ho : NodeOk x) (hf : fitsL cols row = true) {c : Col} (hc : cols[(findC cols x.name).toNat]? = some c) : ∃ u, row[(findC cols x.name).toNat]? = some u ∧ valueF cols row x = (u, 0) ∧ valFits c u = true := by
  have hl := fitsL_length hf
  have hi := (List.getElem?_eq_some_iff.1 hc).1
  have hu : row[(findC cols x.name).toNat]? = some (row[(findC cols x.name).toNat]'(by omega)) := List.getElem?_eq_getElem _
  generalize row[(findC cols x.name).toNat]'(by omega) = u at hu
  refine ⟨u, hu, ?_, fitsL_get hf hc hu⟩
  have hk0 : x.kids = [] := by
    have := ho.1
    rw [h1] at this
    have h0 : manyOf 1 = 0 := rfl
    rw [h0] at this
    exact List.length_eq_zero_iff.1 (by omega)
  rw [valueF_eq, hk0]
  simp [runL, valueN, h1, hu]
theorem const_value {x : Ex} (h2 : x.op = 2) (ho : NodeOk x) : valueF cols row x = (x.v, 0) := by
  have hk0 : x.kids = [] := by
    have := ho.1
    rw [h2] at this
    have h0 : manyOf 2 = 0 := rfl
    rw [h0] at this
    exact List.length_eq_zero_iff.1 (by omega)
  rw [valueF_eq, hk0]
  simp [runL, valueN, h2]
end
end Go.Vc

/- Expressions over many rows at once. Plain Lean, no program. -/
namespace Go.Vc
open Go Go.RowKit

def colAt (B : List (List Val)) (c i : Nat) : Val := (((B[c]?).getD [])[i]?).getD nullV
def rowB (B : List (List Val)) (i : Nat) : List Val := B.map fun c => (c[i]?).getD nullV
def chosenAt (n : Nat) (ch : List Int) (i : Nat) : Bool := decide (0 ≤ ch.getD i 0 ∧ ch.getD i 0 < (n : Int) ∧ (0 < i → ch.getD (i - 1) 0 < ch.getD i 0))
def highB (B : List (List Val)) : Nat := ((B[0]?).getD []).length
def rightB (cols : List Col) (B : List (List Val)) (ch : List Int) : Bool :=
  decide (B.length = cols.length ∧ highB B ≤ 1024) && B.all (fun c => decide (c.length = highB B)) && (List.range (highB B)).all (fun i => fitsC cols (rowB B i)) && (List.range ch.length).all (chosenAt (highB B) ch)
def valAt (cols : List Col) (B : List (List Val)) (x : Ex) (i : Int) : Val × Int := valueF cols (rowB B i.toNat) x
/-- The values, their errors, the error. -/
def evalB (cols : List Col) (B : List (List Val)) (ch : List Int) (x : Ex) : List Val × List Int × Int :=
  if (typeF cols x).2 ≠ 0 then ([], [], (typeF cols x).2) else if rightB cols B ch = false then ([], [], 2)
  else (ch.map fun i => (valAt cols B x i).1, ch.map fun i => (valAt cols B x i).2, 0)
def isTruth (v : Val) : Bool := decide (v.k = 2 ∧ v.n = 1)
/-- The first place that has an error, or all have none. -/
def firstBad (cols : List Col) (B : List (List Val)) (x : Ex) : List Int → Option Int
  | [] => none
  | i :: r => if (valAt cols B x i).2 ≠ 0 then some i else firstBad cols B x r
def filterB (cols : List Col) (B : List (List Val)) (ch : List Int) (x : Ex) : List Int × Int × Int :=
  if (typeF cols x).2 ≠ 0 then ([], 0, (typeF cols x).2) else if (typeF cols x).1 ≠ 2 ∧ (typeF cols x).1 ≠ 0 then ([], 0, 121) else if rightB cols B ch = false then ([], 0, 2)
  else match firstBad cols B x ch with
    | some i => ([], i, (valAt cols B x i).2)
    | none => (ch.filter fun i => isTruth (valAt cols B x i).1, 0, 0)
def turnB (cols : List Col) (rows : List (List Val)) : List (List Val) × Int :=
  if rightC cols = false then ([], 50) else if 1024 < rows.length ∨ ¬ (∀ r ∈ rows, fitsC cols r = true) then ([], 2)
  else ((List.range cols.length).map fun c => rows.map fun r => (r[c]?).getD nullV, 0)
def allCh (B : List (List Val)) : List Int := (List.range (highB B)).map fun i : Nat => (i : Int)

section
variable {cols : List Col} {B rows : List (List Val)} {ch : List Int} {a b x : Ex}
theorem right_len (h : rightC cols = true) : 1 ≤ cols.length ∧ cols.length ≤ 16 := by
  unfold rightC at h
  rw [Bool.and_eq_true, decide_eq_true_eq] at h
  exact h.1
theorem fitsC_iff {r : List Val} (h : rightC cols = true) : fitsC cols r = fitsL cols r := by unfold fitsC; rw [h]; rfl
theorem typeF_right (h : (typeF cols x).2 = 0) : rightC cols = true ∧ formedB x = true ∧ typeF cols x = kindF cols x := by
  unfold typeF at h ⊢
  by_cases h1 : rightC cols = true
  · by_cases h2 : formedB x = true
    · simp [h1, h2]
    · simp [h1, h2] at h
  · simp [h1] at h
/-! ### Columns of rows -/
theorem turned (h : rightC cols = true) (hl : rows.length ≤ 1024) (hf : ∀ r ∈ rows, fitsC cols r = true) : turnB cols rows = ((List.range cols.length).map fun c => rows.map fun r => (r[c]?).getD nullV, 0) := by
  unfold turnB
  rw [if_neg (by simp [h]), if_neg]
  rintro (h | h)
  · omega
  · exact h hf
theorem turned_high (h : rightC cols = true) : highB ((List.range cols.length).map fun c => rows.map fun r : List Val => (r[c]?).getD nullV) = rows.length := by
  have hl := (right_len h).1
  unfold highB
  rw [List.getElem?_map, List.getElem?_range (by omega)]
  simp
theorem turned_row (hf : ∀ r ∈ rows, fitsC cols r = true) {i : Nat} {r : List Val} (hr : rows[i]? = some r) : rowB ((List.range cols.length).map fun c => rows.map fun r : List Val => (r[c]?).getD nullV) i = r := by
  have hfit := hf r (List.mem_of_getElem? hr)
  unfold fitsC at hfit
  rw [Bool.and_eq_true] at hfit
  have hl := fitsL_length hfit.2
  unfold rowB
  rw [List.map_map]
  apply List.ext_getElem?
  intro c
  rw [List.getElem?_map]
  by_cases hc : c < cols.length
  · rw [List.getElem?_range hc]
    have : r[c]? = some (r[c]'(by omega)) := List.getElem?_eq_getElem _
    simp [hr, this]
  · rw [List.getElem?_eq_none (by simpa using hc), List.getElem?_eq_none (by omega)]; rfl
theorem turned_right (h : rightC cols = true) (hl : rows.length ≤ 1024) (hf : ∀ r ∈ rows, fitsC cols r = true) (hch : ∀ i, i < ch.length → chosenAt rows.length ch i = true) :
    rightB cols ((List.range cols.length).map fun c => rows.map fun r : List Val => (r[c]?).getD nullV) ch = true := by
  unfold rightB
  rw [turned_high h]
  simp only [Bool.and_eq_true, decide_eq_true_eq, List.all_eq_true, List.mem_range]
  refine ⟨⟨⟨⟨by simp, hl⟩, ?_⟩, ?_⟩, hch⟩
  · intro c hc
    obtain ⟨i, _, rfl⟩ := List.mem_map.1 hc
    simp
  · intro i hi
    have hr : rows[i]? = some (rows[i]'hi) := List.getElem?_eq_getElem _
    rw [turned_row hf hr]
    exact hf _ (List.mem_of_getElem? hr)
theorem all_chosen (n i : Nat) (h : i < n) : chosenAt n ((List.range n).map fun i : Nat => (i : Int)) i = true := by
  unfold chosenAt
  rw [decide_eq_true_eq]
  have e : ∀ j, j < n → ((List.range n).map fun i : Nat => (i : Int)).getD j 0 = (j : Int) := by
    intro j hj
    rw [List.getD_eq_getElem?_getD, List.getElem?_map, List.getElem?_range hj]; rfl
  rw [e i h]
  refine ⟨by omega, by omega, fun hp => ?_⟩
  rw [e (i - 1) (by omega)]
  omega
theorem ch_get {n i : Nat} (h : i < ch.length) (hc : chosenAt n ch i = true) : 0 ≤ ch[i] ∧ ch[i] < (n : Int) := by
  unfold chosenAt at hc
  rw [decide_eq_true_eq, List.getD_eq_getElem?_getD, List.getElem?_eq_getElem h] at hc
  exact ⟨hc.1, hc.2.1⟩
theorem valueF_eval {r : List Val} (h1 : (typeF cols x).2 = 0) (h2 : fitsC cols r = true) : valueF cols r x = evalF cols r x := by
  unfold evalF
  rw [if_neg (by simp [h1]), if_neg (by simp [h2])]
theorem firstBad_none : ∀ {ch : List Int}, firstBad cols B x ch = none ↔ ∀ i ∈ ch, (valAt cols B x i).2 = 0
  | [] => by simp [firstBad]
  | i :: r => by
    unfold firstBad
    by_cases h : (valAt cols B x i).2 = 0
    · rw [if_neg (by simp [h]), firstBad_none]
      simp [h]
    · rw [if_pos h]
      simp [h]
theorem chosen_mem {n : Nat} (h : ∀ i, i < ch.length → chosenAt n ch i = true) {i : Int} (hi : i ∈ ch) : 0 ≤ i ∧ i < (n : Int) := by
  obtain ⟨j, hj, rfl⟩ := List.getElem_of_mem hi
  exact ch_get hj (h j hj)
theorem chosen_sorted {n : Nat} (h : ∀ i, i < ch.length → chosenAt n ch i = true) : ch.Pairwise (· < ·) := by
  have step : ∀ i (h1 : i + 1 < ch.length), ch[i] < ch[i + 1] := by
    intro i h1
    have := h (i + 1) h1
    unfold chosenAt at this
    rw [decide_eq_true_eq, List.getD_eq_getElem?_getD, List.getElem?_eq_getElem h1, List.getD_eq_getElem?_getD, Nat.add_sub_cancel, List.getElem?_eq_getElem (by omega)] at this
    exact this.2.2 (by omega)
  rw [List.pairwise_iff_getElem]
  intro i j hi hj hij
  induction j with
  | zero => omega
  | succ j ih =>
    have hs := step j hj
    rcases Nat.lt_or_ge i j with hlt | hge
    · exact Int.lt_trans (ih (by omega) hlt) hs
    · have : i = j := by omega
      subst this; exact hs
/-! ### Filtering by both -/
theorem filterB_make (h1 : (typeF cols x).2 = 0) (h2 : (typeF cols x).1 = 2 ∨ (typeF cols x).1 = 0) (h3 : rightB cols B ch = true) (h4 : ∀ i ∈ ch, (valAt cols B x i).2 = 0) : filterB cols B ch x = (ch.filter fun i => isTruth (valAt cols B x i).1, 0, 0) := by
  unfold filterB
  rw [if_neg (by simp [h1]), if_neg (by omega), if_neg (by simp [h3]), firstBad_none.2 h4]
theorem right_chosen (h : rightB cols B ch = true) : ∀ i, i < ch.length → chosenAt (highB B) ch i = true := by
  unfold rightB at h
  simp only [Bool.and_eq_true, List.all_eq_true, List.mem_range] at h
  exact h.2
end
end Go.Vc

/- The frame, its blocks in any order; blocks for deferred calls that are not known one by one. -/
namespace Go.Vc
open Go Go.RowKit

section
variable {w0 W W' : World} {fs fs' gs : List (Nat × Obj)} {B d : Nat} {ds : List Nat} {ms : List Row}

theorem Hold.mem (h : Hold w0 W fs ms) {x : Nat × Obj} (hx : x ∈ fs) : W.heap[x.1]? = some x.2 := by
  obtain ⟨i, hi⟩ := List.mem_iff_getElem?.1 hx
  exact h.holds i x hi
theorem Hold.ltM (h : Hold w0 W fs ms) {x : Nat × Obj} (hx : x ∈ fs) : x.1 < W.heap.size := (Array.getElem?_eq_some_iff.1 (h.mem hx)).1
theorem Hold.blkM {b : Nat} {cs : Array Value} {t : TypeId} (h : Hold w0 W fs ms) (hx : (b, Obj.cells cs t (0, 0)) ∈ fs) : Blk W b t cs := h.mem hx
theorem Hold.nodup (h : Hold w0 W fs ms) : (fs.map (·.1)).Nodup := by
  rw [List.Nodup, List.pairwise_iff_getElem]
  intro i j hi hj hij
  simp only [List.getElem_map]
  simp only [List.length_map] at hi hj
  exact h.keys i j _ _ (List.getElem?_eq_getElem hi) (List.getElem?_eq_getElem hj) (by omega)
theorem Hold.make (e : Ext w0 W) (h : ∀ x ∈ fs, w0.heap.size ≤ x.1 ∧ W.heap[x.1]? = some x.2) (hn : (fs.map (·.1)).Nodup) : Hold w0 W fs [] := by
  refine ⟨e, fun x hx => (h x hx).1, fun i x hx => (h x (List.mem_of_getElem? hx)).2, fun i j x y hx hy hij => ?_, by simp, by simp, by simp⟩
  rw [List.Nodup, List.pairwise_iff_getElem] at hn
  obtain ⟨hi, rfl⟩ := List.getElem?_eq_some_iff.1 hx
  obtain ⟨hj, rfl⟩ := List.getElem?_eq_some_iff.1 hy
  rcases Nat.lt_or_ge i j with hlt | hge
  · have := hn i j (by simpa) (by simpa) hlt
    rwa [List.getElem_map, List.getElem_map] at this
  · have := hn j i (by simpa) (by simpa) (by omega)
    rw [List.getElem_map, List.getElem_map] at this
    exact this.symm
theorem Hold.perm (h : Hold w0 W fs []) (hp : fs.Perm fs') : Hold w0 W fs' [] :=
  Hold.make h.ext (fun x hx => ⟨h.ge x (hp.mem_iff.2 hx), h.mem (hp.mem_iff.2 hx)⟩) ((hp.map _).nodup_iff.1 h.nodup)
theorem Hold.sub (h : Hold w0 W fs []) (hp : fs'.Sublist fs) : Hold w0 W fs' [] :=
  Hold.make h.ext (fun x hx => ⟨h.ge x (hp.subset hx), h.mem (hp.subset hx)⟩) (h.nodup.sublist (hp.map _))
theorem Hold.swap {a b c : List (Nat × Obj)} (h : Hold w0 W ((a ++ b) ++ c) []) : Hold w0 W (b ++ (a ++ c)) [] := by
  rw [← List.append_assoc]
  exact h.perm (List.perm_append_comm.append_right c)
theorem Hold.left {a b : List (Nat × Obj)} (h : Hold w0 W (a ++ b) []) : Hold w0 W a [] := h.sub (List.sublist_append_left _ _)
theorem Hold.right {a b : List (Nat × Obj)} (h : Hold w0 W (a ++ b) []) : Hold w0 W b [] := h.sub (List.sublist_append_right _ _)
theorem Hold.but {b : Nat} (h : Hold w0 W fs []) (e : But b W W') (hb : w0.heap.size ≤ b) (hf : ∀ x ∈ fs, x.1 ≠ b) : Hold w0 W' fs [] :=
  Hold.make (h.ext.below.but e hb h.size) (fun x hx => ⟨h.ge x hx, (e.block _ (h.ltM hx) (hf x hx)).trans (h.mem hx)⟩) h.nodup

/-- Open blocks as held ones. -/
def dfs (ds : List Nat) : List (Nat × Obj) := ds.map fun d => (d, .deferred (some []))
theorem Hold.addOpen (h : Hold w0 W fs []) (ho : Go.Vc.Open B ds W) (hB : w0.heap.size ≤ B) (hf : ∀ x ∈ fs, x.1 < B ∨ x.2 ≠ .deferred (some [])) : Hold w0 W (dfs ds ++ fs) [] := by
  refine Hold.make h.ext (fun x hx => ?_) ?_
  · rcases List.mem_append.1 hx with hx | hx
    · obtain ⟨d, hd, rfl⟩ := List.mem_map.1 hx
      obtain ⟨h1, h2⟩ := ho.2 d hd
      exact ⟨Nat.le_trans hB h1, h2⟩
    · exact ⟨h.ge x hx, h.mem hx⟩
  · rw [List.map_append, List.nodup_append]
    refine ⟨?_, h.nodup, ?_⟩
    · have : (dfs ds).map (·.1) = ds := by unfold dfs; rw [List.map_map]; exact List.map_id _
      rw [this]; exact ho.1
    · intro a ha b hb
      obtain ⟨x, hx, rfl⟩ := List.mem_map.1 ha
      obtain ⟨d, hd, rfl⟩ := List.mem_map.1 hx
      obtain ⟨y, hy, rfl⟩ := List.mem_map.1 hb
      intro e
      simp only at e
      obtain ⟨h1, h2⟩ := ho.2 d hd
      rcases hf y hy with hlt | hne
      · omega
      · have := h.mem hy
        rw [← e, h2] at this
        exact hne (Option.some.inj this).symm
theorem Hold.opened (h : Hold w0 W (dfs ds ++ fs) []) (hB : ∀ d ∈ ds, B ≤ d) : Go.Vc.Open B ds W := by
  constructor
  · have := h.left.nodup
    have e : (dfs ds).map (·.1) = ds := by unfold dfs; rw [List.map_map]; exact List.map_id _
    rwa [e] at this
  · intro d hd
    exact ⟨hB d hd, h.mem (x := (d, .deferred (some []))) (List.mem_append_left _ (List.mem_map.2 ⟨d, hd, rfl⟩))⟩
/-- The open blocks are taken: what is held below them is as it was. -/
theorem unD_hold {F : World → Prop} (hB : w0.heap.size ≤ B) (hf : ∀ x ∈ fs, x.1 < B) (hF : ∀ W', Hold w0 W' fs [] → F W') : ∀ (ds : List Nat) (W : World), Go.Vc.Open B ds W → Hold w0 W fs [] → unD ds W F := by
  intro ds
  induction ds with
  | nil => intro W _ h; exact hF W h
  | cons d r ih =>
    intro W ho h
    obtain ⟨h1, h2⟩ := ho.2 d (by simp)
    have hn := List.nodup_cons.1 ho.1
    refine ⟨h2, ih _ ⟨hn.2, fun x hx => ?_⟩ (h.but shut_but.1 (by omega) fun x hx e => ?_)⟩
    · obtain ⟨k1, k2⟩ := ho.2 x (by simp [hx])
      refine ⟨k1, (shut_but.1.block x (Array.getElem?_eq_some_iff.1 k2).1 fun e => ?_).trans k2⟩
      subst e; exact hn.1 hx
    · have := hf x hx; omega
end

theorem Blk.c6 {w : World} {b : Nat} {t : TypeId} {x y z u v q : Value} (h : Blk w b t #[x, y, z, u, v, q]) : w.cell? ⟨b, 0, none⟩ = some x ∧ w.cell? ⟨b, 1, none⟩ = some y ∧ w.cell? ⟨b, 2, none⟩ = some z ∧
    w.cell? ⟨b, 3, none⟩ = some u ∧ w.cell? ⟨b, 4, none⟩ = some v ∧ w.cell? ⟨b, 5, none⟩ = some q := by
  refine ⟨?_, ?_, ?_, ?_, ?_, ?_⟩ <;> (rw [h.cell]; rfl)
/-- A block of six cells can be written. -/
theorem Blk.w6 {w : World} {b : Nat} {t : TypeId} {x y z u v q : Value} (h : Blk w b t #[x, y, z, u, v, q]) {X : Prop} (hX : X) : (∃ u, w.cell? ⟨b, 0, none⟩ = some u) ∧ w.frozen? ⟨b, 0, none⟩ = false ∧ (∃ u, w.cell? ⟨b, 1, none⟩ = some u) ∧ w.frozen? ⟨b, 1, none⟩ = false ∧
    (∃ u, w.cell? ⟨b, 2, none⟩ = some u) ∧ w.frozen? ⟨b, 2, none⟩ = false ∧ (∃ u, w.cell? ⟨b, 3, none⟩ = some u) ∧ w.frozen? ⟨b, 3, none⟩ = false ∧ (∃ u, w.cell? ⟨b, 4, none⟩ = some u) ∧ w.frozen? ⟨b, 4, none⟩ = false ∧
    (∃ u, w.cell? ⟨b, 5, none⟩ = some u) ∧ w.frozen? ⟨b, 5, none⟩ = false ∧ X := by
  obtain ⟨a0, a1, a2, a3, a4, a5⟩ := h.c6
  exact ⟨⟨_, a0⟩, h.frozen _, ⟨_, a1⟩, h.frozen _, ⟨_, a2⟩, h.frozen _, ⟨_, a3⟩, h.frozen _, ⟨_, a4⟩, h.frozen _, ⟨_, a5⟩, h.frozen _, hX⟩
end Go.Vc
namespace Go.Vc
open Go Go.RowKit
/-- A value of three cells is written into a variable and read out of it. -/
theorem Hold.ret3 {w0 W : World} {fs : List (Nat × Obj)} {ms : List Row} {b : Nat} {t : TypeId} {x y z : Value} {X : Int → Int → ByteArray → World → Prop} (H : Hold w0 W fs ms) (i : Nat) (hi : fs[i]? = some (b, .cells #[x, y, z] t (0, 0))) (k n : Int) (s : ByteArray)
    (hX : ∀ W', Ext w0 W' → X k n s W') : (∃ u, W.cell? ⟨b, 0, none⟩ = some u) ∧ W.frozen? ⟨b, 0, none⟩ = false ∧ (∃ u, W.cell? ⟨b, 1, none⟩ = some u) ∧ W.frozen? ⟨b, 1, none⟩ = false ∧ (∃ u, W.cell? ⟨b, 2, none⟩ = some u) ∧ W.frozen? ⟨b, 2, none⟩ = false ∧
    ∀ W' : World, Put W b 0 [.int .i64 k, .int .i64 n, .string s] W' → ∃ k' : Int, W'.cell? ⟨b, 0, none⟩ = some (.int .i64 k') ∧ ∃ n' : Int, W'.cell? ⟨b, 1, none⟩ = some (.int .i64 n') ∧ ∃ s' : ByteArray, W'.cell? ⟨b, 2, none⟩ = some (.string s') ∧ X k' n' s' W' := by
  have B := H.blk i hi
  have c0 : W.cell? ⟨b, 0, none⟩ = some x := by rw [B.cell]; rfl
  have c1 : W.cell? ⟨b, 1, none⟩ = some y := by rw [B.cell]; rfl
  have c2 : W.cell? ⟨b, 2, none⟩ = some z := by rw [B.cell]; rfl
  refine ⟨⟨_, c0⟩, B.frozen _, ⟨_, c1⟩, B.frozen _, ⟨_, c2⟩, B.frozen _, fun W' h => ?_⟩
  have H' := H.put i hi h
  have B' : Blk W' b t #[.int .i64 k, .int .i64 n, .string s] := B.put h
  exact ⟨k, by rw [B'.cell]; rfl, n, by rw [B'.cell]; rfl, s, by rw [B'.cell]; rfl, hX W' H'.ext⟩
end Go.Vc

/- Cells out of the frame, one by one: what the printed steps of a walk use. -/
namespace Go.Vc
open Go Go.RowKit

section
variable {w0 W W' : World} {fs : List (Nat × Obj)} {ms : List Row} {b k : Nat} {t : TypeId} {cs : Array Value} {v : Value}
theorem Hold.get (h : Hold w0 W fs ms) (i : Nat) (hi : fs[i]? = some (b, .cells cs t (0, 0))) (hk : cs[k]? = some v) : W.cell? ⟨b, k, none⟩ = some v := by
  rw [(h.blk i hi).cell]; exact hk
theorem Hold.frz (h : Hold w0 W fs ms) (i : Nat) (hi : fs[i]? = some (b, .cells cs t (0, 0))) : W.frozen? ⟨b, k, none⟩ = false := (h.blk i hi).frozen k
end
end Go.Vc

/- The contracts of vector.column, with each of the words that it is handed. -/
namespace Go.Proofs.YtaccokhdmhomhaaDoor
open Go Go.Vc Go.RowKit
set_option maxRecDepth 20000
attribute [local irreducible] Calls Put Drew New

theorem tyVal : tyOf Tryd.prog 26 = some { agg := true, ls := [.int .i64, .int .i64, .str], zero := .agg #[.int .i64 0, .int .i64 0, .string ⟨#[]⟩], bytes := 32, big := false, n := 3 } := by kernel_rfl
theorem undVals : Tryd.prog.underlying 31 = some (.slice 26) := by kernel_rfl
theorem tyVals : tyOf Tryd.prog 31 = some { agg := false, ls := [.slc], zero := .slice none 0 0, bytes := 24, big := false, n := 1 } := by kernel_rfl
theorem undBatch : Tryd.prog.underlying 23 = some (.slice 31) := by kernel_rfl
theorem tyInt : tyOf Tryd.prog 3 = some { agg := false, ls := [.int .i64], zero := .int .i64 0, bytes := 8, big := false, n := 1 } := by kernel_rfl
theorem undInts : Tryd.prog.underlying 24 = some (.slice 3) := by kernel_rfl

/-- Numbers in memory. -/
def encI (i : Int) : List Value := [.int .i64 i]
abbrev Is := Ls encI
theorem encI_len (i : Int) : (encI i).length = 1 := rfl
theorem encI_one (i : Int) : ∀ u ∈ encI i, u.oneCell' = true := by
  intro u hu
  unfold encI at hu
  simp at hu
  subst hu; rfl
theorem _root_.Go.Vc.Ls.int {w : World} {p : Option Addr} {n c : Nat} {l : List Int} (h : Is w p n c l) {i : Nat} {z : Int} (hi : l[i]? = some z) : ∃ b o, p = some ⟨b, o, none⟩ ∧ w.cell? ⟨b, o + i, none⟩ = some (.int .i64 z) := by
  obtain ⟨b, o, hp, hc⟩ := h.lies.things encI_len (by decide) hi
  exact ⟨b, o, hp, by have := hc 0 _ rfl; simpa using this⟩

theorem vcolU_ok {w : World} {n : Nat} {f0 f1 : Nat} {l : List Val} (hn : n ≤ 1024) (hl : l.length = n)
    (H0 : ∀ {W : World} {i : Nat} {v : Val}, Ext w W → l[i]? = some v → Calls Tryd.prog 34 #[.int .i64 (i : Int), .pointer (some ⟨f0, 0, none⟩), .pointer (some ⟨f1, 0, none⟩)] W fun e W' => e = .returned v.agg ∧ Ext W W') :
    Calls Tryd.prog 33 #[.int .i64 (n : Int), .func (.func 34) #[] #[.pointer (some ⟨f0, 0, none⟩), .pointer (some ⟨f1, 0, none⟩)]] w fun e w' => ∃ (p : Option Addr) (c : Nat), e = .returned (.slice p n c) ∧ Mine w.heap.size 26 3 w' p n c (l.flatMap Val.cs) ∧ Vs w' p n c l ∧ Ext w w' := by
  apply vcolU_vc
  unfold vcolU_T
  simp only [Int.toNat_natCast]
  refine ⟨by omega, by omega, by omega, by omega, ?_⟩
  intro b1 w2 h1
  have Hs := (Hold.start (Ext.rfl (w := w))).madeRow (s := 3) (cap := n) h1 (by unfold maxLen; omega) (by simp [size_madeCells])
  refine ⟨fun q k d i W => ∃ j : Nat, i = (j : Int) ∧ j ≤ n ∧ k = j ∧ Hold w W [] [⟨26, 3, q, k, d, (l.take j).flatMap Val.cs⟩], fun _ _ _ i _ => n - i.toNat, ⟨0, rfl, Nat.zero_le _, rfl, by simpa using Hs⟩, ?_⟩
  clear Hs
  rintro q j d i W ⟨_, rfl, hj, rfl, H⟩
  refine ⟨fun hlt => ?_, fun hge => ?_⟩
  · have g : l[j]? = some (l[j]'(by omega)) := List.getElem?_eq_getElem _
    generalize l[j]'(by omega) = v at g
    refine (H0 H.ext g).mono ?_
    rintro e W1 ⟨rfl, eX⟩
    replace H := H.step eX
    refine ⟨_, _, _, rfl, ?_⟩
    intro b18 w19 h18
    have h18' := h18
    replace H := H.step h18.ext
    obtain ⟨p', c', w26, hrn, H26⟩ := H.append (ty := 31) (P := Tryd.prog) (q := some ⟨b18, 0, none⟩) (m := 1) (d' := 1) (news := v.cs) 0 rfl undVals tyVal rfl (by decide) (Blk.new h18').at rfl (fun e => by cases e) v.cs_one (by dsimp only; omega) (by unfold maxLen; omega)
    refine ⟨p', _, c', w26, hrn, ?_⟩
    rw [i64_next (by omega)]
    refine ⟨⟨j + 1, rfl, by omega, rfl, ?_⟩, by simp only [Int.toNat_natCast]; omega⟩
    rw [List.take_add_one, g, List.flatMap_append]
    simpa using H26
  · have hjn : j = n := by omega
    subst hjn
    rw [List.take_of_length_le (by omega)] at H
    exact ⟨q, d, rfl, H.row 0 rfl, (H.row 0 rfl).ls Val.cs_length (by decide), H.ext⟩
theorem vcolR_ok {w : World} {n : Nat} {f0 f1 : Nat} {l : List Val} (hn : n ≤ 1024) (hl : l.length = n)
    (H0 : ∀ {W : World} {i : Nat} {v : Val}, Ext w W → l[i]? = some v → Calls Tryd.prog 65 #[.int .i64 (i : Int), .pointer (some ⟨f0, 0, none⟩), .pointer (some ⟨f1, 0, none⟩)] W fun e W' => e = .returned v.agg ∧ Ext W W') :
    Calls Tryd.prog 33 #[.int .i64 (n : Int), .func (.func 65) #[] #[.pointer (some ⟨f0, 0, none⟩), .pointer (some ⟨f1, 0, none⟩)]] w fun e w' => ∃ (p : Option Addr) (c : Nat), e = .returned (.slice p n c) ∧ Mine w.heap.size 26 3 w' p n c (l.flatMap Val.cs) ∧ Vs w' p n c l ∧ Ext w w' := by
  apply vcolR_vc
  unfold vcolR_T
  simp only [Int.toNat_natCast]
  refine ⟨by omega, by omega, by omega, by omega, ?_⟩
  intro b1 w2 h1
  have Hs := (Hold.start (Ext.rfl (w := w))).madeRow (s := 3) (cap := n) h1 (by unfold maxLen; omega) (by simp [size_madeCells])
  refine ⟨fun q k d i W => ∃ j : Nat, i = (j : Int) ∧ j ≤ n ∧ k = j ∧ Hold w W [] [⟨26, 3, q, k, d, (l.take j).flatMap Val.cs⟩], fun _ _ _ i _ => n - i.toNat, ⟨0, rfl, Nat.zero_le _, rfl, by simpa using Hs⟩, ?_⟩
  clear Hs
  rintro q j d i W ⟨_, rfl, hj, rfl, H⟩
  refine ⟨fun hlt => ?_, fun hge => ?_⟩
  · have g : l[j]? = some (l[j]'(by omega)) := List.getElem?_eq_getElem _
    generalize l[j]'(by omega) = v at g
    refine (H0 H.ext g).mono ?_
    rintro e W1 ⟨rfl, eX⟩
    replace H := H.step eX
    refine ⟨_, _, _, rfl, ?_⟩
    intro b18 w19 h18
    have h18' := h18
    replace H := H.step h18.ext
    obtain ⟨p', c', w26, hrn, H26⟩ := H.append (ty := 31) (P := Tryd.prog) (q := some ⟨b18, 0, none⟩) (m := 1) (d' := 1) (news := v.cs) 0 rfl undVals tyVal rfl (by decide) (Blk.new h18').at rfl (fun e => by cases e) v.cs_one (by dsimp only; omega) (by unfold maxLen; omega)
    refine ⟨p', _, c', w26, hrn, ?_⟩
    rw [i64_next (by omega)]
    refine ⟨⟨j + 1, rfl, by omega, rfl, ?_⟩, by simp only [Int.toNat_natCast]; omega⟩
    rw [List.take_add_one, g, List.flatMap_append]
    simpa using H26
  · have hjn : j = n := by omega
    subst hjn
    rw [List.take_of_length_le (by omega)] at H
    exact ⟨q, d, rfl, H.row 0 rfl, (H.row 0 rfl).ls Val.cs_length (by decide), H.ext⟩
theorem vcolP_ok {w : World} {n : Nat} {f0 f1 f2 : Nat} {l : List Val} (hn : n ≤ 1024) (hl : l.length = n)
    (H0 : ∀ {W : World} {i : Nat} {v : Val}, Ext w W → l[i]? = some v → Calls Tryd.prog 44 #[.int .i64 (i : Int), .pointer (some ⟨f0, 0, none⟩), .pointer (some ⟨f1, 0, none⟩), .pointer (some ⟨f2, 0, none⟩)] W fun e W' => e = .returned v.agg ∧ Ext W W') :
    Calls Tryd.prog 33 #[.int .i64 (n : Int), .func (.func 44) #[] #[.pointer (some ⟨f0, 0, none⟩), .pointer (some ⟨f1, 0, none⟩), .pointer (some ⟨f2, 0, none⟩)]] w fun e w' => ∃ (p : Option Addr) (c : Nat), e = .returned (.slice p n c) ∧ Mine w.heap.size 26 3 w' p n c (l.flatMap Val.cs) ∧ Vs w' p n c l ∧ Ext w w' := by
  apply vcolP_vc
  unfold vcolP_T
  simp only [Int.toNat_natCast]
  refine ⟨by omega, by omega, by omega, by omega, ?_⟩
  intro b1 w2 h1
  have Hs := (Hold.start (Ext.rfl (w := w))).madeRow (s := 3) (cap := n) h1 (by unfold maxLen; omega) (by simp [size_madeCells])
  refine ⟨fun q k d i W => ∃ j : Nat, i = (j : Int) ∧ j ≤ n ∧ k = j ∧ Hold w W [] [⟨26, 3, q, k, d, (l.take j).flatMap Val.cs⟩], fun _ _ _ i _ => n - i.toNat, ⟨0, rfl, Nat.zero_le _, rfl, by simpa using Hs⟩, ?_⟩
  clear Hs
  rintro q j d i W ⟨_, rfl, hj, rfl, H⟩
  refine ⟨fun hlt => ?_, fun hge => ?_⟩
  · have g : l[j]? = some (l[j]'(by omega)) := List.getElem?_eq_getElem _
    generalize l[j]'(by omega) = v at g
    refine (H0 H.ext g).mono ?_
    rintro e W1 ⟨rfl, eX⟩
    replace H := H.step eX
    refine ⟨_, _, _, rfl, ?_⟩
    intro b18 w19 h18
    have h18' := h18
    replace H := H.step h18.ext
    obtain ⟨p', c', w26, hrn, H26⟩ := H.append (ty := 31) (P := Tryd.prog) (q := some ⟨b18, 0, none⟩) (m := 1) (d' := 1) (news := v.cs) 0 rfl undVals tyVal rfl (by decide) (Blk.new h18').at rfl (fun e => by cases e) v.cs_one (by dsimp only; omega) (by unfold maxLen; omega)
    refine ⟨p', _, c', w26, hrn, ?_⟩
    rw [i64_next (by omega)]
    refine ⟨⟨j + 1, rfl, by omega, rfl, ?_⟩, by simp only [Int.toNat_natCast]; omega⟩
    rw [List.take_add_one, g, List.flatMap_append]
    simpa using H26
  · have hjn : j = n := by omega
    subst hjn
    rw [List.take_of_length_le (by omega)] at H
    exact ⟨q, d, rfl, H.row 0 rfl, (H.row 0 rfl).ls Val.cs_length (by decide), H.ext⟩
theorem vcolQ_ok {w : World} {n : Nat} {f0 : Nat} {l : List Val} (hn : n ≤ 1024) (hl : l.length = n)
    (H0 : ∀ {W : World} {i : Nat} {v : Val}, Ext w W → l[i]? = some v → Calls Tryd.prog 45 #[.int .i64 (i : Int), .pointer (some ⟨f0, 0, none⟩)] W fun e W' => e = .returned v.agg ∧ Ext W W') :
    Calls Tryd.prog 33 #[.int .i64 (n : Int), .func (.func 45) #[] #[.pointer (some ⟨f0, 0, none⟩)]] w fun e w' => ∃ (p : Option Addr) (c : Nat), e = .returned (.slice p n c) ∧ Mine w.heap.size 26 3 w' p n c (l.flatMap Val.cs) ∧ Vs w' p n c l ∧ Ext w w' := by
  apply vcolQ_vc
  unfold vcolQ_T
  simp only [Int.toNat_natCast]
  refine ⟨by omega, by omega, by omega, by omega, ?_⟩
  intro b1 w2 h1
  have Hs := (Hold.start (Ext.rfl (w := w))).madeRow (s := 3) (cap := n) h1 (by unfold maxLen; omega) (by simp [size_madeCells])
  refine ⟨fun q k d i W => ∃ j : Nat, i = (j : Int) ∧ j ≤ n ∧ k = j ∧ Hold w W [] [⟨26, 3, q, k, d, (l.take j).flatMap Val.cs⟩], fun _ _ _ i _ => n - i.toNat, ⟨0, rfl, Nat.zero_le _, rfl, by simpa using Hs⟩, ?_⟩
  clear Hs
  rintro q j d i W ⟨_, rfl, hj, rfl, H⟩
  refine ⟨fun hlt => ?_, fun hge => ?_⟩
  · have g : l[j]? = some (l[j]'(by omega)) := List.getElem?_eq_getElem _
    generalize l[j]'(by omega) = v at g
    refine (H0 H.ext g).mono ?_
    rintro e W1 ⟨rfl, eX⟩
    replace H := H.step eX
    refine ⟨_, _, _, rfl, ?_⟩
    intro b18 w19 h18
    have h18' := h18
    replace H := H.step h18.ext
    obtain ⟨p', c', w26, hrn, H26⟩ := H.append (ty := 31) (P := Tryd.prog) (q := some ⟨b18, 0, none⟩) (m := 1) (d' := 1) (news := v.cs) 0 rfl undVals tyVal rfl (by decide) (Blk.new h18').at rfl (fun e => by cases e) v.cs_one (by dsimp only; omega) (by unfold maxLen; omega)
    refine ⟨p', _, c', w26, hrn, ?_⟩
    rw [i64_next (by omega)]
    refine ⟨⟨j + 1, rfl, by omega, rfl, ?_⟩, by simp only [Int.toNat_natCast]; omega⟩
    rw [List.take_add_one, g, List.flatMap_append]
    simpa using H26
  · have hjn : j = n := by omega
    subst hjn
    rw [List.take_of_length_le (by omega)] at H
    exact ⟨q, d, rfl, H.row 0 rfl, (H.row 0 rfl).ls Val.cs_length (by decide), H.ext⟩
theorem vcolA_ok {w : World} {n : Nat} (hn : n ≤ 1024) :
    Calls Tryd.prog 35 #[.int .i64 (n : Int), .func (.func 36) #[] #[]] w fun e w' => ∃ (p : Option Addr) (c : Nat), e = .returned (.slice p n c) ∧ Is w' p n c ((List.range n).map fun i : Nat => (i : Int)) ∧ Ext w w' := by
  apply vcolA_vc
  unfold vcolA_T
  simp only [Int.toNat_natCast]
  refine ⟨by omega, by omega, by omega, by omega, ?_⟩
  intro b1 w2 h1
  have Hs := (Hold.start (Ext.rfl (w := w))).madeRow (s := 1) (cap := n) h1 (by unfold maxLen; omega) (by simp [size_madeCells])
  refine ⟨fun q k d i W => ∃ j : Nat, i = (j : Int) ∧ j ≤ n ∧ k = j ∧ Hold w W [] [⟨3, 1, q, k, d, ((List.range j).map fun i : Nat => (i : Int)).flatMap encI⟩], fun _ _ _ i _ => n - i.toNat, ⟨0, rfl, Nat.zero_le _, rfl, by simpa using Hs⟩, ?_⟩
  clear Hs
  rintro q j d i W ⟨_, rfl, hj, rfl, H⟩
  refine ⟨fun hlt => ?_, fun hge => ?_⟩
  · apply vall1_vc
    unfold vall1_T
    refine ⟨_, rfl, ?_⟩
    intro b18 w19 h18
    have h18' := h18
    replace H := H.step h18.ext
    obtain ⟨p', c', w26, hrn, H26⟩ := H.append (ty := 24) (P := Tryd.prog) (q := some ⟨b18, 0, none⟩) (m := 1) (d' := 1) (news := encI (j : Int)) 0 rfl undInts tyInt rfl (by decide) (Blk.new h18').at rfl (fun e => by cases e) (encI_one _) (by dsimp only; omega) (by unfold maxLen; omega)
    refine ⟨p', _, c', w26, hrn, ?_⟩
    rw [i64_next (by omega)]
    refine ⟨⟨j + 1, rfl, by omega, rfl, ?_⟩, by simp only [Int.toNat_natCast]; omega⟩
    rw [List.range_succ, List.map_append, List.flatMap_append]
    simpa using H26
  · have hjn : j = n := by omega
    subst hjn
    exact ⟨q, d, rfl, (H.row 0 rfl).ls encI_len (by decide), H.ext⟩
end Go.Proofs.YtaccokhdmhomhaaDoor

/- The contracts of vector: rowOf, All, right. -/
namespace Go.Proofs.YtaccokhdmhomhaaDoor
open Go Go.Vc Go.RowKit
set_option maxRecDepth 20000
attribute [local irreducible] Calls Put Drew New

section
variable {w : World} {p : Option Addr} {n c : Nat} {hs : List Sl} {B : List (List Val)}
theorem vrowof1_ok {f0 f1 i j : Nat} {r : List Val} {v : Val} (hB : Rws w p n c hs B) (h0 : w.cell? ⟨f0, 0, none⟩ = some (.slice p n c)) (h1 : w.cell? ⟨f1, 0, none⟩ = some (.int .i64 (i : Int))) (hr : B[j]? = some r) (hv : r[i]? = some v) :
    Calls Tryd.prog 65 #[.int .i64 (j : Int), .pointer (some ⟨f0, 0, none⟩), .pointer (some ⟨f1, 0, none⟩)] w fun e w' => e = .returned v.agg ∧ Ext w w' := by
  apply vrowof1_vc
  unfold vrowof1_T
  intro b1 w2 hN
  have H := (Hold.start (Ext.rfl (w := w))).new hN
  intro w4 hD
  replace H := H.step (Drew.ext hD)
  have hl := hB.len
  have hj := (List.getElem?_eq_some_iff.1 hr).1
  obtain ⟨x, _, hvs, b, o, hp, hcell⟩ := (hB.ext H.ext).get hr
  have hvl := hvs.len
  have hi := (List.getElem?_eq_some_iff.1 hv).1
  obtain ⟨vb, vo, hvp, c0, c1, c2⟩ := hvs.val hv
  simp only [Int.toNat_natCast]
  refine ⟨_, _, _, cell_ext h0 H.ext, b, o, hp, by omega, by omega, _, _, _, hcell, _, cell_ext h1 H.ext, vb, vo, hvp, by omega, by omega, _, c0, _, c1, _, c2, ?_⟩
  repeat (first
    | (intro _ _ hS; replace H := H.new hS; clear hS)
    | (intro _ hS; (first | replace H := H.put 0 rfl hS | replace H := H.put 1 rfl hS | replace H := H.put 2 rfl hS | replace H := H.put 3 rfl hS | replace H := H.put 4 rfl hS | replace H := H.put 5 rfl hS | replace H := H.put 6 rfl hS | replace H := H.put 7 rfl hS); clear hS; try simp only [setA, List.setIfInBounds_toArray, List.set_cons_zero, List.set_cons_succ, Nat.zero_add, Nat.reduceAdd] at H)
    | (intro _ hS; replace H := H.step (Drew.ext hS); clear hS)
    | (first | refine ⟨⟨_, H.get 0 rfl rfl⟩, ?_⟩ | refine ⟨⟨_, H.get 1 rfl rfl⟩, ?_⟩ | refine ⟨⟨_, H.get 2 rfl rfl⟩, ?_⟩ | refine ⟨⟨_, H.get 3 rfl rfl⟩, ?_⟩ | refine ⟨⟨_, H.get 4 rfl rfl⟩, ?_⟩ | refine ⟨⟨_, H.get 5 rfl rfl⟩, ?_⟩ | refine ⟨⟨_, H.get 6 rfl rfl⟩, ?_⟩ | refine ⟨⟨_, H.get 7 rfl rfl⟩, ?_⟩)
    | (first | refine ⟨H.frz 0 rfl, ?_⟩ | refine ⟨H.frz 1 rfl, ?_⟩ | refine ⟨H.frz 2 rfl, ?_⟩ | refine ⟨H.frz 3 rfl, ?_⟩ | refine ⟨H.frz 4 rfl, ?_⟩ | refine ⟨H.frz 5 rfl, ?_⟩ | refine ⟨H.frz 6 rfl, ?_⟩ | refine ⟨H.frz 7 rfl, ?_⟩)
    | (first | refine ⟨_, H.get 0 rfl rfl, ?_⟩ | refine ⟨_, H.get 1 rfl rfl, ?_⟩ | refine ⟨_, H.get 2 rfl rfl, ?_⟩ | refine ⟨_, H.get 3 rfl rfl, ?_⟩ | refine ⟨_, H.get 4 rfl rfl, ?_⟩ | refine ⟨_, H.get 5 rfl rfl, ?_⟩ | refine ⟨_, H.get 6 rfl rfl, ?_⟩ | refine ⟨_, H.get 7 rfl rfl, ?_⟩)
    | (first | refine ⟨_, _, _, H.get 0 rfl rfl, ?_⟩ | refine ⟨_, _, _, H.get 1 rfl rfl, ?_⟩ | refine ⟨_, _, _, H.get 2 rfl rfl, ?_⟩ | refine ⟨_, _, _, H.get 3 rfl rfl, ?_⟩ | refine ⟨_, _, _, H.get 4 rfl rfl, ?_⟩ | refine ⟨_, _, _, H.get 5 rfl rfl, ?_⟩ | refine ⟨_, _, _, H.get 6 rfl rfl, ?_⟩ | refine ⟨_, _, _, H.get 7 rfl rfl, ?_⟩))
  exact ⟨rfl, H.ext⟩
theorem rowB_get {i j : Nat} {r : List Val} {v : Val} (hr : B[j]? = some r) (hv : (rowB B i)[j]? = some v) (hi : ∀ r ∈ B, i < r.length) : r[i]? = some v := by
  unfold rowB at hv
  rw [List.getElem?_map, hr] at hv
  have := hi r (List.mem_of_getElem? hr)
  rw [List.getElem?_eq_getElem this]
  simp [this] at hv
  rw [hv]
theorem rowB_len (B : List (List Val)) (i : Nat) : (rowB B i).length = B.length := by unfold rowB; simp
theorem vrowof_ok {i : Nat} (hB : Rws w p n c hs B) (hn : n ≤ 1024) (hi : ∀ r ∈ B, i < r.length) :
    Calls Tryd.prog 42 #[.slice p n c, .int .i64 (i : Int)] w fun e w' => ∃ (q : Option Addr) (d : Nat), e = .returned (.slice q n d) ∧ Vs w' q n d (rowB B i) ∧ Ext w w' := by
  have hl := hB.len
  apply vrowof_vc
  unfold vrowof_T
  intro b1 w2 h1
  have H := (Hold.start (Ext.rfl (w := w))).new h1
  intro b4 w5 h4
  replace H := H.new h4
  refine ⟨_, _, _, H.get 1 rfl rfl, ?_⟩
  refine (vcolR_ok (l := rowB B i) hn (by rw [rowB_len, hl]) fun {W j v} e hv => ?_).mono ?_
  · have hj := (List.getElem?_eq_some_iff.1 hv).1
    rw [rowB_len] at hj
    have hr : B[j]? = some B[j] := List.getElem?_eq_getElem hj
    exact vrowof1_ok (hB.ext (H.ext.trans e)) ((H.step e).get 1 rfl rfl) ((H.step e).get 0 rfl rfl) hr (rowB_get hr hv hi)
  · rintro e w11 ⟨q, d, rfl, _, hv, eX⟩
    exact ⟨_, _, _, rfl, q, d, rfl, hv, H.ext.trans eX⟩
theorem vall_ok (hB : Rws w p n c hs B) (hh : highB B ≤ 1024) :
    Calls Tryd.prog 17 #[.slice p n c] w fun e w' => ∃ (q : Option Addr) (k d : Nat), e = .returned (.slice q k d) ∧ Is w' q k d (allCh B) ∧ Ext w w' := by
  have hl := hB.len
  apply vall_vc
  unfold vall_T
  refine ⟨fun h => ?_, fun h => ?_⟩
  · have : B = [] := List.length_eq_zero_iff.1 (by omega)
    subst this
    exact ⟨none, 0, 0, rfl, Ls.nothing _ _, Ext.rfl⟩
  · have g : B[0]? = some (B[0]'(by omega)) := List.getElem?_eq_getElem _
    generalize B[0]'(by omega) = r at g
    have hr : highB B = r.length := by unfold highB; rw [g]; rfl
    obtain ⟨x, _, hvs, b, o, hp, hcell⟩ := hB.get g
    have hvl := hvs.len
    refine ⟨b, o, hp, by omega, by omega, _, _, _, hcell, ?_⟩
    refine (vcolA_ok (by omega)).mono ?_
    rintro e w11 ⟨q, d, rfl, hv, eX⟩
    refine ⟨_, _, _, rfl, q, _, d, rfl, ?_, eX⟩
    unfold allCh
    rw [hr, hvl]
    exact hv
theorem rightB_iff {cols : List Col} {ch : List Int} : rightB cols B ch = true ↔ (B.length = cols.length ∧ highB B ≤ 1024) ∧ (∀ c ∈ B, c.length = highB B) ∧ (∀ i, i < highB B → fitsC cols (rowB B i) = true) ∧ ∀ i, i < ch.length → chosenAt (highB B) ch i = true := by
  unfold rightB
  simp only [Bool.and_eq_true, decide_eq_true_eq, List.all_eq_true, List.mem_range]
  exact ⟨fun ⟨⟨⟨a, b⟩, c⟩, d⟩ => ⟨a, b, c, d⟩, fun ⟨a, b, c, d⟩ => ⟨⟨⟨a, b⟩, c⟩, d⟩⟩
theorem vbright1_ok {f0 m : Nat} {q : Option Addr} {k d : Nat} (h0 : w.cell? ⟨f0, 0, none⟩ = some (.int .i64 (m : Int))) :
    Calls Tryd.prog 41 #[.slice q k d, .pointer (some ⟨f0, 0, none⟩)] w fun e w' => e = .returned (.bool (!decide (k = m))) ∧ Ext w w' := by
  apply vbright1_vc
  unfold vbright1_T
  refine ⟨_, h0, ?_, Ext.rfl⟩
  have : ((k : Int) = (m : Int)) ↔ k = m := by omega
  simp [this]
theorem cbat_ok {f0 m : Nat} (hB : Rws w p n c hs B) (h0 : w.cell? ⟨f0, 0, none⟩ = some (.int .i64 (m : Int))) :
    Calls Tryd.prog 40 #[.slice p n c, .func (.func 41) #[] #[.pointer (some ⟨f0, 0, none⟩)]] w fun e w' => ∃ b : Bool, e = .returned (.bool b) ∧ (b = false ↔ ∀ r ∈ B, r.length = m) ∧ Ext w w' := by
  have hl := hB.len
  have hm := hB.le
  unfold maxLen at hm
  apply cbat_vc
  unfold cbat_T
  apply ibat_vc
  unfold ibat_T
  refine ⟨fun i W => ∃ k : Nat, i = (k : Int) ∧ k ≤ n ∧ (∀ r ∈ B.take k, r.length = m) ∧ Ext w W, fun i _ => n - i.toNat, ⟨0, rfl, Nat.zero_le _, by simp, .rfl⟩, ?_⟩
  rintro i W ⟨k, rfl, hk, ha, hx⟩
  refine ⟨fun hlt => ?_, fun hge => ⟨_, rfl, false, rfl, ⟨fun _ => ?_, fun _ => rfl⟩, hx⟩⟩
  · have g : B[k]? = some (B[k]'(by omega)) := List.getElem?_eq_getElem _
    generalize B[k]'(by omega) = r at g
    obtain ⟨x, _, hvs, b, o, hp, hcell⟩ := (hB.ext hx).get g
    have hvl := hvs.len
    simp only [Int.toNat_natCast]
    refine ⟨b, o, hp, by omega, by omega, _, _, _, hcell, (vbright1_ok (cell_ext h0 hx)).mono ?_⟩
    rintro e W1 ⟨rfl, eX⟩
    refine ⟨_, rfl, fun hb => ⟨_, rfl, true, ?_, ⟨fun h => (by cases h), fun h => ?_⟩, hx.trans eX⟩, fun hb => ?_⟩
    · rw [decide_eq_true (by omega : (0 : Int) ≤ (k : Int))]
    · have := h r (List.mem_of_getElem? g)
      have hne : ¬ x.n = m := by simpa using hb
      omega
    · rw [i64_next (by omega)]
      refine ⟨⟨k + 1, rfl, by omega, fun q hq => ?_, hx.trans eX⟩, by simp only [Int.toNat_natCast]; omega⟩
      rw [List.take_add_one, g] at hq
      rcases List.mem_append.1 hq with hq | hq
      · exact ha q hq
      · simp at hq
        subst hq
        have : x.n = m := by simpa using hb
        omega
  · rw [List.take_of_length_le (by omega)] at ha
    exact ha
theorem chosenAt_get {m j : Nat} {ch : List Int} {z : Int} (hz : ch[j]? = some z) : chosenAt m ch j = decide (0 ≤ z ∧ z < (m : Int) ∧ (0 < j → ch.getD (j - 1) 0 < z)) := by
  unfold chosenAt
  rw [List.getD_eq_getElem?_getD, hz]
  rfl
set_option maxHeartbeats 4000000 in
theorem vbright_ok {cols : List Col} {ch : List Int} {bp cp : Option Addr} {bn bc cn cc : Nat} (hc : Cols w p n c cols) (hr : rightC cols = true) (hB : Rws w bp bn bc hs B) (hch : Is w cp cn cc ch) :
    Calls Tryd.prog 20 #[.slice p n c, .slice bp bn bc, .slice cp cn cc] w fun e w' => e = .returned (.bool (rightB cols B ch)) ∧ Ext w w' := by
  have hl := hB.len
  have hcl := hc.len
  have hchl := hch.len
  have hchm := hch.le
  unfold maxLen at hchm
  obtain ⟨r1, r2⟩ := right_len hr
  have no : ¬ ((B.length = cols.length ∧ highB B ≤ 1024) ∧ (∀ c ∈ B, c.length = highB B) ∧ (∀ i, i < highB B → fitsC cols (rowB B i) = true) ∧ ∀ i, i < ch.length → chosenAt (highB B) ch i = true) → rightB cols B ch = false := fun h => by
    rw [← Bool.not_eq_true, rightB_iff]; exact h
  apply vbright_vc
  unfold vbright_T
  refine ⟨fun h => ⟨?_, Ext.rfl⟩, fun h => ?_⟩
  · rw [no fun k => by have := k.1.1; omega]
  have g : B[0]? = some (B[0]'(by omega)) := List.getElem?_eq_getElem _
  generalize B[0]'(by omega) = r at g
  have hhr : highB B = r.length := by unfold highB; rw [g]; rfl
  obtain ⟨x, _, hvs, b, o, hp, hcell⟩ := hB.get g
  have hvl := hvs.len
  refine ⟨b, o, hp, by omega, by omega, _, _, _, hcell, fun hbig => ⟨?_, Ext.rfl⟩, fun hsm => ?_⟩
  · rw [no fun k => by have := k.1.2; omega]
  refine ⟨b, o, hp, by omega, by omega, _, _, _, hcell, ?_⟩
  have hxn : x.n = highB B := by omega
  rw [hxn]
  intro b15 w16 h15
  have H := (Hold.start (Ext.rfl (w := w))).new h15
  refine ⟨⟨_, H.get 0 rfl rfl⟩, H.frz 0 rfl, ?_⟩
  intro w19 hS
  replace H := H.put 0 rfl hS
  try simp only [setA, List.setIfInBounds_toArray, List.set_cons_zero, List.set_cons_succ, Nat.zero_add, Nat.reduceAdd] at H
  refine (cbat_ok (hB.ext H.ext) (H.get 0 rfl rfl)).mono ?_
  rintro e W ⟨bb, rfl, hbb, eX⟩
  replace H := H.step eX
  refine ⟨_, rfl, fun ht => ⟨?_, H.ext⟩, fun hf => ?_⟩
  · rw [no fun k => ?_]
    rw [hbb.2 k.2.1] at ht
    cases ht
  have hall := hbb.1 hf
  refine ⟨_, H.get 0 rfl rfl, ?_⟩
  let F : List (Nat × Obj) := [(b15, .cells #[.int .i64 (highB B : Int)] 3 (0, 0))]
  refine ⟨fun i W => ∃ j : Nat, i = (j : Int) ∧ j ≤ highB B ∧ (∀ k, k < j → fitsC cols (rowB B k) = true) ∧ Hold w W F [], fun i _ => highB B - i.toNat, ⟨0, rfl, Nat.zero_le _, fun k h => absurd h (by omega), H⟩, ?_⟩
  clear H
  rintro i W ⟨j, rfl, hj, hfit, H⟩
  refine ⟨fun hlt => ?_, fun hge => ?_⟩
  · refine (vrowof_ok (i := j) (hB.ext H.ext) (by omega) fun q hq => by rw [hall q hq]; omega).mono ?_
    rintro e W1 ⟨q, d, rfl, hv, eX⟩
    replace H := H.step eX
    refine ⟨_, _, _, rfl, (sfits_ok (hc.ext H.ext) hv).mono ?_⟩
    rintro e W2 ⟨rfl, eX⟩
    replace H := H.step eX
    refine ⟨_, rfl, fun hb => ⟨?_, H.ext⟩, fun hb => ?_⟩
    · rw [no fun k => ?_]
      rw [k.2.2.1 j (by omega)] at hb
      cases hb
    · rw [i64_next (by omega)]
      refine ⟨⟨j + 1, rfl, by omega, fun k hk => ?_, H⟩, by simp only [Int.toNat_natCast]; omega⟩
      rcases Nat.lt_or_ge k j with h | h
      · exact hfit k h
      · have : k = j := by omega
        subst this; exact hb
  have hjn : j = highB B := by omega
  subst hjn
  refine ⟨fun i W => ∃ j : Nat, i = (j : Int) ∧ j ≤ cn ∧ (∀ k, k < j → chosenAt (highB B) ch k = true) ∧ Hold w W F [], fun i _ => cn - i.toNat, ⟨0, rfl, Nat.zero_le _, fun k h => absurd h (by omega), H⟩, ?_⟩
  clear H
  rintro i W ⟨j, rfl, hj, hcho, H⟩
  refine ⟨fun hlt => ?_, fun hge => ⟨?_, H.ext⟩⟩
  · have gz : ch[j]? = some (ch[j]'(by omega)) := List.getElem?_eq_getElem _
    generalize ch[j]'(by omega) = z at gz
    have hat := chosenAt_get (m := highB B) gz
    obtain ⟨b2, o2, hp2, c0⟩ := (hch.ext H.ext).int gz
    simp only [Int.toNat_natCast]
    have bad : ¬ (0 ≤ z ∧ z < (highB B : Int) ∧ (0 < j → ch.getD (j - 1) 0 < z)) → rightB cols B ch = false := fun h => no fun k => by
      have := k.2.2.2 j (by omega)
      rw [hat] at this
      exact h (of_decide_eq_true this)
    have good : (0 ≤ z ∧ z < (highB B : Int) ∧ (0 < j → ch.getD (j - 1) 0 < z)) → (∃ t : Nat, ((j + 1 : Nat) : Int) = (t : Int) ∧ t ≤ cn ∧ (∀ k, k < t → chosenAt (highB B) ch k = true) ∧ Hold w W F []) ∧ cn - ((j + 1 : Nat) : Int).toNat < cn - j := fun h => by
      refine ⟨⟨j + 1, rfl, by omega, fun k hk => ?_, H⟩, by simp only [Int.toNat_natCast]; omega⟩
      rcases Nat.lt_or_ge k j with h' | h'
      · exact hcho k h'
      · have : k = j := by omega
        subst this
        rw [hat]; exact decide_eq_true h
    rw [i64_next (by omega)]
    refine ⟨b2, o2, hp2, by omega, hlt, _, c0, fun hz => ⟨?_, H.ext⟩, fun hz => ⟨_, H.get 0 rfl rfl, fun hz2 => ⟨?_, H.ext⟩, fun hz2 => ⟨fun hj0 => ?_, fun hj0 => good ⟨hz, hz2, fun h => absurd h (by omega)⟩⟩⟩⟩
    · rw [bad fun h => by omega]
    · rw [bad fun h => by omega]
    · have gy : ch[j - 1]? = some (ch[j - 1]'(by omega)) := List.getElem?_eq_getElem _
      generalize ch[j - 1]'(by omega) = y at gy
      obtain ⟨b3, o3, hp3, d0⟩ := (hch.ext H.ext).int gy
      have hy : ch.getD (j - 1) 0 = y := by rw [List.getD_eq_getElem?_getD, gy]; rfl
      have hw : IntKind.i64.wrap ((j : Int) - 1) = ((j - 1 : Nat) : Int) := by rw [i64_fit (by omega) (by omega)]; omega
      rw [hw]
      simp only [Int.toNat_natCast]
      refine ⟨b3, o3, hp3, by omega, by omega, _, d0, fun hzy => ⟨?_, H.ext⟩, fun hzy => good ⟨hz, hz2, fun _ => by omega⟩⟩
      rw [bad fun h => by have := h.2.2 (by omega); omega]
  · rw [rightB_iff.2 ⟨⟨by omega, by omega⟩, hall, hfit, fun k hk => hcho k (by omega)⟩]
end
end Go.Proofs.YtaccokhdmhomhaaDoor

/- The verification conditions of the functions, evaluated: printed by program. -/
namespace Go.Proofs.YtaccokhdmhomhaaDoor
open Go Go.Vc
set_option maxRecDepth 20000

set_option maxRecDepth 100000 in
def shown13_T (w : World) (R : Ending → World → Prop) : Prop :=
  ∀ b1 w'2, New w (Obj.cells #[.string (ByteArray.mk #[97]), .int .i64 1, .bool true] 55) b1 w'2 → ∀ b4 w'5, New w'2
 (Obj.cells
 #[.int .i64 1, .int .i64 1, .string ⟨#[]⟩, .int .i64 0, .int .i64 0, .string ⟨#[]⟩, .int .i64 1, .int .i64 3, .string ⟨#[]⟩]
 26)
 b4 w'5 → ∀ b7 w'8, New w'5 (Obj.cells #[.slice (some ⟨b4, 0, none⟩) 3 3] 31) b7 w'8 → ∀ b10 w'11, New w'8 (Obj.cells #[.int .i64 0, .int .i64 1, .int .i64 2] 3) b10 w'11 → ∀ b13 w'14, New w'11
 (Obj.cells
 #[.int .i64 2, .string ⟨#[]⟩, .int .i64 1, .int .i64 1, .string ⟨#[]⟩, .slice none 0 0, .int .i64 1, .string (ByteArray.mk #[97]), .int .i64 0, .int .i64 0, .string ⟨#[]⟩, .slice none 0 0]
 29)
 b13 w'14 → Calls Tryd.prog 13
 #[.slice (some ⟨b1, 0, none⟩) 1 1, .slice (some ⟨b7, 0, none⟩) 1 1, .slice (some ⟨b10, 0, none⟩) 3 3, Value.agg
 #[.int .i64 10, .string ⟨#[]⟩, .int .i64 0, .int .i64 0, .string ⟨#[]⟩, .slice (some ⟨b13, 0, none⟩) 2 2]]
 w'14 fun e16 w17 ↦
 ∃ p18 n19 c20, ∃ n21, ∃ n22, e16 = .returned (.tuple #[.slice p18 n19 c20, .int .i64 n21, .int .i64 n22]) ∧ (n22 = 0 ∧ (↑n19 : Int) = 1 → ∃ b24, ∃ o25, p18 = some ⟨b24, o25, none⟩ ∧ (0 : Int) ≤ 0 ∧ 0 < (↑n19 : Int) ∧ ∃ n26, w17.cell? ⟨b24, (o25 + 0), none⟩ = some (.int .i64 n26) ∧ R (.returned (.bool (decide (n26 = 2)))) w17) ∧ (n22 ≠ 0 ∨ (↑n19 : Int) ≠ 1 → R (.returned (.bool false)) w17)

set_option maxRecDepth 100000 in
theorem shown13_eq (w : World) (R : Ending → World → Prop) : shown13_T w R = vcFn Tryd.prog [] [] Tryd.f8 [] w R := by kernel_rfl

set_option maxRecDepth 100000 in
theorem shown13_vc (w : World) (R : Ending → World → Prop) (hvc : shown13_T w R) : Calls Tryd.prog 8 #[] w R :=
  calls_of_vc (args := []) [] [] Tryd.mixed Tryd.func8 (cast (shown13_eq w R) hvc)

set_option maxRecDepth 100000 in
def lawLess_T (cols_p : Option Addr) (cols_n : Nat) (cols_c : Nat) (rows_p : Option Addr) (rows_n : Nat) (rows_c : Nat) (choice_p : Option Addr) (choice_n : Nat) (choice_c : Nat) (x0 : Int) (x1 : ByteArray) (x2 : Int) (x3 : Int) (x4 : ByteArray) (x5_p : Option Addr) (x5_n : Nat) (x5_c : Nat) (w : World) (R : Ending → World → Prop) : Prop :=
  ∀ b1 w'2, New w (Obj.cells #[.int .i64 x0, .string x1, .int .i64 x2, .int .i64 x3, .string x4, .slice x5_p x5_n x5_c] 29) b1
 w'2 → Calls Tryd.prog 8 #[] w'2 fun e4 w5 ↦
 ∃ b6, e4 = .returned (.bool b6) ∧ Calls Tryd.prog 16 #[.slice cols_p cols_n cols_c, .slice rows_p rows_n rows_c] w5 fun e7 w8 ↦
 ∃ p9 n10 c11, ∃ n12, e7 = .returned (.tuple #[.slice p9 n10 c11, .int .i64 n12]) ∧ (n12 ≠ 0 → R (.returned (.bool b6)) w8) ∧ (n12 = 0 → ∀ w'15, Drew w8 w'15 → ∃ n17, w'15.cell? ⟨b1, 0, none⟩ = some (.int .i64 n17) ∧ ∃ s18, w'15.cell? ⟨b1, 1, none⟩ = some (.string s18) ∧ ∃ n19, w'15.cell? ⟨b1, 2, none⟩ = some (.int .i64 n19) ∧ ∃ n20, w'15.cell? ⟨b1, 3, none⟩ = some (.int .i64 n20) ∧ ∃ s21, w'15.cell? ⟨b1, 4, none⟩ = some (.string s21) ∧ ∃ p22 n23 c24, w'15.cell? ⟨b1, 5, none⟩ = some (.slice p22 n23 c24) ∧ Calls Tryd.prog 17 #[.slice p9 n10 c11] w'15 fun e25 w26 ↦
 ∃ p27 n28 c29, e25 = .returned (.slice p27 n28 c29) ∧ SameTo (some [b1]) w'15 w'15 w26 ∧ Calls Tryd.prog 9
 #[.slice cols_p cols_n cols_c, .slice p9 n10 c11, .slice p27 n28 c29, .agg #[.int .i64 n17, .string s18, .int .i64 n19, .int .i64 n20, .string s21, .slice p22 n23 c24]]
 w26 fun e30 w31 ↦
 ∃ p32 n33 c34, ∃ p35 n36 c37, ∃ n38, e30 = .returned (.tuple #[.slice p32 n33 c34, .slice p35 n36 c37, .int .i64 n38]) ∧ ∃ n39, w31.cell? ⟨b1, 0, none⟩ = some (.int .i64 n39) ∧ ∃ s40, w31.cell? ⟨b1, 1, none⟩ = some (.string s40) ∧ ∃ n41, w31.cell? ⟨b1, 2, none⟩ = some (.int .i64 n41) ∧ ∃ n42, w31.cell? ⟨b1, 3, none⟩ = some (.int .i64 n42) ∧ ∃ s43, w31.cell? ⟨b1, 4, none⟩ = some (.string s43) ∧ ∃ p44 n45 c46, w31.cell? ⟨b1, 5, none⟩ = some (.slice p44 n45 c46) ∧ Calls Tryd.prog 9
 #[.slice cols_p cols_n cols_c, .slice p9 n10 c11, .slice choice_p choice_n choice_c, .agg #[.int .i64 n39, .string s40, .int .i64 n41, .int .i64 n42, .string s43, .slice p44 n45 c46]]
 w31 fun e47 w48 ↦
 ∃ p49 n50 c51, ∃ p52 n53 c54, ∃ n55, e47 = .returned (.tuple #[.slice p49 n50 c51, .slice p52 n53 c54, .int .i64 n55]) ∧ (n38 ≠ 0 ∨ n55 ≠ 0 → (b6 = true → (n38 = n55 → R (.returned (.bool true)) w48) ∧ (n38 ≠ n55 → R (.returned (.bool (decide (n38 = 0) && decide (n55 = 2)))) w48)) ∧ (b6 = false → R (.returned (.bool false)) w48)) ∧ (n38 = 0 ∧ n55 = 0 → ((((↑n50 : Int) ≠ (↑choice_n : Int) ∨ (↑n53 : Int) ≠ (↑choice_n : Int)) ∨ (↑n33 : Int) ≠ (↑rows_n : Int)) ∨ (↑n36 : Int) ≠ (↑rows_n : Int) → R (.returned (.bool false)) w48) ∧ ((((↑n50 : Int) = (↑choice_n : Int) ∧ (↑n53 : Int) = (↑choice_n : Int)) ∧ (↑n33 : Int) = (↑rows_n : Int)) ∧ (↑n36 : Int) = (↑rows_n : Int) → ∃ (I64 : Int → World → Prop), ∃ (M65 : Int → World → Nat), I64 0 w48 ∧ ∀ (n66 : Int) (w'67 : World), I64 n66 w'67 → (n66 < (↑choice_n : Int) → ∃ b70, ∃ o71, choice_p = some ⟨b70, o71, none⟩ ∧ 0 ≤ n66 ∧ n66 < (↑choice_n : Int) ∧ ∃ n72, w'67.cell? ⟨b70, (o71 + n66.toNat), none⟩ = some (.int .i64 n72) ∧ ∀ w'73, Drew w'67 w'73 → (n72 < 0 ∨ (↑rows_n : Int) ≤ n72 → R (.returned (.bool false)) w'73) ∧ (0 ≤ n72 ∧ n72 < (↑rows_n : Int) → ∃ b77, ∃ o78, p49 = some ⟨b77, o78, none⟩ ∧ 0 ≤ n66 ∧ n66 < (↑n50 : Int) ∧ ∃ n79, w'73.cell? ⟨b77, (o78 + n66.toNat * 3), none⟩ = some (.int .i64 n79) ∧ ∃ n80, w'73.cell? ⟨b77, (o78 + n66.toNat * 3 + 1), none⟩ = some (.int .i64 n80) ∧ ∃ s81, w'73.cell? ⟨b77, (o78 + n66.toNat * 3 + 2), none⟩ = some (.string s81) ∧ ∃ b82, ∃ o83, p32 = some ⟨b82, o83, none⟩ ∧ 0 ≤ n72 ∧ n72 < (↑n33 : Int) ∧ ∃ n84, w'73.cell? ⟨b82, (o83 + n72.toNat * 3), none⟩ = some (.int .i64 n84) ∧ ∃ n85, w'73.cell? ⟨b82, (o83 + n72.toNat * 3 + 1), none⟩ = some (.int .i64 n85) ∧ ∃ s86, w'73.cell? ⟨b82, (o83 + n72.toNat * 3 + 2), none⟩ = some (.string s86) ∧ (n79 ≠ n84 ∨ n80 ≠ n85 ∨ s81 ≠ s86 → R (.returned (.bool false)) w'73) ∧ (n79 = n84 ∧ n80 = n85 ∧ s81 = s86 → ∃ b89, ∃ o90, p52 = some ⟨b89, o90, none⟩ ∧ 0 ≤ n66 ∧ n66 < (↑n53 : Int) ∧ ∃ n91, w'73.cell? ⟨b89, (o90 + n66.toNat), none⟩ = some (.int .i64 n91) ∧ ∃ b92, ∃ o93, p35 = some ⟨b92, o93, none⟩ ∧ 0 ≤ n72 ∧ n72 < (↑n36 : Int) ∧ ∃ n94, w'73.cell? ⟨b92, (o93 + n72.toNat), none⟩ = some (.int .i64 n94) ∧ (n91 ≠ n94 → R (.returned (.bool false)) w'73) ∧ (n91 = n94 → I64 (IntKind.i64.wrap (n66 + 1)) w'73 ∧ M65 (IntKind.i64.wrap (n66 + 1)) w'73 < M65 n66 w'67)))) ∧ ((↑choice_n : Int) ≤ n66 → R (.returned (.bool b6)) w'67))))

set_option maxRecDepth 100000 in
theorem lawLess_eq (cols_p : Option Addr) (cols_n : Nat) (cols_c : Nat) (rows_p : Option Addr) (rows_n : Nat) (rows_c : Nat) (choice_p : Option Addr) (choice_n : Nat) (choice_c : Nat) (x0 : Int) (x1 : ByteArray) (x2 : Int) (x3 : Int) (x4 : ByteArray) (x5_p : Option Addr) (x5_n : Nat) (x5_c : Nat) (w : World) (R : Ending → World → Prop) : lawLess_T cols_p cols_n cols_c rows_p rows_n rows_c choice_p choice_n choice_c x0 x1 x2 x3 x4 x5_p x5_n x5_c w R = vcFn Tryd.prog [] [(5, [2, 4, 6, 10, 9, 12, 14, 16, 18, 20, 22, 24, 26, 0]), (15, [2, 4, 6, 8, 10, 12, 14, 16, 18, 20, 22, 24, 26, 28, 30, 32, 34, 36, 38, 40, 42, 44, 46, 48, 50, 52, 54, 56, 58, 60, 0])] Tryd.f7 [.slice cols_p cols_n cols_c, .slice rows_p rows_n rows_c, .slice choice_p choice_n choice_c, Value.agg
 #[.int .i64 x0, .string x1, .int .i64 x2, .int .i64 x3, .string x4, .slice x5_p x5_n x5_c]] w R := by kernel_rfl

set_option maxRecDepth 100000 in
theorem lawLess_vc (cols_p : Option Addr) (cols_n : Nat) (cols_c : Nat) (rows_p : Option Addr) (rows_n : Nat) (rows_c : Nat) (choice_p : Option Addr) (choice_n : Nat) (choice_c : Nat) (x0 : Int) (x1 : ByteArray) (x2 : Int) (x3 : Int) (x4 : ByteArray) (x5_p : Option Addr) (x5_n : Nat) (x5_c : Nat) (w : World) (R : Ending → World → Prop) (hvc : lawLess_T cols_p cols_n cols_c rows_p rows_n rows_c choice_p choice_n choice_c x0 x1 x2 x3 x4 x5_p x5_n x5_c w R) : Calls Tryd.prog 7 #[.slice cols_p cols_n cols_c, .slice rows_p rows_n rows_c, .slice choice_p choice_n choice_c, Value.agg
 #[.int .i64 x0, .string x1, .int .i64 x2, .int .i64 x3, .string x4, .slice x5_p x5_n x5_c]] w R :=
  calls_of_vc (args := [.slice cols_p cols_n cols_c, .slice rows_p rows_n rows_c, .slice choice_p choice_n choice_c, Value.agg
 #[.int .i64 x0, .string x1, .int .i64 x2, .int .i64 x3, .string x4, .slice x5_p x5_n x5_c]]) [] [(5, [2, 4, 6, 10, 9, 12, 14, 16, 18, 20, 22, 24, 26, 0]), (15, [2, 4, 6, 8, 10, 12, 14, 16, 18, 20, 22, 24, 26, 28, 30, 32, 34, 36, 38, 40, 42, 44, 46, 48, 50, 52, 54, 56, 58, 60, 0])] Tryd.mixed Tryd.func7 (cast (lawLess_eq _ _ _ _ _ _ _ _ _ _ _ _ _ _ _ _ _ w R) hvc)


end Go.Proofs.YtaccokhdmhomhaaDoor

/- The verification conditions of the functions, evaluated: printed by program. -/
namespace Go.Proofs.YtaccokhdmhomhaaDoor
open Go Go.Vc
set_option maxRecDepth 20000

end Go.Proofs.YtaccokhdmhomhaaDoor
