/- Texts of the proof, one behind the other. -/
import Derived.Test.YtdephmdfdgclpaaDoorMc
import Derived.Lib.Bytealg
import Derived.Shelf.Sort.Plain
import Derived.Shelf.Slices.In.SortNone
import Derived.Shelf.Slices.CompactS
import Derived.Test.YtdephmdfdgclpaaDoorProg
import Derived.Sort.OwnSorted
import Derived.Lib.LaidTab
import Derived.Test.YtdephmdfdgclpaaDoorRows
import Derived.JoinedOf
set_option linter.unusedVariables false
set_option linter.unusedSimpArgs false
/- The contracts of package schema: names. -/
namespace Go.Proofs.YtdephmdfdgclpaaDoor
open Go Go.Vc Go.RowKit
set_option maxRecDepth 20000

theorem idxbyte_ok (s : ByteArray) (c : Int) (w : World) : Calls Tryd.prog 60 #[.string s, .int .u8 c] w fun e w' => e = .returned (.int .i64 (Lib.indexByte (tB s) c.toNat.toUInt8)) ∧ w' = w := by
  apply sidxb_vc
  unfold sidxb_T
  apply slidxb_vc
  unfold slidxb_T
  refine ⟨_, _, ?_, _, rfl, rfl, rfl⟩
  rw [run_callFunc_extern Tryd.func106 (by kernel_rfl) (by kernel_rfl) (by kernel_rfl) (e := Extern.BytealgIndexByte.indexByte) (by kernel_rfl), Lib.run_indexByteString]
  rfl

theorem zero_set : zeroA Tryd.prog 112 = Array.replicate 256 (.bool false) := by kernel_rfl
/-- The cells of a set of bytes. -/
def SetC (cs : Array Value) (f : UInt8 → Bool) : Prop := cs.size = 256 ∧ ∀ x : UInt8, cs[x.toNat]? = some (.bool (f x))
theorem SetC.one {cs : Array Value} {f : UInt8 → Bool} (h : SetC cs f) (k : Nat) (v : Value) (hk : cs[k]? = some v) : v.oneCell' = true := by
  have hlt := (Array.getElem?_eq_some_iff.1 hk).1
  have := h.2 (UInt8.ofNat k)
  rw [h.1] at hlt
  rw [UInt8.toNat_ofNat', Nat.mod_eq_of_lt (by omega), hk] at this
  cases this; rfl
theorem bAt_u8 (s : ByteArray) {i : Nat} (h : i < s.size) : ∃ x : UInt8, (tB s)[i]? = some x ∧ bAt s i = (x.toNat : Int) :=
  ⟨(tB s)[i]'(by rw [tB_length]; exact h), List.getElem?_eq_getElem _, bAt_eq s i h⟩

theorem mkascii_ok (s : ByteArray) (w : World) (hs : s.size < 9223372036854775807) (ha : ∀ x ∈ tB s, x.toNat < 128) :
    Calls Tryd.prog 88 #[.string s] w fun e w' => ∃ cs, e = .returned (.tuple #[.agg cs, .bool true]) ∧ SetC cs (fun x => (tB s).contains x) ∧ Ext w w' := by
  apply mkascii_vc
  unfold mkascii_T
  intro b1 w2 h1
  rw [zero_set] at h1
  have H1 := (Hold.start (Ext.rfl (w := w))).new h1
  refine ⟨fun i w' => ∃ (k : Nat) (cs : Array Value), i = (k : Int) ∧ k ≤ s.size ∧ SetC cs (fun x => ((tB s).take k).contains x) ∧ Hold w w' [(b1, .cells cs 112 (0, 0))] [], fun i _ => s.size - i.toNat, ⟨0, _, rfl, Nat.zero_le _, ⟨by simp, fun x => ?_⟩, H1⟩, ?_⟩
  · have := x.toNat_lt
    rw [Array.getElem?_eq_getElem (by simp; omega)]; simp
  rintro i w7 ⟨k, cs, rfl, hk, hc, H⟩
  have B := H.blk 0 rfl
  simp only [Int.toNat_natCast, Nat.zero_add]
  refine ⟨fun hlt => ?_, fun hge => ?_⟩
  · obtain ⟨x, hx, hb⟩ := bAt_u8 s (i := k) (by omega)
    have hx8 := ha x (List.mem_of_getElem? hx)
    rw [hb]
    refine ⟨by omega, by omega, fun h => by omega, fun _ => ⟨by omega, by omega, ⟨_, by rw [Int.toNat_natCast, B.cell]; exact hc.2 x⟩, B.frozen _, fun w17 h17 => ?_⟩⟩
    rw [Int.toNat_natCast] at h17
    have H17 := H.put 0 rfl h17
    rw [i64_next (by omega)]
    refine ⟨⟨k + 1, _, rfl, by omega, ⟨by rw [setA_size]; exact hc.1, fun y => ?_⟩, H17⟩, by simp only [Int.toNat_natCast]; omega⟩
    have htk : (tB s).take (k + 1) = (tB s).take k ++ [x] := by
      rw [List.take_add_one, hx]; rfl
    show _ = some (Value.bool (((tB s).take (k + 1)).contains y))
    rw [setA_get, hc.1, htk]
    have hy := y.toNat_lt
    by_cases hxy : x = y
    · subst hxy
      rw [if_pos (by simp; omega)]
      simp
    · have hn : x.toNat ≠ y.toNat := fun e => hxy (UInt8.toNat_inj.1 e)
      rw [if_neg (by simp; omega), hc.2 y]
      simp [Ne.symm hxy]
  · refine ⟨cs, hc.1, B.cellsAt, hc.1, B.canPut rfl hc.one, fun w21 h21 => ?_⟩
    have H21 := H.putAll 0 rfl rfl h21
    have B21 : Blk w21 b1 112 cs := H21.blk 0 rfl
    refine ⟨cs, hc.1, B21.cellsAt, cs, rfl, ?_, H21.ext⟩
    have : (tB s).take k = tB s := List.take_of_length_le (by rw [tB_length]; omega)
    rw [this] at hc
    exact hc

section
variable {w : World} {b : Nat} {cs : Array Value} {f : UInt8 → Bool}
theorem ascont_ok (h : Blk w b 112 cs) (hc : SetC cs f) (x : UInt8) : Calls Tryd.prog 107 #[.pointer (some ⟨b, 0, none⟩), .int .u8 (x.toNat : Int)] w fun e w' => e = .returned (.bool (f x)) ∧ Ext w w' := by
  apply ascont_vc
  unfold ascont_T
  have hx := x.toNat_lt
  exact ⟨b, 0, rfl, by omega, by omega, _, by rw [Int.toNat_natCast, Nat.zero_add, h.cell]; exact hc.2 x, rfl, .rfl⟩
theorem trimra_ok (s : ByteArray) (hs : s.size ≤ 9223372036854775807) (h : Blk w b 112 cs) (hc : SetC cs f) :
    Calls Tryd.prog 90 #[.string s, .pointer (some ⟨b, 0, none⟩)] w fun e w' => ∃ r, e = .returned (.string r) ∧ r.size ≤ s.size ∧ (tB r).all f = (tB s).all f ∧ Ext w w' := by
  apply trimra_vc
  unfold trimra_T
  refine ⟨fun r w' => r.size ≤ s.size ∧ (tB r).all f = (tB s).all f ∧ Ext w w', fun r _ => r.size, ⟨Nat.le_refl _, rfl, .rfl⟩, ?_⟩
  rintro r w4 ⟨hr, ha, hx⟩
  refine ⟨fun h0 => ?_, fun _ => ⟨r, rfl, hr, ha, hx⟩⟩
  rw [i64_fit (by omega) (by omega)]
  have e1 : ((r.size : Int) - 1) = ((r.size - 1 : Nat) : Int) := by omega
  rw [e1]
  simp only [Int.toNat_natCast]
  obtain ⟨x, hx', hb⟩ := bAt_u8 r (i := r.size - 1) (by omega)
  rw [hb]
  refine ⟨by omega, by omega, (ascont_ok (h.ext hx) hc x).mono ?_⟩
  rintro e w8 ⟨rfl, e8⟩
  have hx8 := hx.trans e8
  refine ⟨_, rfl, fun _ => ⟨r, rfl, hr, ha, hx8⟩, fun hf => ⟨by omega, by omega, ⟨?_, ?_, hx8⟩, ?_⟩⟩
  · rw [← tB_length, tB_extract]; simp; omega
  · rw [tB_extract, List.drop_zero, ← ha]
    have : tB r = (tB r).take (r.size - 1) ++ [x] := by
      have := List.take_add_one (l := tB r) (i := r.size - 1)
      rw [hx', List.take_of_length_le (by rw [tB_length]; omega)] at this
      exact this
    conv => rhs; rw [this, List.all_append]
    simp [hf]
  · rw [← tB_length, tB_extract]; simp [tB_length]; omega
theorem trimla_ok (s : ByteArray) (hs : s.size ≤ 9223372036854775807) (h : Blk w b 112 cs) (hc : SetC cs f) :
    Calls Tryd.prog 89 #[.string s, .pointer (some ⟨b, 0, none⟩)] w fun e w' => ∃ r, e = .returned (.string r) ∧ (tB r = [] ↔ (tB s).all f = true) ∧ Ext w w' := by
  apply trimla_vc
  unfold trimla_T
  refine ⟨fun r w' => (tB r).all f = (tB s).all f ∧ Ext w w', fun r _ => r.size, ⟨rfl, .rfl⟩, ?_⟩
  rintro r w4 ⟨ha, hx⟩
  refine ⟨fun h0 => ?_, fun h0 => ⟨r, rfl, ?_, hx⟩⟩
  · obtain ⟨x, hx', hb⟩ := bAt_u8 r (i := 0) (by omega)
    rw [hb]
    refine ⟨by omega, by omega, (ascont_ok (h.ext hx) hc x).mono ?_⟩
    rintro e w8 ⟨rfl, e8⟩
    have hx8 := hx.trans e8
    cases hr : tB r with
    | nil => rw [hr] at hx'; simp at hx'
    | cons y l =>
      rw [hr] at hx'
      cases hx'
      refine ⟨_, rfl, fun hf => ⟨r, rfl, ?_, hx8⟩, fun hf => ⟨by omega, by omega, ⟨?_, hx8⟩, ?_⟩⟩
      · rw [hr, ← ha, hr]; simp [hf]
      · rw [tB_extract, List.take_of_length_le (by rw [tB_length]; omega), ← ha, hr]; simp [hf]
      · show (r.extract 1 r.size).size < r.size
        rw [← tB_length, tB_extract]; simp [tB_length]; omega
  · have : tB r = [] := List.length_eq_zero_iff.1 (by rw [tB_length]; omega)
    rw [← ha, this]; simp
end

theorem ba_nil {s : ByteArray} : s = ⟨#[]⟩ ↔ tB s = [] := by rw [← tB_inj]; rfl
theorem trim_ok (s : ByteArray) (hs : s.size ≤ 9223372036854775807) {c : ByteArray} (hc : 2 ≤ c.size) (hc' : c.size < 9223372036854775807) (ha : ∀ x ∈ tB c, x.toNat < 128) (w : World) :
    Calls Tryd.prog 61 #[.string s, .string c] w fun e w' => ∃ r, e = .returned (.string r) ∧ (r = ⟨#[]⟩ ↔ (tB s).all (fun x => (tB c).contains x) = true) ∧ Ext w w' := by
  apply strim_vc
  unfold strim_T
  refine ⟨fun h => ?_, fun _ => ⟨fun h => by omega, fun _ => (mkascii_ok c w hc' ha).mono ?_⟩⟩
  · rcases h with h | h
    · exact ⟨s, rfl, by rw [h]; simp [tB], .rfl⟩
    · rw [h] at hc; cases hc
  · rintro e w39 ⟨cs, rfl, hs', e39⟩
    refine ⟨cs, hs'.1, true, rfl, fun b42 w43 h43 => ?_⟩
    rw [zero_set] at h43
    have H43 := (Hold.start e39).new h43
    have B43 := H43.blk 0 rfl
    refine ⟨hs'.1, B43.canPut (by rw [hs'.1]; simp) hs'.one, fun w45 h45 => ⟨fun _ => ?_, fun h => by cases h⟩⟩
    have H45 := H43.putAll 0 rfl (by rw [hs'.1]; simp) h45
    have B45 : Blk w45 b42 112 cs := H45.blk 0 rfl
    refine (trimra_ok s hs B45 hs').mono ?_
    rintro e w49 ⟨r, rfl, hrs, hr, e49⟩
    refine ⟨r, rfl, (trimla_ok r (by omega) (B45.ext e49) hs').mono ?_⟩
    rintro e w52 ⟨q, rfl, hq, e52⟩
    exact ⟨q, rfl, q, rfl, by rw [ba_nil, hq, hr], (H45.step (e49.trans e52)).ext⟩

def letC : ByteArray := ⟨#[97, 98, 99, 100, 101, 102, 103, 104, 105, 106, 107, 108, 109, 110, 111, 112, 113, 114, 115, 116, 117, 118, 119, 120, 121, 122]⟩
def othC : ByteArray := ⟨#[97, 98, 99, 100, 101, 102, 103, 104, 105, 106, 107, 108, 109, 110, 111, 112, 113, 114, 115, 116, 117, 118, 119, 120, 121, 122, 48, 49, 50, 51, 52, 53, 54, 55, 56, 57, 95]⟩
theorem let_all : ∀ i : Fin 256, decide (0 ≤ Lib.indexByte (tB letC) (UInt8.ofNat i.1)) = letterB (UInt8.ofNat i.1) := by decide +kernel
theorem oth_all : ∀ i : Fin 256, (tB othC).contains (UInt8.ofNat i.1) = otherB (UInt8.ofNat i.1) := by decide +kernel
theorem let_eq (x : UInt8) : 0 ≤ Lib.indexByte (tB letC) x ↔ letterB x = true := by
  have := let_all ⟨x.toNat, x.toNat_lt⟩
  rw [UInt8.ofNat_toNat] at this
  rw [← this, decide_eq_true_eq]
theorem oth_eq (x : UInt8) : (tB othC).contains x = otherB x := by
  have := oth_all ⟨x.toNat, x.toNat_lt⟩
  rwa [UInt8.ofNat_toNat] at this
theorem oth_ascii : ∀ x ∈ tB othC, x.toNat < 128 := by decide +kernel

theorem sisname_ok (s : ByteArray) (w : World) : Calls Tryd.prog 42 #[.string s] w fun e w' => e = .returned (.bool (isName s)) ∧ Ext w w' := by
  apply sisname_vc
  unfold sisname_T
  refine ⟨fun ⟨hne, hle⟩ => ?_, fun h => ⟨?_, .rfl⟩⟩
  · have h0 : 0 < s.size := by
      rcases Nat.eq_zero_or_pos s.size with h | h
      · exact absurd (ba_nil.2 (List.length_eq_zero_iff.1 (by rw [tB_length]; exact h))) hne
      · exact h
    obtain ⟨x, hx, hb⟩ := bAt_u8 s h0
    refine ⟨by omega, by omega, ?_⟩
    rw [hb]
    refine (idxbyte_ok letC (x.toNat : Int) w).mono ?_
    rintro e w3 ⟨rfl, rfl⟩
    have hxx : ((x.toNat : Int)).toNat.toUInt8 = x := by simp
    rw [hxx]
    cases hl : tB s with
    | nil => rw [hl] at hx; simp at hx
    | cons y l =>
      rw [hl] at hx
      cases hx
      have hlen : l.length + 1 ≤ 24 := by have := tB_length s; rw [hl] at this; simp at this; omega
      refine ⟨_, rfl, fun hge => ?_, fun hlt => ⟨?_, .rfl⟩⟩
      · refine (trim_ok s (by omega) (c := othC) (by decide) (by decide) oth_ascii _).mono ?_
        rintro e w7 ⟨r, rfl, hr, e7⟩
        refine ⟨r, rfl, ?_, e7⟩
        have : sEq r ⟨#[]⟩ = isName s := by
          rw [Bool.eq_iff_iff, sEq_iff, hr, hl]
          unfold isName isNameL
          rw [hl]
          have hx1 := (let_eq x).1 hge
          have hx2 : otherB x = true := by unfold otherB; rw [hx1]; rfl
          simp only [List.all_cons, oth_eq, hx1, hx2, Bool.true_and, List.length_cons, Bool.and_eq_true, decide_eq_true_eq]
          exact ⟨fun h => ⟨h, hlen⟩, fun h => h.1⟩
        rw [this]
      · have : isName s = false := by
          unfold isName isNameL
          rw [hl]
          have : letterB x = false := by
            rw [← Bool.not_eq_true, ← let_eq]; omega
          simp [this]
        rw [this]
  · have : isName s = false := by
      unfold isName isNameL
      rcases h with h | h
      · rw [h]; rfl
      · cases hl : tB s with
        | nil => rfl
        | cons y l =>
          have := tB_length s
          rw [hl] at this
          have hb : ¬ ((y :: l).length ≤ 24) := by omega
          simp only [hb, decide_false, Bool.and_false]
    rw [this]
end Go.Proofs.YtdephmdfdgclpaaDoor

/- The contracts of package schema: schemas, and columns by name; the document's answer for them. -/
namespace Go.Proofs.YtdephmdfdgclpaaDoor
open Go Go.Vc Go.RowKit
set_option maxRecDepth 20000

/-- What is asked of byte k of a name. -/
def nameB (k : Nat) (x : UInt8) : Bool := if k = 0 then letterB x else otherB x
section
variable {w : World} {p rp : Option Addr} {n c rn rc : Nat} {cols : List Col} {row : List Val}

/-! ### Find -/
theorem sfind1_ok (x : Col) {fv : Nat} {name : ByteArray} (h : w.cell? ⟨fv, 0, none⟩ = some (.string name)) :
    Calls Tryd.prog 63 #[.agg #[.string x.name, .int .i64 x.kind, .bool x.null], .pointer (some ⟨fv, 0, none⟩)] w fun e w' => e = .returned (.bool (decide (x.name = name))) ∧ Ext w w' := by
  apply sfind1_vc
  unfold sfind1_T
  intro b1 w2 h1
  refine ⟨_, by rw [(Blk.new h1).cell]; rfl, _, cell_ext h h1.ext, ?_, h1.ext⟩
  have : sEq x.name name = decide (x.name = name) := by rw [Bool.eq_iff_iff, sEq_iff, decide_eq_true_eq]
  rw [this]
theorem ifcol_ok (h : Cols w p n c cols) {fv : Nat} {name : ByteArray} (hf : w.cell? ⟨fv, 0, none⟩ = some (.string name)) :
    Calls Tryd.prog 62 #[.slice p n c, .func (.func 63) #[] #[.pointer (some ⟨fv, 0, none⟩)]] w fun e w' => e = .returned (.int .i64 (findC cols name)) ∧ Ext w w' := by
  apply ifcol_vc
  unfold ifcol_T
  have hl := h.len
  have hm : n ≤ 9223372036854775807 := h.le
  refine ⟨fun i w' => ∃ k : Nat, i = (k : Int) ∧ k ≤ n ∧ (∀ (j : Nat) y, j < k → cols[j]? = some y → y.name ≠ name) ∧ Ext w w', fun i _ => n - i.toNat, ⟨0, rfl, Nat.zero_le _, fun j y hj => by omega, .rfl⟩, ?_⟩
  rintro i w4 ⟨k, rfl, hk, hb, hx⟩
  refine ⟨fun hlt => ?_, fun hge => ⟨?_, hx⟩⟩
  · have g : cols[k]? = some (cols[k]'(by omega)) := List.getElem?_eq_getElem _
    generalize cols[k]'(by omega) = x at g
    obtain ⟨b, o, hp, c0, c1, c2⟩ := (h.ext hx).col g
    simp only [Int.toNat_natCast]
    refine ⟨b, o, hp, by omega, by omega, _, c0, _, c1, _, c2, (sfind1_ok x (cell_ext hf hx)).mono ?_⟩
    rintro e w13 ⟨rfl, e13⟩
    refine ⟨_, rfl, fun hd => ⟨?_, hx.trans e13⟩, fun hd => ?_⟩
    · rw [findC_at g (of_decide_eq_true hd) hb]
    · rw [i64_next (by omega)]
      refine ⟨⟨k + 1, rfl, by omega, fun j y hj hy => ?_, hx.trans e13⟩, by simp only [Int.toNat_natCast]; omega⟩
      by_cases hjk : j = k
      · subst hjk; rw [g] at hy; cases hy; exact of_decide_eq_false hd
      · exact hb j y (by omega) hy
  · rw [findC_none fun x hx => ?_]
    obtain ⟨j, hj⟩ := List.mem_iff_getElem?.1 hx
    exact hb j x (by have := (List.getElem?_eq_some_iff.1 hj).1; omega) hj
theorem sfind_ok (h : Cols w p n c cols) (name : ByteArray) : Calls Tryd.prog 45 #[.slice p n c, .string name] w fun e w' => e = .returned (.int .i64 (findC cols name)) ∧ Ext w w' := by
  apply sfind_vc
  unfold sfind_T
  intro b1 w2 h1
  refine (ifcol_ok (h.ext h1.ext) (Blk.new h1).one).mono ?_
  rintro e w5 ⟨rfl, e5⟩
  exact ⟨_, rfl, rfl, h1.ext.trans e5⟩
/-! ### Right -/
/-- The map of names that were met. -/
def metL (l : List Col) : List (ByteArray × Value) := l.foldl (fun m x => setS m x.name (.bool true)) []
theorem metL_snoc (l : List Col) (x : Col) : metL (l ++ [x]) = setS (metL l) x.name (.bool true) := by simp [metL]
theorem metL_look (l : List Col) (s : ByteArray) : (lookS (metL l) s).getD (.bool false) = .bool ((l.map Col.name).contains s) := by
  have key : ∀ (l : List Col) (m : List (ByteArray × Value)), lookS (l.foldl (fun m x => setS m x.name (.bool true)) m) s = if (l.map Col.name).contains s then some (.bool true) else lookS m s := by
    intro l
    induction l with
    | nil => intro m; simp
    | cons x l ih =>
      intro m
      rw [List.foldl_cons, ih, lookS_setS, List.map_cons]
      by_cases hx : x.name = s
      · subst hx; simp
      · simp [hx, Ne.symm hx]
  unfold metL
  rw [key]
  cases (l.map Col.name).contains s <;> rfl
theorem sright_ok (h : Cols w p n c cols) : Calls Tryd.prog 26 #[.slice p n c] w fun e w' => e = .returned (.bool (rightC cols)) ∧ Ext w w' := by
  apply sright_vc
  unfold sright_T
  intro b1 w2 h1
  have hl := h.len
  have hm : n ≤ 9223372036854775807 := h.le
  have H1 := (Hold.start (Ext.rfl (w := w))).new h1
  refine ⟨fun i w' => ∃ (k : Nat) (es : Array MapEntry) (clock : Nat), i = (k : Int) ∧ k ≤ n ∧ colsOk [] (cols.take k) = true ∧ MapL es (metL (cols.take k)) ∧ Hold w w' [(b1, .map es clock)] [], fun i _ => n - i.toNat, ⟨0, _, _, rfl, Nat.zero_le _, by simp [colsOk], by simp [metL, MapL], H1⟩, ?_⟩
  rintro i w7 ⟨k, es, clock, rfl, hk, hok, hmap, H⟩
  refine ⟨fun hlt => ?_, fun hge => ⟨?_, H.ext⟩⟩
  · have g : cols[k]? = some (cols[k]'(by omega)) := List.getElem?_eq_getElem _
    generalize cols[k]'(by omega) = x at g
    obtain ⟨b, o, hp, c0, c1, c2⟩ := (h.ext H.ext).col g
    have hdec : colOk ((cols.take k).map Col.name) x = false → rightC cols = false := by
      intro hv
      unfold rightC
      have hc : cols = cols.take k ++ x :: cols.drop (k + 1) := by
        obtain ⟨hk', rfl⟩ := List.getElem?_eq_some_iff.1 g
        rw [← List.drop_eq_getElem_cons hk', List.take_append_drop]
      have : colsOk [] cols = false := by
        conv => lhs; rw [hc, colsOk_append]
        rw [hok, List.nil_append]
        unfold colsOk
        rw [hv]; rfl
      rw [this, Bool.and_false]
    simp only [Int.toNat_natCast]
    refine ⟨b, o, hp, by omega, by omega, _, c0, _, c1, _, c2, fun b15 w16 h16 => ?_⟩
    have H16 := H.new h16
    obtain ⟨q0, q1, q2⟩ := (H16.blk 0 rfl).c3
    refine ⟨⟨_, q0⟩, (H16.blk 0 rfl).frozen _, ⟨_, q1⟩, (H16.blk 0 rfl).frozen _, ⟨_, q2⟩, (H16.blk 0 rfl).frozen _, fun w21 h21 => ?_⟩
    have H21 := H16.put 0 rfl h21
    have B : Blk w21 b15 50 #[.string x.name, .int .i64 x.kind, .bool x.null] := H21.blk 0 rfl
    obtain ⟨q0, q1, q2⟩ := B.c3
    refine ⟨_, q0, (sisname_ok x.name w21).mono ?_⟩
    rintro e w25 ⟨rfl, e25⟩
    have H25 := H21.step e25
    have B25 := B.ext e25
    obtain ⟨q0, q1, q2⟩ := B25.c3
    have hM : w25.heap[b1]? = some (.map es clock) := H25.holds 1 _ rfl
    refine ⟨_, rfl, fun hn => ⟨?_, H25.ext⟩, fun hn => ⟨_, q0, ((cols.take k).map Col.name).contains x.name, fun w1 hs => ?_, fun hin => ⟨?_, H25.ext⟩, fun hin => ⟨_, q1, fun hlow => ⟨?_, H25.ext⟩, fun hge => ⟨_, q1, fun hhi => ⟨?_, H25.ext⟩, fun hle => ⟨_, q0, ?_⟩⟩⟩⟩⟩
    · rw [hdec (by unfold colOk; rw [hn]; rfl)]
    · rw [← metL_look]
      exact map_look (kt := 9) (e := 4) (by kernel_rfl) (by kernel_rfl) (run_zeroOf (by kernel_rfl) w1) ((hs b1 (H25.lt 1 rfl)).trans hM) hmap
    · rw [hdec (by unfold colOk; rw [hn, hin]; rfl)]
    · rw [hdec (by unfold colOk; rw [hn, hin, decide_eq_false (by omega)]; rfl)]
    · rw [hdec (by unfold colOk; rw [hn, hin, decide_eq_false (by omega)]; rfl)]
    · obtain ⟨w42, es', clock', hrun, hobj, hmap', hbut, hsz⟩ := map_set (P := Tryd.prog) (t := 61) (kt := 9) (e := 4) (s := x.name) (by kernel_rfl) (by kernel_rfl) hM hmap (.bool true)
      refine ⟨w42, hrun, ?_⟩
      rw [i64_next (by omega)]
      have htk : cols.take (k + 1) = cols.take k ++ [x] := by rw [List.take_add_one, g]; rfl
      refine ⟨⟨k + 1, es', clock', rfl, by omega, ?_, ?_, (H25.upd 1 rfl hbut hobj).tail⟩, by simp only [Int.toNat_natCast]; omega⟩
      · rw [htk, colsOk_append, hok, List.nil_append]
        unfold colsOk colOk
        rw [hn, hin, decide_eq_true (by omega)]; rfl
      · rw [htk, metL_snoc]; exact hmap'
  · have hk' : k = n := by omega
    subst hk'
    rw [List.take_of_length_le (by omega)] at hok
    have : (decide ((0 : Int) < (k : Int)) && decide ((k : Int) ≤ 16)) = rightC cols := by
      unfold rightC
      rw [hok, Bool.and_true, Bool.eq_iff_iff, Bool.and_eq_true, decide_eq_true_eq, decide_eq_true_eq, decide_eq_true_eq]
      omega
    rw [this]
end
end Go.Proofs.YtdephmdfdgclpaaDoor

/- The contracts of package schema: rows that fit; the document's answer for them. -/
namespace Go.Proofs.YtdephmdfdgclpaaDoor
open Go Go.Vc Go.RowKit
set_option maxRecDepth 20000

section
variable {w : World} {p rp : Option Addr} {n c rn rc : Nat} {cols : List Col} {row : List Val}

/-! ### Rows that fit -/
theorem spairs_ok (w : World) : Calls Tryd.prog 75 #[.slice p n c, .slice rp rn rc] w fun e w' => ∃ b1 b4, e = .returned (.func (.func 99) #[] #[.pointer (some ⟨b1, 0, none⟩), .pointer (some ⟨b4, 0, none⟩)]) ∧
    ∀ fs ms w0, Hold w0 w fs ms → Hold w0 w' ((b4, .cells #[.slice rp rn rc] 24) :: (b1, .cells #[.slice p n c] 22) :: fs) ms := by
  apply spairs_vc
  unfold spairs_T
  intro b1 w2 h1 b4 w5 h4
  exact ⟨b1, b4, rfl, fun fs ms w0 h => (h.new h1).new h4⟩

theorem spairs1_ok {l0 fv0 fv1 : Nat} (w0 : World) (h : Cols w0 p n c cols) (hr : Vs w0 rp rn rc row) (hlen : rn = n) (Inv : Nat → World → Prop) (Stop : World → Prop) {w : World} (h0 : Inv 0 w)
    (hex : ∀ k W, Inv k W → Ext w0 W) (hc0 : ∀ k W, Inv k W → W.cell? ⟨fv0, 0, none⟩ = some (.slice p n c)) (hc1 : ∀ k W, Inv k W → W.cell? ⟨fv1, 0, none⟩ = some (.slice rp rn rc))
    (hstep : ∀ k W W', Inv k W → Ext W W' → Inv k W')
    (hy : ∀ k x v W (R : Bool → World → Prop), k < n → cols[k]? = some x → row[k]? = some v → Inv k W → (∀ W', Inv (k + 1) W' → R true W') → (∀ W', Stop W' → R false W') → Yield Tryd.prog l0 #[x.agg, v.agg] W R) :
    Calls Tryd.prog 99 #[.func (.yield l0) #[] #[], .pointer (some ⟨fv0, 0, none⟩), .pointer (some ⟨fv1, 0, none⟩)] w fun e W' => e = .returned (.tuple #[]) ∧ (Inv n W' ∨ Stop W') := by
  apply spairs1_vc
  unfold spairs1_T
  subst hlen
  have hl := h.len
  have hrl := hr.len
  have hm : rn ≤ 9223372036854775807 := h.le
  refine ⟨_, _, _, hc0 _ _ h0, fun i W => ∃ k : Nat, i = (k : Int) ∧ k ≤ rn ∧ Inv k W, fun i _ => rn - i.toNat, ⟨0, rfl, Nat.zero_le _, h0⟩, ?_⟩
  rintro i w7 ⟨k, rfl, hk, hI⟩
  refine ⟨fun hlt => ?_, fun hge => ?_⟩
  · have g : cols[k]? = some (cols[k]'(by omega)) := List.getElem?_eq_getElem _
    generalize cols[k]'(by omega) = x at g
    have gv : row[k]? = some (row[k]'(by omega)) := List.getElem?_eq_getElem _
    generalize row[k]'(by omega) = v at gv
    obtain ⟨b, o, hp, c0, c1, c2⟩ := (h.ext (hex _ _ hI)).col g
    simp only [Int.toNat_natCast]
    refine ⟨b, o, hp, by omega, by omega, _, c0, _, c1, _, c2, fun b15 w16 h16 => ?_⟩
    have H16 := (Hold.start (Ext.rfl (w := w7))).new h16
    obtain ⟨q0, q1, q2⟩ := (H16.blk 0 rfl).c3
    refine ⟨⟨_, q0⟩, (H16.blk 0 rfl).frozen _, ⟨_, q1⟩, (H16.blk 0 rfl).frozen _, ⟨_, q2⟩, (H16.blk 0 rfl).frozen _, fun w21 h21 w23 h23 => ?_⟩
    have H21 := (H16.put 0 rfl h21).step h23.ext
    have B : Blk w23 b15 50 #[.string x.name, .int .i64 x.kind, .bool x.null] := H21.blk 0 rfl
    obtain ⟨q0, q1, q2⟩ := B.c3
    have hI23 := hstep _ _ _ hI H21.ext
    obtain ⟨b2, o2, hp2, d0, d1, d2⟩ := (hr.ext (hex _ _ hI23)).val gv
    refine ⟨_, q0, _, q1, _, q2, _, _, _, hc1 _ _ hI23, b2, o2, hp2, by omega, by omega, _, d0, _, d1, _, d2, ?_⟩
    refine hy k x v w23 _ (by omega) g gv hI23 (fun W' hI' => ⟨fun h => (by cases h), fun _ => ?_⟩) fun W' hS => ⟨fun _ => ⟨by trivial, .inr hS⟩, fun h => (by cases h)⟩
    rw [i64_next (by omega)]
    exact ⟨⟨k + 1, rfl, by omega, hI'⟩, by simp only [Int.toNat_natCast]; omega⟩
  · have : k = rn := by omega
    subst this
    exact ⟨rfl, .inl hI⟩

theorem sfits0_ok (h : Cols w p n c cols) (hr : Vs w rp rn rc row) : Calls Tryd.prog 50 #[.slice p n c, .slice rp rn rc] w fun e w' => e = .returned (.bool (fitsL cols row)) ∧ Ext w w' := by
  apply sfits0_vc
  unfold sfits0_T
  intro b1 w2 h1
  have hl := h.len
  have hrl := hr.len
  have hm : n ≤ 9223372036854775807 := h.le
  have H1 := (Hold.start (Ext.rfl (w := w))).new h1
  refine ⟨fun hne => ?_, fun heq => (spairs_ok w2).mono ?_⟩
  · have B1 := H1.blk 0 rfl
    refine ⟨⟨_, B1.one⟩, B1.frozen 0, fun w6 h6 => ?_⟩
    have H6 := H1.box 0 rfl h6
    refine ⟨_, (H6.blk 0 rfl).one, ?_, H6.ext⟩
    have : fitsL cols row = false := by
      rw [← Bool.not_eq_true]
      intro hf
      have := fitsL_length hf
      omega
    rw [this]
  · rintro e w11 ⟨bc, br, rfl, hH⟩
    have H11 := hH _ _ _ H1
    refine ⟨_, rfl, _, _, rfl, by kernel_rfl, fun r d l w18 hB hY => ?_⟩
    have HB := H11.began hB
    let fs : Nat → Bool → List (Nat × Obj) := fun q v => [(l, .loop (r q)), (d, .deferred (some [])), (br, .cells #[.slice rp rn rc] 24), (bc, .cells #[.slice p n c] 22), (b1, .cells #[.bool v] 4)]
    refine (spairs1_ok (cols := cols) (row := row) w h hr (by omega) (fun k W => (fitsL (cols.drop k) (row.drop k) = fitsL cols row) ∧ Hold w W (fs 0 false) []) (fun W => fitsL cols row = false ∧ Hold w W (fs 3 false) []) ⟨rfl, HB⟩ (fun k W hI => hI.2.ext) (fun k W hI => (hI.2.blk 3 rfl).one) (fun k W hI => (hI.2.blk 2 rfl).one) (fun k W W' hI e => ⟨hI.1, hI.2.step e⟩) ?_).mono ?_
    · rintro k x v W R hk g gv ⟨hf, H⟩ yes no
      have hfd := fitsL_drop g gv
      refine hY _ _ _ _ _ _ W R (H.loop 0 rfl) fun b29 w30 h30 => ?_
      have H30 := H.new h30
      obtain ⟨q0, q1, q2⟩ := (H30.blk 0 rfl).c3
      refine ⟨⟨_, q0⟩, (H30.blk 0 rfl).frozen _, ⟨_, q1⟩, (H30.blk 0 rfl).frozen _, ⟨_, q2⟩, (H30.blk 0 rfl).frozen _, fun w35 h35 b37 w38 h38 => ?_⟩
      have H38 := (H30.put 0 rfl h35).new h38
      obtain ⟨q0, q1, q2⟩ := (H38.blk 0 rfl).c3
      refine ⟨⟨_, q0⟩, (H38.blk 0 rfl).frozen _, ⟨_, q1⟩, (H38.blk 0 rfl).frozen _, ⟨_, q2⟩, (H38.blk 0 rfl).frozen _, fun w43 h43 => ?_⟩
      have H43 := H38.put 0 rfl h43
      refine ⟨H43.loop 2 rfl, ?_⟩
      rintro Wb rfl
      have H45 := H43.turn 2 1 rfl
      have Bv : Blk (turn r l 1 w43) b37 26 #[.int .i64 v.k, .int .i64 v.n, .string v.s] := H45.blk 0 rfl
      obtain ⟨v0, v1, v2⟩ := Bv.c3
      refine ⟨_, v0, _, v1, _, v2, (vright_ok v _).mono ?_⟩
      rintro e w51 ⟨rfl, e51⟩
      have H51 := H45.step e51
      have Bv : Blk w51 b37 26 #[.int .i64 v.k, .int .i64 v.n, .string v.s] := H51.blk 0 rfl
      have Bc : Blk w51 b29 50 #[.string x.name, .int .i64 x.kind, .bool x.null] := H51.blk 1 rfl
      obtain ⟨v0, v1, v2⟩ := Bv.c3
      obtain ⟨c0, c1, c2⟩ := Bc.c3
      have B1 : Blk w51 b1 4 #[.bool false] := H51.blk 6 rfl
      -- a value that does not fit
      have stop : valFits x v = false → (∃ u, w51.cell? ⟨b1, 0, none⟩ = some u) ∧ w51.frozen? ⟨b1, 0, none⟩ = false ∧ ∀ w55 : World, Put w51 b1 0 [.bool false] w55 → Rec r l 1 w55 ∧ R false (turn r l 3 w55) := by
        intro hb
        refine ⟨⟨_, B1.one⟩, B1.frozen 0, fun w55 h55 => ?_⟩
        have H55 := H51.box 6 rfl h55
        refine ⟨H55.loop 2 rfl, no _ ⟨?_, (H55.turn 2 3 rfl).tail.tail⟩⟩
        rw [← hf, hfd, hb]; rfl
      have go : valFits x v = true → Rec r l 1 w51 ∧ R true (turn r l 0 w51) := by
        intro hb
        refine ⟨H51.loop 2 rfl, yes _ ⟨?_, (H51.turn 2 0 rfl).tail.tail⟩⟩
        rw [← hf, hfd, hb]; rfl
      refine ⟨_, rfl, fun hb => stop (by unfold valFits; rw [hb]; rfl), fun hb => ⟨_, v0, _, c1, fun hne => ⟨_, c2, fun hnull => ⟨_, v0, fun h0 => stop ?_, fun h0 => go ?_⟩, fun hnull => stop ?_⟩, fun he => go ?_⟩⟩
      · unfold valFits; rw [hb, decide_eq_false hne, hnull, decide_eq_false h0]; rfl
      · unfold valFits; rw [hb, decide_eq_false hne, hnull, decide_eq_true h0]; rfl
      · unfold valFits; rw [hb, decide_eq_false hne, hnull]; rfl
      · unfold valFits; rw [hb, decide_eq_true he]; rfl
    · rintro e W ⟨rfl, hI | hS⟩
      · obtain ⟨hf, H⟩ := hI
        refine ⟨⟨_, rfl⟩, .inl ⟨H.loop 0 rfl, ?_⟩⟩
        have H2 := H.turn 0 2 rfl
        have B1 : Blk (turn r l 2 W) b1 4 #[.bool false] := H2.blk 4 rfl
        refine ⟨⟨_, B1.one⟩, B1.frozen 0, fun w82 h82 => ?_⟩
        have H82 := H2.box 4 rfl h82
        have H83 := H82.shut 1 rfl
        refine ⟨H82.dfr 1 rfl, _, (H83.blk 4 rfl).one, ?_, H83.ext⟩
        rw [← hf, List.drop_eq_nil_of_le (by omega), List.drop_eq_nil_of_le (by omega)]; rfl
      · obtain ⟨hf, H⟩ := hS
        refine ⟨⟨_, rfl⟩, .inr (.inl ⟨H.loop 0 rfl, ?_⟩)⟩
        have H2 := H.turn 0 4 rfl
        have H83 := H2.shut 1 rfl
        refine ⟨H2.dfr 1 rfl, _, (H83.blk 4 rfl).one, ?_, H83.ext⟩
        rw [hf]
theorem sfits_ok (h : Cols w p n c cols) (hr : Vs w rp rn rc row) : Calls Tryd.prog 34 #[.slice p n c, .slice rp rn rc] w fun e w' => e = .returned (.bool (fitsC cols row)) ∧ Ext w w' := by
  apply sfits_vc
  unfold sfits_T
  refine (sright_ok h).mono ?_
  rintro e w2 ⟨rfl, e2⟩
  refine ⟨_, rfl, fun hb => (sfits0_ok (h.ext e2) (hr.ext e2)).mono ?_, fun hb => ⟨by unfold fitsC; rw [hb]; rfl, e2⟩⟩
  rintro e w6 ⟨rfl, e6⟩
  exact ⟨_, rfl, by unfold fitsC; rw [hb]; rfl, e2.trans e6⟩
end
end Go.Proofs.YtdephmdfdgclpaaDoor

/- The contracts of package expr: kinds. -/
namespace Go.Proofs.YtdephmdfdgclpaaDoor
open Go Go.Vc Go.RowKit
set_option maxRecDepth 20000

theorem many_le (op : Int) : manyOf op ≤ 2 := by
  unfold manyOf
  split
  · omega
  · split
    · omega
    · split <;> omega
theorem alike_ok (a b : Int) (w : World) : Calls Tryd.prog 44 #[.int .i64 a, .int .i64 b] w fun e w' => e = .returned (.bool (alikeB a b)) ∧ Ext w w' := by
  apply alike_vc
  unfold alike_T
  exact ⟨rfl, .rfl⟩

set_option maxHeartbeats 4000000 in
theorem xkind_ok : ∀ (N : Nat) (x : Ex) {w : World} {p : Option Addr} {n c : Nat} {cols : List Col} {cs : List Value}, depthT x ≤ N → (∀ y ∈ nodesT x, NodeOk y) → Tab w → Cols w p n c cols → ExAt w x cs →
    Calls Tryd.prog 28 #[.slice p n c, .agg cs.toArray] w fun e w' => e = .returned (.tuple #[.int .i64 (kindF cols x).1, .int .i64 (kindF cols x).2]) ∧ Ext w w' := by
  intro N
  induction N with
  | zero => intro x w p n c cols cs hd; cases x; unfold depthT at hd; omega
  | succ N ih =>
  intro x w p n c cols cs hd hno hT hc hx
  obtain ⟨xp, xn, xc, rfl, hkl, hxn, hkid⟩ := hx.six
  obtain ⟨hmany, _⟩ := hno x (self_node x)
  have h2 := many_le x.op
  have hop := many_range (op := x.op) (by omega)
  have hl := hc.len
  apply xkind_vc
  unfold xkind_T
  intro b1 w2 h1
  have H2 := (Hold.start (Ext.rfl (w := w))).new h1
  have B1 : Blk w2 b1 29 #[.int .i64 x.op, .string x.name, .int .i64 x.v.k, .int .i64 x.v.n, .string x.v.s, .slice xp xn xc] := H2.blk 0 rfl
  obtain ⟨a0, a1, a2, a3, a4, a5⟩ := B1.c6
  obtain ⟨t0, t1, t2⟩ := (hT.ext H2.ext).at (op := x.op) (by omega) (by omega)
  refine ⟨_, a0, by omega, by omega, _, t0, _, t1, _, t2, fun b8 w9 h8 => ?_⟩
  have H9 := H2.new h8
  obtain ⟨q0, q1, q2⟩ := (H9.blk 0 rfl).c3
  refine ⟨⟨_, q0⟩, (H9.blk 0 rfl).frozen _, ⟨_, q1⟩, (H9.blk 0 rfl).frozen _, ⟨_, q2⟩, (H9.blk 0 rfl).frozen _, fun w14 h14 b16 w17 h16 => ?_⟩
  have H17 := (H9.put 0 rfl h14).new h16
  let fs : List Int → List (Nat × Obj) := fun L => [(b16, .cells #[.int .i64 (L.getD 0 0), .int .i64 (L.getD 1 0)] 66 (0, 0)), (b8, .cells #[.int .i64 (manyOf x.op), .int .i64 (wantOf x.op), .int .i64 (kindOf x.op)] 64 (0, 0)),
    (b1, .cells #[.int .i64 x.op, .string x.name, .int .i64 x.v.k, .int .i64 x.v.n, .string x.v.s, .slice xp xn xc] 29 (0, 0))]
  have H17 : Hold w w17 (fs []) [] := H17
  have c5 : ∀ {L : List Int} {W : World}, Hold w W (fs L) [] → W.cell? ⟨b1, 5, none⟩ = some (.slice xp xn xc) := fun H => by rw [(H.blk 2 rfl).cell]; rfl
  refine ⟨_, _, _, c5 H17, fun i W => ∃ j : Nat, i = (j : Int) ∧ j ≤ xn ∧ (runL (kindF cols) (x.kids.take j)).2 = 0 ∧ Hold w W (fs (runL (kindF cols) (x.kids.take j)).1) [], fun i _ => xn - i.toNat, ⟨0, rfl, Nat.zero_le _, rfl, H17⟩, ?_⟩
  rintro i W ⟨j, rfl, hj, hrun, H⟩
  refine ⟨fun hlt => ?_, fun hge => ?_⟩
  · have g : x.kids[j]? = some (x.kids[j]'(by omega)) := List.getElem?_eq_getElem _
    generalize x.kids[j]'(by omega) = k at g
    obtain ⟨kc, b, o, hk, hp, hcell⟩ := hkid H.ext g
    obtain ⟨kp, kn, kcap, hkc, _⟩ := hk.six
    simp only [Int.toNat_natCast]
    have e0 := hcell 0 _ (by rw [hkc]; rfl)
    have e1 := hcell 1 _ (by rw [hkc]; rfl)
    have e2 := hcell 2 _ (by rw [hkc]; rfl)
    have e3 := hcell 3 _ (by rw [hkc]; rfl)
    have e4 := hcell 4 _ (by rw [hkc]; rfl)
    have e5 := hcell 5 _ (by rw [hkc]; rfl)
    refine ⟨b, o, hp, by omega, by omega, _, e0, _, e1, _, e2, _, e3, _, e4, _, _, _, e5, fun b38 w39 h38 => ?_⟩
    have H39 := H.new h38
    refine (H39.blk 0 rfl).w6 fun w47 h47 => ?_
    have H47 := H39.put 0 rfl h47
    have Bk : Blk w47 b38 29 #[.int .i64 k.op, .string k.name, .int .i64 k.v.k, .int .i64 k.v.n, .string k.v.s, .slice kp kn kcap] := H47.blk 0 rfl
    obtain ⟨a0, a1, a2, a3, a4, a5⟩ := Bk.c6
    subst hkc
    refine ⟨_, a0, _, a1, _, a2, _, a3, _, a4, _, _, _, a5, (ih k (by have := kid_depth g; omega) (fun y hy => hno y (kid_node g hy)) (hT.ext H47.ext) (hc.ext H47.ext) (hk.ext H47.ext)).mono ?_⟩
    rintro e w58 ⟨rfl, e58⟩
    have H58 := H47.step e58
    refine ⟨_, _, rfl, fun hne => ⟨?_, H58.ext⟩, fun he => ⟨by omega, by omega, ?_⟩⟩
    · rw [kindF_eq cols x, runL_stop g hrun hne, if_pos hne]
    · have H58 : Hold w w58 ((b38, _) :: fs (runL (kindF cols) (x.kids.take j)).1) [] := H58
      have hnx := runL_take (f := kindF cols) g hrun
      rw [if_neg (by simpa using he)] at hnx
      have hlen := runL_len hrun
      rw [List.length_take, Nat.min_eq_left (by omega)] at hlen
      have Bq := H58.blk 1 rfl
      have hcellj : ∃ u, w58.cell? ⟨b16, 0 + j, none⟩ = some u := by
        rcases (by omega : j = 0 ∨ j = 1) with rfl | rfl
        · exact ⟨_, by rw [Bq.cell]; rfl⟩
        · exact ⟨_, by rw [Bq.cell]; rfl⟩
      refine ⟨hcellj, Bq.frozen _, fun w64 h64 => ?_⟩
      have H64 := (H58.put 1 rfl h64).tail
      rw [i64_next (by omega)]
      refine ⟨⟨j + 1, rfl, by omega, by rw [hnx], ?_⟩, by simp only [Int.toNat_natCast]; omega⟩
      rw [hnx]
      generalize (runL (kindF cols) (x.kids.take j)).1 = L at hlen H64 ⊢
      rcases (by omega : j = 0 ∨ j = 1) with rfl | rfl
      · rw [List.length_eq_zero_iff] at hlen
        subst hlen
        exact H64
      · obtain ⟨g0, rfl⟩ := List.length_eq_one_iff.1 hlen
        exact H64
  · have hjn : j = xn := by omega
    subst hjn
    rw [List.take_of_length_le (by omega)] at hrun H
    have hlen := runL_len hrun
    generalize hL : (runL (kindF cols) x.kids).1 = L at hlen H
    have hkf : kindF cols x = kindN cols x.op x.name x.v L := by rw [kindF_eq, if_neg (by simpa using hrun), hL]
    refine ⟨_, _, _, c5 H, fun i W => ∃ k : Nat, i = (k : Int) ∧ k ≤ j ∧ (wantOf x.op ≠ 0 → ∀ g ∈ L.take k, alikeB g (wantOf x.op) = true) ∧ Hold w W (fs L) [], fun i _ => j - i.toNat, ⟨0, rfl, Nat.zero_le _, by simp, H⟩, ?_⟩
    clear H
    rintro i W ⟨k, rfl, hk, hal, H⟩
    refine ⟨fun hlt w76 h76 => ?_, fun hge => ?_⟩
    · have H76 := H.step h76.ext
      have Bs : Blk w76 b8 64 #[.int .i64 (manyOf x.op), .int .i64 (wantOf x.op), .int .i64 (kindOf x.op)] := H76.blk 1 rfl
      obtain ⟨s0, s1, s2⟩ := Bs.c3
      have g : L[k]? = some (L[k]'(by omega)) := List.getElem?_eq_getElem _
      generalize L[k]'(by omega) = gk at g
      have hck : w76.cell? ⟨b16, 0 + k, none⟩ = some (.int .i64 gk) := by
        have Bq := H76.blk 0 rfl
        rw [Bq.cell]
        rcases (by omega : k = 0 ∨ k = 1) with rfl | rfl
        · show some (Value.int .i64 (L.getD 0 0)) = _
          rw [List.getD_eq_getElem?_getD, g]; rfl
        · show some (Value.int .i64 (L.getD 1 0)) = _
          rw [List.getD_eq_getElem?_getD, g]; rfl
      have nxt : ∀ W', Ext w76 W' → (wantOf x.op ≠ 0 → alikeB gk (wantOf x.op) = true) → (∃ k' : Nat, IntKind.i64.wrap ((k : Int) + 1) = (k' : Int) ∧ k' ≤ j ∧ (wantOf x.op ≠ 0 → ∀ g ∈ L.take k', alikeB g (wantOf x.op) = true) ∧ Hold w W' (fs L) []) ∧
          j - (IntKind.i64.wrap ((k : Int) + 1)).toNat < j - k := by
        intro W' e hb
        rw [i64_next (by omega)]
        refine ⟨⟨k + 1, rfl, by omega, fun hw y hy => ?_, H76.step e⟩, by simp only [Int.toNat_natCast]; omega⟩
        rw [List.take_add_one, g] at hy
        rcases List.mem_append.1 hy with hy | hy
        · exact hal hw y hy
        · simp at hy; subst hy; exact hb hw
      simp only [Int.toNat_natCast]
      refine ⟨_, s1, fun hw => ⟨by omega, by omega, _, hck, _, s1, (alike_ok gk (wantOf x.op) w76).mono ?_⟩, fun hw => nxt w76 .rfl fun h => absurd hw h⟩
      rintro e w83 ⟨rfl, e83⟩
      refine ⟨_, rfl, fun hb => ⟨?_, (H76.step e83).ext⟩, fun hb => nxt w83 e83 fun _ => hb⟩
      rw [hkf]
      unfold kindN
      rw [if_pos ⟨hw, fun hall => by rw [hall gk (List.mem_of_getElem? g)] at hb; cases hb⟩]
    · have hkj : k = j := by omega
      rw [hkj, List.take_of_length_le (by omega)] at hal
      have hwant : ¬ (wantOf x.op ≠ 0 ∧ ¬ (∀ g ∈ L, alikeB g (wantOf x.op) = true)) := fun h => h.2 (hal h.1)
      have B1 : Blk W b1 29 #[.int .i64 x.op, .string x.name, .int .i64 x.v.k, .int .i64 x.v.n, .string x.v.s, .slice xp j xc] := H.blk 2 rfl
      obtain ⟨a0, a1, a2, a3, a4, a5⟩ := B1.c6
      have Bs : Blk W b8 64 #[.int .i64 (manyOf x.op), .int .i64 (wantOf x.op), .int .i64 (kindOf x.op)] := H.blk 1 rfl
      obtain ⟨s0, s1, s2⟩ := Bs.c3
      have Bq := H.blk 0 rfl
      have k0 : W.cell? ⟨b16, 0, none⟩ = some (.int .i64 (L.getD 0 0)) := by rw [Bq.cell]; rfl
      have k1 : W.cell? ⟨b16, 1, none⟩ = some (.int .i64 (L.getD 1 0)) := by rw [Bq.cell]; rfl
      have plain : x.op ≠ 1 → x.op ≠ 2 → ¬ ((x.op = 9 ∨ x.op = 10 ∨ x.op = 11) ∧ alikeB (L.getD 0 0) (L.getD 1 0) = false) → kindF cols x = (kindOf x.op, 0) := fun h1 h2 h9 => by
        rw [hkf]; unfold kindN; rw [if_neg hwant, if_neg h1, if_neg h2, if_neg h9]
      refine ⟨_, a0, fun h1 => ⟨_, a1, (sfind_ok (hc.ext H.ext) x.name).mono ?_⟩, fun h1 => ⟨fun h2 => ⟨_, a2, ?_, H.ext⟩, fun h2 => ?_⟩⟩
      · rintro e w93 ⟨rfl, e93⟩
        have hx93 := H.ext.trans e93
        refine ⟨_, rfl, fun hneg => ⟨?_, hx93⟩, fun hpos => ?_⟩
        · rw [hkf]; unfold kindN; rw [if_neg hwant, if_pos h1, if_pos hneg]
        · obtain ⟨y, hy, hyn⟩ := findC_get hpos
          obtain ⟨b, o, hp, d0, d1, d2⟩ := (hc.ext hx93).col hy
          have hrg := findC_range cols x.name
          refine ⟨b, o, hp, hpos, by omega, _, d1, ?_, hx93⟩
          rw [hkf]; unfold kindN; rw [if_neg hwant, if_pos h1, if_neg (by omega), hy]; rfl
      · rw [hkf]; unfold kindN; rw [if_neg hwant, if_neg h1, if_pos h2]
      · refine ⟨fun h9 => ⟨fun _ => ?_, fun h => absurd h9 h⟩, fun h9 => ⟨fun h10 => ⟨fun _ => ?_, fun h => absurd h10 h⟩, fun h10 => ⟨fun h11 => ?_, fun h11 => ⟨_, s2, ?_, H.ext⟩⟩⟩⟩
        rotate_left 3
        · rw [plain h1 h2 (by omega)]
        all_goals
          refine ⟨by omega, by omega, _, k0, by omega, by omega, _, k1, (alike_ok _ _ W).mono ?_⟩
          rintro e w109 ⟨rfl, e109⟩
          refine ⟨_, rfl, fun hb => ⟨?_, H.ext.trans e109⟩, fun hb => ⟨_, cell_ext s2 e109, ?_, H.ext.trans e109⟩⟩
          · rw [hkf]; unfold kindN; rw [if_neg hwant, if_neg h1, if_neg h2, if_pos ⟨by omega, hb⟩]
          · rw [plain h1 h2 (fun h => by rw [h.2] at hb; cases hb)]

theorem xtype_ok (x : Ex) {w : World} {p : Option Addr} {n c : Nat} {cols : List Col} {cs : List Value} (hT : Tab w) (hc : Cols w p n c cols) (hx : ExAt w x cs) :
    Calls Tryd.prog 12 #[.slice p n c, .agg cs.toArray] w fun e w' => e = .returned (.tuple #[.int .i64 (typeF cols x).1, .int .i64 (typeF cols x).2]) ∧ Ext w w' := by
  obtain ⟨xp, xn, xc, hcs, _⟩ := hx.six
  have hcs' := hcs
  subst hcs
  apply xtype_vc
  unfold xtype_T
  intro b1 w2 h1
  have H2 := (Hold.start (Ext.rfl (w := w))).new h1
  refine (sright_ok (hc.ext H2.ext)).mono ?_
  rintro e w5 ⟨rfl, e5⟩
  have H5 := H2.step e5
  refine ⟨_, rfl, fun hb => ⟨by unfold typeF; rw [if_pos hb], H5.ext⟩, fun hb => ?_⟩
  have B1 : Blk w5 b1 29 #[.int .i64 x.op, .string x.name, .int .i64 x.v.k, .int .i64 x.v.n, .string x.v.s, .slice xp xn xc] := H5.blk 0 rfl
  obtain ⟨a0, a1, a2, a3, a4, a5⟩ := B1.c6
  refine ⟨_, a0, _, a1, _, a2, _, a3, _, a4, _, _, _, a5, (xformed_ok (hT.ext H5.ext) x (hx.ext H5.ext)).mono ?_⟩
  rintro e w18 ⟨rfl, e18⟩
  have H18 := H5.step e18
  refine ⟨_, rfl, fun hf => ⟨by unfold typeF; rw [if_neg (by simp [hb]), if_pos hf], H18.ext⟩, fun hf => ?_⟩
  have hfp : FormedP x := of_decide_eq_true hf
  refine ⟨_, cell_ext a0 e18, _, cell_ext a1 e18, _, cell_ext a2 e18, _, cell_ext a3 e18, _, cell_ext a4 e18, _, _, _, cell_ext a5 e18, (xkind_ok _ x (Nat.le_refl _) hfp.1 (hT.ext H18.ext) (hc.ext H18.ext) (hx.ext H18.ext)).mono ?_⟩
  rintro e w31 ⟨rfl, e31⟩
  exact ⟨_, _, rfl, by unfold typeF; rw [if_neg (by simp [hb]), if_neg (by simp [hf])], (H18.step e31).ext⟩
end Go.Proofs.YtdephmdfdgclpaaDoor

/- The contracts of package expr: values. -/
namespace Go.Proofs.YtdephmdfdgclpaaDoor
open Go Go.Vc Go.RowKit
set_option maxRecDepth 20000

theorem GoodV.trio' {v : Val} (h : GoodV 2 v) : trio (thirdI v) := Go.Vc.GoodV.trio h
set_option maxHeartbeats 4000000 in
theorem xeval_ok : ∀ (N : Nat) (x : Ex) {w : World} {p rp : Option Addr} {n c rn rc : Nat} {cols : List Col} {row : List Val} {cs : List Value}, depthT x ≤ N → (∀ y ∈ nodesT x, NodeOk y ∧ fitI y.v.n) → (kindF cols x).2 = 0 → fitsL cols row = true → (∀ u ∈ row, fitI u.n) →
    Tab2 w → Cols w p n c cols → Vs w rp rn rc row → ExAt w x cs →
    Calls Tryd.prog 35 #[.slice p n c, .slice rp rn rc, .agg cs.toArray] w fun e w' => e = .returned (.tuple #[(valueF cols row x).1.agg, .int .i64 (valueF cols row x).2]) ∧ Ext w w' := by
  intro N
  induction N with
  | zero => intro x w p rp n c rn rc cols row cs hd; cases x; unfold depthT at hd; omega
  | succ N ih =>
  intro x w p rp n c rn rc cols row cs hd hno hkind hfits hfit hT hc hr hx
  obtain ⟨xp, xn, xc, rfl, hkl, hxn, hkid⟩ := hx.six
  obtain ⟨hxo, hxf⟩ := hno x (self_node x)
  have h2 := many_le x.op
  have hmany := hxo.1
  have hrl := hr.len
  obtain ⟨hk1, hk2⟩ := kids_kinds hkind
  have hgood : ∀ (i : Nat) k, x.kids[i]? = some k → Go.Vc.Good (kindF cols k).1 (valueF cols row k) := fun i k hi => typed hfits hfit _ k (Nat.le_refl _) (fun y hy => hno y (kid_node hi hy)) (runL_get hk1 hi).1
  apply xeval_vc
  unfold xeval_T
  intro b1 w2 h1 b4 w5 h4 b7 w8 h7
  have H8 := (((Hold.start (Ext.rfl (w := w))).new h1).new h4).new h7
  let fs : List Val → List (Nat × Obj) := fun L => [(b7, .cells #[.int .i64 (L.getD 0 nullV).k, .int .i64 (L.getD 0 nullV).n, .string (L.getD 0 nullV).s, .int .i64 (L.getD 1 nullV).k, .int .i64 (L.getD 1 nullV).n, .string (L.getD 1 nullV).s] 72 (0, 0)),
    (b4, .cells #[.int .i64 0, .int .i64 0, .string ⟨#[]⟩] 26 (0, 0)), (b1, .cells #[.int .i64 x.op, .string x.name, .int .i64 x.v.k, .int .i64 x.v.n, .string x.v.s, .slice xp xn xc] 29 (0, 0))]
  have H8 : Hold w w8 (fs []) [] := H8
  have c5 : ∀ {L : List Val} {W : World}, Hold w W (fs L) [] → W.cell? ⟨b1, 5, none⟩ = some (.slice xp xn xc) := fun H => by rw [(H.blk 2 rfl).cell]; rfl
  refine ⟨_, _, _, c5 H8, fun i W => ∃ j : Nat, i = (j : Int) ∧ j ≤ xn ∧ (runL (valueF cols row) (x.kids.take j)).2 = 0 ∧ Hold w W (fs (runL (valueF cols row) (x.kids.take j)).1) [], fun i _ => xn - i.toNat, ⟨0, rfl, Nat.zero_le _, rfl, H8⟩, ?_⟩
  rintro i W ⟨j, rfl, hj, hrun, H⟩
  refine ⟨fun hlt => ?_, fun hge => ?_⟩
  · have g : x.kids[j]? = some (x.kids[j]'(by omega)) := List.getElem?_eq_getElem _
    generalize x.kids[j]'(by omega) = k at g
    obtain ⟨kc, b, o, hk, hp, hcell⟩ := hkid H.ext g
    obtain ⟨kp, kn, kcap, hkc, _⟩ := hk.six
    simp only [Int.toNat_natCast]
    have e0 := hcell 0 _ (by rw [hkc]; rfl)
    have e1 := hcell 1 _ (by rw [hkc]; rfl)
    have e2 := hcell 2 _ (by rw [hkc]; rfl)
    have e3 := hcell 3 _ (by rw [hkc]; rfl)
    have e4 := hcell 4 _ (by rw [hkc]; rfl)
    have e5 := hcell 5 _ (by rw [hkc]; rfl)
    refine ⟨b, o, hp, by omega, by omega, _, e0, _, e1, _, e2, _, e3, _, e4, _, _, _, e5, fun b29 w30 h29 => ?_⟩
    have H30 := H.new h29
    refine (H30.blk 0 rfl).w6 fun w38 h38 => ?_
    have H38 := H30.put 0 rfl h38
    have Bk : Blk w38 b29 29 #[.int .i64 k.op, .string k.name, .int .i64 k.v.k, .int .i64 k.v.n, .string k.v.s, .slice kp kn kcap] := H38.blk 0 rfl
    obtain ⟨a0, a1, a2, a3, a4, a5⟩ := Bk.c6
    subst hkc
    refine ⟨_, a0, _, a1, _, a2, _, a3, _, a4, _, _, _, a5, (ih k (by have := kid_depth g; omega) (fun y hy => hno y (kid_node g hy)) (runL_get hk1 g).1 hfits hfit (hT.ext H38.ext) (hc.ext H38.ext) (hr.ext H38.ext) (hk.ext H38.ext)).mono ?_⟩
    rintro e w49 ⟨rfl, e49⟩
    have H49 := (H38.step e49).tail
    refine ⟨_, _, _, _, rfl, fun b54 w55 h54 => ?_⟩
    have H55 := H49.new h54
    obtain ⟨q0, q1, q2⟩ := (H55.blk 0 rfl).c3
    refine ⟨⟨_, q0⟩, (H55.blk 0 rfl).frozen _, ⟨_, q1⟩, (H55.blk 0 rfl).frozen _, ⟨_, q2⟩, (H55.blk 0 rfl).frozen _, fun w60 h60 => ?_⟩
    have H60 := H55.put 0 rfl h60
    have Bv : Blk w60 b54 26 #[.int .i64 (valueF cols row k).1.k, .int .i64 (valueF cols row k).1.n, .string (valueF cols row k).1.s] := H60.blk 0 rfl
    obtain ⟨v0, v1, v2⟩ := Bv.c3
    refine ⟨fun hne => H60.ret3 2 rfl _ _ _ fun W' hx => ⟨?_, hx⟩, fun he => ⟨_, v0, _, v1, _, v2, by omega, by omega, ?_⟩⟩
    · rw [valueF_eq cols row x, runL_stop g hrun hne, if_pos hne]; rfl
    · have H60 : Hold w w60 ((b54, _) :: fs (runL (valueF cols row) (x.kids.take j)).1) [] := H60
      have hnx := runL_take (f := valueF cols row) g hrun
      rw [if_neg (by simpa using he)] at hnx
      have hlen := runL_len hrun
      rw [List.length_take, Nat.min_eq_left (by omega)] at hlen
      have Bq := H60.blk 1 rfl
      have hcells : ∀ i, i < 3 → ∃ u, w60.cell? ⟨b7, 0 + j * 3 + i, none⟩ = some u := by
        intro i hi
        rw [Bq.cell]
        exact ⟨_, Array.getElem?_eq_getElem (by simp; omega)⟩
      refine ⟨hcells 0 (by decide), Bq.frozen _, hcells 1 (by decide), Bq.frozen _, hcells 2 (by decide), Bq.frozen _, fun w78 h78 => ?_⟩
      have H78 := (H60.put 1 rfl h78).tail
      rw [i64_next (by omega)]
      refine ⟨⟨j + 1, rfl, by omega, by rw [hnx], ?_⟩, by simp only [Int.toNat_natCast]; omega⟩
      rw [hnx]
      generalize (runL (valueF cols row) (x.kids.take j)).1 = L at hlen H78 ⊢
      rcases (by omega : j = 0 ∨ j = 1) with rfl | rfl
      · rw [List.length_eq_zero_iff] at hlen
        subst hlen
        exact H78
      · obtain ⟨g0, rfl⟩ := List.length_eq_one_iff.1 hlen
        exact H78
  · have hjn : j = xn := by omega
    subst hjn
    rw [List.take_of_length_le (by omega)] at hrun H
    have hlen := runL_len hrun
    have hlk := runL_len hk1
    have hrel : ∀ (i : Nat) g u, (runL (kindF cols) x.kids).1[i]? = some g → (runL (valueF cols row) x.kids).1[i]? = some u → GoodV g u := by
      intro i g u hg hu
      have hi : i < x.kids.length := by rw [← hlk]; exact (List.getElem?_eq_some_iff.1 hg).1
      have hki : x.kids[i]? = some x.kids[i] := List.getElem?_eq_getElem hi
      have e1 := runL_get hk1 hki
      have e2 := runL_get hrun hki
      rw [hg] at e1
      rw [hu] at e2
      have := hgood i _ hki
      cases e1.2
      cases e2.2
      rcases this with h | h
      · exact h.2
      · have := e2.1; omega
    obtain ⟨_, htrio, hcol⟩ := node_good (by rw [hlen]; exact hmany) (by omega) hxo.2.2.2 hxf hrel (by rw [← hk2]; exact hkind) hfits hfit
    have hfitL : ∀ (i : Nat) u, (runL (valueF cols row) x.kids).1[i]? = some u → GoodV u.k u := by
      intro i u hu
      have hi : i < (runL (kindF cols) x.kids).1.length := by rw [hlk, ← hlen]; exact (List.getElem?_eq_some_iff.1 hu).1
      obtain ⟨a, b, _⟩ := hrel i _ u (List.getElem?_eq_getElem hi) hu
      exact ⟨a, b, .inr rfl⟩
    generalize hL : (runL (valueF cols row) x.kids).1 = L at hlen H hfitL htrio
    have hvf : valueF cols row x = valueN cols row x.op x.name x.v L := by rw [valueF_eq, if_neg (by simpa using hrun), hL]
    have B1 : Blk W b1 29 #[.int .i64 x.op, .string x.name, .int .i64 x.v.k, .int .i64 x.v.n, .string x.v.s, .slice xp j xc] := H.blk 2 rfl
    obtain ⟨a0, a1, a2, a3, a4, a5⟩ := B1.c6
    have Bq : Blk W b7 72 #[.int .i64 (L.getD 0 nullV).k, .int .i64 (L.getD 0 nullV).n, .string (L.getD 0 nullV).s, .int .i64 (L.getD 1 nullV).k, .int .i64 (L.getD 1 nullV).n, .string (L.getD 1 nullV).s] := H.blk 0 rfl
    obtain ⟨s0, s1, s2, s3, s4, s5⟩ := Bq.c6
    refine ⟨_, a0, fun h1 => ⟨_, a1, (sfind_ok (hc.ext H.ext) x.name).mono ?_⟩, fun h1 => ⟨_, a0, fun h2 => ⟨_, a2, _, a3, _, a4, H.ret3 1 rfl _ _ _ fun W' hx => ⟨?_, hx⟩⟩, fun h2 => ⟨_, _, _, a5, fun hone => ?_, fun hone => ?_⟩⟩⟩
    · rintro e w85 ⟨rfl, e85⟩
      have H85 := H.step e85
      have hcol' := hcol h1
      have gu : row[(findC cols x.name).toNat]? = some (row[(findC cols x.name).toNat]'(by omega)) := List.getElem?_eq_getElem _
      generalize row[(findC cols x.name).toNat]'(by omega) = u at gu
      obtain ⟨b, o, hp, d0, d1, d2⟩ := (hr.ext H85.ext).val gu
      refine ⟨_, rfl, b, o, hp, hcol'.1, by omega, _, d0, _, d1, _, d2, H85.ret3 1 rfl _ _ _ fun W' hx => ⟨?_, hx⟩⟩
      rw [hvf]; unfold valueN; rw [if_pos h1, gu]; rfl
    · rw [hvf]; unfold valueN; rw [if_neg h1, if_pos h2]; rfl
    · have hl1 : L.length = 1 := by omega
      have g0 : L[0]? = some (L.getD 0 nullV) := by rw [List.getD_eq_getElem?_getD, List.getElem?_eq_getElem (by omega : 0 < L.length)]; rfl
      refine ⟨_, a0, by omega, by omega, _, s0, _, s1, _, s2, (xsingle_ok x.op (L.getD 0 nullV) W (hT.ext H.ext) (hfitL _ _ g0).2.1).mono ?_⟩
      rintro e w124 ⟨rfl, e124⟩
      refine ⟨_, _, _, _, rfl, (H.step e124).ret3 1 rfl _ _ _ fun W' hx => ⟨?_, hx⟩⟩
      rw [hvf]; unfold valueN; rw [if_neg h1, if_neg h2, if_pos hl1]; rfl
    · have hl2 : L.length = 2 := by
        have : manyOf x.op ≠ 0 := by unfold manyOf; rw [if_neg (by omega)]; split
                                     · omega
                                     · split <;> omega
        omega
      have g0 : L[0]? = some (L.getD 0 nullV) := by rw [List.getD_eq_getElem?_getD, List.getElem?_eq_getElem (by omega : 0 < L.length)]; rfl
      have g1 : L[1]? = some (L.getD 1 nullV) := by rw [List.getD_eq_getElem?_getD, List.getElem?_eq_getElem (by omega : 1 < L.length)]; rfl
      refine ⟨_, a0, by omega, by omega, _, s0, _, s1, _, s2, by omega, by omega, _, s3, _, s4, _, s5, (xpair_ok x.op (L.getD 0 nullV) (L.getD 1 nullV) W (hT.ext H.ext) (hfitL _ _ g0).2.1 (hfitL _ _ g1).2.1 (fun h => ⟨GoodV.trio' (htrio h _ (List.mem_of_getElem? g0)), GoodV.trio' (htrio h _ (List.mem_of_getElem? g1))⟩)).mono ?_⟩
      rintro e w146 ⟨rfl, e146⟩
      refine ⟨_, _, _, _, rfl, (H.step e146).ret3 1 rfl _ _ _ fun W' hx => ⟨?_, hx⟩⟩
      rw [hvf]; unfold valueN; rw [if_neg h1, if_neg h2, if_neg (by omega)]; rfl

theorem xEval_ok (x : Ex) {w : World} {p rp : Option Addr} {n c rn rc : Nat} {cols : List Col} {row : List Val} {cs : List Value} (hT : Tab w) (hT2 : Tab2 w) (hc : Cols w p n c cols) (hr : Vs w rp rn rc row) (hx : ExAt w x cs) (hfit : ∀ u ∈ row, fitI u.n) (hxf : ∀ y ∈ nodesT x, fitI y.v.n) :
    Calls Tryd.prog 16 #[.slice p n c, .slice rp rn rc, .agg cs.toArray] w fun e w' => e = .returned (.tuple #[(evalF cols row x).1.agg, .int .i64 (evalF cols row x).2]) ∧ Ext w w' := by
  obtain ⟨xp, xn, xc, hcs, _⟩ := hx.six
  subst hcs
  apply xEval_vc
  unfold xEval_T
  intro b1 w2 h1 b4 w5 h4
  have H5 := ((Hold.start (Ext.rfl (w := w))).new h1).new h4
  have B1 : Blk w5 b1 29 #[.int .i64 x.op, .string x.name, .int .i64 x.v.k, .int .i64 x.v.n, .string x.v.s, .slice xp xn xc] := H5.blk 1 rfl
  obtain ⟨a0, a1, a2, a3, a4, a5⟩ := B1.c6
  refine ⟨_, a0, _, a1, _, a2, _, a3, _, a4, _, _, _, a5, (xtype_ok x (hT.ext H5.ext) (hc.ext H5.ext) (hx.ext H5.ext)).mono ?_⟩
  rintro e w16 ⟨rfl, e16⟩
  have H16 := H5.step e16
  refine ⟨_, _, rfl, fun hne => H16.ret3 0 rfl _ _ _ fun W' hx => ⟨?_, hx⟩, fun he => (sfits_ok (hc.ext H16.ext) (hr.ext H16.ext)).mono ?_⟩
  · unfold evalF; rw [if_pos hne]; rfl
  · rintro e w30 ⟨rfl, e30⟩
    have H30 := H16.step e30
    have e130 := e16.trans e30
    refine ⟨_, rfl, fun hb => H30.ret3 0 rfl _ _ _ fun W' hx => ⟨?_, hx⟩, fun hb => ?_⟩
    · unfold evalF; rw [if_neg (by simpa using he), if_pos hb]; rfl
    · have hform : formedB x = true := by
        unfold typeF at he
        split at he
        · exact absurd he (by decide)
        · split at he
          · exact absurd he (by decide)
          · simpa using ‹¬ formedB x = false›
      have hk : (kindF cols x).2 = 0 := by
        unfold typeF at he
        split at he
        · exact absurd he (by decide)
        · rwa [if_neg (by simp [hform])] at he
      have hfits : fitsL cols row = true := by
        unfold fitsC at hb
        rw [Bool.and_eq_true] at hb
        exact hb.2
      have hfp : FormedP x := of_decide_eq_true hform
      refine ⟨_, cell_ext a0 e130, _, cell_ext a1 e130, _, cell_ext a2 e130, _, cell_ext a3 e130, _, cell_ext a4 e130, _, _, _, cell_ext a5 e130,
        (xeval_ok _ x (Nat.le_refl _) (fun y hy => ⟨hfp.1 y hy, hxf y hy⟩) hk hfits hfit (hT2.ext H30.ext) (hc.ext H30.ext) (hr.ext H30.ext) (hx.ext H30.ext)).mono ?_⟩
      rintro e w51 ⟨rfl, e51⟩
      refine ⟨_, _, _, _, rfl, (H30.step e51).ret3 0 rfl _ _ _ fun W' hx => ⟨?_, hx⟩⟩
      unfold evalF; rw [if_neg (by simpa using he), if_neg (by simp [hb])]; rfl
end Go.Proofs.YtdephmdfdgclpaaDoor

/- The contracts of the document's answer for expressions: which are well formed. -/
namespace Go.Proofs.YtdephmdfdgclpaaDoor
open Go Go.Vc Go.RowKit
set_option maxRecDepth 20000

theorem many_ok (op : Int) (w : World) : Calls Tryd.prog 81 #[.int .i64 op] w fun e w' => e = .returned (.int .i64 (manyOf op)) ∧ Ext w w' := by
  apply many_vc
  unfold many_T
  have m0 : op = 1 ∨ op = 2 → manyOf op = 0 := fun h => by unfold manyOf; rw [if_pos h]
  have m1 : op = 8 ∨ op = 14 ∨ op = 15 ∨ op = 16 → manyOf op = 1 := fun h => by unfold manyOf; rw [if_neg (by omega), if_pos h]
  have m2 : 3 ≤ op ∧ op ≤ 7 ∨ 9 ≤ op ∧ op ≤ 13 → manyOf op = 2 := fun h => by unfold manyOf; rw [if_neg (by omega), if_neg (by omega), if_pos (by omega)]
  have m3 : ¬ (1 ≤ op ∧ op ≤ 16) → manyOf op = -1 := fun h => by unfold manyOf; rw [if_neg (by omega), if_neg (by omega), if_neg (by omega)]
  have good : ∀ v : Int, v = manyOf op → Ending.returned (.int .i64 v) = Ending.returned (.int .i64 (manyOf op)) ∧ Ext w w := fun v h => ⟨by rw [h], .rfl⟩
  generalize manyOf op = m at m0 m1 m2 m3 good ⊢
  repeat' first
    | exact good _ (by omega)
    | omega
    | intro _
    | refine And.intro ?_ ?_
theorem refFs_neg {l : List Ex} {d left : Int} (h : left < 0) : refFs l d left = left := by
  cases l with
  | nil => rw [refFs]
  | cons k r => rw [refFs, if_pos h]
set_option maxHeartbeats 4000000 in
theorem rformed_ok : ∀ (N : Nat) (x : Ex) {w : World} {cs : List Value} (d left : Int), depthT x ≤ N → -100 ≤ d → d ≤ 100 → 0 ≤ left → left ≤ 400 → ExAt w x cs →
    Calls Tryd.prog 53 #[.agg cs.toArray, .int .i64 d, .int .i64 left] w fun e w' => e = .returned (.int .i64 (refF x d left)) ∧ Ext w w' := by
  intro N
  induction N with
  | zero => intro x w cs d left hd; cases x; unfold depthT at hd; omega
  | succ N ih =>
  intro x w cs d left hdep hd0 hd1 hl0 hl1 hx
  obtain ⟨xp, xn, xc, rfl, hkl, hxn, hkid⟩ := hx.six
  apply rformed_vc
  unfold rformed_T
  intro b1 w2 h1
  have H2 := (Hold.start (Ext.rfl (w := w))).new h1
  have B1 : Blk w2 b1 29 #[.int .i64 x.op, .string x.name, .int .i64 x.v.k, .int .i64 x.v.n, .string x.v.s, .slice xp xn xc] := H2.blk 0 rfl
  obtain ⟨a0, a1, a2, a3, a4, a5⟩ := B1.c6
  have hrf : refF x d left = if d < 1 ∨ left < 1 ∨ ¬ NodeOk x then -1 else refFs x.kids (d - 1) (left - 1) := by cases x; rw [refF]; rfl
  refine ⟨_, a2, _, a3, _, a4, (rvright_ok x.v w2).mono ?_⟩
  rintro e w8 ⟨rfl, e8⟩
  refine ⟨_, rfl, fun w10 h10 => ?_⟩
  have H10 := (H2.step e8).step h10.ext
  have B1 : Blk w10 b1 29 #[.int .i64 x.op, .string x.name, .int .i64 x.v.k, .int .i64 x.v.n, .string x.v.s, .slice xp xn xc] := H10.blk 0 rfl
  obtain ⟨a0, a1, a2, a3, a4, a5⟩ := B1.c6
  refine ⟨fun hb => ⟨Ext.rfl.same, ?_, H10.ext⟩, fun hg => ⟨_, _, _, a5, _, a0, (many_ok x.op w10).mono ?_⟩⟩
  · rw [hrf, if_pos (by omega)]
  rintro e w19 ⟨rfl, e19⟩
  have H19 := H10.step e19
  have bad : ¬ NodeOk x → Ending.returned (Value.int .i64 (-1)) = Ending.returned (Value.int .i64 (refF x d left)) ∧ Ext w w19 := fun h => ⟨by rw [hrf, if_pos (.inr (.inr h))], H19.ext⟩
  have nullI : x.v = nullV ↔ x.v.k = 0 ∧ x.v.n = 0 ∧ x.v.s = ⟨#[]⟩ := Val.ext'
  have b0 := cell_ext a0 e19
  have b1' := cell_ext a1 e19
  have b2 := cell_ext a2 e19
  have b3 := cell_ext a3 e19
  have b4 := cell_ext a4 e19
  refine ⟨_, rfl, e19.same, fun hb => bad ?_, fun ⟨hm, hv⟩ => ?_⟩
  · rintro ⟨h, _, _, ho⟩
    rcases hb with hb | hb
    · omega
    · exact absurd ho (of_decide_eq_false hb)
  have hvo : x.v.Ok := of_decide_eq_true hv
  have I0 : ∀ (hok : NodeOk x), ∃ j : Nat, (0 : Int) = (j : Int) ∧ j ≤ xn ∧ refFs (x.kids.drop j) (d - 1) (IntKind.i64.wrap (left - 1)) = refF x d left ∧ IntKind.i64.wrap (left - 1) ≤ 400 ∧
      Hold w w19 [(b1, .cells #[.int .i64 x.op, .string x.name, .int .i64 x.v.k, .int .i64 x.v.n, .string x.v.s, .slice xp xn xc] 29 (0, 0))] [] := by
    intro hok
    rw [i64_fit (by omega) (by omega)]
    refine ⟨0, rfl, Nat.zero_le _, ?_, by omega, H19⟩
    rw [hrf, if_neg]
    · rfl
    · rintro (h | h | h)
      · omega
      · omega
      · exact h hok
  refine ⟨_, b0, fun h1 => ⟨_, b1', fun hn => bad ?_, fun hn => ⟨_, b0, fun h2 => ⟨_, b2, _, b3, _, b4, fun hz => bad ?_, fun hz => ?_⟩, fun h2 => ?_⟩⟩, fun h1 => ⟨_, b0, fun h2 => ⟨_, b2, _, b3, _, b4, fun hz => bad ?_, fun hz => ?_⟩, fun h2 => ?_⟩⟩
  · rintro ⟨_, h, _⟩
    rcases h with h | h
    · exact h1 h
    · exact hn h
  · rintro ⟨_, _, h, _⟩
    rcases h with h | h
    · exact h2 h
    · have := nullI.1 h
      rcases hz with hz | hz | hz
      · exact hz this.1
      · exact hz this.2.1
      · exact hz this.2.2
  rotate_left 2
  · rintro ⟨_, _, h, _⟩
    rcases h with h | h
    · exact h2 h
    · have := nullI.1 h
      rcases hz with hz | hz | hz
      · exact hz this.1
      · exact hz this.2.1
      · exact hz this.2.2
  all_goals
    have hok : NodeOk x := ⟨by omega, by first | exact .inl h1 | exact .inr hn, by first | exact .inl h2 | exact .inr (nullI.2 hz), hvo⟩
    refine ⟨fun lf i W => ∃ j : Nat, i = (j : Int) ∧ j ≤ xn ∧ refFs (x.kids.drop j) (d - 1) lf = refF x d left ∧ lf ≤ 400 ∧ Hold w W [(b1, .cells #[.int .i64 x.op, .string x.name, .int .i64 x.v.k, .int .i64 x.v.n, .string x.v.s, .slice xp xn xc] 29 (0, 0))] [],
      fun _ i _ => xn - i.toNat, I0 hok, ?_⟩
    rintro lf i W ⟨j, rfl, hj, hrun, hlf, H⟩
    have B1 : Blk W b1 29 #[.int .i64 x.op, .string x.name, .int .i64 x.v.k, .int .i64 x.v.n, .string x.v.s, .slice xp xn xc] := H.blk 0 rfl
    obtain ⟨_, _, _, _, _, a5⟩ := B1.c6
    refine ⟨_, _, _, a5, fun ⟨hlt, hpos⟩ => ?_, fun hex => ⟨?_, H.ext⟩⟩
    · have g : x.kids[j]? = some (x.kids[j]'(by omega)) := List.getElem?_eq_getElem _
      have hdrop : x.kids.drop j = x.kids[j]'(by omega) :: x.kids.drop (j + 1) := List.drop_eq_getElem_cons _
      generalize x.kids[j]'(by omega) = k at g hdrop
      obtain ⟨kc, b, o, hk, hp, hcell⟩ := hkid H.ext g
      obtain ⟨kp, kn, kcap, hkc, _⟩ := hk.six
      simp only [Int.toNat_natCast]
      have e0 := hcell 0 _ (by rw [hkc]; rfl)
      have e1 := hcell 1 _ (by rw [hkc]; rfl)
      have e2 := hcell 2 _ (by rw [hkc]; rfl)
      have e3 := hcell 3 _ (by rw [hkc]; rfl)
      have e4 := hcell 4 _ (by rw [hkc]; rfl)
      have e5 := hcell 5 _ (by rw [hkc]; rfl)
      subst hkc
      rw [i64_fit (n := d - 1) (by omega) (by omega)]
      refine ⟨_, _, _, a5, b, o, hp, by omega, by omega, _, e0, _, e1, _, e2, _, e3, _, e4, _, _, _, e5, (ih k (d - 1) lf (by have := kid_depth g; omega) (by omega) (by omega) hpos hlf (hk.ext H.ext)).mono ?_⟩
      rintro e w59 ⟨rfl, e59⟩
      rw [i64_next (by omega)]
      refine ⟨_, rfl, ⟨j + 1, rfl, by omega, ?_, ?_, H.step e59⟩, by simp only [Int.toNat_natCast]; omega⟩
      · rw [← hrun, hdrop, refFs, if_neg (by omega)]
      · have := (refF_spec k (d - 1) lf).2
        omega
    · rcases (by omega : j = xn ∨ lf < 0) with h | h
      · rw [← hrun, List.drop_eq_nil_of_le (by omega), refFs]
      · rw [← hrun, refFs_neg h]
theorem rFormed_ok (x : Ex) {w : World} {cs : List Value} (hx : ExAt w x cs) : Calls Tryd.prog 36 #[.agg cs.toArray] w fun e w' => e = .returned (.bool (formedB x)) ∧ Ext w w' := by
  obtain ⟨xp, xn, xc, hcs, _⟩ := hx.six
  subst hcs
  apply rFormed_vc
  unfold rFormed_T
  intro b1 w2 h1
  have H2 := (Hold.start (Ext.rfl (w := w))).new h1
  have B1 : Blk w2 b1 29 #[.int .i64 x.op, .string x.name, .int .i64 x.v.k, .int .i64 x.v.n, .string x.v.s, .slice xp xn xc] := H2.blk 0 rfl
  obtain ⟨a0, a1, a2, a3, a4, a5⟩ := B1.c6
  refine ⟨_, a0, _, a1, _, a2, _, a3, _, a4, _, _, _, a5, (rformed_ok _ x 40 400 (Nat.le_refl _) (by omega) (by omega) (by omega) (by omega) (hx.ext H2.ext)).mono ?_⟩
  rintro e w5 ⟨rfl, e5⟩
  exact ⟨_, rfl, by rw [← refF_formed], (H2.step e5).ext⟩
end Go.Proofs.YtdephmdfdgclpaaDoor

/- A growable row held as a block among blocks. -/
namespace Go.Vc
open Go Go.RowKit

/-- The blocks r (one or none) are the row (p, n, c) that holds xs. -/
def RowF (t : TypeId) (s : Nat) (p : Option Addr) (n c : Nat) (xs : List Value) (r : List (Nat × Obj)) : Prop :=
  (p = none ∧ n = 0 ∧ c = 0 ∧ xs = [] ∧ r = []) ∨ ∃ g cur, p = some ⟨g, 0, none⟩ ∧ r = [(g, .cells cur t (0, 0))] ∧ n ≤ c ∧ c ≤ maxLen ∧ cur.size = c * s ∧ cur.toList.take (n * s) = xs ∧ xs.length = n * s
section
variable {w0 W : World} {t : TypeId} {s n c : Nat} {p : Option Addr} {xs : List Value} {r fs : List (Nat × Obj)}
theorem RowF.nil (t : TypeId) (s : Nat) : RowF t s none 0 0 [] [] := .inl ⟨rfl, rfl, rfl, rfl, rfl⟩
theorem RowF.not_open (h : RowF t s p n c xs r) : ∀ y ∈ r, y.2 ≠ .deferred (some []) := by
  rcases h with ⟨_, _, _, _, rfl⟩ | ⟨g, cur, _, rfl, _⟩
  · intro y hy; cases hy
  · intro y hy
    rw [List.mem_singleton] at hy
    subst hy
    intro e; cases e
theorem RowF.toRow (h : RowF t s p n c xs r) (H : Hold w0 W (r ++ fs) []) : Hold w0 W fs [⟨t, s, p, n, c, xs⟩] := by
  rcases h with ⟨rfl, rfl, rfl, rfl, rfl⟩ | ⟨g, cur, rfl, rfl, h1, h2, h3, h4, h5⟩
  · exact Hold.nilRow H _ _
  · have hg : W.heap[g]? = some (.cells cur t (0, 0)) := H.mem (x := (g, .cells cur t (0, 0))) (by simp)
    have hge := H.ge (g, .cells cur t (0, 0)) (by simp)
    have hn := H.nodup
    simp only [List.cons_append, List.nil_append, List.map_cons, List.nodup_cons] at hn
    have K : Hold w0 W fs [] := H.right
    refine ⟨K.ext, K.ge, K.holds, K.keys, ?_, ?_, ?_⟩
    · intro i m hm
      cases i with
      | zero => cases hm; exact ⟨h5, .inr ⟨g, c, cur, rfl, hge, hg, h1, h2, h3, h4⟩⟩
      | succ i => simp at hm
    · intro i j x m hx hm b o hb
      cases j with
      | zero =>
        cases hm; cases hb
        intro e
        exact hn.1 (List.mem_map.2 ⟨x, List.mem_of_getElem? hx, e⟩)
      | succ j => simp at hm
    · intro i j m m' hm hm' hij
      cases i with
      | zero =>
        cases j with
        | zero => exact absurd rfl hij
        | succ j => simp at hm'
      | succ i => simp at hm
theorem RowF.ofRow (H : Hold w0 W fs [⟨t, s, p, n, c, xs⟩]) : ∃ r, RowF t s p n c xs r ∧ Hold w0 W (r ++ fs) [] := by
  have hm := H.row 0 rfl
  rcases hm.shape with ⟨rfl, rfl, rfl, rfl⟩ | ⟨g, rfl, hge, hlt⟩
  · exact ⟨[], .nil t s, H.noRow⟩
  · obtain ⟨g', cur, hp, _, hb, h3, h4⟩ := hm.blk (.inr (by simp))
    cases hp
    refine ⟨[(g, .cells cur t (0, 0))], .inr ⟨g, cur, rfl, rfl, hm.cap.1, hm.cap.2, h3, h4, hm.len⟩, ?_⟩
    refine Hold.make H.ext (fun x hx => ?_) ?_
    · rcases List.mem_append.1 hx with hx | hx
      · rw [List.mem_singleton] at hx
        subst hx
        exact ⟨hge, hb⟩
      · exact ⟨H.ge x hx, H.mem hx⟩
    · simp only [List.cons_append, List.nil_append, List.map_cons, List.nodup_cons]
      refine ⟨fun hx => ?_, H.nodup⟩
      obtain ⟨x, hx, e⟩ := List.mem_map.1 hx
      obtain ⟨i, hi⟩ := List.mem_iff_getElem?.1 hx
      exact H.apart i 0 x _ hi rfl g 0 rfl e
end
end Go.Vc

/- Cells out of the frame, one by one: what the printed steps of a walk use. -/
namespace Go.Vc
open Go Go.RowKit

section
variable {w0 W W' : World} {fs : List (Nat × Obj)} {ms : List Row} {b k : Nat} {t : TypeId} {cs : Array Value} {v : Value}
theorem Hold.get (h : Hold w0 W fs ms) (i : Nat) (hi : fs[i]? = some (b, .cells cs t (0, 0))) (hk : cs[k]? = some v) : W.cell? ⟨b, k, none⟩ = some v := by
  rw [(h.blk i hi).cell]; exact hk
theorem Hold.frz (h : Hold w0 W fs ms) (i : Nat) (hi : fs[i]? = some (b, .cells cs t (0, 0))) : W.frozen? ⟨b, k, none⟩ = false := (h.blk i hi).frozen k
end
end Go.Vc

/- The contracts of the document's names and Uses; SameTexts. Printed by mkus2.py. -/
namespace Go.Proofs.YtdephmdfdgclpaaDoor
open Go Go.Vc Go.RowKit
set_option maxRecDepth 20000
attribute [local irreducible] Calls Put Drew New

def encT (s : ByteArray) : List Value := [.string s]
abbrev Ts := Ls encT
theorem encT_len (s : ByteArray) : (encT s).length = 1 := rfl
theorem encT_one {s : ByteArray} : ∀ u ∈ encT s, u.oneCell' = true := by
  intro u hu
  unfold encT at hu
  rw [List.mem_singleton] at hu
  subst hu; rfl
theorem texts_len (l : List ByteArray) : (l.flatMap encT).length = l.length * 1 := by
  induction l with
  | nil => rfl
  | cons x l ih => rw [List.flatMap_cons, List.length_append, ih, encT_len, List.length_cons]; omega
theorem texts_one {l : List ByteArray} : ∀ u ∈ l.flatMap encT, u.oneCell' = true := by
  intro u hu
  obtain ⟨s, _, hs⟩ := List.mem_flatMap.1 hu
  exact encT_one u hs
theorem undTexts : Tryd.prog.underlying 35 = some (.slice 9) := by kernel_rfl
theorem tyText : tyOf Tryd.prog 9 = some { agg := false, ls := [.str], zero := .string ⟨#[]⟩, bytes := 16, big := false, n := 1 } := by kernel_rfl
theorem _root_.Go.Vc.Ls.takeAt {w : World} {p : Option Addr} {n c : Nat} {l : List ByteArray} (h : Ts w p n c l) {k : Nat} (hk : k ≤ n) : At w p ((l.take k).flatMap encT) := (h.take encT_len hk).lies
theorem _root_.Go.Vc.Ls.text {w : World} {p : Option Addr} {n c : Nat} {l : List ByteArray} (h : Ts w p n c l) {i : Nat} {s : ByteArray} (hi : l[i]? = some s) : ∃ b o, p = some ⟨b, o, none⟩ ∧ w.cell? ⟨b, o + i, none⟩ = some (.string s) := by
  obtain ⟨b, o, hp, hc⟩ := h.lies.things encT_len (by decide) hi
  have := hc 0 _ rfl
  rw [Nat.mul_one, Nat.add_zero] at this
  exact ⟨b, o, hp, this⟩
theorem insN_len (s : ByteArray) : ∀ l : List ByteArray, (insN s l).length ≤ l.length + 1
  | [] => by simp [insN]
  | y :: r => by
    have := insN_len s r
    unfold insN
    split
    · simp only [List.length_cons]; omega
    · split <;> simp
theorem usesN_len : ∀ (l out : List ByteArray), (usesN l out).length ≤ out.length + l.length
  | [], out => by simp [usesN]
  | s :: l, out => by
    have h1 := usesN_len l (insN s out)
    have h2 := insN_len s out
    change (usesN l (insN s out)).length ≤ _
    simp only [List.length_cons]; omega
theorem names_le (x : Ex) : (namesT x).length ≤ (nodesT x).length := by unfold namesT; rw [List.length_map]; exact List.length_filter_le _ _
theorem namesTs_le (l : List Ex) : (namesTs l).length ≤ (nodesTs l).length := by unfold namesTs; rw [List.length_map]; exact List.length_filter_le _ _
theorem nodes_kids (x : Ex) : (nodesT x).length = 1 + (nodesTs x.kids).length := by cases x; unfold nodesT; simp only [List.length_cons, Ex.kids]; omega
theorem nodesTs_part {l : List Ex} {j : Nat} {k : Ex} (h : l[j]? = some k) : (nodesTs (l.take j)).length + (nodesT k).length ≤ (nodesTs l).length := by
  have e : nodesTs l = nodesTs (l.take (j + 1)) ++ nodesTs (l.drop (j + 1)) := by rw [← nodesTs_append, List.take_append_drop]
  rw [e, List.length_append, List.take_add_one, h, nodesTs_append, List.length_append]
  simp only [Option.toList_some, nodesTs, List.append_nil]
  omega
theorem names_room {x k : Ex} {j : Nat} (h : x.kids[j]? = some k) : (namesTs (x.kids.take j)).length + (nodesT k).length + 1 ≤ (nodesT x).length := by
  have h1 := nodesTs_part h
  have h2 := namesTs_le (x.kids.take j)
  have h3 := nodes_kids x
  omega
set_option maxHeartbeats 4000000 in
theorem rnames_ok : ∀ (N : Nat) (x : Ex) {w : World} {p : Option Addr} {n c : Nat} {l : List ByteArray} {cs : List Value}, depthT x ≤ N → ExAt w x cs → Ts w p n c l → n + (nodesT x).length ≤ 1000 →
    Calls Tryd.prog 37 #[.slice p n c, .agg cs.toArray] w fun e w' => ∃ (q : Option Addr) (k d : Nat), e = .returned (.slice q k d) ∧ Ts w' q k d (usesN (namesT x) l) ∧ Ext w w' := by
  intro N
  induction N with
  | zero => intro x w p n c l cs hd; cases x; unfold depthT at hd; omega
  | succ N ih =>
  intro x w p n c l cs hd hx T0 hroom
  obtain ⟨xp, xn, xc, rfl, hkl, hn, hkid⟩ := hx.six
  have hl := T0.len
  have hcap := T0.cap.1
  have hpos : 1 ≤ (nodesT x).length := by rw [nodes_kids]; omega
  apply rnames_vc
  unfold rnames_T
  intro b1 w2 h1
  have H := (Hold.start (Ext.rfl (w := w))).new h1
  let F : List (Nat × Obj) := [(b1, .cells #[.int .i64 x.op, .string x.name, .int .i64 x.v.k, .int .i64 x.v.n, .string x.v.s, .slice xp xn xc] 29 (0, 0))]
  replace ih : ∀ (k : Ex), depthT k ≤ N → ∀ {W : World} {kc : List Value} {q : Option Addr} {m d : Nat} {l : List ByteArray}, ExAt W k kc → Ts W q m d l → m + (nodesT k).length ≤ 1000 →
    Calls Tryd.prog 37 #[.slice q m d, .agg kc.toArray] W fun e w' => ∃ (q : Option Addr) (k' d : Nat), e = .returned (.slice q k' d) ∧ Ts w' q k' d (usesN (namesT k) l) ∧ Ext W w' := fun k hk _ _ _ _ _ _ h1 h2 h3 => ih k hk h1 h2 h3
  refine ⟨_, H.get 0 rfl rfl, fun ho => ?_, fun ho => ?_⟩
  · refine ⟨fun i W => ∃ k : Nat, i = (k : Int) ∧ k ≤ n ∧ (∀ y ∈ l.take k, sLt y x.name = true) ∧ (∀ y, l[k]? = some y → sLt y x.name = false) ∧ Hold w W F [], ?_, ?_⟩
    · refine ⟨fun i W => ∃ k : Nat, i = (k : Int) ∧ k ≤ n ∧ (∀ y ∈ l.take k, sLt y x.name = true) ∧ Hold w W F [], fun i _ => n - i.toNat, ⟨0, rfl, Nat.zero_le _, by simp, H⟩, ?_⟩
      clear H
      rintro i W ⟨k, rfl, hk, hlow, H⟩
      intro w13 hD
      replace H := H.step (Drew.ext hD)
      refine ⟨fun hlt => ?_, fun hge => ?_⟩
      · have gk : l[k]? = some (l[k]'(by omega)) := List.getElem?_eq_getElem _
        generalize l[k]'(by omega) = y at gk
        obtain ⟨b, o, hp, c0⟩ := (T0.ext H.ext).text gk
        simp only [Int.toNat_natCast]
        refine ⟨b, o, hp, by omega, by omega, _, c0, _, H.get 0 rfl rfl, fun hs => ?_, fun hs => ⟨k, rfl, hk, hlow, fun z hz => (by rw [gk] at hz; cases hz; exact hs), H⟩⟩
        rw [i64_next (by omega)]
        refine ⟨⟨k + 1, rfl, by omega, fun z hz => ?_, H⟩, by simp only [Int.toNat_natCast]; omega⟩
        rw [List.take_add_one, gk, List.mem_append] at hz
        rcases hz with hz | hz
        · exact hlow z hz
        · simp at hz; subst hz; exact hs
      · have : k = n := by omega
        subst this
        exact ⟨k, rfl, Nat.le_refl _, hlow, fun z hz => (by rw [List.getElem?_eq_none (by omega)] at hz; cases hz), H⟩
    · clear H
      rintro i W ⟨k, rfl, hk, hlow, hstop, H⟩
      have hsplit := insN_split (s := x.name) (l := l) (k := k) (by omega) hlow hstop
      intro w25 hD
      replace H := H.step (Drew.ext hD)
      refine ⟨fun hend => ?_, fun hne => ?_⟩
      · have hins : insN x.name l = l.take k ++ [x.name] ++ l.drop k := by
          rw [hsplit, if_neg]
          rw [List.getElem?_eq_none (by omega)]; simp

        intro w28 hD
        replace H := H.step (Drew.ext hD)
        refine ⟨by omega, by omega, by omega, ?_⟩
        rw [i64_next (by omega)]
        refine ⟨by omega, by omega, by omega, ?_⟩
        intro b30 w31 hN
        replace H := H.madeRow (s := 1) (cap := n + 1) hN (by unfold maxLen; omega) (by rw [size_madeCells]; simp)
        simp only [Int.toNat_natCast]
        have hlk : (l.take k).length = k := by rw [List.length_take]; omega
        obtain ⟨p1, c1, w1, hr1, H1⟩ := H.append (ty := 35) (P := Tryd.prog) (q := p) (m := k) (d' := c) (news := (l.take k).flatMap encT) 0 rfl undTexts tyText rfl (by decide) ((T0.ext H.ext).takeAt (by omega)) (by rw [texts_len, hlk]) (fun e => by obtain ⟨z1, z2⟩ := T0.nil e; omega) texts_one (by dsimp only; omega) (by unfold maxLen; omega)
        refine ⟨_, _, _, _, hr1, ?_⟩
        replace H := H1
        refine ⟨_, H.get 0 rfl rfl, ?_⟩
        intro b38 w39 hN
        replace H := H.new hN
        obtain ⟨p2, c2, w2, hr2, H2⟩ := H.append (ty := 35) (P := Tryd.prog) (q := some ⟨b38, 0, none⟩) (m := 1) (d' := 1) (news := encT x.name) 0 rfl undTexts tyText rfl (by decide) (H.blk 0 rfl).at rfl (fun e => by cases e) encT_one (by dsimp only; omega) (by unfold maxLen; omega)
        refine ⟨_, _, _, _, hr2, by omega, by omega, ?_⟩
        replace H := H2.tail
        have hsl := (T0.ext H.ext).slice (s := 1) encT_len (lo := k) (hi := n) (by omega) (Nat.le_refl _)
        obtain ⟨p3, c3, w3, hr3, H3⟩ := H.append (ty := 35) (P := Tryd.prog) (q := slBase p k c 1) (m := n - k) (d' := c - k) (news := ((l.take n).drop k).flatMap encT) 0 rfl undTexts tyText rfl (by decide) hsl.lies (by rw [texts_len, hsl.len]) hsl.nil texts_one (by dsimp only; omega) (by unfold maxLen; omega)
        refine ⟨_, _, _, _, hr3, ?_⟩
        have hrow := H3.row 0 rfl
        rw [List.take_of_length_le (by omega : l.length ≤ n)] at hrow
        have hcells : ([] ++ (l.take k).flatMap encT ++ encT x.name) ++ (l.drop k).flatMap encT = (insN x.name l).flatMap encT := by rw [hins]; simp
        have TT : Ts w3 p3 (0 + k + 1 + (n - k)) c3 (insN x.name l) := by
          refine Mine.ls (B := w.heap.size) (t := 9) encT_len (by decide) ?_
          rw [← hcells]; exact hrow
        have HH := H3.noRow
        have hlen0 := insN_len x.name l
        refine ⟨fun q k d i W => ∃ j : Nat, i = (j : Int) ∧ j ≤ xn ∧ Hold w W F [] ∧ Ts W q k d (usesN (namesTs (x.kids.take j)) (insN x.name l)), fun _ _ _ i _ => xn - i.toNat, ⟨0, rfl, Nat.zero_le _, HH, by simpa [namesTs, nodesTs, usesN] using TT⟩, ?_⟩
        rintro q k2 d i W ⟨j, rfl, hj, HW, hT⟩
        refine ⟨_, _, _, HW.get 0 rfl rfl, fun hlt => ?_, fun hge => ?_⟩
        · have gk : x.kids[j]? = some (x.kids[j]'(by omega)) := List.getElem?_eq_getElem _
          generalize x.kids[j]'(by omega) = kd at gk
          obtain ⟨kc, b, o, hk, hp, hc⟩ := hkid HW.ext gk
          obtain ⟨kp, kn, kcap, hkc, _⟩ := hk.six
          have e0 := hc 0 _ (by rw [hkc]; rfl)
          have e1 := hc 1 _ (by rw [hkc]; rfl)
          have e2 := hc 2 _ (by rw [hkc]; rfl)
          have e3 := hc 3 _ (by rw [hkc]; rfl)
          have e4 := hc 4 _ (by rw [hkc]; rfl)
          have e5 := hc 5 _ (by rw [hkc]; rfl)
          simp only [Int.toNat_natCast]
          refine ⟨_, _, _, HW.get 0 rfl rfl, b, o, hp, by omega, by omega, _, e0, _, e1, _, e2, _, e3, _, e4, _, _, _, e5, ?_⟩
          subst hkc
          have hlen := usesN_len (namesTs (x.kids.take j)) (insN x.name l)
          have hnk := names_room gk
          refine (ih kd (by have := kid_depth gk; omega) (hk.ext HW.ext) hT (by have := hT.len; omega)).mono ?_
          rintro e W2 ⟨q', k', d', rfl, hT', eX⟩
          refine ⟨_, _, _, rfl, ?_⟩
          rw [i64_next (by omega)]
          refine ⟨⟨j + 1, rfl, by omega, HW.step eX, ?_⟩, by simp only [Int.toNat_natCast]; omega⟩
          rw [namesTs_take gk, usesN_append]
          exact hT'
        · have : j = xn := by omega
          subst this
          rw [List.take_of_length_le (by omega)] at hT
          refine ⟨q, k2, d, rfl, ?_, HW.ext⟩
          rw [names_eq, usesN_append, if_pos ho, show usesN [x.name] l = insN x.name l from rfl]
          exact hT
      · have gk : l[k]? = some (l[k]'(by omega)) := List.getElem?_eq_getElem _
        generalize l[k]'(by omega) = y at gk
        obtain ⟨b, o, hp, c0⟩ := (T0.ext H.ext).text gk
        refine ⟨b, o, hp, by omega, by omega, _, by simp only [Int.toNat_natCast]; exact c0, _, H.get 0 rfl rfl, fun hyx => ?_, fun hyx => ?_⟩
        · have hins : insN x.name l = l.take k ++ [x.name] ++ l.drop k := by
            rw [hsplit, if_neg]
            rw [gk]
            intro e
            exact hyx (Option.some.inj e)
          intro w28 hD
          replace H := H.step (Drew.ext hD)
          refine ⟨by omega, by omega, by omega, ?_⟩
          rw [i64_next (by omega)]
          refine ⟨by omega, by omega, by omega, ?_⟩
          intro b30 w31 hN
          replace H := H.madeRow (s := 1) (cap := n + 1) hN (by unfold maxLen; omega) (by rw [size_madeCells]; simp)
          simp only [Int.toNat_natCast]
          have hlk : (l.take k).length = k := by rw [List.length_take]; omega
          obtain ⟨p1, c1, w1, hr1, H1⟩ := H.append (ty := 35) (P := Tryd.prog) (q := p) (m := k) (d' := c) (news := (l.take k).flatMap encT) 0 rfl undTexts tyText rfl (by decide) ((T0.ext H.ext).takeAt (by omega)) (by rw [texts_len, hlk]) (fun e => by obtain ⟨z1, z2⟩ := T0.nil e; omega) texts_one (by dsimp only; omega) (by unfold maxLen; omega)
          refine ⟨_, _, _, _, hr1, ?_⟩
          replace H := H1
          refine ⟨_, H.get 0 rfl rfl, ?_⟩
          intro b38 w39 hN
          replace H := H.new hN
          obtain ⟨p2, c2, w2, hr2, H2⟩ := H.append (ty := 35) (P := Tryd.prog) (q := some ⟨b38, 0, none⟩) (m := 1) (d' := 1) (news := encT x.name) 0 rfl undTexts tyText rfl (by decide) (H.blk 0 rfl).at rfl (fun e => by cases e) encT_one (by dsimp only; omega) (by unfold maxLen; omega)
          refine ⟨_, _, _, _, hr2, by omega, by omega, ?_⟩
          replace H := H2.tail
          have hsl := (T0.ext H.ext).slice (s := 1) encT_len (lo := k) (hi := n) (by omega) (Nat.le_refl _)
          obtain ⟨p3, c3, w3, hr3, H3⟩ := H.append (ty := 35) (P := Tryd.prog) (q := slBase p k c 1) (m := n - k) (d' := c - k) (news := ((l.take n).drop k).flatMap encT) 0 rfl undTexts tyText rfl (by decide) hsl.lies (by rw [texts_len, hsl.len]) hsl.nil texts_one (by dsimp only; omega) (by unfold maxLen; omega)
          refine ⟨_, _, _, _, hr3, ?_⟩
          have hrow := H3.row 0 rfl
          rw [List.take_of_length_le (by omega : l.length ≤ n)] at hrow
          have hcells : ([] ++ (l.take k).flatMap encT ++ encT x.name) ++ (l.drop k).flatMap encT = (insN x.name l).flatMap encT := by rw [hins]; simp
          have TT : Ts w3 p3 (0 + k + 1 + (n - k)) c3 (insN x.name l) := by
            refine Mine.ls (B := w.heap.size) (t := 9) encT_len (by decide) ?_
            rw [← hcells]; exact hrow
          have HH := H3.noRow
          have hlen0 := insN_len x.name l
          refine ⟨fun q k d i W => ∃ j : Nat, i = (j : Int) ∧ j ≤ xn ∧ Hold w W F [] ∧ Ts W q k d (usesN (namesTs (x.kids.take j)) (insN x.name l)), fun _ _ _ i _ => xn - i.toNat, ⟨0, rfl, Nat.zero_le _, HH, by simpa [namesTs, nodesTs, usesN] using TT⟩, ?_⟩
          rintro q k2 d i W ⟨j, rfl, hj, HW, hT⟩
          refine ⟨_, _, _, HW.get 0 rfl rfl, fun hlt => ?_, fun hge => ?_⟩
          · have gk : x.kids[j]? = some (x.kids[j]'(by omega)) := List.getElem?_eq_getElem _
            generalize x.kids[j]'(by omega) = kd at gk
            obtain ⟨kc, b, o, hk, hp, hc⟩ := hkid HW.ext gk
            obtain ⟨kp, kn, kcap, hkc, _⟩ := hk.six
            have e0 := hc 0 _ (by rw [hkc]; rfl)
            have e1 := hc 1 _ (by rw [hkc]; rfl)
            have e2 := hc 2 _ (by rw [hkc]; rfl)
            have e3 := hc 3 _ (by rw [hkc]; rfl)
            have e4 := hc 4 _ (by rw [hkc]; rfl)
            have e5 := hc 5 _ (by rw [hkc]; rfl)
            simp only [Int.toNat_natCast]
            refine ⟨_, _, _, HW.get 0 rfl rfl, b, o, hp, by omega, by omega, _, e0, _, e1, _, e2, _, e3, _, e4, _, _, _, e5, ?_⟩
            subst hkc
            have hlen := usesN_len (namesTs (x.kids.take j)) (insN x.name l)
            have hnk := names_room gk
            refine (ih kd (by have := kid_depth gk; omega) (hk.ext HW.ext) hT (by have := hT.len; omega)).mono ?_
            rintro e W2 ⟨q', k', d', rfl, hT', eX⟩
            refine ⟨_, _, _, rfl, ?_⟩
            rw [i64_next (by omega)]
            refine ⟨⟨j + 1, rfl, by omega, HW.step eX, ?_⟩, by simp only [Int.toNat_natCast]; omega⟩
            rw [namesTs_take gk, usesN_append]
            exact hT'
          · have : j = xn := by omega
            subst this
            rw [List.take_of_length_le (by omega)] at hT
            refine ⟨q, k2, d, rfl, ?_, HW.ext⟩
            rw [names_eq, usesN_append, if_pos ho, show usesN [x.name] l = insN x.name l from rfl]
            exact hT
        · have hins : insN x.name l = l := by rw [hsplit, if_pos (by rw [gk, hyx])]
          have TT := T0.ext H.ext
          have HH := H
          have hlen0 : l.length ≤ l.length + 1 := by omega
          refine ⟨fun q k d i W => ∃ j : Nat, i = (j : Int) ∧ j ≤ xn ∧ Hold w W F [] ∧ Ts W q k d (usesN (namesTs (x.kids.take j)) l), fun _ _ _ i _ => xn - i.toNat, ⟨0, rfl, Nat.zero_le _, HH, by simpa [namesTs, nodesTs, usesN] using TT⟩, ?_⟩
          rintro q k2 d i W ⟨j, rfl, hj, HW, hT⟩
          refine ⟨_, _, _, HW.get 0 rfl rfl, fun hlt => ?_, fun hge => ?_⟩
          · have gk : x.kids[j]? = some (x.kids[j]'(by omega)) := List.getElem?_eq_getElem _
            generalize x.kids[j]'(by omega) = kd at gk
            obtain ⟨kc, b, o, hk, hp, hc⟩ := hkid HW.ext gk
            obtain ⟨kp, kn, kcap, hkc, _⟩ := hk.six
            have e0 := hc 0 _ (by rw [hkc]; rfl)
            have e1 := hc 1 _ (by rw [hkc]; rfl)
            have e2 := hc 2 _ (by rw [hkc]; rfl)
            have e3 := hc 3 _ (by rw [hkc]; rfl)
            have e4 := hc 4 _ (by rw [hkc]; rfl)
            have e5 := hc 5 _ (by rw [hkc]; rfl)
            simp only [Int.toNat_natCast]
            refine ⟨_, _, _, HW.get 0 rfl rfl, b, o, hp, by omega, by omega, _, e0, _, e1, _, e2, _, e3, _, e4, _, _, _, e5, ?_⟩
            subst hkc
            have hlen := usesN_len (namesTs (x.kids.take j)) l
            have hnk := names_room gk
            refine (ih kd (by have := kid_depth gk; omega) (hk.ext HW.ext) hT (by have := hT.len; omega)).mono ?_
            rintro e W2 ⟨q', k', d', rfl, hT', eX⟩
            refine ⟨_, _, _, rfl, ?_⟩
            rw [i64_next (by omega)]
            refine ⟨⟨j + 1, rfl, by omega, HW.step eX, ?_⟩, by simp only [Int.toNat_natCast]; omega⟩
            rw [namesTs_take gk, usesN_append]
            exact hT'
          · have : j = xn := by omega
            subst this
            rw [List.take_of_length_le (by omega)] at hT
            refine ⟨q, k2, d, rfl, ?_, HW.ext⟩
            rw [names_eq, usesN_append, if_pos ho, show usesN [x.name] l = insN x.name l from rfl, hins]
            exact hT
  · have TT := T0.ext H.ext
    have HH := H
    have hlen0 : l.length ≤ l.length + 1 := by omega
    refine ⟨fun q k d i W => ∃ j : Nat, i = (j : Int) ∧ j ≤ xn ∧ Hold w W F [] ∧ Ts W q k d (usesN (namesTs (x.kids.take j)) l), fun _ _ _ i _ => xn - i.toNat, ⟨0, rfl, Nat.zero_le _, HH, by simpa [namesTs, nodesTs, usesN] using TT⟩, ?_⟩
    rintro q k2 d i W ⟨j, rfl, hj, HW, hT⟩
    refine ⟨_, _, _, HW.get 0 rfl rfl, fun hlt => ?_, fun hge => ?_⟩
    · have gk : x.kids[j]? = some (x.kids[j]'(by omega)) := List.getElem?_eq_getElem _
      generalize x.kids[j]'(by omega) = kd at gk
      obtain ⟨kc, b, o, hk, hp, hc⟩ := hkid HW.ext gk
      obtain ⟨kp, kn, kcap, hkc, _⟩ := hk.six
      have e0 := hc 0 _ (by rw [hkc]; rfl)
      have e1 := hc 1 _ (by rw [hkc]; rfl)
      have e2 := hc 2 _ (by rw [hkc]; rfl)
      have e3 := hc 3 _ (by rw [hkc]; rfl)
      have e4 := hc 4 _ (by rw [hkc]; rfl)
      have e5 := hc 5 _ (by rw [hkc]; rfl)
      simp only [Int.toNat_natCast]
      refine ⟨_, _, _, HW.get 0 rfl rfl, b, o, hp, by omega, by omega, _, e0, _, e1, _, e2, _, e3, _, e4, _, _, _, e5, ?_⟩
      subst hkc
      have hlen := usesN_len (namesTs (x.kids.take j)) l
      have hnk := names_room gk
      refine (ih kd (by have := kid_depth gk; omega) (hk.ext HW.ext) hT (by have := hT.len; omega)).mono ?_
      rintro e W2 ⟨q', k', d', rfl, hT', eX⟩
      refine ⟨_, _, _, rfl, ?_⟩
      rw [i64_next (by omega)]
      refine ⟨⟨j + 1, rfl, by omega, HW.step eX, ?_⟩, by simp only [Int.toNat_natCast]; omega⟩
      rw [namesTs_take gk, usesN_append]
      exact hT'
    · have : j = xn := by omega
      subst this
      rw [List.take_of_length_le (by omega)] at hT
      refine ⟨q, k2, d, rfl, ?_, HW.ext⟩
      rw [names_eq, usesN_append, if_neg ho, show usesN [] l = l from rfl]
      exact hT
theorem rUses_ok (x : Ex) {w : World} {cs : List Value} (hx : ExAt w x cs) :
    Calls Tryd.prog 18 #[.agg cs.toArray] w fun e w' => ∃ (q : Option Addr) (k d : Nat), e = .returned (.slice q k d) ∧ Ts w' q k d (if formedB x = true then usesR x else []) ∧ Ext w w' := by
  obtain ⟨xp, xn, xc, rfl, _⟩ := hx.six
  apply rUses_vc
  unfold rUses_T
  intro b1 w2 h1
  have H := (Hold.start (Ext.rfl (w := w))).new h1
  obtain ⟨a0, a1, a2, a3, a4, a5⟩ := Blk.c6 (H.blk 0 rfl)
  refine ⟨_, a0, _, a1, _, a2, _, a3, _, a4, _, _, _, a5, ?_⟩
  refine (rFormed_ok x (hx.ext H.ext)).mono ?_
  rintro e W ⟨rfl, eX⟩
  replace H := H.step eX
  refine ⟨_, rfl, fun hf => ⟨none, 0, 0, rfl, by rw [if_neg (by simp [hf])]; exact Ls.nothing _ _, H.ext⟩, fun hf => ?_⟩
  obtain ⟨a0, a1, a2, a3, a4, a5⟩ := Blk.c6 (H.blk 0 rfl)
  refine ⟨_, a0, _, a1, _, a2, _, a3, _, a4, _, _, _, a5, ?_⟩
  have hlen : (nodesT x).length ≤ 400 := (of_decide_eq_true hf : FormedP x).2.2
  refine (rnames_ok (depthT x) x (Nat.le_refl _) (hx.ext H.ext) (Ls.nothing _ _) (by omega)).mono ?_
  rintro e W2 ⟨q, k, d, rfl, hT, eX⟩
  exact ⟨_, _, _, rfl, q, k, d, rfl, by rw [if_pos hf]; exact hT, H.ext.trans eX⟩
theorem sametexts_ok {w : World} {p q : Option Addr} {n c m d : Nat} {a b : List ByteArray} (ha : Ts w p n c a) (hb : Ts w q m d b) :
    Calls Tryd.prog 17 #[.slice p n c, .slice q m d] w fun e w' => e = .returned (.bool (decide (a = b))) ∧ Ext w w' := by
  apply sametexts_vc
  unfold sametexts_T
  have la := ha.len
  have lb := hb.len
  have hm : n ≤ 9223372036854775807 := ha.le
  refine ⟨fun h => ⟨?_, .rfl⟩, fun h => ?_⟩
  · have : a ≠ b := fun e => by subst e; omega
    simp [this]
  refine ⟨fun i w' => ∃ k : Nat, i = (k : Int) ∧ k ≤ n ∧ a.take k = b.take k ∧ Ext w w', fun i _ => n - i.toNat, ⟨0, rfl, Nat.zero_le _, by simp, .rfl⟩, ?_⟩
  rintro i w' ⟨k, rfl, hk, he, hx⟩
  refine ⟨fun hlt w9 h9 => ?_, fun hge => ⟨?_, hx⟩⟩
  · have hx9 := hx.trans h9.ext
    have ga : a[k]? = some (a[k]'(by omega)) := List.getElem?_eq_getElem _
    have gb : b[k]? = some (b[k]'(by omega)) := List.getElem?_eq_getElem _
    obtain ⟨b1, o1, hp, c0⟩ := (ha.ext hx9).text ga
    obtain ⟨b2, o2, hq, d0⟩ := (hb.ext hx9).text gb
    simp only [Int.toNat_natCast]
    refine ⟨b1, o1, hp, by omega, by omega, _, c0, b2, o2, hq, by omega, by omega, _, d0, fun hne => ⟨?_, hx9⟩, fun heq => ?_⟩
    · have : a ≠ b := fun e => by subst e; exact hne rfl
      simp [this]
    · rw [i64_next (by omega)]
      refine ⟨⟨k + 1, rfl, by omega, ?_, hx9⟩, by simp only [Int.toNat_natCast]; omega⟩
      rw [take_snoc ga, take_snoc gb, he, heq]
  · have : k = n := by omega
    subst this
    rw [List.take_of_length_le (by omega), List.take_of_length_le (by omega)] at he
    simp [he]
end Go.Proofs.YtdephmdfdgclpaaDoor

/- The contracts of the words that hold expressions against one another. -/
namespace Go.Proofs.YtdephmdfdgclpaaDoor
open Go Go.Vc Go.RowKit
set_option maxRecDepth 20000
attribute [local irreducible] Calls Put Drew New

/-- The expressions xs lie at p. -/
def KidsAt (w : World) (p : Option Addr) (xs : List Ex) : Prop := ∀ (w' : World), Ext w w' → ∀ (i : Nat) (k : Ex), xs[i]? = some k → ∃ (kc : List Value) (b o : Nat), ExAt w k kc ∧ p = some ⟨b, o, none⟩ ∧ ∀ j v, kc[j]? = some v → w'.cell? ⟨b, o + i * 6 + j, none⟩ = some v
theorem kids_at {w : World} {x : Ex} {cs : List Value} (h : ExAt w x cs) : ∃ (p : Option Addr) (n c : Nat), cs = [.int .i64 x.op, .string x.name, .int .i64 x.v.k, .int .i64 x.v.n, .string x.v.s, .slice p n c] ∧ x.kids.length = n ∧ n ≤ 9223372036854775807 ∧ KidsAt w p x.kids := by
  obtain ⟨p, n, c, h1, h2, h3, h4⟩ := h.six
  exact ⟨p, n, c, h1, h2, h3, fun w' e i k hk => h4 e hk⟩
theorem KidsAt.six {w w' : World} {p : Option Addr} {xs : List Ex} (h : KidsAt w p xs) (e : Ext w w') {i : Nat} {k : Ex} (hk : xs[i]? = some k) : ∃ (b o : Nat) (q : Option Addr) (n c : Nat), p = some ⟨b, o, none⟩ ∧ ExAt w k [.int .i64 k.op, .string k.name, .int .i64 k.v.k, .int .i64 k.v.n, .string k.v.s, .slice q n c] ∧
    w'.cell? ⟨b, o + i * 6, none⟩ = some (.int .i64 k.op) ∧ w'.cell? ⟨b, o + i * 6 + 1, none⟩ = some (.string k.name) ∧ w'.cell? ⟨b, o + i * 6 + 2, none⟩ = some (.int .i64 k.v.k) ∧ w'.cell? ⟨b, o + i * 6 + 3, none⟩ = some (.int .i64 k.v.n) ∧ w'.cell? ⟨b, o + i * 6 + 4, none⟩ = some (.string k.v.s) ∧ w'.cell? ⟨b, o + i * 6 + 5, none⟩ = some (.slice q n c) := by
  obtain ⟨kc, b, o, hx, hp, hc⟩ := h w' e i k hk
  obtain ⟨q, n, c, rfl, _⟩ := hx.six
  exact ⟨b, o, q, n, c, hp, hx, hc 0 _ rfl, hc 1 _ rfl, hc 2 _ rfl, hc 3 _ rfl, hc 4 _ rfl, hc 5 _ rfl⟩
theorem alikeXs_no {xs ys : List Ex} {i : Nat} {x y : Ex} (hx : xs[i]? = some x) (hy : ys[i]? = some y) (h : alikeX x y = false) : alikeXs xs ys = false := by
  cases hb : alikeXs xs ys with
  | false => rfl
  | true => have := (alikeXs_iff.1 hb).2 i x y hx hy; rw [h] at this; cases this
theorem alikeXs_ne {xs ys : List Ex} (h : xs.length ≠ ys.length) : alikeXs xs ys = false := by
  cases hb : alikeXs xs ys with
  | false => rfl
  | true => exact absurd (alikeXs_len hb) h
theorem vals_eq {u v : Val} : (u.k = v.k ∧ u.n = v.n ∧ u.s = v.s) ↔ u = v := Val.ext'.symm
set_option maxHeartbeats 4000000 in
theorem eqfunc_ok {w : World} {p q : Option Addr} {n c m d : Nat} {xs ys : List Ex} (hx : KidsAt w p xs) (hy : KidsAt w q ys) (hn : xs.length = n) (hm : ys.length = m) (hb : n ≤ 9223372036854775807)
    (IH : ∀ (i : Nat) (x y : Ex), xs[i]? = some x → ys[i]? = some y → ∀ {W : World} {cx cy : List Value}, ExAt W x cx → ExAt W y cy → Calls Tryd.prog 38 #[.agg cx.toArray, .agg cy.toArray] W fun e w' => e = .returned (.bool (alikeX x y)) ∧ Ext W w') :
    Calls Tryd.prog 54 #[.slice p n c, .slice q m d, .func (.func 38) #[] #[]] w fun e w' => e = .returned (.bool (alikeXs xs ys)) ∧ Ext w w' := by
  apply eqfunc_vc
  unfold eqfunc_T
  refine ⟨fun h => ⟨by rw [alikeXs_ne (by omega)], Ext.rfl⟩, fun h => ?_⟩
  refine ⟨fun i W => ∃ j : Nat, i = (j : Int) ∧ j ≤ n ∧ (∀ (k : Nat) x y, k < j → xs[k]? = some x → ys[k]? = some y → alikeX x y = true) ∧ Ext w W, fun i _ => n - i.toNat, ⟨0, rfl, Nat.zero_le _, fun k _ _ hk => by omega, Ext.rfl⟩, ?_⟩
  rintro i W ⟨j, rfl, hj, hall, eW⟩
  refine ⟨fun hlt => ?_, fun hge => ?_⟩
  · have gx : xs[j]? = some (xs[j]'(by omega)) := List.getElem?_eq_getElem _
    have gy : ys[j]? = some (ys[j]'(by omega)) := List.getElem?_eq_getElem _
    generalize xs[j]'(by omega) = x at gx
    generalize ys[j]'(by omega) = y at gy
    obtain ⟨b, o, kp, kn, kc, hp, ex, c0, c1, c2, c3, c4, c5⟩ := hx.six eW gx
    simp only [Int.toNat_natCast]
    refine ⟨b, o, hp, by omega, hlt, _, c0, _, c1, _, c2, _, c3, _, c4, _, _, _, c5, ?_⟩
    have H := Hold.start eW
    intro b19 w20 hN
    replace H := H.new hN
    refine (H.blk 0 rfl).w6 fun w28 hS => ?_
    replace H := H.put 0 rfl hS
    obtain ⟨b', o', kp', kn', kc', hq, ey, d0, d1, d2, d3, d4, d5⟩ := hy.six H.ext gy
    refine ⟨b', o', hq, by omega, by omega, _, d0, _, d1, _, d2, _, d3, _, d4, _, _, _, d5, ?_⟩
    intro b40 w41 hN
    replace H := H.new hN
    refine (H.blk 0 rfl).w6 fun w49 hS => ?_
    replace H := H.put 0 rfl hS
    have Bx : Blk w49 b19 29 #[.int .i64 x.op, .string x.name, .int .i64 x.v.k, .int .i64 x.v.n, .string x.v.s, .slice kp kn kc] := H.blk 1 rfl
    have By : Blk w49 b40 29 #[.int .i64 y.op, .string y.name, .int .i64 y.v.k, .int .i64 y.v.n, .string y.v.s, .slice kp' kn' kc'] := H.blk 0 rfl
    obtain ⟨a0, a1, a2, a3, a4, a5⟩ := Bx.c6
    obtain ⟨e0, e1, e2, e3, e4, e5⟩ := By.c6
    refine ⟨_, a0, _, a1, _, a2, _, a3, _, a4, _, _, _, a5, _, e0, _, e1, _, e2, _, e3, _, e4, _, _, _, e5, ?_⟩
    refine (IH j x y gx gy (ex.ext H.ext) (ey.ext H.ext)).mono ?_
    rintro e W2 ⟨rfl, eX⟩
    refine ⟨_, rfl, fun hf => ⟨by rw [alikeXs_no gx gy hf], H.ext.trans eX⟩, fun ht => ?_⟩
    rw [i64_next (by omega)]
    refine ⟨⟨j + 1, rfl, by omega, fun k x' y' hk hx' hy' => ?_, H.ext.trans eX⟩, by simp only [Int.toNat_natCast]; omega⟩
    rcases Nat.lt_or_ge k j with hlt2 | hge2
    · exact hall k x' y' hlt2 hx' hy'
    · have : k = j := by omega
      subst this
      rw [gx] at hx'; rw [gy] at hy'
      cases hx'; cases hy'
      exact ht
  · have : j = n := by omega
    subst this
    have : alikeXs xs ys = true := alikeXs_iff.2 ⟨by omega, fun k x y hx hy => hall k x y (by have := (List.getElem?_eq_some_iff.1 hx).1; omega) hx hy⟩
    exact ⟨by rw [this], eW⟩
set_option maxHeartbeats 4000000 in
theorem xsame_ok : ∀ (N : Nat) (a b : Ex) {w : World} {ca cb : List Value}, depthT a ≤ N → ExAt w a ca → ExAt w b cb →
    Calls Tryd.prog 38 #[.agg ca.toArray, .agg cb.toArray] w fun e w' => e = .returned (.bool (alikeX a b)) ∧ Ext w w' := by
  intro N
  induction N with
  | zero => intro a b w ca cb hd; cases a; unfold depthT at hd; omega
  | succ N ih =>
  intro a b w ca cb hd ha hb
  obtain ⟨pa, na, da, rfl, la, ba, ka⟩ := kids_at ha
  obtain ⟨pb, nb, db, rfl, lb, bb, kb⟩ := kids_at hb
  apply xsame_vc
  unfold xsame_T
  intro b1 w2 h1 b4 w5 h4
  have H := ((Hold.start (Ext.rfl (w := w))).new h1).new h4
  obtain ⟨a0, a1, a2, a3, a4, a5⟩ := Blk.c6 (H.blk 1 rfl)
  obtain ⟨e0, e1, e2, e3, e4, e5⟩ := Blk.c6 (H.blk 0 rfl)
  rw [alikeX_eq]
  refine ⟨_, a0, _, e0, fun ho => ⟨_, a1, _, e1, fun hs => ⟨_, a2, _, a3, _, a4, _, e2, _, e3, _, e4, fun hv => ⟨_, _, _, a5, _, _, _, e5, ?_⟩, fun hv => ⟨?_, H.ext⟩⟩, fun hs => ⟨?_, H.ext⟩⟩, fun ho => ⟨?_, H.ext⟩⟩
  · refine (eqfunc_ok (w := w5) (fun w' e => by
        intro i k hk
        obtain ⟨kc, b, o, h1, h2, h3⟩ := ka w' (H.ext.trans e) i k hk
        exact ⟨kc, b, o, h1.ext H.ext, h2, h3⟩) (fun w' e => by
        intro i k hk
        obtain ⟨kc, b, o, h1, h2, h3⟩ := kb w' (H.ext.trans e) i k hk
        exact ⟨kc, b, o, h1.ext H.ext, h2, h3⟩) la lb ba fun i x y hx hy {W cx cy} h1 h2 => ih x y (by have := kid_depth hx; omega) h1 h2).mono ?_
    rintro e W ⟨rfl, eX⟩
    refine ⟨_, rfl, ?_, H.ext.trans eX⟩
    rw [decide_eq_true ho, decide_eq_true hs, decide_eq_true (vals_eq.1 hv)]; rfl
  · have : a.v ≠ b.v := fun e => by
      rw [e] at hv
      rcases hv with h | h | h <;> exact h rfl
    rw [decide_eq_false this]; simp
  · rw [decide_eq_false hs]; simp
  · rw [decide_eq_false ho]; simp
set_option maxHeartbeats 4000000 in
theorem rAlike_ok : ∀ (N : Nat) (a b : Ex) {w : World} {ca cb : List Value}, depthT a ≤ N → ExAt w a ca → ExAt w b cb →
    Calls Tryd.prog 39 #[.agg ca.toArray, .agg cb.toArray] w fun e w' => e = .returned (.bool (alikeX a b)) ∧ Ext w w' := by
  intro N
  induction N with
  | zero => intro a b w ca cb hd; cases a; unfold depthT at hd; omega
  | succ N ih =>
  intro a b w ca cb hd ha hb
  obtain ⟨pa, na, da, rfl, la, ba, ka⟩ := kids_at ha
  obtain ⟨pb, nb, db, rfl, lb, bb, kb⟩ := kids_at hb
  apply rAlike_vc
  unfold rAlike_T
  intro b1 w2 h1 b4 w5 h4
  have H := ((Hold.start (Ext.rfl (w := w))).new h1).new h4
  obtain ⟨a0, a1, a2, a3, a4, a5⟩ := Blk.c6 (H.blk 1 rfl)
  obtain ⟨e0, e1, e2, e3, e4, e5⟩ := Blk.c6 (H.blk 0 rfl)
  rw [alikeX_eq]
  refine ⟨_, a0, _, e0, fun ho => ⟨?_, H.ext⟩, fun ho => ⟨_, a1, _, e1, fun hs => ⟨?_, H.ext⟩, fun hs => ⟨_, a2, _, a3, _, a4, _, e2, _, e3, _, e4, fun hv => ⟨?_, H.ext⟩, fun hv => ⟨_, _, _, a5, _, _, _, e5, fun hl => ⟨?_, H.ext⟩, fun hl => ?_⟩⟩⟩⟩
  · rw [decide_eq_false ho]; simp
  · rw [decide_eq_false hs]; simp
  · have : a.v ≠ b.v := fun e => by
      rw [e] at hv
      rcases hv with h | h | h <;> exact h rfl
    rw [decide_eq_false this]; simp
  · rw [alikeXs_ne (by omega)]; simp
  rw [decide_eq_true ho, decide_eq_true hs, decide_eq_true (vals_eq.1 hv)]
  simp only [Bool.true_and]
  let F : List (Nat × Obj) := [(b4, .cells #[.int .i64 b.op, .string b.name, .int .i64 b.v.k, .int .i64 b.v.n, .string b.v.s, .slice pb nb db] 29 (0, 0)), (b1, .cells #[.int .i64 a.op, .string a.name, .int .i64 a.v.k, .int .i64 a.v.n, .string a.v.s, .slice pa na da] 29 (0, 0))]
  refine ⟨fun i W => ∃ j : Nat, i = (j : Int) ∧ j ≤ na ∧ (∀ (k : Nat) x y, k < j → a.kids[k]? = some x → b.kids[k]? = some y → alikeX x y = true) ∧ Hold w W F [], fun i _ => na - i.toNat, ⟨0, rfl, Nat.zero_le _, fun k _ _ hk => by omega, H⟩, ?_⟩
  clear H a0 a1 a2 a3 a4 a5 e0 e1 e2 e3 e4 e5
  rintro i W ⟨j, rfl, hj, hall, H⟩
  refine ⟨_, _, _, H.get 1 rfl rfl, fun hlt => ?_, fun hge => ?_⟩
  · have gx : a.kids[j]? = some (a.kids[j]'(by omega)) := List.getElem?_eq_getElem _
    have gy : b.kids[j]? = some (b.kids[j]'(by omega)) := List.getElem?_eq_getElem _
    generalize a.kids[j]'(by omega) = x at gx
    generalize b.kids[j]'(by omega) = y at gy
    intro w40 hD
    replace H := H.step (Drew.ext hD)
    obtain ⟨bb', o, kp, kn, kc, hp, ex, c0, c1, c2, c3, c4, c5⟩ := ka.six H.ext gx
    obtain ⟨b', o', kp', kn', kc', hq, ey, d0, d1, d2, d3, d4, d5⟩ := kb.six H.ext gy
    simp only [Int.toNat_natCast]
    refine ⟨_, _, _, H.get 1 rfl rfl, bb', o, hp, by omega, hlt, _, c0, _, c1, _, c2, _, c3, _, c4, _, _, _, c5, _, _, _, H.get 0 rfl rfl, b', o', hq, by omega, by omega, _, d0, _, d1, _, d2, _, d3, _, d4, _, _, _, d5, ?_⟩
    refine (ih x y (by have := kid_depth gx; omega) (ex.ext H.ext) (ey.ext H.ext)).mono ?_
    rintro e W2 ⟨rfl, eX⟩
    refine ⟨_, rfl, fun hf => ⟨by rw [alikeXs_no gx gy hf], H.ext.trans eX⟩, fun ht => ?_⟩
    rw [i64_next (by omega)]
    refine ⟨⟨j + 1, rfl, by omega, fun k x' y' hk hx' hy' => ?_, H.step eX⟩, by simp only [Int.toNat_natCast]; omega⟩
    rcases Nat.lt_or_ge k j with hlt2 | hge2
    · exact hall k x' y' hlt2 hx' hy'
    · have : k = j := by omega
      subst this
      rw [gx] at hx'; rw [gy] at hy'
      cases hx'; cases hy'
      exact ht
  · have : j = na := by omega
    subst this
    have : alikeXs a.kids b.kids = true := alikeXs_iff.2 ⟨by omega, fun k x y hx hy => hall k x y (by have := (List.getElem?_eq_some_iff.1 hx).1; omega) hx hy⟩
    exact ⟨by rw [this], H.ext⟩
def sameX (a b : Ex) : Bool := formedB a && formedB b && alikeX a b
theorem xSame_ok (a b : Ex) {w : World} {ca cb : List Value} (hT : Tab w) (ha : ExAt w a ca) (hb : ExAt w b cb) :
    Calls Tryd.prog 19 #[.agg ca.toArray, .agg cb.toArray] w fun e w' => e = .returned (.bool (sameX a b)) ∧ Ext w w' := by
  obtain ⟨pa, na, da, rfl, _⟩ := ha.six
  obtain ⟨pb, nb, db, rfl, _⟩ := hb.six
  apply xSame_vc
  unfold xSame_T
  intro b1 w2 h1 b4 w5 h4
  have H := ((Hold.start (Ext.rfl (w := w))).new h1).new h4
  obtain ⟨a0, a1, a2, a3, a4, a5⟩ := Blk.c6 (H.blk 1 rfl)
  refine ⟨_, a0, _, a1, _, a2, _, a3, _, a4, _, _, _, a5, (xformed_ok (hT.ext H.ext) a (ha.ext H.ext)).mono ?_⟩
  rintro e W ⟨rfl, eX⟩
  replace H := H.step eX
  unfold sameX
  refine ⟨_, rfl, fun hf => ?_, fun hf => ⟨by rw [hf]; rfl, H.ext⟩⟩
  obtain ⟨e0, e1, e2, e3, e4, e5⟩ := Blk.c6 (H.blk 0 rfl)
  refine ⟨_, e0, _, e1, _, e2, _, e3, _, e4, _, _, _, e5, (xformed_ok (hT.ext H.ext) b (hb.ext H.ext)).mono ?_⟩
  rintro e W2 ⟨rfl, eX⟩
  replace H := H.step eX
  refine ⟨_, rfl, fun hg => ?_, fun hg => ⟨by rw [hg]; simp, H.ext⟩⟩
  obtain ⟨a0, a1, a2, a3, a4, a5⟩ := Blk.c6 (H.blk 1 rfl)
  obtain ⟨e0, e1, e2, e3, e4, e5⟩ := Blk.c6 (H.blk 0 rfl)
  refine ⟨_, a0, _, a1, _, a2, _, a3, _, a4, _, _, _, a5, _, e0, _, e1, _, e2, _, e3, _, e4, _, _, _, e5, (xsame_ok (depthT a) a b (Nat.le_refl _) (ha.ext H.ext) (hb.ext H.ext)).mono ?_⟩
  rintro e W3 ⟨rfl, eX⟩
  exact ⟨_, rfl, by rw [hf, hg]; rfl, H.ext.trans eX⟩
theorem rSame_ok (a b : Ex) {w : World} {ca cb : List Value} (ha : ExAt w a ca) (hb : ExAt w b cb) :
    Calls Tryd.prog 20 #[.agg ca.toArray, .agg cb.toArray] w fun e w' => e = .returned (.bool (sameX a b)) ∧ Ext w w' := by
  obtain ⟨pa, na, da, rfl, _⟩ := ha.six
  obtain ⟨pb, nb, db, rfl, _⟩ := hb.six
  apply rSame_vc
  unfold rSame_T
  intro b1 w2 h1 b4 w5 h4
  have H := ((Hold.start (Ext.rfl (w := w))).new h1).new h4
  obtain ⟨a0, a1, a2, a3, a4, a5⟩ := Blk.c6 (H.blk 1 rfl)
  refine ⟨_, a0, _, a1, _, a2, _, a3, _, a4, _, _, _, a5, (rFormed_ok a (ha.ext H.ext)).mono ?_⟩
  rintro e W ⟨rfl, eX⟩
  replace H := H.step eX
  obtain ⟨e0, e1, e2, e3, e4, e5⟩ := Blk.c6 (H.blk 0 rfl)
  refine ⟨_, rfl, _, e0, _, e1, _, e2, _, e3, _, e4, _, _, _, e5, (rFormed_ok b (hb.ext H.ext)).mono ?_⟩
  rintro e W2 ⟨rfl, eX⟩
  replace H := H.step eX
  unfold sameX
  refine ⟨_, rfl, fun hg => ?_, fun hg => ⟨by rcases hg with hg | hg <;> rw [hg] <;> simp, H.ext⟩⟩
  obtain ⟨a0, a1, a2, a3, a4, a5⟩ := Blk.c6 (H.blk 1 rfl)
  obtain ⟨e0, e1, e2, e3, e4, e5⟩ := Blk.c6 (H.blk 0 rfl)
  refine ⟨_, a0, _, a1, _, a2, _, a3, _, a4, _, _, _, a5, _, e0, _, e1, _, e2, _, e3, _, e4, _, _, _, e5, (rAlike_ok (depthT a) a b (Nat.le_refl _) (ha.ext H.ext) (hb.ext H.ext)).mono ?_⟩
  rintro e W3 ⟨rfl, eX⟩
  exact ⟨_, rfl, by rw [hg.1, hg.2]; rfl, H.ext.trans eX⟩
end Go.Proofs.YtdephmdfdgclpaaDoor

/- The shelf's tables of numbers for this program: as its command lays them, written out by a program of ours (lays.py). -/
namespace Go.Proofs.YtdephmdfdgclpaaDoor
open Go Go.Shelf

def sortL_ren : Ren := ⟨fun | 190 => 32 | 125 => 49 | 258 => 48 | 128 => 73 | 129 => 74 | 302 => 64 | 303 => 65 | 304 => 66 | 305 => 67 | 306 => 68 | 307 => 69 | 308 => 70 | 309 => 71 | 310 => 72 | 333 => 93 | 329 => 94 | 330 => 95 | 334 => 96 | 335 => 97 | 336 => 98 | 344 => 111 | n => n, fun | 31 => 35 | 9 => 9 | 3 => 3 | 46 => 71 | 0 => 0 | 51 => 96 | 53 => 98 | 4 => 4 | 183 => 88 | 182 => 87 | 131 => 93 | 5 => 5 | 218 => 117 | 222 => 121 | 228 => 133 | 229 => 134 | n => n, fun | n => n⟩
theorem sortL : Lays.n190 Tryd.prog sortL_ren where
  mixed := by kernel_rfl
  f125 := Tryd.func49.trans (congrArg some (by kernel_rfl))
  f128 := Tryd.func73.trans (congrArg some (by kernel_rfl))
  f129 := Tryd.func74.trans (congrArg some (by kernel_rfl))
  f190 := Tryd.func32.trans (congrArg some (by kernel_rfl))
  f258 := Tryd.func48.trans (congrArg some (by kernel_rfl))
  f302 := Tryd.func64.trans (congrArg some (by kernel_rfl))
  f303 := Tryd.func65.trans (congrArg some (by kernel_rfl))
  f304 := Tryd.func66.trans (congrArg some (by kernel_rfl))
  f305 := Tryd.func67.trans (congrArg some (by kernel_rfl))
  f306 := Tryd.func68.trans (congrArg some (by kernel_rfl))
  f307 := Tryd.func69.trans (congrArg some (by kernel_rfl))
  f308 := Tryd.func70.trans (congrArg some (by kernel_rfl))
  f309 := Tryd.func71.trans (congrArg some (by kernel_rfl))
  f310 := Tryd.func72.trans (congrArg some (by kernel_rfl))
  f329 := Tryd.func94.trans (congrArg some (by kernel_rfl))
  f330 := Tryd.func95.trans (congrArg some (by kernel_rfl))
  f333 := Tryd.func93.trans (congrArg some (by kernel_rfl))
  f334 := Tryd.func96.trans (congrArg some (by kernel_rfl))
  f335 := Tryd.func97.trans (congrArg some (by kernel_rfl))
  f336 := Tryd.func98.trans (congrArg some (by kernel_rfl))
  f344 := Tryd.func111.trans (congrArg some (by kernel_rfl))
  t0 := Tryd.underlying0
  a0 := Tryd.isAgg0
  z0 := Tryd.sizeOf0
  v0 := Tryd.zeroValue0
  t3 := Tryd.underlying3
  a3 := Tryd.isAgg3
  z3 := Tryd.sizeOf3
  v3 := Tryd.zeroValue3
  t4 := Tryd.underlying4
  a4 := Tryd.isAgg4
  z4 := Tryd.sizeOf4
  v4 := Tryd.zeroValue4
  t5 := Tryd.underlying5
  a5 := Tryd.isAgg5
  z5 := Tryd.sizeOf5
  v5 := Tryd.zeroValue5
  t9 := Tryd.underlying9
  a9 := Tryd.isAgg9
  z9 := Tryd.sizeOf9
  v9 := Tryd.zeroValue9
  t31 := Tryd.underlying35
  a31 := Tryd.isAgg35
  z31 := Tryd.sizeOf35
  v31 := Tryd.zeroValue35
  t46 := Tryd.underlying71
  a46 := Tryd.isAgg71
  z46 := Tryd.sizeOf71
  v46 := Tryd.zeroValue71
  t51 := Tryd.underlying96
  a51 := Tryd.isAgg96
  z51 := Tryd.sizeOf96
  v51 := Tryd.zeroValue96
  t53 := Tryd.underlying98
  a53 := Tryd.isAgg98
  z53 := Tryd.sizeOf98
  v53 := Tryd.zeroValue98
  t131 := Tryd.underlying93
  a131 := Tryd.isAgg93
  z131 := Tryd.sizeOf93
  v131 := Tryd.zeroValue93
  t182 := Tryd.underlying87
  a182 := Tryd.isAgg87
  z182 := Tryd.sizeOf87
  v182 := Tryd.zeroValue87
  t183 := Tryd.underlying88
  a183 := Tryd.isAgg88
  z183 := Tryd.sizeOf88
  v183 := Tryd.zeroValue88
  t218 := Tryd.underlying117
  a218 := Tryd.isAgg117
  z218 := Tryd.sizeOf117
  v218 := Tryd.zeroValue117
  t222 := Tryd.underlying121
  a222 := Tryd.isAgg121
  z222 := Tryd.sizeOf121
  v222 := Tryd.zeroValue121
  t228 := Tryd.underlying133
  a228 := Tryd.isAgg133
  z228 := Tryd.sizeOf133
  v228 := Tryd.zeroValue133
  t229 := Tryd.underlying134
  a229 := Tryd.isAgg134
  z229 := Tryd.sizeOf134
  v229 := Tryd.zeroValue134

def compL_ren : Ren := ⟨fun | 194 => 33 | n => n, fun | 31 => 35 | 9 => 9 | 3 => 3 | 4 => 4 | 0 => 0 | n => n, fun | n => n⟩
theorem compL : Lays.n194 Tryd.prog compL_ren where
  mixed := by kernel_rfl
  f194 := Tryd.func33.trans (congrArg some (by kernel_rfl))
  t0 := Tryd.underlying0
  a0 := Tryd.isAgg0
  z0 := Tryd.sizeOf0
  v0 := Tryd.zeroValue0
  t3 := Tryd.underlying3
  a3 := Tryd.isAgg3
  z3 := Tryd.sizeOf3
  v3 := Tryd.zeroValue3
  t4 := Tryd.underlying4
  a4 := Tryd.isAgg4
  z4 := Tryd.sizeOf4
  v4 := Tryd.zeroValue4
  t9 := Tryd.underlying9
  a9 := Tryd.isAgg9
  z9 := Tryd.sizeOf9
  v9 := Tryd.zeroValue9
  t31 := Tryd.underlying35
  a31 := Tryd.isAgg35
  z31 := Tryd.sizeOf35
  v31 := Tryd.zeroValue35

end Go.Proofs.YtdephmdfdgclpaaDoor

/- The contract of expr.Uses. -/
namespace Go.Proofs.YtdephmdfdgclpaaDoor
open Go Go.Vc Go.RowKit Go.Sort
set_option maxRecDepth 20000
attribute [local irreducible] Calls Put Drew New

def mkS (l : List UInt8) : ByteArray := ⟨l.toArray⟩
theorem mkS_tB (s : ByteArray) : mkS (tB s) = s := mk_tB s
theorem map_back (l : List ByteArray) : (l.map tB).map mkS = l := by
  have : mkS ∘ tB = id := funext mkS_tB
  rw [List.map_map, this, List.map_id]
theorem enc_texts (l : List (List UInt8)) : (l.map mkS).flatMap encT = l.map encStr := by
  induction l with
  | nil => rfl
  | cons x l ih => rw [List.map_cons, List.flatMap_cons, ih, List.map_cons]; rfl
theorem enc_names (l : List ByteArray) : l.flatMap encT = (l.map tB).map encStr := by
  rw [← enc_texts, map_back]
theorem uses_back (x : Ex) : (usesP x).map mkS = usesR x := by
  rw [← uses_same, map_back]
theorem grow_none (w : World) : grow w #[] = w := by unfold grow; simp
/-- Sorted. -/
theorem Hold.sorted {w0 W : World} {fs : List (Nat × Obj)} {p : Option Addr} {n c : Nat} {l : List (List UInt8)} (H : Hold w0 W fs [⟨9, 1, p, n, c, l.map encStr⟩]) (hn : n ≤ 1000) :
    Calls Tryd.prog 32 #[.slice p n c] W fun e W' => e = .returned (.tuple #[]) ∧ Hold w0 W' fs [⟨9, 1, p, n, c, (l.mergeSort leB2).map encStr⟩] := by
  have hm := H.row 0 rfl
  have hlen : l.length = n := by have := hm.len; simpa using this
  rcases hm.shape with ⟨rfl, rfl, rfl, hv⟩ | ⟨g, rfl, hge, hlt⟩
  · refine (Any.slices_Sort_string_none sortL none 0 W).mono ?_
    rintro e W' ⟨rfl, rfl⟩
    refine ⟨rfl, ?_⟩
    have : l = [] := by cases l with | nil => rfl | cons _ _ => simp at hlen
    subst this
    simpa using H
  · obtain ⟨g', cur, hp, _, hb, h3, h4⟩ := hm.blk (.inr (by simp))
    cases hp
    have hcap := hm.cap
    subst hlen
    have hsz : l.length < 4611686018427387904 := by omega
    refine (Any.slices_Sort_string sortL g 0 c l W (holds_of_block hb (by simpa using h4)) hlt hsz).mono ?_
    rintro e W' ⟨rfl, q, os, rfl⟩
    refine ⟨rfl, ?_⟩
    refine H.updRow 0 rfl (.inr ⟨g, rfl, hge, grown_but (o := 0) (n := l.length) (c := c) (grownBy_sorted _)⟩) (ownsRow_sorted (by simp) hge hb hcap.1 hcap.2 (by rw [h3])) fun b o hp => .inr ?_
    cases hp; rfl
/-- Runs of equals taken together. -/
theorem Hold.compacted {w0 W : World} {fs : List (Nat × Obj)} {p : Option Addr} {n c : Nat} {l : List (List UInt8)} (H : Hold w0 W fs [⟨9, 1, p, n, c, l.map encStr⟩]) (hn : n ≤ 1000) :
    Calls Tryd.prog 33 #[.slice p n c] W fun e W' => ∃ k, e = .returned (.slice p k c) ∧ Ts W' p k c ((Lib.compact l).map mkS) ∧ Hold w0 W' fs [] ∧ ∀ (i : Nat) y, fs[i]? = some y → ∀ b o, p = some ⟨b, o, none⟩ → y.1 ≠ b := by
  have hm := H.row 0 rfl
  have hlen : l.length = n := by have := hm.len; simpa using this
  rcases hm.shape with ⟨rfl, rfl, rfl, hv⟩ | ⟨g, rfl, hge, hlt⟩
  · refine (Any.slices_Compact_string_empty compL none 0 W).mono ?_
    rintro e W' ⟨rfl, rfl⟩
    have : l = [] := by cases l with | nil => rfl | cons _ _ => simp at hlen
    subst this
    exact ⟨0, rfl, Ls.nothing _ _, H.noRow, fun i y hy b o hb => by cases hb⟩
  · obtain ⟨g', cur, hp, _, hb, h3, h4⟩ := hm.blk (.inr (by simp))
    cases hp
    have hcap := hm.cap
    subst hlen
    have hle : (Lib.compact l).length ≤ l.length := by
      unfold Lib.compact Lib.compactUpTo
      rw [List.length_map]
      exact Nat.le_trans (List.length_filter_le _ _) (by simp)
    refine (Any.slices_Compact_string compL g 0 c l W (holds_of_block hb (by simpa using h4)) (by omega) hcap.1).mono ?_
    rintro e W' ⟨rfl, q, rfl⟩
    generalize hts : Lib.compact l ++ List.replicate (l.length - (Lib.compact l).length) [] = ts
    have htl : ts.length = l.length := by rw [← hts]; simp; omega
    rw [← grow_none (putRow encStr (Sort.ahead W q) g 0 ts.toArray)]
    have hM := ownsRow_sorted (n := q) (os := #[]) htl hge hb hcap.1 hcap.2 (by rw [h3])
    have H' := H.updRow 0 rfl (.inr ⟨g, rfl, hge, grown_but (o := 0) (n := l.length) (c := c) (grownBy_sorted ts.toArray)⟩) hM fun b o hp => .inr (by cases hp; rfl)
    refine ⟨_, rfl, ?_, H'.noRow, fun i y hy b o hb => H.apart i 0 y _ hy rfl b o hb⟩
    have hr := H'.row 0 rfl
    rw [← enc_texts] at hr
    have hT := (hr.ls encT_len (by decide)).take encT_len (k := (Lib.compact l).length) hle
    have e1 : (ts.map mkS).take (Lib.compact l).length = (Lib.compact l).map mkS := by
      rw [← hts, List.map_append, List.take_left' (by simp)]
    rw [e1] at hT
    exact hT
def nmW (l : List (Nat × Ex)) : List ByteArray := ((l.map (·.2)).filter fun y => decide (y.op = 1)).map Ex.name
theorem nmW_take {l : List (Nat × Ex)} {k : Nat} {p : Nat × Ex} (h : l[k]? = some p) : nmW (l.take (k + 1)) = nmW (l.take k) ++ (if p.2.op = 1 then [p.2.name] else []) := by
  unfold nmW
  rw [List.take_add_one, h, List.map_append, List.filter_append, List.map_append]
  congr 1
  by_cases ho : p.2.op = 1 <;> simp [ho]
theorem nmW_len (l : List (Nat × Ex)) (k : Nat) : (nmW (l.take k)).length ≤ k := by
  unfold nmW
  rw [List.length_map]
  refine Nat.le_trans (List.length_filter_le _ _) ?_
  rw [List.length_map, List.length_take]; omega
set_option maxHeartbeats 4000000 in
theorem xUses_ok (x : Ex) {w : World} {cs : List Value} (hT : Tab w) (hx : ExAt w x cs) :
    Calls Tryd.prog 14 #[.agg cs.toArray] w fun e w' => ∃ (q : Option Addr) (k d : Nat), e = .returned (.slice q k d) ∧ Ts w' q k d (if formedB x = true then usesR x else []) ∧ Ext w w' := by
  obtain ⟨p0, n0, c0, rfl, _⟩ := hx.six
  apply xUses_vc
  unfold xUses_T
  intro b1 w2 h1
  have H := (Hold.start (Ext.rfl (w := w))).new h1
  obtain ⟨a0, a1, a2, a3, a4, a5⟩ := Blk.c6 (H.blk 0 rfl)
  refine ⟨_, a0, _, a1, _, a2, _, a3, _, a4, _, _, _, a5, (xformed_ok (hT.ext H.ext) x (hx.ext H.ext)).mono ?_⟩
  rintro e W ⟨rfl, eX⟩
  replace H := H.step eX
  refine ⟨_, rfl, fun hf => ⟨none, 0, 0, rfl, by rw [if_neg (by simp [hf])]; exact Ls.nothing _ _, H.ext⟩, fun hf => ?_⟩
  rw [if_pos hf]
  have hfp := (of_decide_eq_true hf : FormedP x)
  have hdep := hfp.2.1
  have hwalk : (walkT x 1).map (·.2) = nodesT x := (walkT_spec x 1).2 (by omega)
  have hwl : (walkT x 1).length ≤ 400 := by rw [← List.length_map (f := (·.2)), hwalk]; exact hfp.2.2
  intro b17 w18 h17
  replace H := H.new h17
  obtain ⟨a0, a1, a2, a3, a4, a5⟩ := Blk.c6 (H.blk 1 rfl)
  refine ⟨_, a0, _, a1, _, a2, _, a3, _, a4, _, _, _, a5, (nodes_ok x hx 1).mono ?_⟩
  rintro e w29 ⟨bx, bd, rfl, hH⟩
  replace H := hH _ _ _ H
  refine ⟨_, rfl, _, _, rfl, by kernel_rfl, fun r d l w136 hB hY => ?_⟩
  replace H := H.began hB
  let fs : Nat → Option Addr → Nat → Nat → List (Nat × Obj) := fun q p n c => [(l, .loop (r q)), (d, .deferred (some [])), (bd, .cells #[.int .i64 1] 3 (0, 0)), (bx, .cells #[.int .i64 x.op, .string x.name, .int .i64 x.v.k, .int .i64 x.v.n, .string x.v.s, .slice p0 n0 c0] 29 (0, 0)),
    (b17, .cells #[.slice p n c] 35 (0, 0)), (b1, .cells #[.int .i64 x.op, .string x.name, .int .i64 x.v.k, .int .i64 x.v.n, .string x.v.s, .slice p0 n0 c0] 29 (0, 0))]
  have HB : Hold w w136 ((fs 0 none 0 0 ++ []) ++ []) [] := H
  have fsM : ∀ q p n c, ∀ y ∈ fs q p n c, y.1 < w136.heap.size := by
    intro q p n c y hy
    have : ∀ y ∈ fs 0 none 0 0, y.1 < w136.heap.size := fun y hy => HB.ltM (List.mem_append_left _ (List.mem_append_left _ hy))
    simp only [fs, List.mem_cons, List.not_mem_nil, or_false] at hy this
    rcases hy with rfl | rfl | rfl | rfl | rfl | rfl
    · exact this (l, .loop (r 0)) (.inl rfl)
    · exact this _ (.inr (.inl rfl))
    · exact this _ (.inr (.inr (.inl rfl)))
    · exact this _ (.inr (.inr (.inr (.inl rfl))))
    · exact this (b17, .cells #[.slice none 0 0] 35 (0, 0)) (.inr (.inr (.inr (.inr (.inl rfl)))))
    · exact this _ (.inr (.inr (.inr (.inr (.inr rfl)))))
  refine (nodes1_ok (depthT x) x 1 l bd bx w _ (fun k f => ∃ p n c rr, f = fs 0 p n c ++ rr ∧ RowF 9 1 p n c ((nmW ((walkT x 1).take k)).flatMap encT) rr) (fun _ => False) [] (fs 0 none 0 0 ++ []) w136 w136.heap.size (Nat.le_refl _) (by omega) hx ?_ (fun _ h => h.elim) (Nat.le_refl _) ?_ ⟨none, 0, 0, [], rfl, RowF.nil _ _⟩ HB).mono ?_
  · rintro k f ⟨p, n, c, rr, rfl, hr⟩
    refine ⟨fun y hy => ?_, by simp [fs], by simp [fs]⟩
    rcases List.mem_append.1 hy with hy | hy
    · exact .inl (fsM _ _ _ _ y hy)
    · exact .inr (hr.not_open y hy)
  · rintro k pn ncs gs f W R hL hE ⟨p, n, c, rr, rfl, hr⟩ H yes no
    obtain ⟨np, nn, ncap, rfl, _⟩ := hE.six
    have hk := (List.getElem?_eq_some_iff.1 hL).1
    have hnk := nmW_len (walkT x 1) k
    have hstep := nmW_take hL
    refine hY _ _ _ _ _ _ _ _ _ W R (H.loop 0 rfl) fun b50 w51 h50 => ?_
    have H2 := H.new h50
    refine (H2.blk 0 rfl).w6 fun w59 h59 => ?_
    have H3 := H2.put 0 rfl h59
    refine ⟨H3.loop 1 rfl, ?_⟩
    rintro Wb rfl
    have H4 := H3.turn 1 1 rfl
    have H4 : Hold w (Go.Vc.turn r l 1 w59) ((b50, .cells #[.int .i64 pn.2.op, .string pn.2.name, .int .i64 pn.2.v.k, .int .i64 pn.2.v.n, .string pn.2.v.s, .slice np nn ncap] 29 (0, 0)) :: ((fs 1 p n c ++ rr) ++ gs)) [] := H4
    refine ⟨_, H4.get 0 rfl rfl, fun ho => ?_, fun ho => ?_⟩
    · rw [if_pos ho] at hstep
      refine ⟨_, _, _, H4.get 5 rfl rfl, _, H4.get 0 rfl rfl, ?_⟩
      intro b69 w70 h69
      have H5 := H4.new h69
      let L : Option Addr → Nat → Nat → List (Nat × Obj) := fun p n c => (b69, .cells #[.string pn.2.name] 9 (0, 0)) :: (b50, .cells #[.int .i64 pn.2.op, .string pn.2.name, .int .i64 pn.2.v.k, .int .i64 pn.2.v.n, .string pn.2.v.s, .slice np nn ncap] 29 (0, 0)) :: fs 1 p n c
      have H5 : Hold w w70 ((L p n c ++ rr) ++ gs) [] := H5
      have H6 := hr.toRow (H5.perm (fs' := rr ++ (L p n c ++ gs)) (by rw [← List.append_assoc]; exact List.perm_append_comm.append_right gs))
      have hrl := (H6.row 0 rfl).len
      rw [texts_len, Nat.mul_one, Nat.mul_one] at hrl
      obtain ⟨p1, c1, w75, hrun, H7⟩ := H6.append (ty := 35) (P := Tryd.prog) (q := some ⟨b69, 0, none⟩) (m := 1) (d' := 1) (news := encT pn.2.name) 0 rfl undTexts tyText rfl (by decide) (H6.blk 0 rfl).at rfl (fun e => by cases e) encT_one (by dsimp only; omega) (by unfold maxLen; omega)
      refine ⟨_, _, _, _, hrun, ⟨_, H7.get 6 rfl rfl⟩, H7.frz 6 rfl, ?_⟩
      intro w77 hS
      have H8 := H7.put 6 rfl hS
      have e1 : (nmW ((walkT x 1).take k)).flatMap encT ++ encT pn.2.name = (nmW ((walkT x 1).take (k + 1))).flatMap encT := by rw [hstep, List.flatMap_append]; simp
      rw [e1] at H8
      have H8 : Hold w w77 (L p1 (n + 1) c1 ++ gs) [⟨9, 1, p1, n + 1, c1, (nmW ((walkT x 1).take (k + 1))).flatMap encT⟩] := H8
      obtain ⟨rr', hr', H9⟩ := RowF.ofRow H8
      have H9 : Hold w w77 ((L p1 (n + 1) c1 ++ rr') ++ gs) [] := H9.perm (by rw [← List.append_assoc]; exact List.perm_append_comm.append_right gs)
      refine ⟨H9.loop 2 rfl, yes _ _ ⟨p1, n + 1, c1, rr', rfl, hr'⟩ ?_⟩
      exact (H9.turn 2 0 rfl).tail.tail
    · rw [if_neg ho, List.append_nil] at hstep
      refine ⟨H4.loop 1 rfl, yes _ _ ⟨p, n, c, rr, rfl, by rw [hstep]; exact hr⟩ ?_⟩
      exact (H4.turn 1 0 rfl).tail
  · rintro e W3 ⟨rfl, ⟨f, ⟨p, n, c, rr, rfl, hr⟩, H⟩ | ⟨_, h, _⟩⟩
    · refine ⟨⟨_, rfl⟩, .inl ⟨H.loop 0 rfl, ?_⟩⟩
      have H2 := H.turn 0 2 rfl
      have H2 : Hold w (Go.Vc.turn r l 2 W3) ((fs 2 p n c ++ rr) ++ []) [] := H2
      rw [List.take_of_length_le (Nat.le_refl _)] at hr
      have hnames : nmW (walkT x 1) = namesT x := by unfold nmW namesT; rw [hwalk]
      rw [hnames, enc_names] at hr
      have H3 := hr.toRow (H2.perm (fs' := rr ++ (fs 2 p n c ++ [])) (by rw [List.append_nil, List.append_nil]; exact List.perm_append_comm))
      have hn : n ≤ 1000 := by
        have := (H3.row 0 rfl).len
        have h2 := names_le x
        have h3 := hfp.2.2
        simp at this
        omega
      refine ⟨_, _, _, H3.get 4 rfl rfl, (Hold.sorted H3 hn).mono ?_⟩
      rintro e W4 ⟨rfl, H4⟩
      refine ⟨rfl, _, _, _, H4.get 4 rfl rfl, (Hold.compacted H4 hn).mono ?_⟩
      rintro e W5 ⟨k, rfl, hTs, H5, hap⟩
      refine ⟨_, _, _, rfl, H5.dfr 1 rfl, _, _, _, rfl, ?_, (H5.shut 1 rfl).ext⟩
      rw [← uses_back]
      refine hTs.kept fun b o hb hlt => shut_but.1.block b hlt fun e => ?_
      exact hap 1 _ rfl b o hb e.symm
    · exact h.elim
end Go.Proofs.YtdephmdfdgclpaaDoor

/- The contracts of the document's answer for expressions: kinds. -/
namespace Go.Proofs.YtdephmdfdgclpaaDoor
open Go Go.Vc Go.RowKit
set_option maxRecDepth 20000

end Go.Proofs.YtdephmdfdgclpaaDoor

/- The contracts of the document's answer for expressions: numbers, truths. -/
namespace Go.Proofs.YtdephmdfdgclpaaDoor
open Go Go.Vc Go.RowKit
set_option maxRecDepth 20000

end Go.Proofs.YtdephmdfdgclpaaDoor

/- The contracts of the document's answer for expressions: a node of two kids. -/
namespace Go.Proofs.YtdephmdfdgclpaaDoor
open Go Go.Vc Go.RowKit
set_option maxRecDepth 20000

def bothF (a b : Val) (strong : Int) : Val :=
  if (a.k = 2 ∧ a.n = strong) ∨ (b.k = 2 ∧ b.n = strong) then truthV (decide (strong = 1)) else if a.k = 0 ∨ b.k = 0 then nullV else truthV (decide (strong = 0))
end Go.Proofs.YtdephmdfdgclpaaDoor

/- The contracts of the document's answer for expressions: values. -/
namespace Go.Proofs.YtdephmdfdgclpaaDoor
open Go Go.Vc Go.RowKit
set_option maxRecDepth 20000

end Go.Proofs.YtdephmdfdgclpaaDoor

/- The contract of the document's Eval. -/
namespace Go.Proofs.YtdephmdfdgclpaaDoor
open Go Go.Vc Go.RowKit
set_option maxRecDepth 20000

end Go.Proofs.YtdephmdfdgclpaaDoor

/- The verification conditions of the functions, evaluated: printed by program. -/
namespace Go.Proofs.YtdephmdfdgclpaaDoor
open Go Go.Vc
set_option maxRecDepth 20000

set_option maxRecDepth 100000 in
def lnum_T (n : Int) (w : World) (R : Ending → World → Prop) : Prop :=
  ∀ b1 w'2, New w
 (Obj.cells
 #[.int .i64 0, .string ⟨#[]⟩, .int .i64 0, .int .i64 0, .string ⟨#[]⟩, .slice none 0 0] 29)
 b1 w'2 → (∃ u4, w'2.cell? ⟨b1, 0, none⟩ = some u4) ∧ w'2.frozen? ⟨b1, 0, none⟩ = false ∧ (∃ u5, w'2.cell? ⟨b1, 1, none⟩ = some u5) ∧ w'2.frozen? ⟨b1, 1, none⟩ = false ∧ (∃ u6, w'2.cell? ⟨b1, 2, none⟩ = some u6) ∧ w'2.frozen? ⟨b1, 2, none⟩ = false ∧ (∃ u7, w'2.cell? ⟨b1, 3, none⟩ = some u7) ∧ w'2.frozen? ⟨b1, 3, none⟩ = false ∧ (∃ u8, w'2.cell? ⟨b1, 4, none⟩ = some u8) ∧ w'2.frozen? ⟨b1, 4, none⟩ = false ∧ (∃ u9, w'2.cell? ⟨b1, 5, none⟩ = some u9) ∧ w'2.frozen? ⟨b1, 5, none⟩ = false ∧ ∀ w'10, Put w'2 b1 0
 [.int .i64 2, .string ⟨#[]⟩, .int .i64 1, .int .i64 n, .string ⟨#[]⟩, .slice none 0 0] w'10 → ∃ n12, w'10.cell? ⟨b1, 0, none⟩ = some (.int .i64 n12) ∧ ∃ s13, w'10.cell? ⟨b1, 1, none⟩ = some (.string s13) ∧ ∃ n14, w'10.cell? ⟨b1, 2, none⟩ = some (.int .i64 n14) ∧ ∃ n15, w'10.cell? ⟨b1, 3, none⟩ = some (.int .i64 n15) ∧ ∃ s16, w'10.cell? ⟨b1, 4, none⟩ = some (.string s16) ∧ ∃ p17 n18 c19, w'10.cell? ⟨b1, 5, none⟩ = some (.slice p17 n18 c19) ∧ R
 (.returned
 (.agg #[.int .i64 n12, .string s13, .int .i64 n14, .int .i64 n15, .string s16, .slice p17 n18 c19]))
 w'10

set_option maxRecDepth 100000 in
theorem lnum_eq (n : Int) (w : World) (R : Ending → World → Prop) : lnum_T n w R = vcFn Tryd.prog [] [] Tryd.f25 [.int .i64 n] w R := by kernel_rfl

set_option maxRecDepth 100000 in
theorem lnum_vc (n : Int) (w : World) (R : Ending → World → Prop) (hvc : lnum_T n w R) : Calls Tryd.prog 25 #[.int .i64 n] w R :=
  calls_of_vc (args := [.int .i64 n]) [] [] Tryd.mixed Tryd.func25 (cast (lnum_eq _ w R) hvc)

set_option maxRecDepth 100000 in
def ltwo_T (op : Int) (a0 : Int) (a1 : ByteArray) (a2 : Int) (a3 : Int) (a4 : ByteArray) (a5_p : Option Addr) (a5_n : Nat) (a5_c : Nat) (b0 : Int) (b1 : ByteArray) (b2 : Int) (b3 : Int) (b4 : ByteArray) (b5_p : Option Addr) (b5_n : Nat) (b5_c : Nat) (w : World) (R : Ending → World → Prop) : Prop :=
  ∀ b1_1 w'2, New w (Obj.cells #[.int .i64 a0, .string a1, .int .i64 a2, .int .i64 a3, .string a4, .slice a5_p a5_n a5_c] 29) b1_1
 w'2 → ∀ b4_1 w'5, New w'2 (Obj.cells #[.int .i64 b0, .string b1, .int .i64 b2, .int .i64 b3, .string b4, .slice b5_p b5_n b5_c] 29) b4_1
 w'5 → ∀ b7 w'8, New w'5
 (Obj.cells
 #[.int .i64 0, .string ⟨#[]⟩, .int .i64 0, .int .i64 0, .string ⟨#[]⟩, .slice none 0 0] 29)
 b7 w'8 → ∃ n10, w'8.cell? ⟨b1_1, 0, none⟩ = some (.int .i64 n10) ∧ ∃ s11, w'8.cell? ⟨b1_1, 1, none⟩ = some (.string s11) ∧ ∃ n12, w'8.cell? ⟨b1_1, 2, none⟩ = some (.int .i64 n12) ∧ ∃ n13, w'8.cell? ⟨b1_1, 3, none⟩ = some (.int .i64 n13) ∧ ∃ s14, w'8.cell? ⟨b1_1, 4, none⟩ = some (.string s14) ∧ ∃ p15 n16 c17, w'8.cell? ⟨b1_1, 5, none⟩ = some (.slice p15 n16 c17) ∧ ∃ n18, w'8.cell? ⟨b4_1, 0, none⟩ = some (.int .i64 n18) ∧ ∃ s19, w'8.cell? ⟨b4_1, 1, none⟩ = some (.string s19) ∧ ∃ n20, w'8.cell? ⟨b4_1, 2, none⟩ = some (.int .i64 n20) ∧ ∃ n21, w'8.cell? ⟨b4_1, 3, none⟩ = some (.int .i64 n21) ∧ ∃ s22, w'8.cell? ⟨b4_1, 4, none⟩ = some (.string s22) ∧ ∃ p23 n24 c25, w'8.cell? ⟨b4_1, 5, none⟩ = some (.slice p23 n24 c25) ∧ ∀ b26 w'27, New w'8
 (Obj.cells
 #[.int .i64 n10, .string s11, .int .i64 n12, .int .i64 n13, .string s14, .slice p15 n16 c17, .int .i64 n18, .string s19, .int .i64 n20, .int .i64 n21, .string s22, .slice p23 n24 c25]
 29)
 b26 w'27 → (∃ u29, w'27.cell? ⟨b7, 0, none⟩ = some u29) ∧ w'27.frozen? ⟨b7, 0, none⟩ = false ∧ (∃ u30, w'27.cell? ⟨b7, 1, none⟩ = some u30) ∧ w'27.frozen? ⟨b7, 1, none⟩ = false ∧ (∃ u31, w'27.cell? ⟨b7, 2, none⟩ = some u31) ∧ w'27.frozen? ⟨b7, 2, none⟩ = false ∧ (∃ u32, w'27.cell? ⟨b7, 3, none⟩ = some u32) ∧ w'27.frozen? ⟨b7, 3, none⟩ = false ∧ (∃ u33, w'27.cell? ⟨b7, 4, none⟩ = some u33) ∧ w'27.frozen? ⟨b7, 4, none⟩ = false ∧ (∃ u34, w'27.cell? ⟨b7, 5, none⟩ = some u34) ∧ w'27.frozen? ⟨b7, 5, none⟩ = false ∧ ∀ w'35, Put w'27 b7 0
 [.int .i64 op, .string ⟨#[]⟩, .int .i64 0, .int .i64 0, .string ⟨#[]⟩, .slice (some ⟨b26, 0, none⟩) 2 2]
 w'35 → ∃ n37, w'35.cell? ⟨b7, 0, none⟩ = some (.int .i64 n37) ∧ ∃ s38, w'35.cell? ⟨b7, 1, none⟩ = some (.string s38) ∧ ∃ n39, w'35.cell? ⟨b7, 2, none⟩ = some (.int .i64 n39) ∧ ∃ n40, w'35.cell? ⟨b7, 3, none⟩ = some (.int .i64 n40) ∧ ∃ s41, w'35.cell? ⟨b7, 4, none⟩ = some (.string s41) ∧ ∃ p42 n43 c44, w'35.cell? ⟨b7, 5, none⟩ = some (.slice p42 n43 c44) ∧ R
 (.returned
 (.agg #[.int .i64 n37, .string s38, .int .i64 n39, .int .i64 n40, .string s41, .slice p42 n43 c44]))
 w'35

set_option maxRecDepth 100000 in
theorem ltwo_eq (op : Int) (a0 : Int) (a1 : ByteArray) (a2 : Int) (a3 : Int) (a4 : ByteArray) (a5_p : Option Addr) (a5_n : Nat) (a5_c : Nat) (b0 : Int) (b1 : ByteArray) (b2 : Int) (b3 : Int) (b4 : ByteArray) (b5_p : Option Addr) (b5_n : Nat) (b5_c : Nat) (w : World) (R : Ending → World → Prop) : ltwo_T op a0 a1 a2 a3 a4 a5_p a5_n a5_c b0 b1 b2 b3 b4 b5_p b5_n b5_c w R = vcFn Tryd.prog [] [] Tryd.f24 [.int .i64 op, Value.agg
 #[.int .i64 a0, .string a1, .int .i64 a2, .int .i64 a3, .string a4, .slice a5_p a5_n a5_c], Value.agg
 #[.int .i64 b0, .string b1, .int .i64 b2, .int .i64 b3, .string b4, .slice b5_p b5_n b5_c]] w R := by kernel_rfl

set_option maxRecDepth 100000 in
theorem ltwo_vc (op : Int) (a0 : Int) (a1 : ByteArray) (a2 : Int) (a3 : Int) (a4 : ByteArray) (a5_p : Option Addr) (a5_n : Nat) (a5_c : Nat) (b0 : Int) (b1 : ByteArray) (b2 : Int) (b3 : Int) (b4 : ByteArray) (b5_p : Option Addr) (b5_n : Nat) (b5_c : Nat) (w : World) (R : Ending → World → Prop) (hvc : ltwo_T op a0 a1 a2 a3 a4 a5_p a5_n a5_c b0 b1 b2 b3 b4 b5_p b5_n b5_c w R) : Calls Tryd.prog 24 #[.int .i64 op, Value.agg
 #[.int .i64 a0, .string a1, .int .i64 a2, .int .i64 a3, .string a4, .slice a5_p a5_n a5_c], Value.agg
 #[.int .i64 b0, .string b1, .int .i64 b2, .int .i64 b3, .string b4, .slice b5_p b5_n b5_c]] w R :=
  calls_of_vc (args := [.int .i64 op, Value.agg
 #[.int .i64 a0, .string a1, .int .i64 a2, .int .i64 a3, .string a4, .slice a5_p a5_n a5_c], Value.agg
 #[.int .i64 b0, .string b1, .int .i64 b2, .int .i64 b3, .string b4, .slice b5_p b5_n b5_c]]) [] [] Tryd.mixed Tryd.func24 (cast (ltwo_eq _ _ _ _ _ _ _ _ _ _ _ _ _ _ _ _ _ w R) hvc)

set_option maxRecDepth 100000 in
def shown_T (w : World) (R : Ending → World → Prop) : Prop :=
  ∀ b1 w'2, New w (Obj.cells #[.string (ByteArray.mk #[98]), .int .i64 1, .bool false] 50) b1 w'2 → ∀ b4 w'5, New w'2 (Obj.cells #[.int .i64 1, .int .i64 3, .string ⟨#[]⟩] 26) b4 w'5 → Calls Tryd.prog 25 #[.int .i64 2] w'5 fun e7 w8 ↦
 ∃ n9, ∃ s10, ∃ n11, ∃ n12, ∃ s13, ∃ p14 n15 c16, e7 =
 .returned
 (.agg #[.int .i64 n9, .string s10, .int .i64 n11, .int .i64 n12, .string s13, .slice p14 n15 c16]) ∧ Calls Tryd.prog 24
 #[.int .i64 5, Value.agg
 #[.int .i64 1, .string (ByteArray.mk #[98]), .int .i64 0, .int .i64 0, .string ⟨#[]⟩, .slice none 0 0], .agg #[.int .i64 n9, .string s10, .int .i64 n11, .int .i64 n12, .string s13, .slice p14 n15 c16]]
 w8 fun e17 w18 ↦
 ∃ n19, ∃ s20, ∃ n21, ∃ n22, ∃ s23, ∃ p24 n25 c26, e17 =
 .returned
 (.agg #[.int .i64 n19, .string s20, .int .i64 n21, .int .i64 n22, .string s23, .slice p24 n25 c26]) ∧ Calls Tryd.prog 25 #[.int .i64 1] w18 fun e27 w28 ↦
 ∃ n29, ∃ s30, ∃ n31, ∃ n32, ∃ s33, ∃ p34 n35 c36, e27 =
 .returned
 (.agg #[.int .i64 n29, .string s30, .int .i64 n31, .int .i64 n32, .string s33, .slice p34 n35 c36]) ∧ Calls Tryd.prog 24
 #[.int .i64 3, .agg #[.int .i64 n19, .string s20, .int .i64 n21, .int .i64 n22, .string s23, .slice p24 n25 c26], .agg #[.int .i64 n29, .string s30, .int .i64 n31, .int .i64 n32, .string s33, .slice p34 n35 c36]]
 w28 fun e37 w38 ↦
 ∃ n39, ∃ s40, ∃ n41, ∃ n42, ∃ s43, ∃ p44 n45 c46, e37 =
 .returned
 (.agg #[.int .i64 n39, .string s40, .int .i64 n41, .int .i64 n42, .string s43, .slice p44 n45 c46]) ∧ Calls Tryd.prog 16
 #[.slice (some ⟨b1, 0, none⟩) 1 1, .slice (some ⟨b4, 0, none⟩) 1 1, .agg #[.int .i64 n39, .string s40, .int .i64 n41, .int .i64 n42, .string s43, .slice p44 n45 c46]]
 w38 fun e47 w48 ↦
 ∃ n49, ∃ n50, ∃ s51, ∃ n52, e47 = .returned (.tuple #[.agg #[.int .i64 n49, .int .i64 n50, .string s51], .int .i64 n52]) ∧ ∀ b53 w'54, New w48 (Obj.cells #[.int .i64 0, .int .i64 0, .string ⟨#[]⟩] 26) b53 w'54 → (∃ u56, w'54.cell? ⟨b53, 0, none⟩ = some u56) ∧ w'54.frozen? ⟨b53, 0, none⟩ = false ∧ (∃ u57, w'54.cell? ⟨b53, 1, none⟩ = some u57) ∧ w'54.frozen? ⟨b53, 1, none⟩ = false ∧ (∃ u58, w'54.cell? ⟨b53, 2, none⟩ = some u58) ∧ w'54.frozen? ⟨b53, 2, none⟩ = false ∧ ∀ w'59, Put w'54 b53 0 [.int .i64 n49, .int .i64 n50, .string s51] w'59 → (n52 = 0 → ∃ n62, w'59.cell? ⟨b53, 0, none⟩ = some (.int .i64 n62) ∧ ∃ n63, w'59.cell? ⟨b53, 1, none⟩ = some (.int .i64 n63) ∧ ∃ s64, w'59.cell? ⟨b53, 2, none⟩ = some (.string s64) ∧ R (.returned (.bool (decide (n62 = Int.ofNat 1) && (decide (n63 = Int.ofNat 7) && sEq s64 ⟨#[]⟩)))) w'59) ∧ (n52 ≠ 0 → R (.returned (.bool false)) w'59)

set_option maxRecDepth 100000 in
theorem shown_eq (w : World) (R : Ending → World → Prop) : shown_T w R = vcFn Tryd.prog [] [] Tryd.f11 [] w R := by kernel_rfl

set_option maxRecDepth 100000 in
theorem shown_vc (w : World) (R : Ending → World → Prop) (hvc : shown_T w R) : Calls Tryd.prog 11 #[] w R :=
  calls_of_vc (args := []) [] [] Tryd.mixed Tryd.func11 (cast (shown_eq w R) hvc)


end Go.Proofs.YtdephmdfdgclpaaDoor

/- The contracts of the laws' own helpers: nodes that are built. -/
namespace Go.Proofs.YtdephmdfdgclpaaDoor
open Go Go.Vc Go.RowKit
set_option maxRecDepth 20000

/-- Six cells are written into a variable and read out of it. -/
theorem Hold.ret6 {w0 W : World} {fs : List (Nat × Obj)} {ms : List Row} {b : Nat} {t : TypeId} {x0 x1 x2 x3 x4 x5 : Value} {X : Int → ByteArray → Int → Int → ByteArray → Option Addr → Nat → Nat → World → Prop} (H : Hold w0 W fs ms) (i : Nat) (hi : fs[i]? = some (b, .cells #[x0, x1, x2, x3, x4, x5] t (0, 0)))
    (k0 : Int) (k1 : ByteArray) (k2 k3 : Int) (k4 : ByteArray) (p : Option Addr) (n c : Nat)
    (hX : ∀ W', Ext w0 W' → (∀ b', b' ≠ b → b' < W.heap.size → W'.heap[b']? = W.heap[b']?) → X k0 k1 k2 k3 k4 p n c W') : (∃ u, W.cell? ⟨b, 0, none⟩ = some u) ∧ W.frozen? ⟨b, 0, none⟩ = false ∧ (∃ u, W.cell? ⟨b, 1, none⟩ = some u) ∧ W.frozen? ⟨b, 1, none⟩ = false ∧ (∃ u, W.cell? ⟨b, 2, none⟩ = some u) ∧ W.frozen? ⟨b, 2, none⟩ = false ∧
    (∃ u, W.cell? ⟨b, 3, none⟩ = some u) ∧ W.frozen? ⟨b, 3, none⟩ = false ∧ (∃ u, W.cell? ⟨b, 4, none⟩ = some u) ∧ W.frozen? ⟨b, 4, none⟩ = false ∧ (∃ u, W.cell? ⟨b, 5, none⟩ = some u) ∧ W.frozen? ⟨b, 5, none⟩ = false ∧
    ∀ W' : World, Put W b 0 [.int .i64 k0, .string k1, .int .i64 k2, .int .i64 k3, .string k4, .slice p n c] W' → ∃ y0 : Int, W'.cell? ⟨b, 0, none⟩ = some (.int .i64 y0) ∧ ∃ y1 : ByteArray, W'.cell? ⟨b, 1, none⟩ = some (.string y1) ∧ ∃ y2 : Int, W'.cell? ⟨b, 2, none⟩ = some (.int .i64 y2) ∧
      ∃ y3 : Int, W'.cell? ⟨b, 3, none⟩ = some (.int .i64 y3) ∧ ∃ y4 : ByteArray, W'.cell? ⟨b, 4, none⟩ = some (.string y4) ∧ ∃ (q : Option Addr) (m d : Nat), W'.cell? ⟨b, 5, none⟩ = some (.slice q m d) ∧ X y0 y1 y2 y3 y4 q m d W' := by
  have B := H.blk i hi
  refine B.w6 fun W' h => ?_
  have H' := H.put i hi h
  have B' : Blk W' b t #[.int .i64 k0, .string k1, .int .i64 k2, .int .i64 k3, .string k4, .slice p n c] := B.put h
  obtain ⟨a0, a1, a2, a3, a4, a5⟩ := B'.c6
  exact ⟨_, a0, _, a1, _, a2, _, a3, _, a4, _, _, _, a5, hX W' H'.ext fun b' hb hlt => h.but.block b' hlt hb⟩

def numE (n : Int) : Ex := .mk 2 ⟨#[]⟩ (numV n) []
def oneE (op : Int) (a : Ex) : Ex := .mk op ⟨#[]⟩ nullV [a]
def twoE (op : Int) (a b : Ex) : Ex := .mk op ⟨#[]⟩ nullV [a, b]
theorem ExAt.len {w : World} {x : Ex} {cs : List Value} (h : ExAt w x cs) : cs.length = 6 := by obtain ⟨p, n, c, rfl, _⟩ := h.six; rfl
theorem lnum_ok (n : Int) (w : World) : Calls Tryd.prog 25 #[.int .i64 n] w fun e w' => ∃ cs, e = .returned (.agg cs.toArray) ∧ ExAt w' (numE n) cs ∧ Ext w w' := by
  apply lnum_vc
  unfold lnum_T
  intro b1 w2 h1
  have H := (Hold.start (Ext.rfl (w := w))).new h1
  refine Hold.ret6 H 0 rfl _ _ _ _ _ _ _ _ fun W' hx _ => ⟨[.int .i64 2, .string ⟨#[]⟩, .int .i64 1, .int .i64 n, .string ⟨#[]⟩, .slice none 0 0], rfl, ?_, hx⟩
  unfold numE ExAt
  exact ⟨none, 0, 0, [], rfl, ⟨Nat.le_refl _, Nat.zero_le _⟩, fun _ => ⟨rfl, rfl⟩, rfl, by simp, .inl rfl, by unfold ExsAt; trivial⟩
theorem ltwo_ok (op : Int) {a b : Ex} {w : World} {ca cb : List Value} (ha : ExAt w a ca) (hb : ExAt w b cb) : Calls Tryd.prog 24 #[.int .i64 op, .agg ca.toArray, .agg cb.toArray] w fun e w' => ∃ cs, e = .returned (.agg cs.toArray) ∧ ExAt w' (twoE op a b) cs ∧ Ext w w' := by
  obtain ⟨pa, na, cca, rfl, _⟩ := ha.six
  obtain ⟨pb, nb, ccb, rfl, _⟩ := hb.six
  apply ltwo_vc
  unfold ltwo_T
  intro b1 w2 h1 b4 w5 h4 b7 w8 h7
  have H8 := (((Hold.start (Ext.rfl (w := w))).new h1).new h4).new h7
  have Ba : Blk w8 b1 29 #[.int .i64 a.op, .string a.name, .int .i64 a.v.k, .int .i64 a.v.n, .string a.v.s, .slice pa na cca] := H8.blk 2 rfl
  have Bb : Blk w8 b4 29 #[.int .i64 b.op, .string b.name, .int .i64 b.v.k, .int .i64 b.v.n, .string b.v.s, .slice pb nb ccb] := H8.blk 1 rfl
  obtain ⟨a0, a1, a2, a3, a4, a5⟩ := Ba.c6
  obtain ⟨b0, b1', b2, b3, b4', b5⟩ := Bb.c6
  refine ⟨_, a0, _, a1, _, a2, _, a3, _, a4, _, _, _, a5, _, b0, _, b1', _, b2, _, b3, _, b4', _, _, _, b5, fun b26 w27 h26 => ?_⟩
  have H27 := H8.new h26
  refine Hold.ret6 H27 1 rfl _ _ _ _ _ _ _ _ fun W' hx hk => ⟨[.int .i64 op, .string ⟨#[]⟩, .int .i64 0, .int .i64 0, .string ⟨#[]⟩, .slice (some ⟨b26, 0, none⟩) 2 2], rfl, ?_, hx⟩
  have hne : b26 ≠ b7 := H27.keys 0 1 _ _ rfl rfl (by decide)
  have hB : Blk W' b26 29 _ := (hk b26 hne (H27.lt 0 rfl)).trans (H27.blk 0 rfl)
  unfold twoE ExAt
  refine ⟨some ⟨b26, 0, none⟩, 2, 2, [[.int .i64 a.op, .string a.name, .int .i64 a.v.k, .int .i64 a.v.n, .string a.v.s, .slice pa na cca], [.int .i64 b.op, .string b.name, .int .i64 b.v.k, .int .i64 b.v.n, .string b.v.s, .slice pb nb ccb]], rfl, ⟨Nat.le_refl _, by decide⟩, fun h => (by cases h), rfl, ?_, hB.at, ?_⟩
  · intro x hx
    simp only [List.mem_cons, List.not_mem_nil, or_false] at hx
    rcases hx with rfl | rfl <;> rfl
  · unfold ExsAt
    refine ⟨ha.ext hx, ?_⟩
    unfold ExsAt
    exact ⟨hb.ext hx, by unfold ExsAt; trivial⟩
end Go.Proofs.YtdephmdfdgclpaaDoor

/- The contracts of the laws of package expr. -/
namespace Go.Proofs.YtdephmdfdgclpaaDoor
open Go Go.Vc Go.RowKit
set_option maxRecDepth 20000

def shownC : List Col := [⟨⟨#[98]⟩, 1, false⟩]
def shownR : List Val := [numV 3]
def shownX : Ex := twoE 3 (twoE 5 (.mk 1 ⟨#[98]⟩ nullV []) (numE 2)) (numE 1)
theorem shown_val : evalF shownC shownR shownX = (numV 7, 0) := by decide +kernel
theorem shown_ok {w : World} (hT : Tab w) (hT2 : Tab2 w) : Calls Tryd.prog 11 #[] w fun e w' => e = .returned (.bool true) ∧ Ext w w' := by
  apply shown_vc
  unfold shown_T
  intro b1 w2 h1 b4 w5 h4
  have H5 := ((Hold.start (Ext.rfl (w := w))).new h1).new h4
  refine (lnum_ok 2 w5).mono ?_
  rintro e w8 ⟨c2, rfl, x2, e8⟩
  have hb : ExAt w8 (.mk 1 ⟨#[98]⟩ nullV []) [.int .i64 1, .string ⟨#[98]⟩, .int .i64 0, .int .i64 0, .string ⟨#[]⟩, .slice none 0 0] := by
    unfold ExAt
    exact ⟨none, 0, 0, [], rfl, ⟨Nat.le_refl _, Nat.zero_le _⟩, fun _ => ⟨rfl, rfl⟩, rfl, by simp, .inl rfl, by unfold ExsAt; trivial⟩
  obtain ⟨p2, n2, d2, rfl, _⟩ := x2.six
  refine ⟨_, _, _, _, _, _, _, _, rfl, (ltwo_ok 5 hb x2).mono ?_⟩
  rintro e w18 ⟨c3, rfl, x3, e18⟩
  obtain ⟨p3, n3, d3, rfl, _⟩ := x3.six
  refine ⟨_, _, _, _, _, _, _, _, rfl, (lnum_ok 1 w18).mono ?_⟩
  rintro e w28 ⟨c4, rfl, x4, e28⟩
  obtain ⟨p4, n4, d4, rfl, _⟩ := x4.six
  refine ⟨_, _, _, _, _, _, _, _, rfl, (ltwo_ok 3 (x3.ext e28) x4).mono ?_⟩
  rintro e w38 ⟨c5, rfl, x5, e38⟩
  obtain ⟨p5, n5, d5, rfl, _⟩ := x5.six
  have H38 := (((H5.step e8).step e18).step e28).step e38
  have hc : Cols w38 (some ⟨b1, 0, none⟩) 1 1 shownC := ⟨rfl, ⟨Nat.le_refl _, by decide⟩, (H38.blk 1 rfl).at, fun h => by cases h⟩
  have hr : Vs w38 (some ⟨b4, 0, none⟩) 1 1 shownR := ⟨rfl, ⟨Nat.le_refl _, by decide⟩, (H38.blk 0 rfl).at, fun h => by cases h⟩
  refine ⟨_, _, _, _, _, _, _, _, rfl, (xEval_ok shownX (hT.ext H38.ext) (hT2.ext H38.ext) hc hr x5 (by decide) (by decide)).mono ?_⟩
  rintro e w48 ⟨rfl, e48⟩
  rw [shown_val]
  have H48 := H38.step e48
  refine ⟨_, _, _, _, rfl, fun b53 w54 h53 => ?_⟩
  have H54 := H48.new h53
  obtain ⟨q0, q1, q2⟩ := (H54.blk 0 rfl).c3
  refine ⟨⟨_, q0⟩, (H54.blk 0 rfl).frozen _, ⟨_, q1⟩, (H54.blk 0 rfl).frozen _, ⟨_, q2⟩, (H54.blk 0 rfl).frozen _, fun w59 h59 => ?_⟩
  have H59 := H54.put 0 rfl h59
  have B : Blk w59 b53 26 #[.int .i64 1, .int .i64 7, .string ⟨#[]⟩] := H59.blk 0 rfl
  obtain ⟨q0, q1, q2⟩ := B.c3
  refine ⟨fun _ => ⟨_, q0, _, q1, _, q2, ?_, H59.ext⟩, fun h => absurd rfl h⟩
  rw [sEq_self]; rfl

end Go.Proofs.YtdephmdfdgclpaaDoor

/- An argument that is an expression, opened. -/
namespace Go.Vc
open Go Go.RowKit

theorem ArgF.fields {n : Nat} {P : Program} {w : World} {t : TypeId} {cs : List Value} {l : List (TypeId × Nat)} (hu : structOf P t = some l) (h : ArgF (n + 1) P w t cs) :
    cs.length = P.cellsOf t ∧ ∀ x ∈ l, ArgF n P w x.1 ((cs.drop x.2).take (P.cellsOf x.1)) := by
  unfold structOf at hu
  split at hu
  · rename_i fs hfs
    cases hu
    obtain ⟨h1, h2⟩ := ArgF.struct hfs h
    refine ⟨h1, fun x hx => ?_⟩
    obtain ⟨f, hf, rfl⟩ := List.mem_map.1 hx
    exact h2 f hf
  · cases hu
theorem ExsAt.all {w : World} : ∀ (css : List (List Value)), (∀ c ∈ css, ∃ x, ExAt w x c ∧ ∀ y ∈ nodesT x, fitI y.v.n) → ∃ xs, ExsAt w xs css ∧ ∀ y ∈ nodesTs xs, fitI y.v.n
  | [], _ => ⟨[], by unfold ExsAt; trivial, fun y hy => by unfold nodesTs at hy; cases hy⟩
  | c :: r, h => by
    obtain ⟨x, h1, h2⟩ := h c (by simp)
    obtain ⟨xs, h3, h4⟩ := ExsAt.all r fun q hq => h q (by simp [hq])
    refine ⟨x :: xs, by unfold ExsAt; exact ⟨h1, h3⟩, fun y hy => ?_⟩
    unfold nodesTs at hy
    rcases List.mem_append.1 hy with hy | hy
    · exact h2 y hy
    · exact h4 y hy
theorem arg_ex {P : Program} {w : World} {t ti ts tv tk : TypeId} (hu : structOf P t = some [(ti, 0), (ts, 1), (tv, 2), (tk, 5)]) (hc : P.cellsOf t = 6) (h1 : P.cellsOf ti = 1) (h2 : P.cellsOf ts = 1) (h3 : P.cellsOf tv = 3) (h4 : P.cellsOf tk = 1)
    (u1 : P.underlying ti = some (.int .i64)) (u2 : P.underlying ts = some .string) (u4 : P.underlying tk = some (.slice t)) (hv : ∀ cs, Arg P w tv cs → ∃ v : Val, cs = v.cs ∧ v.fit) :
    ∀ (f : Nat) (cs : List Value), ArgF f P w t cs → ∃ x, ExAt w x cs ∧ ∀ y ∈ nodesT x, fitI y.v.n := by
  intro f
  induction f using Nat.strongRecOn with
  | ind f ih =>
  intro cs h
  obtain ⟨n, rfl⟩ := h.pos
  obtain ⟨hl, hf⟩ := h.fields hu
  rw [hc] at hl
  obtain ⟨a, b, c, d, e, g, rfl⟩ : ∃ a b c d e g, cs = [a, b, c, d, e, g] := by
    match cs, hl with
    | [a, b, c, d, e, g], _ => exact ⟨a, b, c, d, e, g, rfl⟩
  have f1 := hf (ti, 0) (by simp)
  have f2 := hf (ts, 1) (by simp)
  have f3 := hf (tv, 2) (by simp)
  have f4 := hf (tk, 5) (by simp)
  simp only [h1, h2, h3, h4] at f1 f2 f3 f4
  obtain ⟨op, e1, _⟩ := Arg.int u1 f1.arg
  obtain ⟨nm, e2, _⟩ := Arg.string u2 f2.arg
  obtain ⟨v, e3, hvf⟩ := hv _ f3.arg
  obtain ⟨m, rfl⟩ := f4.pos
  obtain ⟨p, k, cap, css, e4, hkc, hcm, _, hcl, hall, hat, hnil⟩ := ArgF.slice u4 (by omega) f4
  simp [Val.cs] at e1 e2 e3 e4
  obtain ⟨rfl, rfl, rfl⟩ := e3
  subst e1 e2 e4
  obtain ⟨xs, hxs, hxf⟩ := ExsAt.all (w := w) (css.take k) fun q hq => ih m (by omega) q (hall q (List.mem_of_mem_take hq)).2
  refine ⟨.mk op nm v xs, ?_, fun y hy => ?_⟩
  · unfold ExAt
    refine ⟨p, k, cap, css.take k, rfl, ⟨hkc, hcm⟩, hnil, by rw [List.length_take]; omega, fun q hq => by rw [(hall q (List.mem_of_mem_take hq)).1, hc], ?_, hxs⟩
    have hsplit : css.flatten = (css.take k).flatten ++ (css.drop k).flatten := by rw [← List.flatten_append, List.take_append_drop]
    have := hat.take ((css.take k).flatten.length)
    rw [hsplit, List.take_left] at this
    exact this
  · unfold nodesT at hy
    rcases List.mem_cons.1 hy with rfl | hy
    · exact hvf.2
    · exact hxf y hy
end Go.Vc

/- Tables of tables: what a row's list says of their cells. -/
namespace Go.Vc
open Go

theorem cells_of_arr {H α : Type} {enc : TypeId × Value → H} {P : Program} {w : World} {base : Nat} {sp : Nat → Bool} {held : Bool} {fuel : Nat} {t e : TypeId} {n s : Nat} {cs : List Value} {zs : List α} {p : List MemPlace} {D : α → DataW H} {C : α → List Value}
    (ht : P.underlying t = some (.array n e)) (hce : P.cellsOf e = s) (hct : P.cellsOf t = n * s) (hs : ∀ z, (C z).length = s) (h0 : 0 < s)
    (inner : ∀ fuel cs z p, cs.length = s → DataW.trod enc P w base sp held fuel e cs = some (D z, p) → cs = C z)
    (h : DataW.trod enc P w base sp held fuel t cs = some (.agg (zs.map D), p)) : cs = zs.flatMap C := by
  cases fuel with
  | zero => simp [DataW.trod] at h
  | succ fuel =>
    simp only [DataW.trod, ht, hce, hct] at h
    split at h
    · rename_i hl
      obtain ⟨xs, hm, hx⟩ := Option.map_eq_some_iff.1 h
      have hxs : xs.map (·.1) = zs.map D := by
        have := congrArg Prod.fst hx
        simpa using this
      have hxl : xs.length = n := by simpa using Lib.mapM_length hm
      have hzl : zs.length = n := by
        have := congrArg List.length hxs
        simp at this
        omega
      have key : ∀ i, i < n → ∃ z, zs[i]? = some z ∧ (cs.drop (i * s)).take s = C z := by
        intro i hi
        obtain ⟨b, hb, hf⟩ := Lib.mapM_at hm i i (by simp [hi])
        have h2 : (xs.map (·.1))[i]? = some b.1 := by simp [hb]
        rw [hxs, List.getElem?_map] at h2
        obtain ⟨z, hz, he⟩ := Option.map_eq_some_iff.1 h2
        refine ⟨z, hz, inner fuel _ z b.2 ?_ ?_⟩
        · have hmul : (i + 1) * s ≤ n * s := Nat.mul_le_mul_right _ (by omega)
          have e1 : (i + 1) * s = i * s + s := Nat.succ_mul i s
          simp only [List.length_take, List.length_drop]
          omega
        · rw [hf, he]
      -- both lists, piece by piece
      have go : ∀ (m : Nat) (zs : List α) (cs : List Value), zs.length = m → cs.length = m * s → (∀ i, i < m → ∃ z, zs[i]? = some z ∧ (cs.drop (i * s)).take s = C z) → cs = zs.flatMap C := by
        intro m
        induction m with
        | zero =>
          intro zs cs hz hc _
          rw [List.length_eq_zero_iff] at hz
          rw [Nat.zero_mul, List.length_eq_zero_iff] at hc
          rw [hz, hc]; rfl
        | succ m ih =>
          intro zs cs hz hc hk
          match zs, hz with
          | z :: r, hz =>
            have hcm : (m + 1) * s = m * s + s := Nat.succ_mul m s
            obtain ⟨z', hz', h1⟩ := hk 0 (by omega)
            cases hz'
            rw [Nat.zero_mul, List.drop_zero] at h1
            have := ih r (cs.drop s) (by simpa using hz) (by rw [List.length_drop]; omega) (fun i hi => by
              obtain ⟨y, hy, h2⟩ := hk (i + 1) (by omega)
              refine ⟨y, by simpa using hy, ?_⟩
              rw [List.drop_drop, ← h2]
              congr 2
              rw [Nat.succ_mul]; omega)
            rw [List.flatMap_cons, ← h1, ← this, List.take_append_drop]
      exact go n zs cs hzl (by simpa using hl) key
    · cases h
end Go.Vc

/- A row's list of tables, looked up by name; rows of three numbers. -/
namespace Go.Vc
open Go

theorem laid_get {P : Program} {w : World} : ∀ {laid : List (String × DataW Unit)} {ps : List MemPlace}, DataW.LaidVars P w laid ps → ∀ {n : String} {d : DataW Unit}, (n, d) ∈ laid →
    ∃ g t cs fuel p, P.globalNamed n = some g ∧ (P.globals[g]?).map (·.type) = some t ∧ w.var? P n = some cs ∧ DataW.trod (fun _ => ()) P w 0 (fun _ => true) false fuel t cs.toList = some (d, p)
  | [], _, _, n, d, hm => by cases hm
  | (m, e) :: r, ps, h, n, d, hm => by
    obtain ⟨g, t, cs, fuel, p, q, h1, h2, h3, h4, h5, _⟩ := h
    rcases List.mem_cons.1 hm with hm | hm
    · cases hm; exact ⟨g, t, cs, fuel, p, h1, h2, h3, h4⟩
    · exact laid_get h5 hm
theorem trod_three {H : Type} {enc : TypeId × Value → H} {P : Program} {w : World} {base : Nat} {sp : Nat → Bool} {held : Bool} {fuel : Nat} {e ti : TypeId} {k : IntKind} {cs : List Value} {a b c : Int} {p : List MemPlace}
    (hu : structOf P e = some [(ti, 0), (ti, 1), (ti, 2)]) (hi : P.underlying ti = some (.int k)) (h1 : P.cellsOf ti = 1) (hl : cs.length = 3)
    (h : DataW.trod enc P w base sp held fuel e cs = some (.agg [.lit (.int k a), .lit (.int k b), .lit (.int k c)], p)) : cs = [.int k a, .int k b, .int k c] := by
  cases fuel with
  | zero => simp [DataW.trod] at h
  | succ fuel =>
    unfold structOf at hu
    split at hu
    · rename_i fs hfs
      simp only [DataW.trod, hfs] at h
      split at h
      · cases hm : fs.toList.mapM fun f => DataW.trod enc P w base sp held fuel f.type ((cs.drop f.offset).take (P.cellsOf f.type)) with
        | none => rw [hm] at h; cases h
        | some xs =>
          rw [hm] at h
          simp only [Option.map_some, Option.some.injEq, Prod.mk.injEq] at h hu
          obtain ⟨hx, _⟩ := h
          replace hx : xs.map (·.1) = [.lit (.int k a), .lit (.int k b), .lit (.int k c)] := by first | exact hx | (injection hx)
          have hlen : fs.toList.length = 3 := by have := congrArg List.length hu; simpa using this
          have key : ∀ (i : Nat) (z : Int), i < 3 → (xs.map (·.1))[i]? = some (.lit (.int k z)) → cs[i]? = some (.int k z) := by
            intro i z hi3 hz
            have hf : fs.toList[i]? = some (fs.toList[i]'(by omega)) := List.getElem?_eq_getElem _
            generalize fs.toList[i]'(by omega) = f at hf
            obtain ⟨y, hy, hfy⟩ := Lib.mapM_at hm i f hf
            have hto : f.type = ti ∧ f.offset = i := by
              have := congrArg (·[i]?) hu
              simp only [List.getElem?_map, hf, Option.map_some] at this
              rcases (by omega : i = 0 ∨ i = 1 ∨ i = 2) with rfl | rfl | rfl <;> simpa using this
            rw [hto.1, hto.2, h1] at hfy
            obtain ⟨z', hc, rfl, _⟩ := DataW.trod_int hi hfy
            simp only [List.getElem?_map, hy, Option.map_some, Option.some.injEq, DataW.lit.injEq, Lit.int.injEq, true_and] at hz
            subst hz
            have := congrArg (·[0]?) hc
            simpa [List.getElem?_take, List.getElem?_drop] using this
          have c0 := key 0 a (by decide) (by rw [hx]; rfl)
          have c1 := key 1 b (by decide) (by rw [hx]; rfl)
          have c2 := key 2 c (by decide) (by rw [hx]; rfl)
          obtain ⟨x, y, z, rfl⟩ : ∃ x y z, cs = [x, y, z] := by
            match cs, hl with
            | [x, y, z], _ => exact ⟨x, y, z, rfl⟩
          cases c0
          cases c1
          cases c2
          rfl
      · cases h
    · cases hu
end Go.Vc

/- The laws ExprUses and ExprOthers. -/
namespace Go.Proofs.YtdephmdfdgclpaaDoor
open Go Go.Vc Go.RowKit
set_option maxRecDepth 20000
attribute [local irreducible] Calls Put Drew New

theorem lawUses_ok (a b : Ex) {w : World} {ca cb : List Value} (hT : Tab w) (hT2 : Tab2 w) (ha : ExAt w a ca) (hb : ExAt w b cb) :
    Calls Tryd.prog 4 #[.agg ca.toArray, .agg cb.toArray] w fun e w' => e = .returned (.bool true) ∧ Ext w w' := by
  obtain ⟨pa, na, da, rfl, _⟩ := ha.six
  obtain ⟨pb, nb, db, rfl, _⟩ := hb.six
  apply lawUses_vc
  unfold lawUses_T
  intro b1 w2 h1 b4 w5 h4
  have H := ((Hold.start (Ext.rfl (w := w))).new h1).new h4
  refine (shown_ok (hT.ext H.ext) (hT2.ext H.ext)).mono ?_
  rintro e W ⟨rfl, eX⟩
  replace H := H.step eX
  refine ⟨_, rfl, ?_⟩
  intro w10 hD
  replace H := H.step (Drew.ext hD)
  refine ⟨fun _ => ?_, fun h => (by cases h)⟩
  obtain ⟨a0, a1, a2, a3, a4, a5⟩ := Blk.c6 (H.blk 1 rfl)
  refine ⟨_, a0, _, a1, _, a2, _, a3, _, a4, _, _, _, a5, _, a0, _, a1, _, a2, _, a3, _, a4, _, _, _, a5, ?_⟩
  refine (xUses_ok a (hT.ext H.ext) (ha.ext H.ext)).mono ?_
  rintro e W1 ⟨q, k, d, rfl, hu, eX⟩
  replace H := H.step eX
  refine ⟨_, _, _, rfl, eX.same, (rUses_ok a (ha.ext H.ext)).mono ?_⟩
  rintro e W2 ⟨q2, k2, d2, rfl, hu2, eX⟩
  replace H := H.step eX
  refine ⟨_, _, _, rfl, (sametexts_ok (hu.ext eX) hu2).mono ?_⟩
  rintro e W3 ⟨rfl, eX⟩
  replace H := H.step eX
  refine ⟨_, rfl, fun _ => ?_, fun h => by simp at h⟩
  obtain ⟨a0, a1, a2, a3, a4, a5⟩ := Blk.c6 (H.blk 1 rfl)
  obtain ⟨e0, e1, e2, e3, e4, e5⟩ := Blk.c6 (H.blk 0 rfl)
  refine ⟨_, a0, _, a1, _, a2, _, a3, _, a4, _, _, _, a5, _, e0, _, e1, _, e2, _, e3, _, e4, _, _, _, e5, _, a0, _, a1, _, a2, _, a3, _, a4, _, _, _, a5, _, e0, _, e1, _, e2, _, e3, _, e4, _, _, _, e5, ?_⟩
  refine (xSame_ok a b (hT.ext H.ext) (ha.ext H.ext) (hb.ext H.ext)).mono ?_
  rintro e W4 ⟨rfl, eX⟩
  replace H := H.step eX
  refine ⟨_, rfl, eX.same, (rSame_ok a b (ha.ext H.ext) (hb.ext H.ext)).mono ?_⟩
  rintro e W5 ⟨rfl, eX⟩
  exact ⟨_, rfl, by simp, (H.step eX).ext⟩

theorem kind3 : structOf Tryd.prog 64 = some [(3, 0), (3, 1), (3, 2)] := by kernel_rfl
def shapeD (i : Nat) : DataW Unit := .agg [.lit (.int .i64 (manyOf i)), .lit (.int .i64 (wantOf i)), .lit (.int .i64 (kindOf i))]
theorem laid_shapes : Rows.laid_stackyard_expr_shapes (H := Unit) = .agg ((List.range 17).map shapeD) := by kernel_rfl
def rowsD (l : List (List Int)) : DataW Unit := .agg (l.map (Lib.tabData .i64))
theorem laid_ands : Rows.laid_stackyard_expr_ands (H := Unit) = rowsD [[0, 0, 0], [0, 1, 2], [0, 2, 2]] := by kernel_rfl
theorem laid_ors : Rows.laid_stackyard_expr_ors (H := Unit) = rowsD [[0, 1, 2], [1, 1, 1], [2, 1, 2]] := by kernel_rfl
theorem u65 : Tryd.prog.underlying 65 = some (.array 17 64) := by kernel_rfl
theorem u104 : Tryd.prog.underlying 104 = some (.array 3 103) := by kernel_rfl
theorem u103 : Tryd.prog.underlying 103 = some (.array 3 3) := by kernel_rfl
theorem uInt : Tryd.prog.underlying 3 = some (.int .i64) := by kernel_rfl
theorem cInt : Tryd.prog.cellsOf 3 = 1 := by kernel_rfl
theorem rows_cells {W : World} {fuel : Nat} {cs : List Value} {l : List (List Int)} {p : List MemPlace} (hl : ∀ r ∈ l, r.length = 3) (h : DataW.trod (fun _ => ()) Tryd.prog W 0 (fun _ => true) false fuel 104 cs = some (rowsD l, p)) :
    cs = l.flatMap fun r => (r ++ [0, 0, 0]).take 3 |>.map fun z => Value.int .i64 z := by
  have e : l.map (Lib.tabData (H := Unit) .i64) = l.map fun r => Lib.tabData .i64 ((r ++ [0, 0, 0]).take 3) := by
    apply List.map_congr_left
    intro r hr
    rw [List.take_append_of_le_length (by rw [hl r hr]; decide), List.take_of_length_le (by rw [hl r hr]; decide)]
  unfold rowsD at h
  rw [e] at h
  exact cells_of_arr (C := fun r => ((r ++ [0, 0, 0]).take 3).map fun z => Value.int .i64 z) (s := 3) u104 (by kernel_rfl) (by kernel_rfl) (fun z => by simp) (by decide)
    (fun fuel cs z p _ h => Lib.cells_of_tab u103 uInt cInt (by kernel_rfl) h) h
theorem tab_of {L : List (String × DataW Unit)} {W : World} (hm : ("stackyard/expr.shapes", Rows.laid_stackyard_expr_shapes) ∈ L) (h : laidMet Tryd.prog L W) : Tab W := by
  obtain ⟨ps, hl, _⟩ := h
  obtain ⟨g, t, cs, fuel, p, hg, ht, hv, hd⟩ := laid_get hl (n := "stackyard/expr.shapes") (d := Rows.laid_stackyard_expr_shapes) hm
  obtain rfl : g = 0 := Option.some.inj (hg.symm.trans (by kernel_rfl))
  obtain rfl : t = 65 := Option.some.inj (ht.symm.trans (by kernel_rfl))
  rw [laid_shapes] at hd
  have hc := cells_of_arr (C := shapeC) (s := 3) u65 (by kernel_rfl) (by kernel_rfl) (fun _ => rfl) (by decide) (fun fuel cs z p hl h => trod_three kind3 uInt cInt hl h) hd
  have hcs : cs = shapesA := by apply Array.ext'; rw [hc]; rfl
  intro k v hk
  rw [World.var?_cell hg hv, hcs, Nat.zero_add]; exact hk
theorem tab2_of {L : List (String × DataW Unit)} {W : World} (h1 : ("stackyard/expr.ands", Rows.laid_stackyard_expr_ands) ∈ L) (h2 : ("stackyard/expr.ors", Rows.laid_stackyard_expr_ors) ∈ L) (h : laidMet Tryd.prog L W) : Tab2 W := by
  obtain ⟨ps, hl, _⟩ := h
  constructor
  · obtain ⟨g, t, cs, fuel, p, hg, ht, hv, hd⟩ := laid_get hl (n := "stackyard/expr.ands") (d := Rows.laid_stackyard_expr_ands) h1
    obtain rfl : g = 1 := Option.some.inj (hg.symm.trans (by kernel_rfl))
    obtain rfl : t = 104 := Option.some.inj (ht.symm.trans (by kernel_rfl))
    rw [laid_ands] at hd
    have hc := rows_cells (by decide) hd
    have hcs : cs = tabA andI := by apply Array.ext'; rw [hc]; rfl
    intro k v hk
    rw [World.var?_cell hg hv, hcs, Nat.zero_add]; exact hk
  · obtain ⟨g, t, cs, fuel, p, hg, ht, hv, hd⟩ := laid_get hl (n := "stackyard/expr.ors") (d := Rows.laid_stackyard_expr_ors) h2
    obtain rfl : g = 2 := Option.some.inj (hg.symm.trans (by kernel_rfl))
    obtain rfl : t = 104 := Option.some.inj (ht.symm.trans (by kernel_rfl))
    rw [laid_ors] at hd
    have hc := rows_cells (by decide) hd
    have hcs : cs = tabA orJ := by apply Array.ext'; rw [hc]; rfl
    intro k v hk
    rw [World.var?_cell hg hv, hcs, Nat.zero_add]; exact hk
theorem arg_value {w : World} {cs : List Value} (h : Arg Tryd.prog w 26 cs) : ∃ v : Val, cs = v.cs ∧ v.fit :=
  arg_val (ti := 3) (tn := 2) (ts := 9) (by kernel_rfl) (by kernel_rfl) (by kernel_rfl) (by kernel_rfl) (by kernel_rfl) (by kernel_rfl) (by kernel_rfl) (by kernel_rfl) h
theorem arg_expr {w : World} {cs : List Value} (h : Arg Tryd.prog w 29 cs) : ∃ x, ExAt w x cs ∧ ∀ y ∈ nodesT x, fitI y.v.n := by
  obtain ⟨f, h⟩ := h.told
  exact arg_ex (ti := 3) (ts := 9) (tv := 26) (tk := 27) (by kernel_rfl) (by kernel_rfl) (by kernel_rfl) (by kernel_rfl) (by kernel_rfl) (by kernel_rfl) (by kernel_rfl) (by kernel_rfl) (by kernel_rfl) (fun cs h => arg_value h) f cs h


theorem uses_walk (W : World) (hT : Tab W ∧ Tab2 W) (cs0 cs1 : Array Value) (a0 : Arg Tryd.prog W 29 cs0.toList) (a1 : Arg Tryd.prog W 29 cs1.toList) :
    Calls Tryd.prog 4 #[.agg cs0, .agg cs1] W fun e w' => e = .returned (.bool true) ∧ Ext W w' := by
  obtain ⟨a, ha, _⟩ := arg_expr a0
  obtain ⟨b, hb, _⟩ := arg_expr a1
  exact lawUses_ok a b hT.1 hT.2 ha hb
theorem tabs_uses {W : World} (h : laidMetH Tryd.prog Rows.exprUsesRow.laid W) : Tab W ∧ Tab2 W := ⟨tab_of (L := Rows.exprUsesRow.laid) (by simp [Rows.exprUsesRow]) h, tab2_of (L := Rows.exprUsesRow.laid) (by simp [Rows.exprUsesRow]) (by simp [Rows.exprUsesRow]) h⟩
end Go.Proofs.YtdephmdfdgclpaaDoor

/- Three closed facts of the seat's program, asked once: they want much memory. -/
namespace Go.Proofs.YtdephmdfdgclpaaDoor
set_option maxRecDepth 100000 in
theorem Tryd.entersB : (Tryd.prog.mayEnter && (false == Tryd.prog.liftsFinal) && (Tryd.prog.make == some .cut)) = true := by kernel_rfl
theorem Tryd.enters : Tryd.prog.mayEnter = true ∧ Tryd.prog.liftsFinal = false ∧ Tryd.prog.make = some .cut := by
  have h := Tryd.entersB
  simp only [Bool.and_eq_true, beq_iff_eq] at h
  exact ⟨h.1.1, h.1.2.symm, h.2⟩
end Go.Proofs.YtdephmdfdgclpaaDoor
