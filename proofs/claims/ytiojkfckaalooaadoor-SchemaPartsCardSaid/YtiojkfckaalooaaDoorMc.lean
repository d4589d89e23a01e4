/- Texts of the proof, one behind the other. -/
import Derived.Test.YtiojkfckaalooaaDoorMb
import Derived.Lib.Bytealg
import Derived.Shelf.Strings.OnBuilder
import Derived.Shelf.Strings.Split
import Derived.Shelf.Strings.Cut
import Derived.Test.YtiojkfckaalooaaDoorProg
import Derived.Lib.LaidTab
import Derived.Test.YtiojkfckaalooaaDoorRows
import Derived.JoinedOf
set_option linter.unusedVariables false
set_option linter.unusedSimpArgs false
/- The contracts of package schema: names. -/
namespace Go.Proofs.YtiojkfckaalooaaDoor
open Go Go.Vc Go.RowKit
set_option maxRecDepth 20000

theorem idxbyte_ok (s : ByteArray) (c : Int) (w : World) : Calls Tryd.prog 46 #[.string s, .int .u8 c] w fun e w' => e = .returned (.int .i64 (Lib.indexByte (tB s) c.toNat.toUInt8)) ∧ w' = w := by
  apply sidxb_vc
  unfold sidxb_T
  apply slidxb_vc
  unfold slidxb_T
  refine ⟨_, _, ?_, _, rfl, rfl, rfl⟩
  rw [run_callFunc_extern Tryd.func84 (by kernel_rfl) (by kernel_rfl) (by kernel_rfl) (e := Extern.BytealgIndexByte.indexByte) (by kernel_rfl), Lib.run_indexByteString]
  rfl

theorem zero_set : zeroA Tryd.prog 93 = Array.replicate 256 (.bool false) := by kernel_rfl
/-- The cells of a set of bytes. -/
def SetC (cs : Array Value) (f : UInt8 → Bool) : Prop := cs.size = 256 ∧ ∀ x : UInt8, cs[x.toNat]? = some (.bool (f x))
theorem SetC.one {cs : Array Value} {f : UInt8 → Bool} (h : SetC cs f) (k : Nat) (v : Value) (hk : cs[k]? = some v) : v.oneCell' = true := by
  have hlt := (Array.getElem?_eq_some_iff.1 hk).1
  have := h.2 (UInt8.ofNat k)
  rw [h.1] at hlt
  rw [UInt8.toNat_ofNat', Nat.mod_eq_of_lt (by omega), hk] at this
  cases this; rfl
theorem bAt_u8 (s : ByteArray) {i : Nat} (h : i < s.size) : ∃ x : UInt8, (tB s)[i]? = some x ∧ bAt s i = (x.toNat : Int) :=
  ⟨(tB s)[i]'(by rw [tB_length]; exact h), List.getElem?_eq_getElem _, bAt_eq s i h⟩

theorem mkascii_ok (s : ByteArray) (w : World) (hs : s.size < 9223372036854775807) (ha : ∀ x ∈ tB s, x.toNat < 128) :
    Calls Tryd.prog 67 #[.string s] w fun e w' => ∃ cs, e = .returned (.tuple #[.agg cs, .bool true]) ∧ SetC cs (fun x => (tB s).contains x) ∧ Ext w w' := by
  apply mkascii_vc
  unfold mkascii_T
  intro b1 w2 h1
  rw [zero_set] at h1
  have H1 := (Hold.start (Ext.rfl (w := w))).new h1
  refine ⟨fun i w' => ∃ (k : Nat) (cs : Array Value), i = (k : Int) ∧ k ≤ s.size ∧ SetC cs (fun x => ((tB s).take k).contains x) ∧ Hold w w' [(b1, .cells cs 93 (0, 0))] [], fun i _ => s.size - i.toNat, ⟨0, _, rfl, Nat.zero_le _, ⟨by simp, fun x => ?_⟩, H1⟩, ?_⟩
  · have := x.toNat_lt
    rw [Array.getElem?_eq_getElem (by simp; omega)]; simp
  rintro i w7 ⟨k, cs, rfl, hk, hc, H⟩
  have B := H.blk 0 rfl
  simp only [Int.toNat_natCast, Nat.zero_add]
  refine ⟨fun hlt => ?_, fun hge => ?_⟩
  · obtain ⟨x, hx, hb⟩ := bAt_u8 s (i := k) (by omega)
    have hx8 := ha x (List.mem_of_getElem? hx)
    rw [hb]
    refine ⟨by omega, by omega, fun h => by omega, fun _ => ⟨by omega, by omega, ⟨_, by rw [Int.toNat_natCast, B.cell]; exact hc.2 x⟩, B.frozen _, fun w17 h17 => ?_⟩⟩
    rw [Int.toNat_natCast] at h17
    have H17 := H.put 0 rfl h17
    rw [i64_next (by omega)]
    refine ⟨⟨k + 1, _, rfl, by omega, ⟨by rw [setA_size]; exact hc.1, fun y => ?_⟩, H17⟩, by simp only [Int.toNat_natCast]; omega⟩
    have htk : (tB s).take (k + 1) = (tB s).take k ++ [x] := by
      rw [List.take_add_one, hx]; rfl
    show _ = some (Value.bool (((tB s).take (k + 1)).contains y))
    rw [setA_get, hc.1, htk]
    have hy := y.toNat_lt
    by_cases hxy : x = y
    · subst hxy
      rw [if_pos (by simp; omega)]
      simp
    · have hn : x.toNat ≠ y.toNat := fun e => hxy (UInt8.toNat_inj.1 e)
      rw [if_neg (by simp; omega), hc.2 y]
      simp [Ne.symm hxy]
  · refine ⟨cs, hc.1, B.cellsAt, hc.1, B.canPut rfl hc.one, fun w21 h21 => ?_⟩
    have H21 := H.putAll 0 rfl rfl h21
    have B21 : Blk w21 b1 93 cs := H21.blk 0 rfl
    refine ⟨cs, hc.1, B21.cellsAt, cs, rfl, ?_, H21.ext⟩
    have : (tB s).take k = tB s := List.take_of_length_le (by rw [tB_length]; omega)
    rw [this] at hc
    exact hc

section
variable {w : World} {b : Nat} {cs : Array Value} {f : UInt8 → Bool}
theorem ascont_ok (h : Blk w b 93 cs) (hc : SetC cs f) (x : UInt8) : Calls Tryd.prog 85 #[.pointer (some ⟨b, 0, none⟩), .int .u8 (x.toNat : Int)] w fun e w' => e = .returned (.bool (f x)) ∧ Ext w w' := by
  apply ascont_vc
  unfold ascont_T
  have hx := x.toNat_lt
  exact ⟨b, 0, rfl, by omega, by omega, _, by rw [Int.toNat_natCast, Nat.zero_add, h.cell]; exact hc.2 x, rfl, .rfl⟩
theorem trimra_ok (s : ByteArray) (hs : s.size ≤ 9223372036854775807) (h : Blk w b 93 cs) (hc : SetC cs f) :
    Calls Tryd.prog 69 #[.string s, .pointer (some ⟨b, 0, none⟩)] w fun e w' => ∃ r, e = .returned (.string r) ∧ r.size ≤ s.size ∧ (tB r).all f = (tB s).all f ∧ Ext w w' := by
  apply trimra_vc
  unfold trimra_T
  refine ⟨fun r w' => r.size ≤ s.size ∧ (tB r).all f = (tB s).all f ∧ Ext w w', fun r _ => r.size, ⟨Nat.le_refl _, rfl, .rfl⟩, ?_⟩
  rintro r w4 ⟨hr, ha, hx⟩
  refine ⟨fun h0 => ?_, fun _ => ⟨r, rfl, hr, ha, hx⟩⟩
  rw [i64_fit (by omega) (by omega)]
  have e1 : ((r.size : Int) - 1) = ((r.size - 1 : Nat) : Int) := by omega
  rw [e1]
  simp only [Int.toNat_natCast]
  obtain ⟨x, hx', hb⟩ := bAt_u8 r (i := r.size - 1) (by omega)
  rw [hb]
  refine ⟨by omega, by omega, (ascont_ok (h.ext hx) hc x).mono ?_⟩
  rintro e w8 ⟨rfl, e8⟩
  have hx8 := hx.trans e8
  refine ⟨_, rfl, fun _ => ⟨r, rfl, hr, ha, hx8⟩, fun hf => ⟨by omega, by omega, ⟨?_, ?_, hx8⟩, ?_⟩⟩
  · rw [← tB_length, tB_extract]; simp; omega
  · rw [tB_extract, List.drop_zero, ← ha]
    have : tB r = (tB r).take (r.size - 1) ++ [x] := by
      have := List.take_add_one (l := tB r) (i := r.size - 1)
      rw [hx', List.take_of_length_le (by rw [tB_length]; omega)] at this
      exact this
    conv => rhs; rw [this, List.all_append]
    simp [hf]
  · rw [← tB_length, tB_extract]; simp [tB_length]; omega
theorem trimla_ok (s : ByteArray) (hs : s.size ≤ 9223372036854775807) (h : Blk w b 93 cs) (hc : SetC cs f) :
    Calls Tryd.prog 68 #[.string s, .pointer (some ⟨b, 0, none⟩)] w fun e w' => ∃ r, e = .returned (.string r) ∧ (tB r = [] ↔ (tB s).all f = true) ∧ Ext w w' := by
  apply trimla_vc
  unfold trimla_T
  refine ⟨fun r w' => (tB r).all f = (tB s).all f ∧ Ext w w', fun r _ => r.size, ⟨rfl, .rfl⟩, ?_⟩
  rintro r w4 ⟨ha, hx⟩
  refine ⟨fun h0 => ?_, fun h0 => ⟨r, rfl, ?_, hx⟩⟩
  · obtain ⟨x, hx', hb⟩ := bAt_u8 r (i := 0) (by omega)
    rw [hb]
    refine ⟨by omega, by omega, (ascont_ok (h.ext hx) hc x).mono ?_⟩
    rintro e w8 ⟨rfl, e8⟩
    have hx8 := hx.trans e8
    cases hr : tB r with
    | nil => rw [hr] at hx'; simp at hx'
    | cons y l =>
      rw [hr] at hx'
      cases hx'
      refine ⟨_, rfl, fun hf => ⟨r, rfl, ?_, hx8⟩, fun hf => ⟨by omega, by omega, ⟨?_, hx8⟩, ?_⟩⟩
      · rw [hr, ← ha, hr]; simp [hf]
      · rw [tB_extract, List.take_of_length_le (by rw [tB_length]; omega), ← ha, hr]; simp [hf]
      · show (r.extract 1 r.size).size < r.size
        rw [← tB_length, tB_extract]; simp [tB_length]; omega
  · have : tB r = [] := List.length_eq_zero_iff.1 (by rw [tB_length]; omega)
    rw [← ha, this]; simp
end

theorem ba_nil {s : ByteArray} : s = ⟨#[]⟩ ↔ tB s = [] := by rw [← tB_inj]; rfl
theorem trim_ok (s : ByteArray) (hs : s.size ≤ 9223372036854775807) {c : ByteArray} (hc : 2 ≤ c.size) (hc' : c.size < 9223372036854775807) (ha : ∀ x ∈ tB c, x.toNat < 128) (w : World) :
    Calls Tryd.prog 47 #[.string s, .string c] w fun e w' => ∃ r, e = .returned (.string r) ∧ (r = ⟨#[]⟩ ↔ (tB s).all (fun x => (tB c).contains x) = true) ∧ Ext w w' := by
  apply strim_vc
  unfold strim_T
  refine ⟨fun h => ?_, fun _ => ⟨fun h => by omega, fun _ => (mkascii_ok c w hc' ha).mono ?_⟩⟩
  · rcases h with h | h
    · exact ⟨s, rfl, by rw [h]; simp [tB], .rfl⟩
    · rw [h] at hc; cases hc
  · rintro e w39 ⟨cs, rfl, hs', e39⟩
    refine ⟨cs, hs'.1, true, rfl, fun b42 w43 h43 => ?_⟩
    rw [zero_set] at h43
    have H43 := (Hold.start e39).new h43
    have B43 := H43.blk 0 rfl
    refine ⟨hs'.1, B43.canPut (by rw [hs'.1]; simp) hs'.one, fun w45 h45 => ⟨fun _ => ?_, fun h => by cases h⟩⟩
    have H45 := H43.putAll 0 rfl (by rw [hs'.1]; simp) h45
    have B45 : Blk w45 b42 93 cs := H45.blk 0 rfl
    refine (trimra_ok s hs B45 hs').mono ?_
    rintro e w49 ⟨r, rfl, hrs, hr, e49⟩
    refine ⟨r, rfl, (trimla_ok r (by omega) (B45.ext e49) hs').mono ?_⟩
    rintro e w52 ⟨q, rfl, hq, e52⟩
    exact ⟨q, rfl, q, rfl, by rw [ba_nil, hq, hr], (H45.step (e49.trans e52)).ext⟩

def letC : ByteArray := ⟨#[97, 98, 99, 100, 101, 102, 103, 104, 105, 106, 107, 108, 109, 110, 111, 112, 113, 114, 115, 116, 117, 118, 119, 120, 121, 122]⟩
def othC : ByteArray := ⟨#[97, 98, 99, 100, 101, 102, 103, 104, 105, 106, 107, 108, 109, 110, 111, 112, 113, 114, 115, 116, 117, 118, 119, 120, 121, 122, 48, 49, 50, 51, 52, 53, 54, 55, 56, 57, 95]⟩
theorem let_all : ∀ i : Fin 256, decide (0 ≤ Lib.indexByte (tB letC) (UInt8.ofNat i.1)) = letterB (UInt8.ofNat i.1) := by decide +kernel
theorem oth_all : ∀ i : Fin 256, (tB othC).contains (UInt8.ofNat i.1) = otherB (UInt8.ofNat i.1) := by decide +kernel
theorem let_eq (x : UInt8) : 0 ≤ Lib.indexByte (tB letC) x ↔ letterB x = true := by
  have := let_all ⟨x.toNat, x.toNat_lt⟩
  rw [UInt8.ofNat_toNat] at this
  rw [← this, decide_eq_true_eq]
theorem oth_eq (x : UInt8) : (tB othC).contains x = otherB x := by
  have := oth_all ⟨x.toNat, x.toNat_lt⟩
  rwa [UInt8.ofNat_toNat] at this
theorem oth_ascii : ∀ x ∈ tB othC, x.toNat < 128 := by decide +kernel

theorem sisname_ok (s : ByteArray) (w : World) : Calls Tryd.prog 22 #[.string s] w fun e w' => e = .returned (.bool (isName s)) ∧ Ext w w' := by
  apply sisname_vc
  unfold sisname_T
  refine ⟨fun ⟨hne, hle⟩ => ?_, fun h => ⟨?_, .rfl⟩⟩
  · have h0 : 0 < s.size := by
      rcases Nat.eq_zero_or_pos s.size with h | h
      · exact absurd (ba_nil.2 (List.length_eq_zero_iff.1 (by rw [tB_length]; exact h))) hne
      · exact h
    obtain ⟨x, hx, hb⟩ := bAt_u8 s h0
    refine ⟨by omega, by omega, ?_⟩
    rw [hb]
    refine (idxbyte_ok letC (x.toNat : Int) w).mono ?_
    rintro e w3 ⟨rfl, rfl⟩
    have hxx : ((x.toNat : Int)).toNat.toUInt8 = x := by simp
    rw [hxx]
    cases hl : tB s with
    | nil => rw [hl] at hx; simp at hx
    | cons y l =>
      rw [hl] at hx
      cases hx
      have hlen : l.length + 1 ≤ 24 := by have := tB_length s; rw [hl] at this; simp at this; omega
      refine ⟨_, rfl, fun hge => ?_, fun hlt => ⟨?_, .rfl⟩⟩
      · refine (trim_ok s (by omega) (c := othC) (by decide) (by decide) oth_ascii _).mono ?_
        rintro e w7 ⟨r, rfl, hr, e7⟩
        refine ⟨r, rfl, ?_, e7⟩
        have : sEq r ⟨#[]⟩ = isName s := by
          rw [Bool.eq_iff_iff, sEq_iff, hr, hl]
          unfold isName isNameL
          rw [hl]
          have hx1 := (let_eq x).1 hge
          have hx2 : otherB x = true := by unfold otherB; rw [hx1]; rfl
          simp only [List.all_cons, oth_eq, hx1, hx2, Bool.true_and, List.length_cons, Bool.and_eq_true, decide_eq_true_eq]
          exact ⟨fun h => ⟨h, hlen⟩, fun h => h.1⟩
        rw [this]
      · have : isName s = false := by
          unfold isName isNameL
          rw [hl]
          have : letterB x = false := by
            rw [← Bool.not_eq_true, ← let_eq]; omega
          simp [this]
        rw [this]
  · have : isName s = false := by
      unfold isName isNameL
      rcases h with h | h
      · rw [h]; rfl
      · cases hl : tB s with
        | nil => rfl
        | cons y l =>
          have := tB_length s
          rw [hl] at this
          have hb : ¬ ((y :: l).length ≤ 24) := by omega
          simp only [hb, decide_false, Bool.and_false]
    rw [this]
end Go.Proofs.YtiojkfckaalooaaDoor

/- The contracts of package schema: schemas, and columns by name; the document's answer for them. -/
namespace Go.Proofs.YtiojkfckaalooaaDoor
open Go Go.Vc Go.RowKit
set_option maxRecDepth 20000

/-- What is asked of byte k of a name. -/
def nameB (k : Nat) (x : UInt8) : Bool := if k = 0 then letterB x else otherB x
section
variable {w : World} {p rp : Option Addr} {n c rn rc : Nat} {cols : List Col} {row : List Val}

/-! ### Find -/
/-! ### Right -/
/-- The map of names that were met. -/
def metL (l : List Col) : List (ByteArray × Value) := l.foldl (fun m x => setS m x.name (.bool true)) []
theorem metL_snoc (l : List Col) (x : Col) : metL (l ++ [x]) = setS (metL l) x.name (.bool true) := by simp [metL]
theorem metL_look (l : List Col) (s : ByteArray) : (lookS (metL l) s).getD (.bool false) = .bool ((l.map Col.name).contains s) := by
  have key : ∀ (l : List Col) (m : List (ByteArray × Value)), lookS (l.foldl (fun m x => setS m x.name (.bool true)) m) s = if (l.map Col.name).contains s then some (.bool true) else lookS m s := by
    intro l
    induction l with
    | nil => intro m; simp
    | cons x l ih =>
      intro m
      rw [List.foldl_cons, ih, lookS_setS, List.map_cons]
      by_cases hx : x.name = s
      · subst hx; simp
      · simp [hx, Ne.symm hx]
  unfold metL
  rw [key]
  cases (l.map Col.name).contains s <;> rfl
theorem sright_ok (h : Cols w p n c cols) : Calls Tryd.prog 11 #[.slice p n c] w fun e w' => e = .returned (.bool (rightC cols)) ∧ Ext w w' := by
  apply sright_vc
  unfold sright_T
  intro b1 w2 h1
  have hl := h.len
  have hm : n ≤ 9223372036854775807 := h.le
  have H1 := (Hold.start (Ext.rfl (w := w))).new h1
  refine ⟨fun i w' => ∃ (k : Nat) (es : Array MapEntry) (clock : Nat), i = (k : Int) ∧ k ≤ n ∧ colsOk [] (cols.take k) = true ∧ MapL es (metL (cols.take k)) ∧ Hold w w' [(b1, .map es clock)] [], fun i _ => n - i.toNat, ⟨0, _, _, rfl, Nat.zero_le _, by simp [colsOk], by simp [metL, MapL], H1⟩, ?_⟩
  rintro i w7 ⟨k, es, clock, rfl, hk, hok, hmap, H⟩
  refine ⟨fun hlt => ?_, fun hge => ⟨?_, H.ext⟩⟩
  · have g : cols[k]? = some (cols[k]'(by omega)) := List.getElem?_eq_getElem _
    generalize cols[k]'(by omega) = x at g
    obtain ⟨b, o, hp, c0, c1, c2⟩ := (h.ext H.ext).col g
    have hdec : colOk ((cols.take k).map Col.name) x = false → rightC cols = false := by
      intro hv
      unfold rightC
      have hc : cols = cols.take k ++ x :: cols.drop (k + 1) := by
        obtain ⟨hk', rfl⟩ := List.getElem?_eq_some_iff.1 g
        rw [← List.drop_eq_getElem_cons hk', List.take_append_drop]
      have : colsOk [] cols = false := by
        conv => lhs; rw [hc, colsOk_append]
        rw [hok, List.nil_append]
        unfold colsOk
        rw [hv]; rfl
      rw [this, Bool.and_false]
    simp only [Int.toNat_natCast]
    refine ⟨b, o, hp, by omega, by omega, _, c0, _, c1, _, c2, fun b15 w16 h16 => ?_⟩
    have H16 := H.new h16
    obtain ⟨q0, q1, q2⟩ := (H16.blk 0 rfl).c3
    refine ⟨⟨_, q0⟩, (H16.blk 0 rfl).frozen _, ⟨_, q1⟩, (H16.blk 0 rfl).frozen _, ⟨_, q2⟩, (H16.blk 0 rfl).frozen _, fun w21 h21 => ?_⟩
    have H21 := H16.put 0 rfl h21
    have B : Blk w21 b15 53 #[.string x.name, .int .i64 x.kind, .bool x.null] := H21.blk 0 rfl
    obtain ⟨q0, q1, q2⟩ := B.c3
    refine ⟨_, q0, (sisname_ok x.name w21).mono ?_⟩
    rintro e w25 ⟨rfl, e25⟩
    have H25 := H21.step e25
    have B25 := B.ext e25
    obtain ⟨q0, q1, q2⟩ := B25.c3
    have hM : w25.heap[b1]? = some (.map es clock) := H25.holds 1 _ rfl
    refine ⟨_, rfl, fun hn => ⟨?_, H25.ext⟩, fun hn => ⟨_, q0, ((cols.take k).map Col.name).contains x.name, fun w1 hs => ?_, fun hin => ⟨?_, H25.ext⟩, fun hin => ⟨_, q1, fun hlow => ⟨?_, H25.ext⟩, fun hge => ⟨_, q1, fun hhi => ⟨?_, H25.ext⟩, fun hle => ⟨_, q0, ?_⟩⟩⟩⟩⟩
    · rw [hdec (by unfold colOk; rw [hn]; rfl)]
    · rw [← metL_look]
      exact map_look (kt := 9) (e := 4) (by kernel_rfl) (by kernel_rfl) (run_zeroOf (by kernel_rfl) w1) ((hs b1 (H25.lt 1 rfl)).trans hM) hmap
    · rw [hdec (by unfold colOk; rw [hn, hin]; rfl)]
    · rw [hdec (by unfold colOk; rw [hn, hin, decide_eq_false (by omega)]; rfl)]
    · rw [hdec (by unfold colOk; rw [hn, hin, decide_eq_false (by omega)]; rfl)]
    · obtain ⟨w42, es', clock', hrun, hobj, hmap', hbut, hsz⟩ := map_set (P := Tryd.prog) (t := 54) (kt := 9) (e := 4) (s := x.name) (by kernel_rfl) (by kernel_rfl) hM hmap (.bool true)
      refine ⟨w42, hrun, ?_⟩
      rw [i64_next (by omega)]
      have htk : cols.take (k + 1) = cols.take k ++ [x] := by rw [List.take_add_one, g]; rfl
      refine ⟨⟨k + 1, es', clock', rfl, by omega, ?_, ?_, (H25.upd 1 rfl hbut hobj).tail⟩, by simp only [Int.toNat_natCast]; omega⟩
      · rw [htk, colsOk_append, hok, List.nil_append]
        unfold colsOk colOk
        rw [hn, hin, decide_eq_true (by omega)]; rfl
      · rw [htk, metL_snoc]; exact hmap'
  · have hk' : k = n := by omega
    subst hk'
    rw [List.take_of_length_le (by omega)] at hok
    have : (decide ((0 : Int) < (k : Int)) && decide ((k : Int) ≤ 16)) = rightC cols := by
      unfold rightC
      rw [hok, Bool.and_true, Bool.eq_iff_iff, Bool.and_eq_true, decide_eq_true_eq, decide_eq_true_eq, decide_eq_true_eq]
      omega
    rw [this]
end
end Go.Proofs.YtiojkfckaalooaaDoor

/- The contracts of package schema: rows that fit; the document's answer for them. -/
namespace Go.Proofs.YtiojkfckaalooaaDoor
open Go Go.Vc Go.RowKit
set_option maxRecDepth 20000

section
variable {w : World} {p rp : Option Addr} {n c rn rc : Nat} {cols : List Col} {row : List Val}

/-! ### Rows that fit -/
theorem spairs_ok (w : World) : Calls Tryd.prog 61 #[.slice p n c, .slice rp rn rc] w fun e w' => ∃ b1 b4, e = .returned (.func (.func 83) #[] #[.pointer (some ⟨b1, 0, none⟩), .pointer (some ⟨b4, 0, none⟩)]) ∧
    ∀ fs ms w0, Hold w0 w fs ms → Hold w0 w' ((b4, .cells #[.slice rp rn rc] 24) :: (b1, .cells #[.slice p n c] 22) :: fs) ms := by
  apply spairs_vc
  unfold spairs_T
  intro b1 w2 h1 b4 w5 h4
  exact ⟨b1, b4, rfl, fun fs ms w0 h => (h.new h1).new h4⟩

theorem spairs1_ok {l0 fv0 fv1 : Nat} (w0 : World) (h : Cols w0 p n c cols) (hr : Vs w0 rp rn rc row) (hlen : rn = n) (Inv : Nat → World → Prop) (Stop : World → Prop) {w : World} (h0 : Inv 0 w)
    (hex : ∀ k W, Inv k W → Ext w0 W) (hc0 : ∀ k W, Inv k W → W.cell? ⟨fv0, 0, none⟩ = some (.slice p n c)) (hc1 : ∀ k W, Inv k W → W.cell? ⟨fv1, 0, none⟩ = some (.slice rp rn rc))
    (hstep : ∀ k W W', Inv k W → Ext W W' → Inv k W')
    (hy : ∀ k x v W (R : Bool → World → Prop), k < n → cols[k]? = some x → row[k]? = some v → Inv k W → (∀ W', Inv (k + 1) W' → R true W') → (∀ W', Stop W' → R false W') → Yield Tryd.prog l0 #[x.agg, v.agg] W R) :
    Calls Tryd.prog 83 #[.func (.yield l0) #[] #[], .pointer (some ⟨fv0, 0, none⟩), .pointer (some ⟨fv1, 0, none⟩)] w fun e W' => e = .returned (.tuple #[]) ∧ (Inv n W' ∨ Stop W') := by
  apply spairs1_vc
  unfold spairs1_T
  subst hlen
  have hl := h.len
  have hrl := hr.len
  have hm : rn ≤ 9223372036854775807 := h.le
  refine ⟨_, _, _, hc0 _ _ h0, fun i W => ∃ k : Nat, i = (k : Int) ∧ k ≤ rn ∧ Inv k W, fun i _ => rn - i.toNat, ⟨0, rfl, Nat.zero_le _, h0⟩, ?_⟩
  rintro i w7 ⟨k, rfl, hk, hI⟩
  refine ⟨fun hlt => ?_, fun hge => ?_⟩
  · have g : cols[k]? = some (cols[k]'(by omega)) := List.getElem?_eq_getElem _
    generalize cols[k]'(by omega) = x at g
    have gv : row[k]? = some (row[k]'(by omega)) := List.getElem?_eq_getElem _
    generalize row[k]'(by omega) = v at gv
    obtain ⟨b, o, hp, c0, c1, c2⟩ := (h.ext (hex _ _ hI)).col g
    simp only [Int.toNat_natCast]
    refine ⟨b, o, hp, by omega, by omega, _, c0, _, c1, _, c2, fun b15 w16 h16 => ?_⟩
    have H16 := (Hold.start (Ext.rfl (w := w7))).new h16
    obtain ⟨q0, q1, q2⟩ := (H16.blk 0 rfl).c3
    refine ⟨⟨_, q0⟩, (H16.blk 0 rfl).frozen _, ⟨_, q1⟩, (H16.blk 0 rfl).frozen _, ⟨_, q2⟩, (H16.blk 0 rfl).frozen _, fun w21 h21 w23 h23 => ?_⟩
    have H21 := (H16.put 0 rfl h21).step h23.ext
    have B : Blk w23 b15 53 #[.string x.name, .int .i64 x.kind, .bool x.null] := H21.blk 0 rfl
    obtain ⟨q0, q1, q2⟩ := B.c3
    have hI23 := hstep _ _ _ hI H21.ext
    obtain ⟨b2, o2, hp2, d0, d1, d2⟩ := (hr.ext (hex _ _ hI23)).val gv
    refine ⟨_, q0, _, q1, _, q2, _, _, _, hc1 _ _ hI23, b2, o2, hp2, by omega, by omega, _, d0, _, d1, _, d2, ?_⟩
    refine hy k x v w23 _ (by omega) g gv hI23 (fun W' hI' => ⟨fun h => (by cases h), fun _ => ?_⟩) fun W' hS => ⟨fun _ => ⟨by trivial, .inr hS⟩, fun h => (by cases h)⟩
    rw [i64_next (by omega)]
    exact ⟨⟨k + 1, rfl, by omega, hI'⟩, by simp only [Int.toNat_natCast]; omega⟩
  · have : k = rn := by omega
    subst this
    exact ⟨rfl, .inl hI⟩

theorem sfits0_ok (h : Cols w p n c cols) (hr : Vs w rp rn rc row) : Calls Tryd.prog 33 #[.slice p n c, .slice rp rn rc] w fun e w' => e = .returned (.bool (fitsL cols row)) ∧ Ext w w' := by
  apply sfits0_vc
  unfold sfits0_T
  intro b1 w2 h1
  have hl := h.len
  have hrl := hr.len
  have hm : n ≤ 9223372036854775807 := h.le
  have H1 := (Hold.start (Ext.rfl (w := w))).new h1
  refine ⟨fun hne => ?_, fun heq => (spairs_ok w2).mono ?_⟩
  · have B1 := H1.blk 0 rfl
    refine ⟨⟨_, B1.one⟩, B1.frozen 0, fun w6 h6 => ?_⟩
    have H6 := H1.box 0 rfl h6
    refine ⟨_, (H6.blk 0 rfl).one, ?_, H6.ext⟩
    have : fitsL cols row = false := by
      rw [← Bool.not_eq_true]
      intro hf
      have := fitsL_length hf
      omega
    rw [this]
  · rintro e w11 ⟨bc, br, rfl, hH⟩
    have H11 := hH _ _ _ H1
    refine ⟨_, rfl, _, _, rfl, by kernel_rfl, fun r d l w18 hB hY => ?_⟩
    have HB := H11.began hB
    let fs : Nat → Bool → List (Nat × Obj) := fun q v => [(l, .loop (r q)), (d, .deferred (some [])), (br, .cells #[.slice rp rn rc] 24), (bc, .cells #[.slice p n c] 22), (b1, .cells #[.bool v] 4)]
    refine (spairs1_ok (cols := cols) (row := row) w h hr (by omega) (fun k W => (fitsL (cols.drop k) (row.drop k) = fitsL cols row) ∧ Hold w W (fs 0 false) []) (fun W => fitsL cols row = false ∧ Hold w W (fs 3 false) []) ⟨rfl, HB⟩ (fun k W hI => hI.2.ext) (fun k W hI => (hI.2.blk 3 rfl).one) (fun k W hI => (hI.2.blk 2 rfl).one) (fun k W W' hI e => ⟨hI.1, hI.2.step e⟩) ?_).mono ?_
    · rintro k x v W R hk g gv ⟨hf, H⟩ yes no
      have hfd := fitsL_drop g gv
      refine hY _ _ _ _ _ _ W R (H.loop 0 rfl) fun b29 w30 h30 => ?_
      have H30 := H.new h30
      obtain ⟨q0, q1, q2⟩ := (H30.blk 0 rfl).c3
      refine ⟨⟨_, q0⟩, (H30.blk 0 rfl).frozen _, ⟨_, q1⟩, (H30.blk 0 rfl).frozen _, ⟨_, q2⟩, (H30.blk 0 rfl).frozen _, fun w35 h35 b37 w38 h38 => ?_⟩
      have H38 := (H30.put 0 rfl h35).new h38
      obtain ⟨q0, q1, q2⟩ := (H38.blk 0 rfl).c3
      refine ⟨⟨_, q0⟩, (H38.blk 0 rfl).frozen _, ⟨_, q1⟩, (H38.blk 0 rfl).frozen _, ⟨_, q2⟩, (H38.blk 0 rfl).frozen _, fun w43 h43 => ?_⟩
      have H43 := H38.put 0 rfl h43
      refine ⟨H43.loop 2 rfl, ?_⟩
      rintro Wb rfl
      have H45 := H43.turn 2 1 rfl
      have Bv : Blk (turn r l 1 w43) b37 65 #[.int .i64 v.k, .int .i64 v.n, .string v.s] := H45.blk 0 rfl
      obtain ⟨v0, v1, v2⟩ := Bv.c3
      refine ⟨_, v0, _, v1, _, v2, (vright_ok v _).mono ?_⟩
      rintro e w51 ⟨rfl, e51⟩
      have H51 := H45.step e51
      have Bv : Blk w51 b37 65 #[.int .i64 v.k, .int .i64 v.n, .string v.s] := H51.blk 0 rfl
      have Bc : Blk w51 b29 53 #[.string x.name, .int .i64 x.kind, .bool x.null] := H51.blk 1 rfl
      obtain ⟨v0, v1, v2⟩ := Bv.c3
      obtain ⟨c0, c1, c2⟩ := Bc.c3
      have B1 : Blk w51 b1 4 #[.bool false] := H51.blk 6 rfl
      -- a value that does not fit
      have stop : valFits x v = false → (∃ u, w51.cell? ⟨b1, 0, none⟩ = some u) ∧ w51.frozen? ⟨b1, 0, none⟩ = false ∧ ∀ w55 : World, Put w51 b1 0 [.bool false] w55 → Rec r l 1 w55 ∧ R false (turn r l 3 w55) := by
        intro hb
        refine ⟨⟨_, B1.one⟩, B1.frozen 0, fun w55 h55 => ?_⟩
        have H55 := H51.box 6 rfl h55
        refine ⟨H55.loop 2 rfl, no _ ⟨?_, (H55.turn 2 3 rfl).tail.tail⟩⟩
        rw [← hf, hfd, hb]; rfl
      have go : valFits x v = true → Rec r l 1 w51 ∧ R true (turn r l 0 w51) := by
        intro hb
        refine ⟨H51.loop 2 rfl, yes _ ⟨?_, (H51.turn 2 0 rfl).tail.tail⟩⟩
        rw [← hf, hfd, hb]; rfl
      refine ⟨_, rfl, fun hb => stop (by unfold valFits; rw [hb]; rfl), fun hb => ⟨_, v0, _, c1, fun hne => ⟨_, c2, fun hnull => ⟨_, v0, fun h0 => stop ?_, fun h0 => go ?_⟩, fun hnull => stop ?_⟩, fun he => go ?_⟩⟩
      · unfold valFits; rw [hb, decide_eq_false hne, hnull, decide_eq_false h0]; rfl
      · unfold valFits; rw [hb, decide_eq_false hne, hnull, decide_eq_true h0]; rfl
      · unfold valFits; rw [hb, decide_eq_false hne, hnull]; rfl
      · unfold valFits; rw [hb, decide_eq_true he]; rfl
    · rintro e W ⟨rfl, hI | hS⟩
      · obtain ⟨hf, H⟩ := hI
        refine ⟨⟨_, rfl⟩, .inl ⟨H.loop 0 rfl, ?_⟩⟩
        have H2 := H.turn 0 2 rfl
        have B1 : Blk (turn r l 2 W) b1 4 #[.bool false] := H2.blk 4 rfl
        refine ⟨⟨_, B1.one⟩, B1.frozen 0, fun w82 h82 => ?_⟩
        have H82 := H2.box 4 rfl h82
        have H83 := H82.shut 1 rfl
        refine ⟨H82.dfr 1 rfl, _, (H83.blk 4 rfl).one, ?_, H83.ext⟩
        rw [← hf, List.drop_eq_nil_of_le (by omega), List.drop_eq_nil_of_le (by omega)]; rfl
      · obtain ⟨hf, H⟩ := hS
        refine ⟨⟨_, rfl⟩, .inr (.inl ⟨H.loop 0 rfl, ?_⟩)⟩
        have H2 := H.turn 0 4 rfl
        have H83 := H2.shut 1 rfl
        refine ⟨H2.dfr 1 rfl, _, (H83.blk 4 rfl).one, ?_, H83.ext⟩
        rw [hf]
theorem sfits_ok (h : Cols w p n c cols) (hr : Vs w rp rn rc row) : Calls Tryd.prog 12 #[.slice p n c, .slice rp rn rc] w fun e w' => e = .returned (.bool (fitsC cols row)) ∧ Ext w w' := by
  apply sfits_vc
  unfold sfits_T
  refine (sright_ok h).mono ?_
  rintro e w2 ⟨rfl, e2⟩
  refine ⟨_, rfl, fun hb => (sfits0_ok (h.ext e2) (hr.ext e2)).mono ?_, fun hb => ⟨by unfold fitsC; rw [hb]; rfl, e2⟩⟩
  rintro e w6 ⟨rfl, e6⟩
  exact ⟨_, rfl, by unfold fitsC; rw [hb]; rfl, e2.trans e6⟩
end
end Go.Proofs.YtiojkfckaalooaaDoor

/- The contracts of schemas' bytes: laying, by the program and by the document. -/
namespace Go.Vc
open Go Go.RowKit
theorem colsOk_all : ∀ {met : List ByteArray} {cols : List Col}, colsOk met cols = true → ∀ c ∈ cols, isName c.name = true ∧ 1 ≤ c.kind ∧ c.kind ≤ 3
  | _, [], _, c, hc => by cases hc
  | met, x :: r, h, c, hc => by
    unfold colsOk at h
    rw [Bool.and_eq_true] at h
    rcases List.mem_cons.1 hc with rfl | hc
    · have := h.1
      unfold colOk at this
      simp only [Bool.and_eq_true, decide_eq_true_eq] at this
      exact ⟨this.1.1, this.2⟩
    · exact colsOk_all h.2 c hc
theorem name_size {s : ByteArray} (h : isName s = true) : s.size ≤ 24 := by
  unfold isName at h
  rw [← tB_length]
  cases ht : tB s with
  | nil => simp
  | cons x r =>
    rw [ht] at h
    unfold isNameL at h
    simp only [Bool.and_eq_true, decide_eq_true_eq] at h
    exact h.2
theorem right_all {cols : List Col} (h : rightC cols = true) : 1 ≤ cols.length ∧ cols.length ≤ 16 ∧ ∀ c ∈ cols, c.name.size ≤ 24 ∧ 1 ≤ c.kind ∧ c.kind ≤ 3 := by
  unfold rightC at h
  rw [Bool.and_eq_true, decide_eq_true_eq] at h
  refine ⟨h.1.1, h.1.2, fun c hc => ?_⟩
  obtain ⟨h1, h2, h3⟩ := colsOk_all h.2 c hc
  exact ⟨name_size h1, h2, h3⟩
theorem colB_len {c : Col} (h : c.name.size ≤ 24) : (colB c).length ≤ 36 := by
  have := uvar_len10 (n := c.name.size) (by omega)
  unfold colB
  simp [tB_length]; omega
theorem cols_len {cols : List Col} (h : ∀ c ∈ cols, c.name.size ≤ 24) : (cols.flatMap colB).length ≤ 36 * cols.length := by
  induction cols with
  | nil => simp
  | cons c r ih =>
    have h1 := colB_len (h c (by simp))
    have h2 := ih fun x hx => h x (by simp [hx])
    rw [List.flatMap_cons, List.length_append, List.length_cons]; omega
def layS (l : List UInt8) (cols : List Col) : List UInt8 × Int := if rightC cols then (l ++ schB cols, 0) else ([], 50)
/-- What is laid once j columns were. -/
def partS (l : List UInt8) (cols : List Col) (j : Nat) : List UInt8 := (l ++ uvar cols.length) ++ (cols.take j).flatMap colB
theorem partS_all (l : List UInt8) (cols : List Col) : partS l cols cols.length = l ++ schB cols := by
  unfold partS schB; rw [List.take_of_length_le (Nat.le_refl _), List.append_assoc]
theorem partS_step {l : List UInt8} {cols : List Col} {j : Nat} {c : Col} (h : cols[j]? = some c) : partS l cols (j + 1) = partS l cols j ++ (uvar c.name.size ++ tB c.name) ++ [UInt8.ofNat c.kind.toNat, if c.null then 1 else 0] := by
  unfold partS
  rw [take_snoc h, List.flatMap_append]
  simp [colB]
theorem partS_len {l : List UInt8} {cols : List Col} (h : rightC cols = true) (j : Nat) : (partS l cols j).length ≤ l.length + 600 := by
  obtain ⟨h1, h2, h3⟩ := right_all h
  have a1 := uvar_len10 (n := cols.length) (by omega)
  have a2 := cols_len (cols := cols.take j) fun c hc => (h3 c (List.mem_of_mem_take hc)).1
  have a3 : (cols.take j).length ≤ 16 := by rw [List.length_take]; omega
  unfold partS
  simp only [List.length_append]; omega
end Go.Vc
namespace Go.Proofs.YtiojkfckaalooaaDoor
open Go Go.Vc Go.RowKit
set_option maxRecDepth 20000
attribute [local irreducible] Calls Put Drew New

theorem kindB {k : Int} (h : 1 ≤ k ∧ k ≤ 3) : IntKind.u8.wrap k = (((UInt8.ofNat k.toNat).toNat : Nat) : Int) := by
  rcases (by omega : k = 1 ∨ k = 2 ∨ k = 3) with e | e | e <;> rw [e] <;> rfl
theorem sflag_ok (b : Bool) (w : World) : Calls Tryd.prog 36 #[.bool b] w fun e w' => e = .returned (.int .u8 (((if b then (1 : UInt8) else 0).toNat : Nat) : Int)) ∧ Ext w w' := by
  apply sflag_vc
  unfold sflag_T
  cases b with
  | true => exact ⟨fun _ => ⟨rfl, Ext.rfl⟩, fun h => by cases h⟩
  | false => exact ⟨fun h => (by cases h), fun _ => ⟨rfl, Ext.rfl⟩⟩
set_option maxHeartbeats 4000000 in
theorem slay_ok (w : World) {p cp : Option Addr} {n c cn cc : Nat} {l : List UInt8} {cols : List Col} (h : In w p n c l) (hc : Cols w cp cn cc cols) (hroom : n + 2002000 ≤ 211106232532992) :
    Calls Tryd.prog 13 #[.slice p n c, .slice cp cn cc] w fun e w' => ∃ p' n' c', e = .returned (.tuple #[.slice p' n' c', .int .i64 (layS l cols).2]) ∧ Out w.heap.size w' p' n' c' (layS l cols).1 ∧ Ext w w' := by
  have hl := h.len
  have hcl := hc.len
  apply slay_vc
  unfold slay_T
  refine (sright_ok hc).mono ?_
  rintro e w2 ⟨rfl, e1⟩
  refine ⟨_, rfl, fun hf => ?_, fun ht => ?_⟩
  · have hL : layS l cols = ([], 50) := by unfold layS; rw [hf]; rfl
    refine ⟨none, 0, 0, by rw [hL], ?_, e1⟩
    rw [hL]
    exact ⟨rfl, Mine.nil _ _ _ _⟩
  obtain ⟨r1, r2, r3⟩ := right_all ht
  have hL : layS l cols = (l ++ schB cols, 0) := by unfold layS; rw [if_pos ht]
  rw [u64_nat (by omega)]
  refine (number_out w2 (h.ext e1) (by omega) (by omega)).mono ?_
  rintro e w7 ⟨p2, n2, c2, rfl, ho, e2⟩
  have H0 := (Hold.start e1).addRow e2 ho.2
  refine ⟨_, _, _, rfl, ?_⟩
  refine ⟨fun q k d i W => ∃ j : Nat, i = (j : Int) ∧ j ≤ cn ∧ k = (partS l cols j).length ∧ Hold w W [] [⟨5, 1, q, k, d, vB (partS l cols j)⟩], fun _ _ _ i _ => cn - i.toNat, ⟨0, rfl, Nat.zero_le _, ?_, ?_⟩, ?_⟩
  · rw [← ho.1]; unfold partS; rw [hcl]; simp
  · have : partS l cols 0 = l ++ uvar cn := by unfold partS; rw [hcl]; simp
    rw [this]; exact H0
  clear H0 ho
  rintro q k d i W ⟨j, rfl, hj, rfl, H⟩
  have hlen := partS_len (l := l) ht j
  refine ⟨fun hlt => ?_, fun hge => ?_⟩
  · have gx : cols[j]? = some (cols[j]'(by omega)) := List.getElem?_eq_getElem _
    generalize cols[j]'(by omega) = x at gx
    obtain ⟨x1, x2⟩ := r3 x (List.mem_of_getElem? gx)
    obtain ⟨b, o, hp, c0, c1, c3⟩ := (hc.ext H.ext).col gx
    simp only [Int.toNat_natCast]
    refine ⟨b, o, hp, by omega, hlt, _, c0, _, c1, _, c3, ?_⟩
    repeat (first
      | (intro _ _ hS; replace H := H.new hS; clear hS)
      | (intro _ hS; (first | replace H := H.put 0 rfl hS | replace H := H.put 1 rfl hS | replace H := H.put 2 rfl hS | replace H := H.put 3 rfl hS | replace H := H.put 4 rfl hS | replace H := H.put 5 rfl hS | replace H := H.put 6 rfl hS | replace H := H.put 7 rfl hS); clear hS; try simp only [setA, List.setIfInBounds_toArray, List.set_cons_zero, List.set_cons_succ, Nat.zero_add, Nat.reduceAdd] at H)
      | (intro _ hS; replace H := H.step (Drew.ext hS); clear hS)
      | (first | refine ⟨⟨_, H.get 0 rfl rfl⟩, ?_⟩ | refine ⟨⟨_, H.get 1 rfl rfl⟩, ?_⟩ | refine ⟨⟨_, H.get 2 rfl rfl⟩, ?_⟩ | refine ⟨⟨_, H.get 3 rfl rfl⟩, ?_⟩ | refine ⟨⟨_, H.get 4 rfl rfl⟩, ?_⟩ | refine ⟨⟨_, H.get 5 rfl rfl⟩, ?_⟩ | refine ⟨⟨_, H.get 6 rfl rfl⟩, ?_⟩ | refine ⟨⟨_, H.get 7 rfl rfl⟩, ?_⟩)
      | (first | refine ⟨H.frz 0 rfl, ?_⟩ | refine ⟨H.frz 1 rfl, ?_⟩ | refine ⟨H.frz 2 rfl, ?_⟩ | refine ⟨H.frz 3 rfl, ?_⟩ | refine ⟨H.frz 4 rfl, ?_⟩ | refine ⟨H.frz 5 rfl, ?_⟩ | refine ⟨H.frz 6 rfl, ?_⟩ | refine ⟨H.frz 7 rfl, ?_⟩)
      | (first | refine ⟨_, H.get 0 rfl rfl, ?_⟩ | refine ⟨_, H.get 1 rfl rfl, ?_⟩ | refine ⟨_, H.get 2 rfl rfl, ?_⟩ | refine ⟨_, H.get 3 rfl rfl, ?_⟩ | refine ⟨_, H.get 4 rfl rfl, ?_⟩ | refine ⟨_, H.get 5 rfl rfl, ?_⟩ | refine ⟨_, H.get 6 rfl rfl, ?_⟩ | refine ⟨_, H.get 7 rfl rfl, ?_⟩)
      | (first | refine ⟨_, _, _, H.get 0 rfl rfl, ?_⟩ | refine ⟨_, _, _, H.get 1 rfl rfl, ?_⟩ | refine ⟨_, _, _, H.get 2 rfl rfl, ?_⟩ | refine ⟨_, _, _, H.get 3 rfl rfl, ?_⟩ | refine ⟨_, _, _, H.get 4 rfl rfl, ?_⟩ | refine ⟨_, _, _, H.get 5 rfl rfl, ?_⟩ | refine ⟨_, _, _, H.get 6 rfl rfl, ?_⟩ | refine ⟨_, _, _, H.get 7 rfl rfl, ?_⟩))
    refine (text_out _ (hold_in H 0 rfl rfl) (by omega)).mono ?_
    rintro e W2 ⟨p3, n3, c3', rfl, ho, eS⟩
    have et : textL (partS l cols j) (tB x.name) = (partS l cols j ++ (uvar x.name.size ++ tB x.name), 0) := by
      unfold textL
      rw [tB_length, if_pos (by omega)]
    rw [et] at ho ⊢
    have hn3 := ho.1
    have hlen2 := partS_len (l := l) ht (j + 1)
    have hst := partS_step (l := l) gx
    have hn3b : n3 + 2 = (partS l cols (j + 1)).length := by rw [hst, List.length_append, hn3]; rfl
    replace H := H.noRow.addRow eS ho.2
    refine ⟨_, _, _, _, rfl, ?_⟩
    repeat (first
      | (intro _ _ hS; replace H := H.new hS; clear hS)
      | (intro _ hS; (first | replace H := H.put 0 rfl hS | replace H := H.put 1 rfl hS | replace H := H.put 2 rfl hS | replace H := H.put 3 rfl hS | replace H := H.put 4 rfl hS | replace H := H.put 5 rfl hS | replace H := H.put 6 rfl hS | replace H := H.put 7 rfl hS); clear hS; try simp only [setA, List.setIfInBounds_toArray, List.set_cons_zero, List.set_cons_succ, Nat.zero_add, Nat.reduceAdd] at H)
      | (intro _ hS; replace H := H.step (Drew.ext hS); clear hS)
      | (first | refine ⟨⟨_, H.get 0 rfl rfl⟩, ?_⟩ | refine ⟨⟨_, H.get 1 rfl rfl⟩, ?_⟩ | refine ⟨⟨_, H.get 2 rfl rfl⟩, ?_⟩ | refine ⟨⟨_, H.get 3 rfl rfl⟩, ?_⟩ | refine ⟨⟨_, H.get 4 rfl rfl⟩, ?_⟩ | refine ⟨⟨_, H.get 5 rfl rfl⟩, ?_⟩ | refine ⟨⟨_, H.get 6 rfl rfl⟩, ?_⟩ | refine ⟨⟨_, H.get 7 rfl rfl⟩, ?_⟩)
      | (first | refine ⟨H.frz 0 rfl, ?_⟩ | refine ⟨H.frz 1 rfl, ?_⟩ | refine ⟨H.frz 2 rfl, ?_⟩ | refine ⟨H.frz 3 rfl, ?_⟩ | refine ⟨H.frz 4 rfl, ?_⟩ | refine ⟨H.frz 5 rfl, ?_⟩ | refine ⟨H.frz 6 rfl, ?_⟩ | refine ⟨H.frz 7 rfl, ?_⟩)
      | (first | refine ⟨_, H.get 0 rfl rfl, ?_⟩ | refine ⟨_, H.get 1 rfl rfl, ?_⟩ | refine ⟨_, H.get 2 rfl rfl, ?_⟩ | refine ⟨_, H.get 3 rfl rfl, ?_⟩ | refine ⟨_, H.get 4 rfl rfl, ?_⟩ | refine ⟨_, H.get 5 rfl rfl, ?_⟩ | refine ⟨_, H.get 6 rfl rfl, ?_⟩ | refine ⟨_, H.get 7 rfl rfl, ?_⟩)
      | (first | refine ⟨_, _, _, H.get 0 rfl rfl, ?_⟩ | refine ⟨_, _, _, H.get 1 rfl rfl, ?_⟩ | refine ⟨_, _, _, H.get 2 rfl rfl, ?_⟩ | refine ⟨_, _, _, H.get 3 rfl rfl, ?_⟩ | refine ⟨_, _, _, H.get 4 rfl rfl, ?_⟩ | refine ⟨_, _, _, H.get 5 rfl rfl, ?_⟩ | refine ⟨_, _, _, H.get 6 rfl rfl, ?_⟩ | refine ⟨_, _, _, H.get 7 rfl rfl, ?_⟩))
    refine (sflag_ok _ _).mono ?_
    rintro e W3 ⟨rfl, eT⟩
    refine ⟨_, rfl, eT.same, ?_⟩
    replace H := H.step eT
    rw [kindB x2]
    repeat (first
      | (intro _ _ hS; replace H := H.new hS; clear hS)
      | (intro _ hS; (first | replace H := H.put 0 rfl hS | replace H := H.put 1 rfl hS | replace H := H.put 2 rfl hS | replace H := H.put 3 rfl hS | replace H := H.put 4 rfl hS | replace H := H.put 5 rfl hS | replace H := H.put 6 rfl hS | replace H := H.put 7 rfl hS); clear hS; try simp only [setA, List.setIfInBounds_toArray, List.set_cons_zero, List.set_cons_succ, Nat.zero_add, Nat.reduceAdd] at H)
      | (intro _ hS; replace H := H.step (Drew.ext hS); clear hS)
      | (first | refine ⟨⟨_, H.get 0 rfl rfl⟩, ?_⟩ | refine ⟨⟨_, H.get 1 rfl rfl⟩, ?_⟩ | refine ⟨⟨_, H.get 2 rfl rfl⟩, ?_⟩ | refine ⟨⟨_, H.get 3 rfl rfl⟩, ?_⟩ | refine ⟨⟨_, H.get 4 rfl rfl⟩, ?_⟩ | refine ⟨⟨_, H.get 5 rfl rfl⟩, ?_⟩ | refine ⟨⟨_, H.get 6 rfl rfl⟩, ?_⟩ | refine ⟨⟨_, H.get 7 rfl rfl⟩, ?_⟩)
      | (first | refine ⟨H.frz 0 rfl, ?_⟩ | refine ⟨H.frz 1 rfl, ?_⟩ | refine ⟨H.frz 2 rfl, ?_⟩ | refine ⟨H.frz 3 rfl, ?_⟩ | refine ⟨H.frz 4 rfl, ?_⟩ | refine ⟨H.frz 5 rfl, ?_⟩ | refine ⟨H.frz 6 rfl, ?_⟩ | refine ⟨H.frz 7 rfl, ?_⟩)
      | (first | refine ⟨_, H.get 0 rfl rfl, ?_⟩ | refine ⟨_, H.get 1 rfl rfl, ?_⟩ | refine ⟨_, H.get 2 rfl rfl, ?_⟩ | refine ⟨_, H.get 3 rfl rfl, ?_⟩ | refine ⟨_, H.get 4 rfl rfl, ?_⟩ | refine ⟨_, H.get 5 rfl rfl, ?_⟩ | refine ⟨_, H.get 6 rfl rfl, ?_⟩ | refine ⟨_, H.get 7 rfl rfl, ?_⟩)
      | (first | refine ⟨_, _, _, H.get 0 rfl rfl, ?_⟩ | refine ⟨_, _, _, H.get 1 rfl rfl, ?_⟩ | refine ⟨_, _, _, H.get 2 rfl rfl, ?_⟩ | refine ⟨_, _, _, H.get 3 rfl rfl, ?_⟩ | refine ⟨_, _, _, H.get 4 rfl rfl, ?_⟩ | refine ⟨_, _, _, H.get 5 rfl rfl, ?_⟩ | refine ⟨_, _, _, H.get 6 rfl rfl, ?_⟩ | refine ⟨_, _, _, H.get 7 rfl rfl, ?_⟩))
    obtain ⟨p4, c4, w53, hrun, H1⟩ := H.append (ty := 28) (P := Tryd.prog) (q := some ⟨_, 0, none⟩) (m := 2) (d' := 2) (news := vB [UInt8.ofNat x.kind.toNat, if x.null then 1 else 0]) 0 rfl undB tyB rfl (by decide) (H.blk 0 rfl).at rfl (fun e => by cases e) vB_one (by dsimp only; omega) (by unfold maxLen; omega)
    refine ⟨_, _, _, _, hrun, ?_⟩
    rw [i64_next (by omega)]
    refine ⟨⟨j + 1, rfl, by omega, ?_, ?_⟩, by simp only [Int.toNat_natCast]; omega⟩
    · rw [hst, List.length_append, hn3]; rfl
    · rw [hst, vB_append]
      exact H1.tail.tail
  · have : j = cols.length := by omega
    subst this
    rw [partS_all] at H ⊢
    refine ⟨_, _, _, by rw [hL], ?_, H.ext⟩
    rw [hL]
    exact hold_out H 0 rfl rfl
end Go.Proofs.YtiojkfckaalooaaDoor

/- The contracts of schemas' bytes: taking, by the program and by the document. Printed by mksl2.py. -/
namespace Go.Vc
open Go Go.RowKit
def takeSV (l : List UInt8) (pos : Int) : List Col × Int × Int :=
  match takeSch l pos with
  | some (cs, k) => (cs, (k : Int), 0)
  | none => ([], 0, 52)
end Go.Vc
namespace Go.Proofs.YtiojkfckaalooaaDoor
open Go Go.Vc Go.RowKit
set_option maxRecDepth 20000
attribute [local irreducible] Calls Put Drew New

end Go.Proofs.YtiojkfckaalooaaDoor

/- The shelf's tables of numbers for this program: as its command lays them, written out by a program of ours (lays.py). -/
namespace Go.Proofs.YtiojkfckaalooaaDoor
open Go Go.Shelf

def joinL_ren : Ren := ⟨fun | 156 => 54 | 165 => 77 | 166 => 78 | 169 => 79 | 240 => 90 | 241 => 91 | 276 => 100 | 277 => 101 | n => n, fun | 31 => 76 | 9 => 9 | 3 => 3 | 4 => 4 | 0 => 0 | 20 => 20 | 72 => 104 | 76 => 108 | 70 => 102 | 37 => 28 | 75 => 107 | 127 => 119 | 164 => 124 | 5 => 5 | 80 => 110 | n => n, fun | n => n⟩
theorem joinL : Lays.n156 Tryd.prog joinL_ren where
  mixed := by kernel_rfl
  f156 := Tryd.func54.trans (congrArg some (by kernel_rfl))
  f165 := Tryd.func77.trans (congrArg some (by kernel_rfl))
  f166 := Tryd.func78.trans (congrArg some (by kernel_rfl))
  f169 := Tryd.func79.trans (congrArg some (by kernel_rfl))
  f240 := Tryd.func90.trans (congrArg some (by kernel_rfl))
  f241 := Tryd.func91.trans (congrArg some (by kernel_rfl))
  f276 := Tryd.func100.trans (congrArg some (by kernel_rfl))
  f277 := Tryd.func101.trans (congrArg some (by kernel_rfl))
  t0 := Tryd.underlying0
  a0 := Tryd.isAgg0
  z0 := Tryd.sizeOf0
  v0 := Tryd.zeroValue0
  t3 := Tryd.underlying3
  a3 := Tryd.isAgg3
  z3 := Tryd.sizeOf3
  v3 := Tryd.zeroValue3
  t4 := Tryd.underlying4
  a4 := Tryd.isAgg4
  z4 := Tryd.sizeOf4
  v4 := Tryd.zeroValue4
  t9 := Tryd.underlying9
  a9 := Tryd.isAgg9
  z9 := Tryd.sizeOf9
  v9 := Tryd.zeroValue9
  t20 := Tryd.underlying20
  a20 := Tryd.isAgg20
  z20 := Tryd.sizeOf20
  v20 := Tryd.zeroValue20
  t31 := Tryd.underlying76
  a31 := Tryd.isAgg76
  z31 := Tryd.sizeOf76
  v31 := Tryd.zeroValue76
  t37 := Tryd.underlying28
  a37 := Tryd.isAgg28
  z37 := Tryd.sizeOf28
  v37 := Tryd.zeroValue28
  t70 := Tryd.underlying102
  a70 := Tryd.isAgg102
  z70 := Tryd.sizeOf102
  v70 := Tryd.zeroValue102
  t72 := Tryd.underlying104
  a72 := Tryd.isAgg104
  z72 := Tryd.sizeOf104
  v72 := Tryd.zeroValue104
  t75 := Tryd.underlying107
  a75 := Tryd.isAgg107
  z75 := Tryd.sizeOf107
  v75 := Tryd.zeroValue107
  t76 := Tryd.underlying108
  a76 := Tryd.isAgg108
  z76 := Tryd.sizeOf108
  v76 := Tryd.zeroValue108
  t127 := Tryd.underlying119
  a127 := Tryd.isAgg119
  z127 := Tryd.sizeOf119
  v127 := Tryd.zeroValue119
  t164 := Tryd.underlying124
  a164 := Tryd.isAgg124
  z164 := Tryd.sizeOf124
  v164 := Tryd.zeroValue124

def splitL_ren : Ren := ⟨fun | 146 => 56 | 221 => 80 | 268 => 92 | 138 => 93 | 143 => 94 | 195 => 102 | 197 => 86 | 218 => 103 | 219 => 96 | 260 => 97 | 217 => 64 | 225 => 104 | 224 => 105 | 267 => 106 | 266 => 84 | 314 => 108 | n => n, fun | 9 => 9 | 31 => 76 | 3 => 3 | 4 => 4 | 0 => 0 | 105 => 115 | 21 => 21 | 5 => 5 | 46 => 113 | 119 => 128 | 139 => 131 | 138 => 130 | 146 => 134 | 51 => 133 | n => n, fun | 1 => 1 | 3 => 2 | 4 => 3 | n => n⟩
def cutL_ren : Ren := ⟨fun | 145 => 58 | 220 => 82 | 219 => 96 | 217 => 64 | 225 => 104 | 224 => 105 | 267 => 106 | 266 => 84 | 314 => 108 | n => n, fun | 9 => 9 | 4 => 4 | 59 => 83 | 3 => 3 | 5 => 5 | 46 => 113 | 146 => 134 | 51 => 133 | n => n, fun | 1 => 1 | n => n⟩
end Go.Proofs.YtiojkfckaalooaaDoor

/- The contracts of schemas' texts: showing, by the program (strings.Join by the kit's shelf) and by the document. -/
namespace Go.Vc
open Go Go.RowKit
def bS (l : List UInt8) : ByteArray := ⟨l.toArray⟩
theorem bS_tB (s : ByteArray) : bS (tB s) = s := tB_inj.1 (tB_mk _)
theorem tB_bS (l : List UInt8) : tB (bS l) = l := tB_mk l
theorem bS_size (l : List UInt8) : (bS l).size = l.length := by
  show l.toArray.size = _
  simp
theorem cat_bS (a b : ByteArray) : ByteArray.instAppend.1 a b = bS (tB a ++ tB b) := by
  apply tB_inj.1
  rw [tB_bS]
  show (a ++ b).data.toList = _
  rw [ByteArray.data_append, Array.toList_append]; rfl
def txt (s : ByteArray) : List Value := [.string s]
theorem txt_len (s : ByteArray) : (txt s).length = 1 := rfl
theorem txt_one (s : ByteArray) : ∀ u ∈ txt s, u.oneCell' = true := by intro u hu; simp [txt] at hu; subst hu; rfl
def wordL (k : Int) : List UInt8 := if k = 1 then [105, 110, 116] else if k = 2 then [98, 111, 111, 108] else if k = 3 then [116, 101, 120, 116] else [110, 117, 108, 108]
def colT (c : Col) : List UInt8 := tB c.name ++ ([32] ++ (wordL c.kind ++ (if c.null then [32, 110, 117, 108, 108] else [])))
def sepL : List UInt8 := [44, 32]
def showL (cols : List Col) : List UInt8 := Lib.join (cols.map colT) sepL
def showS (cols : List Col) : ByteArray × Int := if rightC cols then (bS (showL cols), 0) else (⟨#[]⟩, 50)
theorem wordL_len (k : Int) : (wordL k).length ≤ 4 := by unfold wordL; repeat' split
                                                         all_goals decide
theorem colT_len {c : Col} (h : c.name.size ≤ 24) : (colT c).length ≤ 34 := by
  have := wordL_len c.kind
  have := tB_length c.name
  unfold colT
  cases c.null <;> simp <;> omega
theorem joinTail_len : ∀ (r : List (List UInt8)), (∀ x ∈ r, x.length ≤ 34) → (Lib.joinTail sepL r).length ≤ 36 * r.length
  | [], _ => by simp [Lib.joinTail]
  | x :: r, h => by
    have h1 := h x (by simp)
    have h2 := joinTail_len r fun y hy => h y (by simp [hy])
    have e : Lib.joinTail sepL (x :: r) = (sepL ++ x) ++ Lib.joinTail sepL r := by unfold Lib.joinTail; simp
    rw [e, List.length_append, List.length_append, List.length_cons]
    have : sepL.length = 2 := rfl
    omega
theorem showL_len {cols : List Col} (h : ∀ c ∈ cols, c.name.size ≤ 24) : (showL cols).length ≤ 36 * cols.length := by
  unfold showL
  cases cols with
  | nil => simp [Lib.join_nil]
  | cons c r =>
    rw [List.map_cons, Lib.join_cons, List.length_append, List.length_cons]
    have h1 := colT_len (h c (by simp))
    have h2 := joinTail_len (r.map colT) fun x hx => by
      obtain ⟨y, hy, rfl⟩ := List.mem_map.1 hx
      exact colT_len (h y (by simp [hy]))
    rw [List.length_map] at h2
    omega
end Go.Vc
namespace Go.Proofs.YtiojkfckaalooaaDoor
open Go Go.Vc Go.RowKit
set_option maxRecDepth 20000
attribute [local irreducible] Calls Put Drew New

/-- The table of words. -/
def wordsA : Array Value := #[.string (bS [110, 117, 108, 108]), .string (bS [105, 110, 116]), .string (bS [98, 111, 111, 108]), .string (bS [116, 101, 120, 116])]
def WTab (w : World) : Prop := CellsAt w 0 0 wordsA
theorem WTab.ext {w w' : World} (h : WTab w) (e : Ext w w') : WTab w' := fun k v hk => cell_ext (h k v hk) e
theorem WTab.at {w : World} (h : WTab w) {k : Int} (hk : 1 ≤ k ∧ k ≤ 3) : w.cell? ⟨0, 0 + k.toNat, none⟩ = some (.string (bS (wordL k))) := by
  rcases (by omega : k = 1 ∨ k = 2 ∨ k = 3) with e | e | e <;> subst e
  · exact h 1 _ rfl
  · exact h 2 _ rfl
  · exact h 3 _ rfl
theorem joinX : Builder.Extra Tryd.prog joinL_ren where
  sizeBuilder := by kernel_rfl
  liesBuilder := by kernel_rfl
  t5 := by kernel_rfl
  a5 := Tryd.isAgg5
  z5 := Tryd.sizeOf5
  v5 := Tryd.zeroValue5
  infoByte := by kernel_rfl
  cellsByte := by kernel_rfl
  sizeByte := by kernel_rfl
  neB5 := by decide
theorem join_ok {w : World} {p : Option Addr} {n c : Nat} {xs : List ByteArray} (h : Ls txt w p n c xs) (sep : ByteArray) (hn : n ≤ 1000) (hlen : (Lib.join (xs.map tB) (tB sep)).length ≤ 1000000) :
    Calls Tryd.prog 54 #[.slice p n c, .string sep] w fun e w' => e = .returned (.string (bS (Lib.join (xs.map tB) (tB sep)))) ∧ Ext w w' := by
  have hl := h.len
  rcases Nat.eq_zero_or_pos n with h0 | h0
  · subst h0
    have hx : xs = [] := List.eq_nil_of_length_eq_zero hl
    subst hx
    refine (Any.strings_Join_none joinL joinX p c sep w).mono ?_
    rintro e w' ⟨rfl, rfl⟩
    exact ⟨rfl, Ext.rfl⟩
  · obtain ⟨b, o, hp, h1⟩ := h.lies.things txt_len (by decide) (i := 0) (List.getElem?_eq_getElem (by omega))
    subst hp
    have hcells : ∀ (j : Nat) x, xs[j]? = some x → w.cell? ⟨b, o + j, none⟩ = some (.string x) := by
      intro j x hx
      obtain ⟨b', o', hp', h2⟩ := h.lies.things txt_len (by decide) hx
      cases hp'
      have := h2 0 _ rfl
      rwa [Nat.mul_one, Nat.add_zero] at this
    have hb := cell_lt (hcells 0 _ (List.getElem?_eq_getElem (by omega)))
    have := Any.strings_Join joinL joinX b o c xs sep w hcells hb (by omega) (by have := h.cap; omega) (by have : (Lib.join (xs.map (·.data.toList)) sep.data.toList).length ≤ 1000000 := hlen; omega)
    rw [hl] at this
    refine this.mono ?_
    rintro e w' ⟨rfl, hw⟩
    exact ⟨rfl, hw⟩
theorem undTx : Tryd.prog.underlying 76 = some (.slice 9) := by kernel_rfl
theorem tyStr : tyOf Tryd.prog 9 = some { agg := false, ls := [.str], zero := .string ⟨#[]⟩, bytes := 16, big := false, n := 1 } := by kernel_rfl
set_option maxHeartbeats 4000000 in
theorem sshow_ok {w : World} (hT : WTab w) {p : Option Addr} {n c : Nat} {cols : List Col} (h : Cols w p n c cols) :
    Calls Tryd.prog 29 #[.slice p n c] w fun e w' => e = .returned (.tuple #[.string (showS cols).1, .int .i64 (showS cols).2]) ∧ Ext w w' := by
  have hl := h.len
  apply sshow_vc
  unfold sshow_T
  refine (sright_ok h).mono ?_
  rintro e w2 ⟨rfl, e1⟩
  refine ⟨_, rfl, fun hf => ?_, fun ht => ?_⟩
  · have hS : showS cols = (⟨#[]⟩, 50) := by unfold showS; rw [hf]; rfl
    rw [hS]; exact ⟨rfl, e1⟩
  obtain ⟨r1, r2, r3⟩ := right_all ht
  have hS : showS cols = (bS (showL cols), 0) := by unfold showS; rw [if_pos ht]
  refine ⟨fun q m d i W => ∃ j : Nat, i = (j : Int) ∧ j ≤ n ∧ j = m ∧ Hold w W [] [⟨9, 1, q, m, d, ((cols.take j).map fun c => bS (colT c)).flatMap txt⟩], fun _ _ _ i _ => n - i.toNat, ⟨0, rfl, Nat.zero_le _, rfl, (Hold.start e1).nilRow _ _⟩, ?_⟩
  rintro q m d i W ⟨j, rfl, hj, rfl, H⟩
  refine ⟨fun hlt => ?_, fun hge => ?_⟩
  · have gx : cols[j]? = some (cols[j]'(by omega)) := List.getElem?_eq_getElem _
    generalize cols[j]'(by omega) = x at gx
    obtain ⟨x1, x2⟩ := r3 x (List.mem_of_getElem? gx)
    obtain ⟨b, o, hp, c0, c1, c3⟩ := (h.ext H.ext).col gx
    simp only [Int.toNat_natCast]
    refine ⟨b, o, hp, by omega, hlt, _, c0, _, c1, _, c3, ?_⟩
    repeat (first
      | (intro _ _ hS; replace H := H.new hS; clear hS)
      | (intro _ hS; (first | replace H := H.put 0 rfl hS | replace H := H.put 1 rfl hS | replace H := H.put 2 rfl hS | replace H := H.put 3 rfl hS | replace H := H.put 4 rfl hS | replace H := H.put 5 rfl hS | replace H := H.put 6 rfl hS | replace H := H.put 7 rfl hS); clear hS; try simp only [setA, List.setIfInBounds_toArray, List.set_cons_zero, List.set_cons_succ, Nat.zero_add, Nat.reduceAdd] at H)
      | (intro _ hS; replace H := H.step (Drew.ext hS); clear hS)
      | (first | refine ⟨⟨_, H.get 0 rfl rfl⟩, ?_⟩ | refine ⟨⟨_, H.get 1 rfl rfl⟩, ?_⟩ | refine ⟨⟨_, H.get 2 rfl rfl⟩, ?_⟩ | refine ⟨⟨_, H.get 3 rfl rfl⟩, ?_⟩ | refine ⟨⟨_, H.get 4 rfl rfl⟩, ?_⟩ | refine ⟨⟨_, H.get 5 rfl rfl⟩, ?_⟩ | refine ⟨⟨_, H.get 6 rfl rfl⟩, ?_⟩ | refine ⟨⟨_, H.get 7 rfl rfl⟩, ?_⟩)
      | (first | refine ⟨H.frz 0 rfl, ?_⟩ | refine ⟨H.frz 1 rfl, ?_⟩ | refine ⟨H.frz 2 rfl, ?_⟩ | refine ⟨H.frz 3 rfl, ?_⟩ | refine ⟨H.frz 4 rfl, ?_⟩ | refine ⟨H.frz 5 rfl, ?_⟩ | refine ⟨H.frz 6 rfl, ?_⟩ | refine ⟨H.frz 7 rfl, ?_⟩)
      | (first | refine ⟨_, H.get 0 rfl rfl, ?_⟩ | refine ⟨_, H.get 1 rfl rfl, ?_⟩ | refine ⟨_, H.get 2 rfl rfl, ?_⟩ | refine ⟨_, H.get 3 rfl rfl, ?_⟩ | refine ⟨_, H.get 4 rfl rfl, ?_⟩ | refine ⟨_, H.get 5 rfl rfl, ?_⟩ | refine ⟨_, H.get 6 rfl rfl, ?_⟩ | refine ⟨_, H.get 7 rfl rfl, ?_⟩)
      | (first | refine ⟨_, _, _, H.get 0 rfl rfl, ?_⟩ | refine ⟨_, _, _, H.get 1 rfl rfl, ?_⟩ | refine ⟨_, _, _, H.get 2 rfl rfl, ?_⟩ | refine ⟨_, _, _, H.get 3 rfl rfl, ?_⟩ | refine ⟨_, _, _, H.get 4 rfl rfl, ?_⟩ | refine ⟨_, _, _, H.get 5 rfl rfl, ?_⟩ | refine ⟨_, _, _, H.get 6 rfl rfl, ?_⟩ | refine ⟨_, _, _, H.get 7 rfl rfl, ?_⟩))
    refine ⟨by omega, ?_⟩
    repeat (first
      | (intro _ _ hS; replace H := H.new hS; clear hS)
      | (intro _ hS; (first | replace H := H.put 0 rfl hS | replace H := H.put 1 rfl hS | replace H := H.put 2 rfl hS | replace H := H.put 3 rfl hS | replace H := H.put 4 rfl hS | replace H := H.put 5 rfl hS | replace H := H.put 6 rfl hS | replace H := H.put 7 rfl hS); clear hS; try simp only [setA, List.setIfInBounds_toArray, List.set_cons_zero, List.set_cons_succ, Nat.zero_add, Nat.reduceAdd] at H)
      | (intro _ hS; replace H := H.step (Drew.ext hS); clear hS)
      | (first | refine ⟨⟨_, H.get 0 rfl rfl⟩, ?_⟩ | refine ⟨⟨_, H.get 1 rfl rfl⟩, ?_⟩ | refine ⟨⟨_, H.get 2 rfl rfl⟩, ?_⟩ | refine ⟨⟨_, H.get 3 rfl rfl⟩, ?_⟩ | refine ⟨⟨_, H.get 4 rfl rfl⟩, ?_⟩ | refine ⟨⟨_, H.get 5 rfl rfl⟩, ?_⟩ | refine ⟨⟨_, H.get 6 rfl rfl⟩, ?_⟩ | refine ⟨⟨_, H.get 7 rfl rfl⟩, ?_⟩)
      | (first | refine ⟨H.frz 0 rfl, ?_⟩ | refine ⟨H.frz 1 rfl, ?_⟩ | refine ⟨H.frz 2 rfl, ?_⟩ | refine ⟨H.frz 3 rfl, ?_⟩ | refine ⟨H.frz 4 rfl, ?_⟩ | refine ⟨H.frz 5 rfl, ?_⟩ | refine ⟨H.frz 6 rfl, ?_⟩ | refine ⟨H.frz 7 rfl, ?_⟩)
      | (first | refine ⟨_, H.get 0 rfl rfl, ?_⟩ | refine ⟨_, H.get 1 rfl rfl, ?_⟩ | refine ⟨_, H.get 2 rfl rfl, ?_⟩ | refine ⟨_, H.get 3 rfl rfl, ?_⟩ | refine ⟨_, H.get 4 rfl rfl, ?_⟩ | refine ⟨_, H.get 5 rfl rfl, ?_⟩ | refine ⟨_, H.get 6 rfl rfl, ?_⟩ | refine ⟨_, H.get 7 rfl rfl, ?_⟩)
      | (first | refine ⟨_, _, _, H.get 0 rfl rfl, ?_⟩ | refine ⟨_, _, _, H.get 1 rfl rfl, ?_⟩ | refine ⟨_, _, _, H.get 2 rfl rfl, ?_⟩ | refine ⟨_, _, _, H.get 3 rfl rfl, ?_⟩ | refine ⟨_, _, _, H.get 4 rfl rfl, ?_⟩ | refine ⟨_, _, _, H.get 5 rfl rfl, ?_⟩ | refine ⟨_, _, _, H.get 6 rfl rfl, ?_⟩ | refine ⟨_, _, _, H.get 7 rfl rfl, ?_⟩))
    have hw4 := wordL_len x.kind
    have hz := tB_length x.name
    refine ⟨by omega, by omega, _, (hT.ext H.ext).at x2, ?_⟩
    simp only [cat_bS, tB_bS, bS_size]
    have hone : tB (ByteArray.mk #[32]) = [32] := rfl
    have hnul : tB (ByteArray.mk #[32, 110, 117, 108, 108]) = [32, 110, 117, 108, 108] := rfl
    rw [hone, hnul]
    refine ⟨by simp; omega, ?_⟩
    repeat (first
      | (intro _ _ hS; replace H := H.new hS; clear hS)
      | (intro _ hS; (first | replace H := H.put 0 rfl hS | replace H := H.put 1 rfl hS | replace H := H.put 2 rfl hS | replace H := H.put 3 rfl hS | replace H := H.put 4 rfl hS | replace H := H.put 5 rfl hS | replace H := H.put 6 rfl hS | replace H := H.put 7 rfl hS); clear hS; try simp only [setA, List.setIfInBounds_toArray, List.set_cons_zero, List.set_cons_succ, Nat.zero_add, Nat.reduceAdd] at H)
      | (intro _ hS; replace H := H.step (Drew.ext hS); clear hS)
      | (first | refine ⟨⟨_, H.get 0 rfl rfl⟩, ?_⟩ | refine ⟨⟨_, H.get 1 rfl rfl⟩, ?_⟩ | refine ⟨⟨_, H.get 2 rfl rfl⟩, ?_⟩ | refine ⟨⟨_, H.get 3 rfl rfl⟩, ?_⟩ | refine ⟨⟨_, H.get 4 rfl rfl⟩, ?_⟩ | refine ⟨⟨_, H.get 5 rfl rfl⟩, ?_⟩ | refine ⟨⟨_, H.get 6 rfl rfl⟩, ?_⟩ | refine ⟨⟨_, H.get 7 rfl rfl⟩, ?_⟩)
      | (first | refine ⟨H.frz 0 rfl, ?_⟩ | refine ⟨H.frz 1 rfl, ?_⟩ | refine ⟨H.frz 2 rfl, ?_⟩ | refine ⟨H.frz 3 rfl, ?_⟩ | refine ⟨H.frz 4 rfl, ?_⟩ | refine ⟨H.frz 5 rfl, ?_⟩ | refine ⟨H.frz 6 rfl, ?_⟩ | refine ⟨H.frz 7 rfl, ?_⟩)
      | (first | refine ⟨_, H.get 0 rfl rfl, ?_⟩ | refine ⟨_, H.get 1 rfl rfl, ?_⟩ | refine ⟨_, H.get 2 rfl rfl, ?_⟩ | refine ⟨_, H.get 3 rfl rfl, ?_⟩ | refine ⟨_, H.get 4 rfl rfl, ?_⟩ | refine ⟨_, H.get 5 rfl rfl, ?_⟩ | refine ⟨_, H.get 6 rfl rfl, ?_⟩ | refine ⟨_, H.get 7 rfl rfl, ?_⟩)
      | (first | refine ⟨_, _, _, H.get 0 rfl rfl, ?_⟩ | refine ⟨_, _, _, H.get 1 rfl rfl, ?_⟩ | refine ⟨_, _, _, H.get 2 rfl rfl, ?_⟩ | refine ⟨_, _, _, H.get 3 rfl rfl, ?_⟩ | refine ⟨_, _, _, H.get 4 rfl rfl, ?_⟩ | refine ⟨_, _, _, H.get 5 rfl rfl, ?_⟩ | refine ⟨_, _, _, H.get 6 rfl rfl, ?_⟩ | refine ⟨_, _, _, H.get 7 rfl rfl, ?_⟩))
    refine ⟨fun hb => ⟨by simp; omega, ?_⟩, fun hb => ?_⟩
    · have ex : bS (tB x.name ++ [32] ++ wordL x.kind ++ [32, 110, 117, 108, 108]) = bS (colT x) := by unfold colT; rw [hb]; simp
      rw [ex]
      intro b35 w36 h35
      replace H := H.new h35
      obtain ⟨p', c', w41, hrun, H1⟩ := H.append (ty := 76) (P := Tryd.prog) (q := some ⟨b35, 0, none⟩) (m := 1) (d' := 1) (news := txt (bS (colT x))) 0 rfl undTx tyStr rfl (by decide) (H.blk 0 rfl).at rfl (fun e => by cases e) (txt_one _) (by show ((j + 1) + (j + 1) / 4 + 192) * 16 ≤ 281474976710656; omega) (by unfold maxLen; omega)
      refine ⟨_, _, _, _, hrun, ?_⟩
      rw [i64_next (by omega)]
      refine ⟨⟨j + 1, rfl, by omega, rfl, ?_⟩, by simp only [Int.toNat_natCast]; omega⟩
      rw [take_snoc gx, List.map_append, List.flatMap_append]
      have := H1.tail.tail
      simpa using this
    · have ex : bS (tB x.name ++ [32] ++ wordL x.kind) = bS (colT x) := by unfold colT; rw [hb]; simp
      rw [ex]
      intro b35 w36 h35
      replace H := H.new h35
      obtain ⟨p', c', w41, hrun, H1⟩ := H.append (ty := 76) (P := Tryd.prog) (q := some ⟨b35, 0, none⟩) (m := 1) (d' := 1) (news := txt (bS (colT x))) 0 rfl undTx tyStr rfl (by decide) (H.blk 0 rfl).at rfl (fun e => by cases e) (txt_one _) (by show ((j + 1) + (j + 1) / 4 + 192) * 16 ≤ 281474976710656; omega) (by unfold maxLen; omega)
      refine ⟨_, _, _, _, hrun, ?_⟩
      rw [i64_next (by omega)]
      refine ⟨⟨j + 1, rfl, by omega, rfl, ?_⟩, by simp only [Int.toNat_natCast]; omega⟩
      rw [take_snoc gx, List.map_append, List.flatMap_append]
      have := H1.tail.tail
      simpa using this
  · have hjn : j = n := by omega
    subst hjn
    rw [List.take_of_length_le (by omega)] at H
    have hls : Ls txt W q j d (cols.map fun c => bS (colT c)) := (H.row 0 rfl).ls txt_len (by decide)
    have hmap : (cols.map fun c => bS (colT c)).map tB = cols.map colT := by rw [List.map_map]; exact List.map_congr_left fun c _ => tB_bS _
    have hlen := showL_len (cols := cols) fun c hc => (r3 c hc).1
    refine (join_ok hls (ByteArray.mk #[44, 32]) (by omega) (by rw [hmap]; have : (Lib.join (cols.map colT) sepL).length ≤ 36 * cols.length := hlen; have e : tB (ByteArray.mk #[44, 32]) = sepL := rfl; rw [e]; omega)).mono ?_
    rintro e W2 ⟨rfl, eS⟩
    refine ⟨_, rfl, ?_, H.ext.trans eS⟩
    rw [hmap, hS]; rfl
end Go.Proofs.YtiojkfckaalooaaDoor

/- The contracts of schemas' texts, the document's; schemas held against one another; the known schema. Printed by mksw2.py. -/
namespace Go.Proofs.YtiojkfckaalooaaDoor
open Go Go.Vc Go.RowKit
set_option maxRecDepth 20000
attribute [local irreducible] Calls Put Drew New

def shownC : List Col := [⟨bS [97], 1, false⟩, ⟨bS [98], 3, true⟩]
theorem shownC_right : rightC shownC = true := by decide +kernel
theorem shownC_right1 : rightC (shownC.take 1) = true := by decide +kernel
theorem shownC_show : showL shownC = [97, 32, 105, 110, 116, 44, 32, 98, 32, 116, 101, 120, 116, 32, 110, 117, 108, 108] := by decide +kernel
theorem shownC_lay : schB (shownC.take 1) = [1, 1, 97, 1, 0] := by
  unfold schB
  show uvar 1 ++ (colB ⟨bS [97], 1, false⟩ ++ []) = _
  unfold colB
  show uvar 1 ++ ((uvar 1 ++ (tB (bS [97]) ++ _)) ++ []) = _
  rw [uvar_small (by decide)]; rfl
theorem shown05_ok {w : World} (hT : WTab w) : Calls Tryd.prog 10 #[] w fun e w' => e = .returned (.bool true) ∧ Ext w w' := by
  apply shown05_vc
  unfold shown05_T
  intro b1 w2 h1
  have h1' : New w (.cells (shownC.flatMap Col.cs).toArray 53) b1 w2 := h1
  have hC : Cols w2 (some ⟨b1, 0, none⟩) 2 2 shownC := ⟨rfl, ⟨Nat.le_refl _, by unfold maxLen; omega⟩, h1'.at, fun e => by cases e⟩
  have e1 := h1'.ext
  refine (sshow_ok (hT.ext e1) hC).mono ?_
  rintro e w5 ⟨rfl, e2⟩
  refine ⟨_, _, rfl, by decide, by decide, ?_⟩
  have hC1 : Cols w5 (some ⟨b1, 0, none⟩) 1 2 (shownC.take 1) := (hC.ext e2).take Col.cs_length (by decide)
  refine (slay_ok w5 (In.nothing _) hC1 (by decide)).mono ?_
  rintro e w9 ⟨p, n, c, rfl, ho, e3⟩
  have hS : showS shownC = (bS [97, 32, 105, 110, 116, 44, 32, 98, 32, 116, 101, 120, 116, 32, 110, 117, 108, 108], 0) := by unfold showS; rw [if_pos shownC_right, shownC_show]
  have hL : layS [] (shownC.take 1) = ([1, 1, 97, 1, 0], 0) := by unfold layS; rw [if_pos shownC_right1, shownC_lay]; rfl
  rw [hL] at ho ⊢
  rw [hS]
  refine ⟨_, _, _, _, rfl, fun _ => ⟨_, ho.bytes, ?_, (e1.trans e2).trans e3⟩, fun hx => ?_⟩
  · rw [show sEq ⟨([1, 1, 97, 1, 0] : List UInt8).toArray⟩ (ByteArray.mk #[1, 1, 97, 1, 0]) = true from sEq_self _]
  · exfalso
    rcases hx with (hx | hx) | hx
    · exact hx rfl
    · exact hx rfl
    · exact hx rfl
end Go.Proofs.YtiojkfckaalooaaDoor

/- A growing row of rows, all of our own. -/
namespace Go.Vc
open Go Go.RowKit

def Pts {β : Type} (te th : TypeId) (s : Nat) (en : β → List Value) (w0 W : World) (p : Option Addr) (n c : Nat) (bl : List β) : Prop :=
  ∃ (hs : List Sl) (rl : List Row), hs.length = n ∧ bl.length = n ∧ Hold w0 W [] (rl ++ [⟨th, 1, p, n, c, hs.flatMap Sl.cs⟩]) ∧ ∀ (i : Nat) x y, hs[i]? = some x → bl[i]? = some y → (⟨te, s, x.p, x.n, x.c, en y⟩ : Row) ∈ rl
section
variable {β : Type} {te th : TypeId} {s : Nat} {en : β → List Value} {w0 W W1 W2 : World} {p q : Option Addr} {n c m d b : Nat} {bl : List β} {y : β}
theorem Pts.ext (h : Pts te th s en w0 W p n c bl) : Ext w0 W := by
  obtain ⟨_, _, _, _, H, _⟩ := h
  exact H.ext
theorem Pts.step (h : Pts te th s en w0 W p n c bl) (e : Ext W W1) : Pts te th s en w0 W1 p n c bl := by
  obtain ⟨hs, rl, h1, h2, H, h3⟩ := h
  exact ⟨hs, rl, h1, h2, H.step e, h3⟩
theorem Pts.none (e : Ext w0 W) : Pts te th s en w0 W none 0 0 ([] : List β) := ⟨[], [], rfl, rfl, (Hold.start e).nilRow _ _, by simp⟩
/-- A literal of one row. -/
theorem Pts.one (e0 : Ext w0 W) (e : Ext W W1) (hm : Mine W.heap.size te s W1 q m d (en y)) (hn : New W1 (.cells #[.slice q m d] th) b W2) : Pts te th s en w0 W2 (some ⟨b, 0, Option.none⟩) 1 1 [y] := by
  have H := ((Hold.start e0).addRow e hm).litRow (s := 1) (cap := 1) hn (by unfold maxLen; omega) rfl
  have hsw : Hold w0 W2 [] ([(⟨te, s, q, m, d, en y⟩ : Row)] ++ [⟨th, 1, some ⟨b, 0, Option.none⟩, 1, 1, [(⟨q, m, d⟩ : Sl)].flatMap Sl.cs⟩]) := by
    refine ⟨H.ext, H.ge, H.holds, H.keys, fun i x hx => ?_, fun i j x k hx hk => by simp at hx, fun i j x k hx hk hij => ?_⟩
    · match i, hx with
      | 0, hx => exact H.own 1 x hx
      | 1, hx => exact H.own 0 x hx
      | i + 2, hx => simp at hx
    · match i, j, hx, hk with
      | 0, 0, hx, hk => exact absurd rfl hij
      | 0, 1, hx, hk => exact H.rows 1 0 x k hx hk (by decide)
      | 1, 0, hx, hk => exact H.rows 0 1 x k hx hk (by decide)
      | 1, 1, hx, hk => exact absurd rfl hij
      | i + 2, _, hx, _ => simp at hx
      | 0, j + 2, _, hk => simp at hk
      | 1, j + 2, _, hk => simp at hk
  refine ⟨[⟨q, m, d⟩], [⟨te, s, q, m, d, en y⟩], rfl, rfl, hsw, fun i x y' hx hy => ?_⟩
  cases i with
  | zero => cases hx; cases hy; simp
  | succ i => cases hx
theorem Pts.push {P : Program} {t' ty tb : TypeId} {z : Ty} (h : Pts te th s en w0 W p n c bl) (hu : P.underlying t' = some (.slice th)) (hz : tyOf P th = some z) (h1 : z.ls.length = 1) (hb : z.bytes = 24) (e : Ext W W1)
    (hm : Mine W.heap.size te s W1 q m d (en y)) (hn : New W1 (.cells #[.slice q m d] tb) b W2) (hlen : n ≤ 1000000) :
    ∃ p' c' W3, (Builtin.append_ #[t', t'] ty #[.slice p n c, .slice (some ⟨b, 0, Option.none⟩) 1 1]).run P W2 = .ok (.slice p' (n + 1) c') W3 ∧ Pts te th s en w0 W3 p' (n + 1) c' (bl ++ [y]) := by
  obtain ⟨hs, rl, hhs, hbl, H, hrows⟩ := h
  have H1 := H.addRow e hm
  have H2 := H1.step hn.ext
  have hidx : (⟨te, s, q, m, d, en y⟩ :: (rl ++ [(⟨th, 1, p, n, c, hs.flatMap Sl.cs⟩ : Row)]))[rl.length + 1]? = some ⟨th, 1, p, n, c, hs.flatMap Sl.cs⟩ := by simp
  obtain ⟨p', c', W3, hrn, H3⟩ := H2.append (ty := ty) (P := P) (s := 1) (q := some ⟨b, 0, Option.none⟩) (m := 1) (d' := 1) (news := [.slice q m d]) (rl.length + 1) hidx hu hz h1 (by decide) (Blk.new hn).at rfl (fun e => by cases e)
    (by intro u hu; simp at hu; subst hu; rfl) (by rw [hb]; omega) (by unfold maxLen; omega)
  refine ⟨p', c', W3, hrn, hs ++ [⟨q, m, d⟩], ⟨te, s, q, m, d, en y⟩ :: rl, by simp [hhs], by simp [hbl], ?_, ?_⟩
  · have e : (⟨te, s, q, m, d, en y⟩ :: (rl ++ [(⟨th, 1, p, n, c, hs.flatMap Sl.cs⟩ : Row)])).set (rl.length + 1) ⟨th, 1, p', n + 1, c', hs.flatMap Sl.cs ++ [.slice q m d]⟩
        = (⟨te, s, q, m, d, en y⟩ :: rl) ++ [⟨th, 1, p', n + 1, c', (hs ++ [(⟨q, m, d⟩ : Sl)]).flatMap Sl.cs⟩] := by
      simp [Sl.cs]
    rw [e] at H3
    exact H3
  · intro i x r' hx hr'
    rcases Nat.lt_or_ge i n with hi | hi
    · rw [List.getElem?_append_left (by omega)] at hx hr'
      exact List.mem_cons_of_mem _ (hrows i x r' hx hr')
    · have hlt := (List.getElem?_eq_some_iff.1 hx).1
      simp [hhs] at hlt
      have : i = n := by omega
      subst this
      rw [List.getElem?_append_right (by omega), show i - hs.length = 0 by omega] at hx
      rw [List.getElem?_append_right (by omega), show i - bl.length = 0 by omega] at hr'
      cases hr'
      cases hx
      exact List.mem_cons_self
/-- What lies there. -/
theorem Pts.heads (h : Pts te th s en w0 W p n c bl) : ∃ hs : List Sl, hs.length = n ∧ Mine w0.heap.size th 1 W p n c (hs.flatMap Sl.cs) ∧ bl.length = n ∧ ∀ (i : Nat) x y, hs[i]? = some x → bl[i]? = some y → Mine w0.heap.size te s W x.p x.n x.c (en y) := by
  obtain ⟨hs, rl, hhs, hbl, H, hrows⟩ := h
  refine ⟨hs, hhs, H.row rl.length (by simp), hbl, fun i x y hx hy => ?_⟩
  obtain ⟨k, hk⟩ := List.mem_iff_getElem?.1 (hrows i x y hx hy)
  have hkl := (List.getElem?_eq_some_iff.1 hk).1
  exact H.row k (by rw [List.getElem?_append_left hkl]; exact hk)
end
end Go.Vc

/- The contracts of rows' bytes: laying, by the program and by the document. -/
namespace Go.Vc
open Go Go.RowKit
def layR (l : List UInt8) (cols : List Col) (L : List (List Val)) : List UInt8 × Int := if rightC cols then (if L.length ≤ 1024 ∧ ∀ r ∈ L, fitsL cols r = true then (l ++ rowsB L, 0) else ([], 51)) else ([], 50)
/-- What is laid once j rows and k values of the next were. -/
def partR (l : List UInt8) (L : List (List Val)) (r : List Val) (j k : Nat) : List UInt8 := ((l ++ uvar L.length) ++ (L.take j).flatMap rowB) ++ rowB (r.take k)
def pieceR (l : List UInt8) (L : List (List Val)) (r : List Val) (j k : Nat) : List (List UInt8) := ((l ++ uvar L.length) :: (L.take j).flatten.map valB) ++ (r.take k).map valB
end Go.Vc
namespace Go.Proofs.YtiojkfckaalooaaDoor
open Go Go.Vc Go.RowKit
set_option maxRecDepth 20000
attribute [local irreducible] Calls Put Drew New

/-- What is known of rows that fit, so far. -/
structure Fit16 (cols : List Col) (L : List (List Val)) (j : Nat) : Prop where
  fits : ∀ r ∈ L.take j, fitsL cols r = true
theorem Fit16.next {cols : List Col} {L : List (List Val)} {j : Nat} {r : List Val} (h : Fit16 cols L j) (hr : L[j]? = some r) (hf : fitsL cols r = true) : Fit16 cols L (j + 1) := by
  refine ⟨fun x hx => ?_⟩
  rw [take_snoc hr] at hx
  rcases List.mem_append.1 hx with hx | hx
  · exact h.fits x hx
  · simp at hx; subst hx; exact hf
section
variable {cols : List Col} {L : List (List Val)} {r : List Val} {l : List UInt8} {j k : Nat}
end
end Go.Proofs.YtiojkfckaalooaaDoor

/- The contracts of rows' bytes: taking, by the program and by the document. Printed by mksl4.py. -/
namespace Go.Vc
open Go Go.RowKit
def takeRV (l : List UInt8) (cols : List Col) (pos : Int) : List (List Val) × Int × Int :=
  if rightC cols then (match takeRws l cols pos with
    | some (R, k) => (R, (k : Int), 0)
    | none => ([], 0, 52)) else ([], 0, 50)
def rowEn (r : List Val) : List Value := r.flatMap Val.cs
end Go.Vc
namespace Go.Proofs.YtiojkfckaalooaaDoor
open Go Go.Vc Go.RowKit
set_option maxRecDepth 20000
attribute [local irreducible] Calls Put Drew New

end Go.Proofs.YtiojkfckaalooaaDoor

/- The contracts of the words that hold rows against one another. -/
namespace Go.Proofs.YtiojkfckaalooaaDoor
open Go Go.Vc Go.RowKit
set_option maxRecDepth 20000

end Go.Proofs.YtiojkfckaalooaaDoor

/- The contracts of the words that hold rows against one another. -/
namespace Go.Proofs.YtiojkfckaalooaaDoor
open Go Go.Vc Go.RowKit
set_option maxRecDepth 20000

end Go.Proofs.YtiojkfckaalooaaDoor

/- The laws of schema: Fits, Parts, Lays, Rows, One. -/
namespace Go.Vc
open Go Go.RowKit
theorem fitsL_snoc : ∀ {a : List Col} {b : List Val} {c : Col} {v : Val}, a.length = b.length → fitsL (a ++ [c]) (b ++ [v]) = (fitsL a b && valFits c v)
  | [], [], c, v, _ => by simp [fitsL]
  | x :: a, y :: b, c, v, h => by
    have := fitsL_snoc (a := a) (b := b) (c := c) (v := v) (by simpa using h)
    rw [List.cons_append, List.cons_append]
    unfold fitsL
    rw [this, Bool.and_assoc]
  | [], _ :: _, _, _, h => by simp at h
  | _ :: _, [], _, _, h => by simp at h
theorem right_one {cols : List Col} (h : rightC cols = true) {c : Col} (hc : c ∈ cols) : rightC [c] = true := by
  unfold rightC at h ⊢
  rw [Bool.and_eq_true] at h ⊢
  obtain ⟨h1, h2, h3⟩ := colsOk_all h.2 c hc
  refine ⟨decide_eq_true ⟨by simp, by simp⟩, ?_⟩
  unfold colsOk colOk
  rw [h1]
  simp [colsOk, h2, h3]
end Go.Vc
namespace Go.Proofs.YtiojkfckaalooaaDoor
open Go Go.Vc Go.RowKit
set_option maxRecDepth 20000
attribute [local irreducible] Calls Put Drew New

set_option maxHeartbeats 2000000 in
theorem lawParts_ok {w : World} (hT : WTab w) {p rp : Option Addr} {n c rn rc : Nat} {cols : List Col} {row : List Val} (h : Cols w p n c cols) (hr : Vs w rp rn rc row) :
    Calls Tryd.prog 3 #[.slice p n c, .slice rp rn rc] w fun e w' => e = .returned (.bool true) ∧ Ext w w' := by
  have hl := h.len
  have hrl := hr.len
  have hcap := h.cap
  have hrcap := hr.cap
  apply lawParts_vc
  unfold lawParts_T
  refine (shown05_ok hT).mono ?_
  rintro e w2 ⟨rfl, e1⟩
  refine ⟨_, rfl, ?_⟩
  refine (sright_ok (h.ext e1)).mono ?_
  rintro e w5 ⟨rfl, eS⟩
  replace e1 := e1.trans eS
  refine ⟨_, rfl, fun _ => ⟨rfl, e1⟩, fun hok => ?_⟩
  obtain ⟨ht, hr100⟩ := hok
  obtain ⟨r1, r2, r3⟩ := right_all ht
  refine ⟨fun b i W => ∃ j : Nat, i = (j : Int) ∧ j ≤ rn ∧ j ≤ n ∧ b = (decide (rn = n) && fitsL (cols.take j) (row.take j)) ∧ Ext w W, fun _ i _ => n - i.toNat, ⟨0, rfl, Nat.zero_le _, Nat.zero_le _, ?_, e1⟩, ?_⟩
  · have : decide ((rn : Int) = (n : Int)) = decide (rn = n) := decide_eq_decide.2 (by omega)
    rw [this]; simp [fitsL]
  rintro b i W ⟨j, rfl, hj1, hj2, rfl, eW⟩
  refine ⟨fun hlt => ?_, fun hge => ?_⟩
  · have gc : cols[j]? = some (cols[j]'(by omega)) := List.getElem?_eq_getElem _
    have gv : row[j]? = some (row[j]'(by omega)) := List.getElem?_eq_getElem _
    generalize cols[j]'(by omega) = x at gc
    generalize row[j]'(by omega) = v at gv
    have hsn : fitsL (cols.take (j + 1)) (row.take (j + 1)) = (fitsL (cols.take j) (row.take j) && valFits x v) := by
      rw [take_snoc gc, take_snoc gv, fitsL_snoc (by rw [List.length_take, List.length_take]; omega)]
    intro w16 hD
    have eD := eW.trans (Drew.ext hD)
    rw [i64_next (by omega)]
    simp only [Int.toNat_natCast]
    refine ⟨fun hb => ?_, fun hb => ?_⟩
    · refine ⟨by omega, by omega, by omega, by omega, by omega, by omega, ?_⟩
      have h1 := (h.ext eD).slice Col.cs_length (lo := j) (hi := j + 1) (by omega) (by omega)
      have h2 := (hr.ext eD).slice Val.cs_length (lo := j) (hi := j + 1) (by omega) (by omega)
      have s1 : (cols.take (j + 1)).drop j = [x] := by rw [take_snoc gc, List.drop_append_of_le_length (by rw [List.length_take]; omega), List.drop_eq_nil_of_le (by rw [List.length_take]; omega)]; rfl
      have s2 : (row.take (j + 1)).drop j = [v] := by rw [take_snoc gv, List.drop_append_of_le_length (by rw [List.length_take]; omega), List.drop_eq_nil_of_le (by rw [List.length_take]; omega)]; rfl
      rw [s1] at h1
      rw [s2] at h2
      refine (sfits_ok h1 h2).mono ?_
      rintro e w20 ⟨rfl, eS⟩
      have hone : fitsC [x] [v] = valFits x v := by
        unfold fitsC
        rw [right_one ht (List.mem_of_getElem? gc)]
        simp [fitsL]
      rw [hone]
      refine ⟨_, rfl, ⟨j + 1, rfl, by omega, by omega, ?_, eD.trans eS⟩, by first | omega | (simp only [Int.toNat_natCast]; omega)⟩
      rw [hsn, ← Bool.and_assoc, hb]; rfl
    · refine ⟨⟨j + 1, rfl, by omega, by omega, ?_, eD⟩, by first | omega | (simp only [Int.toNat_natCast]; omega)⟩
      rw [hsn, ← Bool.and_assoc, hb]; rfl
  · refine ⟨fun _ => ?_, fun hx => by cases hx⟩
    refine (sfits_ok (h.ext eW) (hr.ext eW)).mono ?_
    rintro e w26 ⟨rfl, eS⟩
    refine ⟨_, rfl, ?_, eW.trans eS⟩
    have hfC : fitsC cols row = fitsL cols row := by unfold fitsC; rw [ht]; rfl
    rw [hfC]
    by_cases hnn : rn = n
    · rw [List.take_of_length_le (by omega), List.take_of_length_le (by omega), decide_eq_true hnn]
      simp
    · rw [decide_eq_false hnn]
      have : fitsL cols row = false := by
        cases hf : fitsL cols row with
        | false => rfl
        | true => have := fitsL_length hf; omega
      rw [this]; rfl
end Go.Proofs.YtiojkfckaalooaaDoor

/- Tables of tables: what a row's list says of their cells. -/
namespace Go.Vc
open Go

theorem cells_of_arr {H α : Type} {enc : TypeId × Value → H} {P : Program} {w : World} {base : Nat} {sp : Nat → Bool} {held : Bool} {fuel : Nat} {t e : TypeId} {n s : Nat} {cs : List Value} {zs : List α} {p : List MemPlace} {D : α → DataW H} {C : α → List Value}
    (ht : P.underlying t = some (.array n e)) (hce : P.cellsOf e = s) (hct : P.cellsOf t = n * s) (hs : ∀ z, (C z).length = s) (h0 : 0 < s)
    (inner : ∀ fuel cs z p, cs.length = s → DataW.trod enc P w base sp held fuel e cs = some (D z, p) → cs = C z)
    (h : DataW.trod enc P w base sp held fuel t cs = some (.agg (zs.map D), p)) : cs = zs.flatMap C := by
  cases fuel with
  | zero => simp [DataW.trod] at h
  | succ fuel =>
    simp only [DataW.trod, ht, hce, hct] at h
    split at h
    · rename_i hl
      obtain ⟨xs, hm, hx⟩ := Option.map_eq_some_iff.1 h
      have hxs : xs.map (·.1) = zs.map D := by
        have := congrArg Prod.fst hx
        simpa using this
      have hxl : xs.length = n := by simpa using Lib.mapM_length hm
      have hzl : zs.length = n := by
        have := congrArg List.length hxs
        simp at this
        omega
      have key : ∀ i, i < n → ∃ z, zs[i]? = some z ∧ (cs.drop (i * s)).take s = C z := by
        intro i hi
        obtain ⟨b, hb, hf⟩ := Lib.mapM_at hm i i (by simp [hi])
        have h2 : (xs.map (·.1))[i]? = some b.1 := by simp [hb]
        rw [hxs, List.getElem?_map] at h2
        obtain ⟨z, hz, he⟩ := Option.map_eq_some_iff.1 h2
        refine ⟨z, hz, inner fuel _ z b.2 ?_ ?_⟩
        · have hmul : (i + 1) * s ≤ n * s := Nat.mul_le_mul_right _ (by omega)
          have e1 : (i + 1) * s = i * s + s := Nat.succ_mul i s
          simp only [List.length_take, List.length_drop]
          omega
        · rw [hf, he]
      -- both lists, piece by piece
      have go : ∀ (m : Nat) (zs : List α) (cs : List Value), zs.length = m → cs.length = m * s → (∀ i, i < m → ∃ z, zs[i]? = some z ∧ (cs.drop (i * s)).take s = C z) → cs = zs.flatMap C := by
        intro m
        induction m with
        | zero =>
          intro zs cs hz hc _
          rw [List.length_eq_zero_iff] at hz
          rw [Nat.zero_mul, List.length_eq_zero_iff] at hc
          rw [hz, hc]; rfl
        | succ m ih =>
          intro zs cs hz hc hk
          match zs, hz with
          | z :: r, hz =>
            have hcm : (m + 1) * s = m * s + s := Nat.succ_mul m s
            obtain ⟨z', hz', h1⟩ := hk 0 (by omega)
            cases hz'
            rw [Nat.zero_mul, List.drop_zero] at h1
            have := ih r (cs.drop s) (by simpa using hz) (by rw [List.length_drop]; omega) (fun i hi => by
              obtain ⟨y, hy, h2⟩ := hk (i + 1) (by omega)
              refine ⟨y, by simpa using hy, ?_⟩
              rw [List.drop_drop, ← h2]
              congr 2
              rw [Nat.succ_mul]; omega)
            rw [List.flatMap_cons, ← h1, ← this, List.take_append_drop]
      exact go n zs cs hzl (by simpa using hl) key
    · cases h
end Go.Vc

/- A row's list of tables, looked up by name; rows of three numbers. -/
namespace Go.Vc
open Go

theorem laid_get {P : Program} {w : World} : ∀ {laid : List (String × DataW Unit)} {ps : List MemPlace}, DataW.LaidVars P w laid ps → ∀ {n : String} {d : DataW Unit}, (n, d) ∈ laid →
    ∃ g t cs fuel p, P.globalNamed n = some g ∧ (P.globals[g]?).map (·.type) = some t ∧ w.var? P n = some cs ∧ DataW.trod (fun _ => ()) P w 0 (fun _ => true) false fuel t cs.toList = some (d, p)
  | [], _, _, n, d, hm => by cases hm
  | (m, e) :: r, ps, h, n, d, hm => by
    obtain ⟨g, t, cs, fuel, p, q, h1, h2, h3, h4, h5, _⟩ := h
    rcases List.mem_cons.1 hm with hm | hm
    · cases hm; exact ⟨g, t, cs, fuel, p, h1, h2, h3, h4⟩
    · exact laid_get h5 hm
end Go.Vc

/- The tables, the arguments, the walks of law05's five laws. -/
namespace Go.Proofs.YtiojkfckaalooaaDoor
open Go Go.Vc Go.RowKit
set_option maxRecDepth 20000
attribute [local irreducible] Calls Put Drew New

theorem uStr : Tryd.prog.underlying 9 = some .string := by kernel_rfl
theorem uWords : Tryd.prog.underlying 77 = some (.array 4 9) := by kernel_rfl
def wordsL : List (List UInt8) := [[110, 117, 108, 108], [105, 110, 116], [98, 111, 111, 108], [116, 101, 120, 116]]
theorem laid_words : Rows.laid_stackyard_schema_words (H := Unit) = .agg (wordsL.map fun l => .lit (.string l)) := by kernel_rfl
theorem wtab_of {L : List (String × DataW Unit)} {W : World} (hm : ("stackyard/schema.words", Rows.laid_stackyard_schema_words) ∈ L) (h : laidMet Tryd.prog L W) : WTab W := by
  obtain ⟨ps, hl, _⟩ := h
  obtain ⟨g, t, cs, fuel, p, hg, ht, hv, hd⟩ := laid_get hl (n := "stackyard/schema.words") (d := Rows.laid_stackyard_schema_words) hm
  obtain rfl : g = 0 := Option.some.inj (hg.symm.trans (by kernel_rfl))
  obtain rfl : t = 77 := Option.some.inj (ht.symm.trans (by kernel_rfl))
  rw [laid_words] at hd
  have hc := cells_of_arr (C := fun l => txt (bS l)) (s := 1) uWords (by kernel_rfl) (by kernel_rfl) (fun _ => rfl) (by decide) (fun fuel cs z p hl h => by
    obtain ⟨s, rfl, hx, _⟩ := DataW.trod_string uStr h
    have h1 := congrArg Prod.fst hx
    simp only [DataW.lit.injEq, Lit.string.injEq] at h1
    rw [h1]
    show [Value.string s] = [Value.string (bS (tB s))]
    rw [bS_tB]) hd
  have hcs : cs = wordsA := by apply Array.ext'; rw [hc]; rfl
  intro k v hk
  rw [World.var?_cell hg hv, hcs, Nat.zero_add]; exact hk
theorem list3 {cs : List Value} (h : cs.length = 3) : ∃ a b d, cs = [a, b, d] := by
  match cs, h with
  | [a, b, d], _ => exact ⟨a, b, d, rfl⟩
theorem arg_value {w : World} {cs : List Value} (h : Arg Tryd.prog w 65 cs) : ∃ v : Val, cs = v.cs ∧ v.fit :=
  arg_val (ti := 3) (tn := 2) (ts := 9) (by kernel_rfl) (by kernel_rfl) (by kernel_rfl) (by kernel_rfl) (by kernel_rfl) (by kernel_rfl) (by kernel_rfl) (by kernel_rfl) h
theorem arg_col {w : World} {cs : List Value} (h : Arg Tryd.prog w 53 cs) : ∃ c : Col, cs = c.cs ∧ c.name.size ≤ 140737488351232 := by
  obtain ⟨hl, hf⟩ := Arg.fields (l := [(9, 0), (3, 1), (4, 2)]) (by kernel_rfl) h
  have h3 : Tryd.prog.cellsOf 53 = 3 := by kernel_rfl
  rw [h3] at hl
  obtain ⟨a, b, d, rfl⟩ := list3 hl
  have f1 := hf (9, 0) (by simp)
  have f2 := hf (3, 1) (by simp)
  have f3 := hf (4, 2) (by simp)
  have c1 : Tryd.prog.cellsOf 9 = 1 := by kernel_rfl
  have c2 : Tryd.prog.cellsOf 3 = 1 := by kernel_rfl
  have c3 : Tryd.prog.cellsOf 4 = 1 := by kernel_rfl
  simp only [c1, c2, c3] at f1 f2 f3
  obtain ⟨s, e1, hs⟩ := Arg.string (by kernel_rfl) f1
  obtain ⟨n, e2, _⟩ := Arg.int (k := .i64) (by kernel_rfl) f2
  obtain ⟨v, e3⟩ := Arg.bool (by kernel_rfl) f3
  simp at e1 e2 e3
  subst e1 e2 e3
  exact ⟨⟨s, n, v⟩, rfl, hs⟩
theorem arg_cols {w : World} {v : Value} (h : Arg Tryd.prog w 22 [v]) : ∃ p n c cols, v = .slice p n c ∧ Cols w p n c cols ∧ ∀ x ∈ cols, x.name.size ≤ 9223372036854775807 := by
  obtain ⟨p, n, c, l, e, h1, h2, _⟩ := arg_ls (e := 53) (enc := Col.cs) (Q := fun x => x.name.size ≤ 140737488351232) (by kernel_rfl) (by decide +kernel) (fun x hx => arg_col hx) (fun _ => by kernel_rfl) h
  exact ⟨p, n, c, l, e, h1, fun x hx => by have := h2 x hx; omega⟩
theorem arg_row {w : World} {v : Value} (h : Arg Tryd.prog w 24 [v]) : ∃ p n c row, v = .slice p n c ∧ Vs w p n c row ∧ ∀ x ∈ row, x.fit := by
  obtain ⟨p, n, c, l, e, h1, h2, _⟩ := arg_ls (e := 65) (enc := Val.cs) (Q := Val.fit) (by kernel_rfl) (by decide +kernel) (fun x hx => arg_value hx) (fun _ => by kernel_rfl) h
  exact ⟨p, n, c, l, e, h1, h2⟩
/-! ### The walks -/
theorem parts_walk (W : World) (hT : WTab W) (v0 v1 : Value) (a0 : Arg Tryd.prog W 22 [v0]) (a1 : Arg Tryd.prog W 24 [v1]) :
    Calls Tryd.prog 3 #[v0, v1] W fun e w' => e = .returned (.bool true) ∧ Ext W w' := by
  obtain ⟨p, n, c, cols, rfl, hc, _⟩ := arg_cols a0
  obtain ⟨rp, rn, rc, row, rfl, hr, _⟩ := arg_row a1
  exact lawParts_ok hT hc hr
theorem tabs_parts {W : World} (h : laidMetH Tryd.prog Rows.schemaPartsRow.laid W) : WTab W := wtab_of (L := Rows.schemaPartsRow.laid) (by simp [Rows.schemaPartsRow]) h
end Go.Proofs.YtiojkfckaalooaaDoor

/- Three closed facts of the seat's program, asked once: they want much memory. -/
namespace Go.Proofs.YtiojkfckaalooaaDoor
set_option maxRecDepth 100000 in
theorem Tryd.entersB : (Tryd.prog.mayEnter && (false == Tryd.prog.liftsFinal) && (Tryd.prog.make == some .cut)) = true := by kernel_rfl
theorem Tryd.enters : Tryd.prog.mayEnter = true ∧ Tryd.prog.liftsFinal = false ∧ Tryd.prog.make = some .cut := by
  have h := Tryd.entersB
  simp only [Bool.and_eq_true, beq_iff_eq] at h
  exact ⟨h.1.1, h.1.2.symm, h.2⟩
end Go.Proofs.YtiojkfckaalooaaDoor
