/- The contracts of package schema: schemas, and columns by name; the document's answer for them. -/
import Derived.Test.YtdephmdfdgclpaaDoorSc1
import Derived.Test.YtdephmdfdgclpaaDoorVm
namespace Go.Proofs.YtdephmdfdgclpaaDoor
open Go Go.Vc Go.RowKit

/-- What is asked of byte k of a name. -/
def nameB (k : Nat) (x : UInt8) : Bool := if k = 0 then letterB x else otherB x
theorem nameB_iff {k : Nat} {x : UInt8} : nameB k x = true ↔ (97 ≤ x.toNat ∧ x.toNat ≤ 122) ∨ (k ≠ 0 ∧ ((48 ≤ x.toNat ∧ x.toNat ≤ 57) ∨ x.toNat = 95)) := by
  unfold nameB otherB letterB
  split
  · simp only [decide_eq_true_eq]; omega
  · simp only [Bool.or_eq_true, decide_eq_true_eq]; omega
theorem isName_iff (s : ByteArray) : isName s = true ↔ 1 ≤ s.size ∧ s.size ≤ 24 ∧ ∀ (j : Nat) x, (tB s)[j]? = some x → nameB j x = true := by
  have hlen := tB_length s
  unfold isName
  cases hl : tB s with
  | nil => rw [hl] at hlen; simp at hlen; simp [isNameL]; omega
  | cons y l =>
    rw [hl] at hlen
    simp only [List.length_cons] at hlen
    unfold isNameL
    simp only [List.length_cons, Bool.and_eq_true, decide_eq_true_eq, List.all_eq_true]
    constructor
    · rintro ⟨⟨h1, h2⟩, h3⟩
      refine ⟨by omega, by omega, fun j x hj => ?_⟩
      cases j with
      | zero => cases hj; simpa [nameB] using h1
      | succ j => have := h2 x (List.mem_of_getElem? (show l[j]? = some x by simpa using hj)); simpa [nameB] using this
    · rintro ⟨h1, h2, h3⟩
      refine ⟨⟨by simpa [nameB] using h3 0 y rfl, fun z hz => ?_⟩, by omega⟩
      obtain ⟨j, hj⟩ := List.mem_iff_getElem?.1 hz
      simpa [nameB] using h3 (j + 1) z (by simpa using hj)

section
variable {w : World} {p rp : Option Addr} {n c rn rc : Nat} {cols : List Col} {row : List Val}

theorem r5isname_ok (s : ByteArray) (hs : s.size ≤ 9223372036854775807) (w : World) : Calls Tryd.prog 46 #[.string s] w fun e w' => e = .returned (.bool (isName s)) ∧ Ext w w' := by
  apply r5isname_vc
  unfold r5isname_T
  refine ⟨fun i w' => ∃ k : Nat, i = (k : Int) ∧ k ≤ s.size ∧ (∀ (j : Nat) x, j < k → (tB s)[j]? = some x → nameB j x = true) ∧ Ext w w', fun i _ => s.size - i.toNat, ⟨0, rfl, Nat.zero_le _, fun j x h => by omega, .rfl⟩, ?_⟩
  rintro i w4 ⟨k, rfl, hk, hg, hx⟩
  refine ⟨fun hlt => ?_, fun hge => ⟨?_, hx⟩⟩
  · obtain ⟨x, hx', hb⟩ := bAt_u8 s (i := k) (by omega)
    simp only [Int.toNat_natCast]
    rw [hb]
    have bad : ¬ ((97 ≤ x.toNat ∧ x.toNat ≤ 122) ∨ (k ≠ 0 ∧ ((48 ≤ x.toNat ∧ x.toNat ≤ 57) ∨ x.toNat = 95))) → Ending.returned (Value.bool false) = Ending.returned (Value.bool (isName s)) ∧ Ext w w4 := by
      intro h
      refine ⟨?_, hx⟩
      have : isName s = false := by
        rw [← Bool.not_eq_true, isName_iff]
        rintro ⟨_, _, h3⟩
        exact h (nameB_iff.1 (h3 k x hx'))
      rw [this]
    have good : ((97 ≤ x.toNat ∧ x.toNat ≤ 122) ∨ (k ≠ 0 ∧ ((48 ≤ x.toNat ∧ x.toNat ≤ 57) ∨ x.toNat = 95))) → (∃ k' : Nat, IntKind.i64.wrap ((k : Int) + 1) = (k' : Int) ∧ k' ≤ s.size ∧ (∀ (j : Nat) x, j < k' → (tB s)[j]? = some x → nameB j x = true) ∧ Ext w w4) ∧
        s.size - (IntKind.i64.wrap ((k : Int) + 1)).toNat < s.size - k := by
      intro h
      rw [i64_next (by omega)]
      refine ⟨⟨k + 1, rfl, by omega, fun j y hj hy => ?_, hx⟩, by simp only [Int.toNat_natCast]; omega⟩
      by_cases hjk : j = k
      · subst hjk
        rw [hx'] at hy
        cases hy
        exact nameB_iff.2 h
      · exact hg j y (by omega) hy
    clear hg
    repeat' first
      | exact good (by omega)
      | exact bad (by omega)
      | omega
      | intro _
      | refine And.intro ?_ ?_
  · have hk' : k = s.size := by omega
    have : (decide ((1 : Int) ≤ (s.size : Int)) && decide ((s.size : Int) ≤ 24)) = isName s := by
      rw [Bool.eq_iff_iff, isName_iff, Bool.and_eq_true, decide_eq_true_eq, decide_eq_true_eq]
      refine ⟨fun h => ⟨by omega, by omega, fun j x hj => hg j x ?_ hj⟩, fun h => by omega⟩
      have := (List.getElem?_eq_some_iff.1 hj).1
      rw [tB_length] at this
      omega
    rw [this]

/-! ### Find -/
theorem sfind1_ok (x : Col) {fv : Nat} {name : ByteArray} (h : w.cell? ⟨fv, 0, none⟩ = some (.string name)) :
    Calls Tryd.prog 63 #[.agg #[.string x.name, .int .i64 x.kind, .bool x.null], .pointer (some ⟨fv, 0, none⟩)] w fun e w' => e = .returned (.bool (decide (x.name = name))) ∧ Ext w w' := by
  apply sfind1_vc
  unfold sfind1_T
  intro b1 w2 h1
  refine ⟨_, by rw [(Blk.new h1).cell]; rfl, _, cell_ext h h1.ext, ?_, h1.ext⟩
  have : sEq x.name name = decide (x.name = name) := by rw [Bool.eq_iff_iff, sEq_iff, decide_eq_true_eq]
  rw [this]
theorem findC_drop {l : List Col} {s : ByteArray} {k : Nat} {x : Col} (hx : l[k]? = some x) (hn : x.name = s) (hb : ∀ (j : Nat) y, j < k → l[j]? = some y → y.name ≠ s) : findC l s = (k : Int) := findC_at hx hn hb
theorem ifcol_ok (h : Cols w p n c cols) {fv : Nat} {name : ByteArray} (hf : w.cell? ⟨fv, 0, none⟩ = some (.string name)) :
    Calls Tryd.prog 62 #[.slice p n c, .func (.func 63) #[] #[.pointer (some ⟨fv, 0, none⟩)]] w fun e w' => e = .returned (.int .i64 (findC cols name)) ∧ Ext w w' := by
  apply ifcol_vc
  unfold ifcol_T
  have hl := h.len
  have hm : n ≤ 9223372036854775807 := h.le
  refine ⟨fun i w' => ∃ k : Nat, i = (k : Int) ∧ k ≤ n ∧ (∀ (j : Nat) y, j < k → cols[j]? = some y → y.name ≠ name) ∧ Ext w w', fun i _ => n - i.toNat, ⟨0, rfl, Nat.zero_le _, fun j y hj => by omega, .rfl⟩, ?_⟩
  rintro i w4 ⟨k, rfl, hk, hb, hx⟩
  refine ⟨fun hlt => ?_, fun hge => ⟨?_, hx⟩⟩
  · have g : cols[k]? = some (cols[k]'(by omega)) := List.getElem?_eq_getElem _
    generalize cols[k]'(by omega) = x at g
    obtain ⟨b, o, hp, c0, c1, c2⟩ := (h.ext hx).col g
    simp only [Int.toNat_natCast]
    refine ⟨b, o, hp, by omega, by omega, _, c0, _, c1, _, c2, (sfind1_ok x (cell_ext hf hx)).mono ?_⟩
    rintro e w13 ⟨rfl, e13⟩
    refine ⟨_, rfl, fun hd => ⟨?_, hx.trans e13⟩, fun hd => ?_⟩
    · rw [findC_at g (of_decide_eq_true hd) hb]
    · rw [i64_next (by omega)]
      refine ⟨⟨k + 1, rfl, by omega, fun j y hj hy => ?_, hx.trans e13⟩, by simp only [Int.toNat_natCast]; omega⟩
      by_cases hjk : j = k
      · subst hjk; rw [g] at hy; cases hy; exact of_decide_eq_false hd
      · exact hb j y (by omega) hy
  · rw [findC_none fun x hx => ?_]
    obtain ⟨j, hj⟩ := List.mem_iff_getElem?.1 hx
    exact hb j x (by have := (List.getElem?_eq_some_iff.1 hj).1; omega) hj
theorem sfind_ok (h : Cols w p n c cols) (name : ByteArray) : Calls Tryd.prog 45 #[.slice p n c, .string name] w fun e w' => e = .returned (.int .i64 (findC cols name)) ∧ Ext w w' := by
  apply sfind_vc
  unfold sfind_T
  intro b1 w2 h1
  refine (ifcol_ok (h.ext h1.ext) (Blk.new h1).one).mono ?_
  rintro e w5 ⟨rfl, e5⟩
  exact ⟨_, rfl, rfl, h1.ext.trans e5⟩
theorem r5find_ok (h : Cols w p n c cols) (name : ByteArray) : Calls Tryd.prog 15 #[.slice p n c, .string name] w fun e w' => e = .returned (.int .i64 (findC cols name)) ∧ Ext w w' := by
  apply r5find_vc
  unfold r5find_T
  have hl := h.len
  have hm : n ≤ 9223372036854775807 := h.le
  refine ⟨fun i w' => ∃ k : Nat, i = (k : Int) ∧ k ≤ n ∧ (∀ (j : Nat) y, j < k → cols[j]? = some y → y.name ≠ name) ∧ Ext w w', fun i _ => n - i.toNat, ⟨0, rfl, Nat.zero_le _, fun j y hj => by omega, .rfl⟩, ?_⟩
  rintro i w4 ⟨k, rfl, hk, hb, hx⟩
  refine ⟨fun hlt => ?_, fun hge => ⟨?_, hx⟩⟩
  · have g : cols[k]? = some (cols[k]'(by omega)) := List.getElem?_eq_getElem _
    generalize cols[k]'(by omega) = x at g
    obtain ⟨b, o, hp, c0, c1, c2⟩ := (h.ext hx).col g
    simp only [Int.toNat_natCast]
    refine ⟨b, o, hp, by omega, by omega, _, c0, fun hd => ⟨?_, hx⟩, fun hd => ?_⟩
    · rw [findC_at g hd hb]
    · rw [i64_next (by omega)]
      refine ⟨⟨k + 1, rfl, by omega, fun j y hj hy => ?_, hx⟩, by simp only [Int.toNat_natCast]; omega⟩
      by_cases hjk : j = k
      · subst hjk; rw [g] at hy; cases hy; exact hd
      · exact hb j y (by omega) hy
  · rw [findC_none fun x hx => ?_]
    obtain ⟨j, hj⟩ := List.mem_iff_getElem?.1 hx
    exact hb j x (by have := (List.getElem?_eq_some_iff.1 hj).1; omega) hj

/-! ### Right -/
/-- The map of names that were met. -/
def metL (l : List Col) : List (ByteArray × Value) := l.foldl (fun m x => setS m x.name (.bool true)) []
theorem metL_snoc (l : List Col) (x : Col) : metL (l ++ [x]) = setS (metL l) x.name (.bool true) := by simp [metL]
theorem metL_look (l : List Col) (s : ByteArray) : (lookS (metL l) s).getD (.bool false) = .bool ((l.map Col.name).contains s) := by
  have key : ∀ (l : List Col) (m : List (ByteArray × Value)), lookS (l.foldl (fun m x => setS m x.name (.bool true)) m) s = if (l.map Col.name).contains s then some (.bool true) else lookS m s := by
    intro l
    induction l with
    | nil => intro m; simp
    | cons x l ih =>
      intro m
      rw [List.foldl_cons, ih, lookS_setS, List.map_cons]
      by_cases hx : x.name = s
      · subst hx; simp
      · simp [hx, Ne.symm hx]
  unfold metL
  rw [key]
  cases (l.map Col.name).contains s <;> rfl
theorem sright_ok (h : Cols w p n c cols) : Calls Tryd.prog 26 #[.slice p n c] w fun e w' => e = .returned (.bool (rightC cols)) ∧ Ext w w' := by
  apply sright_vc
  unfold sright_T
  intro b1 w2 h1
  have hl := h.len
  have hm : n ≤ 9223372036854775807 := h.le
  have H1 := (Hold.start (Ext.rfl (w := w))).new h1
  refine ⟨fun i w' => ∃ (k : Nat) (es : Array MapEntry) (clock : Nat), i = (k : Int) ∧ k ≤ n ∧ colsOk [] (cols.take k) = true ∧ MapL es (metL (cols.take k)) ∧ Hold w w' [(b1, .map es clock)] [], fun i _ => n - i.toNat, ⟨0, _, _, rfl, Nat.zero_le _, by simp [colsOk], by simp [metL, MapL], H1⟩, ?_⟩
  rintro i w7 ⟨k, es, clock, rfl, hk, hok, hmap, H⟩
  refine ⟨fun hlt => ?_, fun hge => ⟨?_, H.ext⟩⟩
  · have g : cols[k]? = some (cols[k]'(by omega)) := List.getElem?_eq_getElem _
    generalize cols[k]'(by omega) = x at g
    obtain ⟨b, o, hp, c0, c1, c2⟩ := (h.ext H.ext).col g
    have hdec : colOk ((cols.take k).map Col.name) x = false → rightC cols = false := by
      intro hv
      unfold rightC
      have hc : cols = cols.take k ++ x :: cols.drop (k + 1) := by
        obtain ⟨hk', rfl⟩ := List.getElem?_eq_some_iff.1 g
        rw [← List.drop_eq_getElem_cons hk', List.take_append_drop]
      have : colsOk [] cols = false := by
        conv => lhs; rw [hc, colsOk_append]
        rw [hok, List.nil_append]
        unfold colsOk
        rw [hv]; rfl
      rw [this, Bool.and_false]
    simp only [Int.toNat_natCast]
    refine ⟨b, o, hp, by omega, by omega, _, c0, _, c1, _, c2, fun b15 w16 h16 => ?_⟩
    have H16 := H.new h16
    obtain ⟨q0, q1, q2⟩ := (H16.blk 0 rfl).c3
    refine ⟨⟨_, q0⟩, (H16.blk 0 rfl).frozen _, ⟨_, q1⟩, (H16.blk 0 rfl).frozen _, ⟨_, q2⟩, (H16.blk 0 rfl).frozen _, fun w21 h21 => ?_⟩
    have H21 := H16.put 0 rfl h21
    have B : Blk w21 b15 50 #[.string x.name, .int .i64 x.kind, .bool x.null] := H21.blk 0 rfl
    obtain ⟨q0, q1, q2⟩ := B.c3
    refine ⟨_, q0, (sisname_ok x.name w21).mono ?_⟩
    rintro e w25 ⟨rfl, e25⟩
    have H25 := H21.step e25
    have B25 := B.ext e25
    obtain ⟨q0, q1, q2⟩ := B25.c3
    have hM : w25.heap[b1]? = some (.map es clock) := H25.holds 1 _ rfl
    refine ⟨_, rfl, fun hn => ⟨?_, H25.ext⟩, fun hn => ⟨_, q0, ((cols.take k).map Col.name).contains x.name, fun w1 hs => ?_, fun hin => ⟨?_, H25.ext⟩, fun hin => ⟨_, q1, fun hlow => ⟨?_, H25.ext⟩, fun hge => ⟨_, q1, fun hhi => ⟨?_, H25.ext⟩, fun hle => ⟨_, q0, ?_⟩⟩⟩⟩⟩
    · rw [hdec (by unfold colOk; rw [hn]; rfl)]
    · rw [← metL_look]
      exact map_look (kt := 9) (e := 4) (by kernel_rfl) (by kernel_rfl) (run_zeroOf (by kernel_rfl) w1) ((hs b1 (H25.lt 1 rfl)).trans hM) hmap
    · rw [hdec (by unfold colOk; rw [hn, hin]; rfl)]
    · rw [hdec (by unfold colOk; rw [hn, hin, decide_eq_false (by omega)]; rfl)]
    · rw [hdec (by unfold colOk; rw [hn, hin, decide_eq_false (by omega)]; rfl)]
    · obtain ⟨w42, es', clock', hrun, hobj, hmap', hbut, hsz⟩ := map_set (P := Tryd.prog) (t := 61) (kt := 9) (e := 4) (s := x.name) (by kernel_rfl) (by kernel_rfl) hM hmap (.bool true)
      refine ⟨w42, hrun, ?_⟩
      rw [i64_next (by omega)]
      have htk : cols.take (k + 1) = cols.take k ++ [x] := by rw [List.take_add_one, g]; rfl
      refine ⟨⟨k + 1, es', clock', rfl, by omega, ?_, ?_, (H25.upd 1 rfl hbut hobj).tail⟩, by simp only [Int.toNat_natCast]; omega⟩
      · rw [htk, colsOk_append, hok, List.nil_append]
        unfold colsOk colOk
        rw [hn, hin, decide_eq_true (by omega)]; rfl
      · rw [htk, metL_snoc]; exact hmap'
  · have hk' : k = n := by omega
    subst hk'
    rw [List.take_of_length_le (by omega)] at hok
    have : (decide ((0 : Int) < (k : Int)) && decide ((k : Int) ≤ 16)) = rightC cols := by
      unfold rightC
      rw [hok, Bool.and_true, Bool.eq_iff_iff, Bool.and_eq_true, decide_eq_true_eq, decide_eq_true_eq, decide_eq_true_eq]
      omega
    rw [this]
end
end Go.Proofs.YtdephmdfdgclpaaDoor
