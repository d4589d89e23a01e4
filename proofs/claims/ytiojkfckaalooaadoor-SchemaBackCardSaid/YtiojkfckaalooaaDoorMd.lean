/- Texts of the proof, one behind the other. -/
import Derived.Test.YtiojkfckaalooaaDoorMc
import Derived.Lib.LaidTab
import Derived.Test.YtiojkfckaalooaaDoorRows
import Derived.Lib.SplitLaws
import Derived.Lib.IndexMore
import Derived.Shelf.Vars
import Derived.JoinedOf
set_option linter.unusedVariables false
set_option linter.unusedSimpArgs false
/- The contracts of schemas' texts: showing, by the program (strings.Join by the kit's shelf) and by the document. -/
namespace Go.Vc
open Go Go.RowKit
def bS (l : List UInt8) : ByteArray := ⟨l.toArray⟩
theorem bS_tB (s : ByteArray) : bS (tB s) = s := tB_inj.1 (tB_mk _)
theorem tB_bS (l : List UInt8) : tB (bS l) = l := tB_mk l
theorem bS_size (l : List UInt8) : (bS l).size = l.length := by
  show l.toArray.size = _
  simp
theorem cat_bS (a b : ByteArray) : ByteArray.instAppend.1 a b = bS (tB a ++ tB b) := by
  apply tB_inj.1
  rw [tB_bS]
  show (a ++ b).data.toList = _
  rw [ByteArray.data_append, Array.toList_append]; rfl
def txt (s : ByteArray) : List Value := [.string s]
theorem txt_len (s : ByteArray) : (txt s).length = 1 := rfl
theorem txt_one (s : ByteArray) : ∀ u ∈ txt s, u.oneCell' = true := by intro u hu; simp [txt] at hu; subst hu; rfl
def wordL (k : Int) : List UInt8 := if k = 1 then [105, 110, 116] else if k = 2 then [98, 111, 111, 108] else if k = 3 then [116, 101, 120, 116] else [110, 117, 108, 108]
def colT (c : Col) : List UInt8 := tB c.name ++ ([32] ++ (wordL c.kind ++ (if c.null then [32, 110, 117, 108, 108] else [])))
def sepL : List UInt8 := [44, 32]
def showL (cols : List Col) : List UInt8 := Lib.join (cols.map colT) sepL
def showS (cols : List Col) : ByteArray × Int := if rightC cols then (bS (showL cols), 0) else (⟨#[]⟩, 50)
theorem wordL_len (k : Int) : (wordL k).length ≤ 4 := by unfold wordL; repeat' split
                                                         all_goals decide
theorem colT_len {c : Col} (h : c.name.size ≤ 24) : (colT c).length ≤ 34 := by
  have := wordL_len c.kind
  have := tB_length c.name
  unfold colT
  cases c.null <;> simp <;> omega
theorem joinTail_len : ∀ (r : List (List UInt8)), (∀ x ∈ r, x.length ≤ 34) → (Lib.joinTail sepL r).length ≤ 36 * r.length
  | [], _ => by simp [Lib.joinTail]
  | x :: r, h => by
    have h1 := h x (by simp)
    have h2 := joinTail_len r fun y hy => h y (by simp [hy])
    have e : Lib.joinTail sepL (x :: r) = (sepL ++ x) ++ Lib.joinTail sepL r := by unfold Lib.joinTail; simp
    rw [e, List.length_append, List.length_append, List.length_cons]
    have : sepL.length = 2 := rfl
    omega
theorem showL_len {cols : List Col} (h : ∀ c ∈ cols, c.name.size ≤ 24) : (showL cols).length ≤ 36 * cols.length := by
  unfold showL
  cases cols with
  | nil => simp [Lib.join_nil]
  | cons c r =>
    rw [List.map_cons, Lib.join_cons, List.length_append, List.length_cons]
    have h1 := colT_len (h c (by simp))
    have h2 := joinTail_len (r.map colT) fun x hx => by
      obtain ⟨y, hy, rfl⟩ := List.mem_map.1 hx
      exact colT_len (h y (by simp [hy]))
    rw [List.length_map] at h2
    omega
end Go.Vc
namespace Go.Proofs.YtiojkfckaalooaaDoor
open Go Go.Vc Go.RowKit
set_option maxRecDepth 20000
attribute [local irreducible] Calls Put Drew New

/-- The table of words. -/
def wordsA : Array Value := #[.string (bS [110, 117, 108, 108]), .string (bS [105, 110, 116]), .string (bS [98, 111, 111, 108]), .string (bS [116, 101, 120, 116])]
def WTab (w : World) : Prop := CellsAt w 0 0 wordsA
theorem WTab.ext {w w' : World} (h : WTab w) (e : Ext w w') : WTab w' := fun k v hk => cell_ext (h k v hk) e
theorem WTab.at {w : World} (h : WTab w) {k : Int} (hk : 1 ≤ k ∧ k ≤ 3) : w.cell? ⟨0, 0 + k.toNat, none⟩ = some (.string (bS (wordL k))) := by
  rcases (by omega : k = 1 ∨ k = 2 ∨ k = 3) with e | e | e <;> subst e
  · exact h 1 _ rfl
  · exact h 2 _ rfl
  · exact h 3 _ rfl
theorem joinX : Builder.Extra Tryd.prog joinL_ren where
  sizeBuilder := by kernel_rfl
  liesBuilder := by kernel_rfl
  t5 := by kernel_rfl
  a5 := Tryd.isAgg5
  z5 := Tryd.sizeOf5
  v5 := Tryd.zeroValue5
  infoByte := by kernel_rfl
  cellsByte := by kernel_rfl
  sizeByte := by kernel_rfl
  neB5 := by decide
theorem join_ok {w : World} {p : Option Addr} {n c : Nat} {xs : List ByteArray} (h : Ls txt w p n c xs) (sep : ByteArray) (hn : n ≤ 1000) (hlen : (Lib.join (xs.map tB) (tB sep)).length ≤ 1000000) :
    Calls Tryd.prog 54 #[.slice p n c, .string sep] w fun e w' => e = .returned (.string (bS (Lib.join (xs.map tB) (tB sep)))) ∧ Ext w w' := by
  have hl := h.len
  rcases Nat.eq_zero_or_pos n with h0 | h0
  · subst h0
    have hx : xs = [] := List.eq_nil_of_length_eq_zero hl
    subst hx
    refine (Any.strings_Join_none joinL joinX p c sep w).mono ?_
    rintro e w' ⟨rfl, rfl⟩
    exact ⟨rfl, Ext.rfl⟩
  · obtain ⟨b, o, hp, h1⟩ := h.lies.things txt_len (by decide) (i := 0) (List.getElem?_eq_getElem (by omega))
    subst hp
    have hcells : ∀ (j : Nat) x, xs[j]? = some x → w.cell? ⟨b, o + j, none⟩ = some (.string x) := by
      intro j x hx
      obtain ⟨b', o', hp', h2⟩ := h.lies.things txt_len (by decide) hx
      cases hp'
      have := h2 0 _ rfl
      rwa [Nat.mul_one, Nat.add_zero] at this
    have hb := cell_lt (hcells 0 _ (List.getElem?_eq_getElem (by omega)))
    have := Any.strings_Join joinL joinX b o c xs sep w hcells hb (by omega) (by have := h.cap; omega) (by have : (Lib.join (xs.map (·.data.toList)) sep.data.toList).length ≤ 1000000 := hlen; omega)
    rw [hl] at this
    refine this.mono ?_
    rintro e w' ⟨rfl, hw⟩
    exact ⟨rfl, hw⟩
theorem undTx : Tryd.prog.underlying 76 = some (.slice 9) := by kernel_rfl
theorem tyStr : tyOf Tryd.prog 9 = some { agg := false, ls := [.str], zero := .string ⟨#[]⟩, bytes := 16, big := false, n := 1 } := by kernel_rfl
set_option maxHeartbeats 4000000 in
theorem sshow_ok {w : World} (hT : WTab w) {p : Option Addr} {n c : Nat} {cols : List Col} (h : Cols w p n c cols) :
    Calls Tryd.prog 29 #[.slice p n c] w fun e w' => e = .returned (.tuple #[.string (showS cols).1, .int .i64 (showS cols).2]) ∧ Ext w w' := by
  have hl := h.len
  apply sshow_vc
  unfold sshow_T
  refine (sright_ok h).mono ?_
  rintro e w2 ⟨rfl, e1⟩
  refine ⟨_, rfl, fun hf => ?_, fun ht => ?_⟩
  · have hS : showS cols = (⟨#[]⟩, 50) := by unfold showS; rw [hf]; rfl
    rw [hS]; exact ⟨rfl, e1⟩
  obtain ⟨r1, r2, r3⟩ := right_all ht
  have hS : showS cols = (bS (showL cols), 0) := by unfold showS; rw [if_pos ht]
  refine ⟨fun q m d i W => ∃ j : Nat, i = (j : Int) ∧ j ≤ n ∧ j = m ∧ Hold w W [] [⟨9, 1, q, m, d, ((cols.take j).map fun c => bS (colT c)).flatMap txt⟩], fun _ _ _ i _ => n - i.toNat, ⟨0, rfl, Nat.zero_le _, rfl, (Hold.start e1).nilRow _ _⟩, ?_⟩
  rintro q m d i W ⟨j, rfl, hj, rfl, H⟩
  refine ⟨fun hlt => ?_, fun hge => ?_⟩
  · have gx : cols[j]? = some (cols[j]'(by omega)) := List.getElem?_eq_getElem _
    generalize cols[j]'(by omega) = x at gx
    obtain ⟨x1, x2⟩ := r3 x (List.mem_of_getElem? gx)
    obtain ⟨b, o, hp, c0, c1, c3⟩ := (h.ext H.ext).col gx
    simp only [Int.toNat_natCast]
    refine ⟨b, o, hp, by omega, hlt, _, c0, _, c1, _, c3, ?_⟩
    repeat (first
      | (intro _ _ hS; replace H := H.new hS; clear hS)
      | (intro _ hS; (first | replace H := H.put 0 rfl hS | replace H := H.put 1 rfl hS | replace H := H.put 2 rfl hS | replace H := H.put 3 rfl hS | replace H := H.put 4 rfl hS | replace H := H.put 5 rfl hS | replace H := H.put 6 rfl hS | replace H := H.put 7 rfl hS); clear hS; try simp only [setA, List.setIfInBounds_toArray, List.set_cons_zero, List.set_cons_succ, Nat.zero_add, Nat.reduceAdd] at H)
      | (intro _ hS; replace H := H.step (Drew.ext hS); clear hS)
      | (first | refine ⟨⟨_, H.get 0 rfl rfl⟩, ?_⟩ | refine ⟨⟨_, H.get 1 rfl rfl⟩, ?_⟩ | refine ⟨⟨_, H.get 2 rfl rfl⟩, ?_⟩ | refine ⟨⟨_, H.get 3 rfl rfl⟩, ?_⟩ | refine ⟨⟨_, H.get 4 rfl rfl⟩, ?_⟩ | refine ⟨⟨_, H.get 5 rfl rfl⟩, ?_⟩ | refine ⟨⟨_, H.get 6 rfl rfl⟩, ?_⟩ | refine ⟨⟨_, H.get 7 rfl rfl⟩, ?_⟩)
      | (first | refine ⟨H.frz 0 rfl, ?_⟩ | refine ⟨H.frz 1 rfl, ?_⟩ | refine ⟨H.frz 2 rfl, ?_⟩ | refine ⟨H.frz 3 rfl, ?_⟩ | refine ⟨H.frz 4 rfl, ?_⟩ | refine ⟨H.frz 5 rfl, ?_⟩ | refine ⟨H.frz 6 rfl, ?_⟩ | refine ⟨H.frz 7 rfl, ?_⟩)
      | (first | refine ⟨_, H.get 0 rfl rfl, ?_⟩ | refine ⟨_, H.get 1 rfl rfl, ?_⟩ | refine ⟨_, H.get 2 rfl rfl, ?_⟩ | refine ⟨_, H.get 3 rfl rfl, ?_⟩ | refine ⟨_, H.get 4 rfl rfl, ?_⟩ | refine ⟨_, H.get 5 rfl rfl, ?_⟩ | refine ⟨_, H.get 6 rfl rfl, ?_⟩ | refine ⟨_, H.get 7 rfl rfl, ?_⟩)
      | (first | refine ⟨_, _, _, H.get 0 rfl rfl, ?_⟩ | refine ⟨_, _, _, H.get 1 rfl rfl, ?_⟩ | refine ⟨_, _, _, H.get 2 rfl rfl, ?_⟩ | refine ⟨_, _, _, H.get 3 rfl rfl, ?_⟩ | refine ⟨_, _, _, H.get 4 rfl rfl, ?_⟩ | refine ⟨_, _, _, H.get 5 rfl rfl, ?_⟩ | refine ⟨_, _, _, H.get 6 rfl rfl, ?_⟩ | refine ⟨_, _, _, H.get 7 rfl rfl, ?_⟩))
    refine ⟨by omega, ?_⟩
    repeat (first
      | (intro _ _ hS; replace H := H.new hS; clear hS)
      | (intro _ hS; (first | replace H := H.put 0 rfl hS | replace H := H.put 1 rfl hS | replace H := H.put 2 rfl hS | replace H := H.put 3 rfl hS | replace H := H.put 4 rfl hS | replace H := H.put 5 rfl hS | replace H := H.put 6 rfl hS | replace H := H.put 7 rfl hS); clear hS; try simp only [setA, List.setIfInBounds_toArray, List.set_cons_zero, List.set_cons_succ, Nat.zero_add, Nat.reduceAdd] at H)
      | (intro _ hS; replace H := H.step (Drew.ext hS); clear hS)
      | (first | refine ⟨⟨_, H.get 0 rfl rfl⟩, ?_⟩ | refine ⟨⟨_, H.get 1 rfl rfl⟩, ?_⟩ | refine ⟨⟨_, H.get 2 rfl rfl⟩, ?_⟩ | refine ⟨⟨_, H.get 3 rfl rfl⟩, ?_⟩ | refine ⟨⟨_, H.get 4 rfl rfl⟩, ?_⟩ | refine ⟨⟨_, H.get 5 rfl rfl⟩, ?_⟩ | refine ⟨⟨_, H.get 6 rfl rfl⟩, ?_⟩ | refine ⟨⟨_, H.get 7 rfl rfl⟩, ?_⟩)
      | (first | refine ⟨H.frz 0 rfl, ?_⟩ | refine ⟨H.frz 1 rfl, ?_⟩ | refine ⟨H.frz 2 rfl, ?_⟩ | refine ⟨H.frz 3 rfl, ?_⟩ | refine ⟨H.frz 4 rfl, ?_⟩ | refine ⟨H.frz 5 rfl, ?_⟩ | refine ⟨H.frz 6 rfl, ?_⟩ | refine ⟨H.frz 7 rfl, ?_⟩)
      | (first | refine ⟨_, H.get 0 rfl rfl, ?_⟩ | refine ⟨_, H.get 1 rfl rfl, ?_⟩ | refine ⟨_, H.get 2 rfl rfl, ?_⟩ | refine ⟨_, H.get 3 rfl rfl, ?_⟩ | refine ⟨_, H.get 4 rfl rfl, ?_⟩ | refine ⟨_, H.get 5 rfl rfl, ?_⟩ | refine ⟨_, H.get 6 rfl rfl, ?_⟩ | refine ⟨_, H.get 7 rfl rfl, ?_⟩)
      | (first | refine ⟨_, _, _, H.get 0 rfl rfl, ?_⟩ | refine ⟨_, _, _, H.get 1 rfl rfl, ?_⟩ | refine ⟨_, _, _, H.get 2 rfl rfl, ?_⟩ | refine ⟨_, _, _, H.get 3 rfl rfl, ?_⟩ | refine ⟨_, _, _, H.get 4 rfl rfl, ?_⟩ | refine ⟨_, _, _, H.get 5 rfl rfl, ?_⟩ | refine ⟨_, _, _, H.get 6 rfl rfl, ?_⟩ | refine ⟨_, _, _, H.get 7 rfl rfl, ?_⟩))
    have hw4 := wordL_len x.kind
    have hz := tB_length x.name
    refine ⟨by omega, by omega, _, (hT.ext H.ext).at x2, ?_⟩
    simp only [cat_bS, tB_bS, bS_size]
    have hone : tB (ByteArray.mk #[32]) = [32] := rfl
    have hnul : tB (ByteArray.mk #[32, 110, 117, 108, 108]) = [32, 110, 117, 108, 108] := rfl
    rw [hone, hnul]
    refine ⟨by simp; omega, ?_⟩
    repeat (first
      | (intro _ _ hS; replace H := H.new hS; clear hS)
      | (intro _ hS; (first | replace H := H.put 0 rfl hS | replace H := H.put 1 rfl hS | replace H := H.put 2 rfl hS | replace H := H.put 3 rfl hS | replace H := H.put 4 rfl hS | replace H := H.put 5 rfl hS | replace H := H.put 6 rfl hS | replace H := H.put 7 rfl hS); clear hS; try simp only [setA, List.setIfInBounds_toArray, List.set_cons_zero, List.set_cons_succ, Nat.zero_add, Nat.reduceAdd] at H)
      | (intro _ hS; replace H := H.step (Drew.ext hS); clear hS)
      | (first | refine ⟨⟨_, H.get 0 rfl rfl⟩, ?_⟩ | refine ⟨⟨_, H.get 1 rfl rfl⟩, ?_⟩ | refine ⟨⟨_, H.get 2 rfl rfl⟩, ?_⟩ | refine ⟨⟨_, H.get 3 rfl rfl⟩, ?_⟩ | refine ⟨⟨_, H.get 4 rfl rfl⟩, ?_⟩ | refine ⟨⟨_, H.get 5 rfl rfl⟩, ?_⟩ | refine ⟨⟨_, H.get 6 rfl rfl⟩, ?_⟩ | refine ⟨⟨_, H.get 7 rfl rfl⟩, ?_⟩)
      | (first | refine ⟨H.frz 0 rfl, ?_⟩ | refine ⟨H.frz 1 rfl, ?_⟩ | refine ⟨H.frz 2 rfl, ?_⟩ | refine ⟨H.frz 3 rfl, ?_⟩ | refine ⟨H.frz 4 rfl, ?_⟩ | refine ⟨H.frz 5 rfl, ?_⟩ | refine ⟨H.frz 6 rfl, ?_⟩ | refine ⟨H.frz 7 rfl, ?_⟩)
      | (first | refine ⟨_, H.get 0 rfl rfl, ?_⟩ | refine ⟨_, H.get 1 rfl rfl, ?_⟩ | refine ⟨_, H.get 2 rfl rfl, ?_⟩ | refine ⟨_, H.get 3 rfl rfl, ?_⟩ | refine ⟨_, H.get 4 rfl rfl, ?_⟩ | refine ⟨_, H.get 5 rfl rfl, ?_⟩ | refine ⟨_, H.get 6 rfl rfl, ?_⟩ | refine ⟨_, H.get 7 rfl rfl, ?_⟩)
      | (first | refine ⟨_, _, _, H.get 0 rfl rfl, ?_⟩ | refine ⟨_, _, _, H.get 1 rfl rfl, ?_⟩ | refine ⟨_, _, _, H.get 2 rfl rfl, ?_⟩ | refine ⟨_, _, _, H.get 3 rfl rfl, ?_⟩ | refine ⟨_, _, _, H.get 4 rfl rfl, ?_⟩ | refine ⟨_, _, _, H.get 5 rfl rfl, ?_⟩ | refine ⟨_, _, _, H.get 6 rfl rfl, ?_⟩ | refine ⟨_, _, _, H.get 7 rfl rfl, ?_⟩))
    refine ⟨fun hb => ⟨by simp; omega, ?_⟩, fun hb => ?_⟩
    · have ex : bS (tB x.name ++ [32] ++ wordL x.kind ++ [32, 110, 117, 108, 108]) = bS (colT x) := by unfold colT; rw [hb]; simp
      rw [ex]
      intro b35 w36 h35
      replace H := H.new h35
      obtain ⟨p', c', w41, hrun, H1⟩ := H.append (ty := 76) (P := Tryd.prog) (q := some ⟨b35, 0, none⟩) (m := 1) (d' := 1) (news := txt (bS (colT x))) 0 rfl undTx tyStr rfl (by decide) (H.blk 0 rfl).at rfl (fun e => by cases e) (txt_one _) (by show ((j + 1) + (j + 1) / 4 + 192) * 16 ≤ 281474976710656; omega) (by unfold maxLen; omega)
      refine ⟨_, _, _, _, hrun, ?_⟩
      rw [i64_next (by omega)]
      refine ⟨⟨j + 1, rfl, by omega, rfl, ?_⟩, by simp only [Int.toNat_natCast]; omega⟩
      rw [take_snoc gx, List.map_append, List.flatMap_append]
      have := H1.tail.tail
      simpa using this
    · have ex : bS (tB x.name ++ [32] ++ wordL x.kind) = bS (colT x) := by unfold colT; rw [hb]; simp
      rw [ex]
      intro b35 w36 h35
      replace H := H.new h35
      obtain ⟨p', c', w41, hrun, H1⟩ := H.append (ty := 76) (P := Tryd.prog) (q := some ⟨b35, 0, none⟩) (m := 1) (d' := 1) (news := txt (bS (colT x))) 0 rfl undTx tyStr rfl (by decide) (H.blk 0 rfl).at rfl (fun e => by cases e) (txt_one _) (by show ((j + 1) + (j + 1) / 4 + 192) * 16 ≤ 281474976710656; omega) (by unfold maxLen; omega)
      refine ⟨_, _, _, _, hrun, ?_⟩
      rw [i64_next (by omega)]
      refine ⟨⟨j + 1, rfl, by omega, rfl, ?_⟩, by simp only [Int.toNat_natCast]; omega⟩
      rw [take_snoc gx, List.map_append, List.flatMap_append]
      have := H1.tail.tail
      simpa using this
  · have hjn : j = n := by omega
    subst hjn
    rw [List.take_of_length_le (by omega)] at H
    have hls : Ls txt W q j d (cols.map fun c => bS (colT c)) := (H.row 0 rfl).ls txt_len (by decide)
    have hmap : (cols.map fun c => bS (colT c)).map tB = cols.map colT := by rw [List.map_map]; exact List.map_congr_left fun c _ => tB_bS _
    have hlen := showL_len (cols := cols) fun c hc => (r3 c hc).1
    refine (join_ok hls (ByteArray.mk #[44, 32]) (by omega) (by rw [hmap]; have : (Lib.join (cols.map colT) sepL).length ≤ 36 * cols.length := hlen; have e : tB (ByteArray.mk #[44, 32]) = sepL := rfl; rw [e]; omega)).mono ?_
    rintro e W2 ⟨rfl, eS⟩
    refine ⟨_, rfl, ?_, H.ext.trans eS⟩
    rw [hmap, hS]; rfl
end Go.Proofs.YtiojkfckaalooaaDoor

/- The contracts of schemas' texts, the document's; schemas held against one another; the known schema. Printed by mksw2.py. -/
namespace Go.Proofs.YtiojkfckaalooaaDoor
open Go Go.Vc Go.RowKit
set_option maxRecDepth 20000
attribute [local irreducible] Calls Put Drew New

set_option maxHeartbeats 2000000 in
theorem r5same_ok (w : World) {p q : Option Addr} {n c m d : Nat} {a b : List Col} (ha : Cols w p n c a) (hb : Cols w q m d b) :
    Calls Tryd.prog 17 #[.slice p n c, .slice q m d] w fun e w' => e = .returned (.bool (decide (a = b))) ∧ Ext w w' := by
  have hla := ha.len
  have hlb := hb.len
  have hn : n ≤ 9223372036854775807 := ha.le
  apply r5same_vc
  unfold r5same_T
  refine ⟨fun hne => ⟨?_, Ext.rfl⟩, fun heq => ?_⟩
  · rw [decide_eq_false]; intro e; rw [e] at hla; omega
  refine ⟨fun i W => ∃ j : Nat, i = (j : Int) ∧ j ≤ n ∧ a.take j = b.take j ∧ Ext w W, fun i _ => n - i.toNat, ⟨0, rfl, Nat.zero_le _, by simp, Ext.rfl⟩, ?_⟩
  rintro i W ⟨j, rfl, hj, htk, eW⟩
  refine ⟨fun hlt => ?_, fun hge => ⟨?_, eW⟩⟩
  · have ga : a[j]? = some (a[j]'(by omega)) := List.getElem?_eq_getElem _
    have gb : b[j]? = some (b[j]'(by omega)) := List.getElem?_eq_getElem _
    generalize a[j]'(by omega) = x at ga
    generalize b[j]'(by omega) = y at gb
    intro w9 hD
    have eD := eW.trans (Drew.ext hD)
    obtain ⟨b1, o1, hp1, a0, a1, a2⟩ := (ha.ext eD).col ga
    obtain ⟨b2, o2, hp2, c0, c1, c2⟩ := (hb.ext eD).col gb
    simp only [Int.toNat_natCast]
    refine ⟨b1, o1, hp1, by omega, hlt, _, a0, _, a1, _, a2, b2, o2, hp2, by omega, by omega, _, c0, _, c1, _, c2, fun hd => ⟨?_, eD⟩, fun he => ?_⟩
    · rw [decide_eq_false]
      intro e
      subst e
      rw [ga] at gb
      cases gb
      rcases hd with h | h | h <;> exact h rfl
    · rw [i64_next (by omega)]
      refine ⟨⟨j + 1, rfl, by omega, ?_, eD⟩, by simp only [Int.toNat_natCast]; omega⟩
      rw [take_snoc ga, take_snoc gb, htk, Col.ext'.2 he]
  · rw [List.take_of_length_le (by omega), List.take_of_length_le (by omega)] at htk
    rw [decide_eq_true htk]
def shownC : List Col := [⟨bS [97], 1, false⟩, ⟨bS [98], 3, true⟩]
theorem shownC_right : rightC shownC = true := by decide +kernel
theorem shownC_right1 : rightC (shownC.take 1) = true := by decide +kernel
theorem shownC_show : showL shownC = [97, 32, 105, 110, 116, 44, 32, 98, 32, 116, 101, 120, 116, 32, 110, 117, 108, 108] := by decide +kernel
theorem shownC_lay : schB (shownC.take 1) = [1, 1, 97, 1, 0] := by
  unfold schB
  show uvar 1 ++ (colB ⟨bS [97], 1, false⟩ ++ []) = _
  unfold colB
  show uvar 1 ++ ((uvar 1 ++ (tB (bS [97]) ++ _)) ++ []) = _
  rw [uvar_small (by decide)]; rfl
theorem shown05_ok {w : World} (hT : WTab w) : Calls Tryd.prog 10 #[] w fun e w' => e = .returned (.bool true) ∧ Ext w w' := by
  apply shown05_vc
  unfold shown05_T
  intro b1 w2 h1
  have h1' : New w (.cells (shownC.flatMap Col.cs).toArray 53) b1 w2 := h1
  have hC : Cols w2 (some ⟨b1, 0, none⟩) 2 2 shownC := ⟨rfl, ⟨Nat.le_refl _, by unfold maxLen; omega⟩, h1'.at, fun e => by cases e⟩
  have e1 := h1'.ext
  refine (sshow_ok (hT.ext e1) hC).mono ?_
  rintro e w5 ⟨rfl, e2⟩
  refine ⟨_, _, rfl, by decide, by decide, ?_⟩
  have hC1 : Cols w5 (some ⟨b1, 0, none⟩) 1 2 (shownC.take 1) := (hC.ext e2).take Col.cs_length (by decide)
  refine (slay_ok w5 (In.nothing _) hC1 (by decide)).mono ?_
  rintro e w9 ⟨p, n, c, rfl, ho, e3⟩
  have hS : showS shownC = (bS [97, 32, 105, 110, 116, 44, 32, 98, 32, 116, 101, 120, 116, 32, 110, 117, 108, 108], 0) := by unfold showS; rw [if_pos shownC_right, shownC_show]
  have hL : layS [] (shownC.take 1) = ([1, 1, 97, 1, 0], 0) := by unfold layS; rw [if_pos shownC_right1, shownC_lay]; rfl
  rw [hL] at ho ⊢
  rw [hS]
  refine ⟨_, _, _, _, rfl, fun _ => ⟨_, ho.bytes, ?_, (e1.trans e2).trans e3⟩, fun hx => ?_⟩
  · rw [show sEq ⟨([1, 1, 97, 1, 0] : List UInt8).toArray⟩ (ByteArray.mk #[1, 1, 97, 1, 0]) = true from sEq_self _]
  · exfalso
    rcases hx with (hx | hx) | hx
    · exact hx rfl
    · exact hx rfl
    · exact hx rfl
end Go.Proofs.YtiojkfckaalooaaDoor

/- A growing row of rows, all of our own. -/
namespace Go.Vc
open Go Go.RowKit

def Pts {β : Type} (te th : TypeId) (s : Nat) (en : β → List Value) (w0 W : World) (p : Option Addr) (n c : Nat) (bl : List β) : Prop :=
  ∃ (hs : List Sl) (rl : List Row), hs.length = n ∧ bl.length = n ∧ Hold w0 W [] (rl ++ [⟨th, 1, p, n, c, hs.flatMap Sl.cs⟩]) ∧ ∀ (i : Nat) x y, hs[i]? = some x → bl[i]? = some y → (⟨te, s, x.p, x.n, x.c, en y⟩ : Row) ∈ rl
section
variable {β : Type} {te th : TypeId} {s : Nat} {en : β → List Value} {w0 W W1 W2 : World} {p q : Option Addr} {n c m d b : Nat} {bl : List β} {y : β}
theorem Pts.ext (h : Pts te th s en w0 W p n c bl) : Ext w0 W := by
  obtain ⟨_, _, _, _, H, _⟩ := h
  exact H.ext
theorem Pts.step (h : Pts te th s en w0 W p n c bl) (e : Ext W W1) : Pts te th s en w0 W1 p n c bl := by
  obtain ⟨hs, rl, h1, h2, H, h3⟩ := h
  exact ⟨hs, rl, h1, h2, H.step e, h3⟩
theorem Pts.none (e : Ext w0 W) : Pts te th s en w0 W none 0 0 ([] : List β) := ⟨[], [], rfl, rfl, (Hold.start e).nilRow _ _, by simp⟩
/-- A literal of one row. -/
theorem Pts.one (e0 : Ext w0 W) (e : Ext W W1) (hm : Mine W.heap.size te s W1 q m d (en y)) (hn : New W1 (.cells #[.slice q m d] th) b W2) : Pts te th s en w0 W2 (some ⟨b, 0, Option.none⟩) 1 1 [y] := by
  have H := ((Hold.start e0).addRow e hm).litRow (s := 1) (cap := 1) hn (by unfold maxLen; omega) rfl
  have hsw : Hold w0 W2 [] ([(⟨te, s, q, m, d, en y⟩ : Row)] ++ [⟨th, 1, some ⟨b, 0, Option.none⟩, 1, 1, [(⟨q, m, d⟩ : Sl)].flatMap Sl.cs⟩]) := by
    refine ⟨H.ext, H.ge, H.holds, H.keys, fun i x hx => ?_, fun i j x k hx hk => by simp at hx, fun i j x k hx hk hij => ?_⟩
    · match i, hx with
      | 0, hx => exact H.own 1 x hx
      | 1, hx => exact H.own 0 x hx
      | i + 2, hx => simp at hx
    · match i, j, hx, hk with
      | 0, 0, hx, hk => exact absurd rfl hij
      | 0, 1, hx, hk => exact H.rows 1 0 x k hx hk (by decide)
      | 1, 0, hx, hk => exact H.rows 0 1 x k hx hk (by decide)
      | 1, 1, hx, hk => exact absurd rfl hij
      | i + 2, _, hx, _ => simp at hx
      | 0, j + 2, _, hk => simp at hk
      | 1, j + 2, _, hk => simp at hk
  refine ⟨[⟨q, m, d⟩], [⟨te, s, q, m, d, en y⟩], rfl, rfl, hsw, fun i x y' hx hy => ?_⟩
  cases i with
  | zero => cases hx; cases hy; simp
  | succ i => cases hx
theorem Pts.push {P : Program} {t' ty tb : TypeId} {z : Ty} (h : Pts te th s en w0 W p n c bl) (hu : P.underlying t' = some (.slice th)) (hz : tyOf P th = some z) (h1 : z.ls.length = 1) (hb : z.bytes = 24) (e : Ext W W1)
    (hm : Mine W.heap.size te s W1 q m d (en y)) (hn : New W1 (.cells #[.slice q m d] tb) b W2) (hlen : n ≤ 1000000) :
    ∃ p' c' W3, (Builtin.append_ #[t', t'] ty #[.slice p n c, .slice (some ⟨b, 0, Option.none⟩) 1 1]).run P W2 = .ok (.slice p' (n + 1) c') W3 ∧ Pts te th s en w0 W3 p' (n + 1) c' (bl ++ [y]) := by
  obtain ⟨hs, rl, hhs, hbl, H, hrows⟩ := h
  have H1 := H.addRow e hm
  have H2 := H1.step hn.ext
  have hidx : (⟨te, s, q, m, d, en y⟩ :: (rl ++ [(⟨th, 1, p, n, c, hs.flatMap Sl.cs⟩ : Row)]))[rl.length + 1]? = some ⟨th, 1, p, n, c, hs.flatMap Sl.cs⟩ := by simp
  obtain ⟨p', c', W3, hrn, H3⟩ := H2.append (ty := ty) (P := P) (s := 1) (q := some ⟨b, 0, Option.none⟩) (m := 1) (d' := 1) (news := [.slice q m d]) (rl.length + 1) hidx hu hz h1 (by decide) (Blk.new hn).at rfl (fun e => by cases e)
    (by intro u hu; simp at hu; subst hu; rfl) (by rw [hb]; omega) (by unfold maxLen; omega)
  refine ⟨p', c', W3, hrn, hs ++ [⟨q, m, d⟩], ⟨te, s, q, m, d, en y⟩ :: rl, by simp [hhs], by simp [hbl], ?_, ?_⟩
  · have e : (⟨te, s, q, m, d, en y⟩ :: (rl ++ [(⟨th, 1, p, n, c, hs.flatMap Sl.cs⟩ : Row)])).set (rl.length + 1) ⟨th, 1, p', n + 1, c', hs.flatMap Sl.cs ++ [.slice q m d]⟩
        = (⟨te, s, q, m, d, en y⟩ :: rl) ++ [⟨th, 1, p', n + 1, c', (hs ++ [(⟨q, m, d⟩ : Sl)]).flatMap Sl.cs⟩] := by
      simp [Sl.cs]
    rw [e] at H3
    exact H3
  · intro i x r' hx hr'
    rcases Nat.lt_or_ge i n with hi | hi
    · rw [List.getElem?_append_left (by omega)] at hx hr'
      exact List.mem_cons_of_mem _ (hrows i x r' hx hr')
    · have hlt := (List.getElem?_eq_some_iff.1 hx).1
      simp [hhs] at hlt
      have : i = n := by omega
      subst this
      rw [List.getElem?_append_right (by omega), show i - hs.length = 0 by omega] at hx
      rw [List.getElem?_append_right (by omega), show i - bl.length = 0 by omega] at hr'
      cases hr'
      cases hx
      exact List.mem_cons_self
/-- What lies there. -/
theorem Pts.heads (h : Pts te th s en w0 W p n c bl) : ∃ hs : List Sl, hs.length = n ∧ Mine w0.heap.size th 1 W p n c (hs.flatMap Sl.cs) ∧ bl.length = n ∧ ∀ (i : Nat) x y, hs[i]? = some x → bl[i]? = some y → Mine w0.heap.size te s W x.p x.n x.c (en y) := by
  obtain ⟨hs, rl, hhs, hbl, H, hrows⟩ := h
  refine ⟨hs, hhs, H.row rl.length (by simp), hbl, fun i x y hx hy => ?_⟩
  obtain ⟨k, hk⟩ := List.mem_iff_getElem?.1 (hrows i x y hx hy)
  have hkl := (List.getElem?_eq_some_iff.1 hk).1
  exact H.row k (by rw [List.getElem?_append_left hkl]; exact hk)
end
end Go.Vc

/- The contracts of rows' bytes: laying, by the program and by the document. -/
namespace Go.Vc
open Go Go.RowKit
def layR (l : List UInt8) (cols : List Col) (L : List (List Val)) : List UInt8 × Int := if rightC cols then (if L.length ≤ 1024 ∧ ∀ r ∈ L, fitsL cols r = true then (l ++ rowsB L, 0) else ([], 51)) else ([], 50)
theorem fits_right : ∀ {cols : List Col} {r : List Val}, fitsL cols r = true → ∀ v ∈ r, v.right = true
  | [], [], _, v, hv => by cases hv
  | c :: cols, x :: r, h, v, hv => by
    unfold fitsL at h
    rw [Bool.and_eq_true] at h
    rcases List.mem_cons.1 hv with rfl | hv
    · have := h.1
      unfold valFits at this
      rw [Bool.and_eq_true] at this
      exact this.1
    · exact fits_right h.2 v hv
  | [], _ :: _, h, _, _ => by cases h
  | _ :: _, [], h, _, _ => by cases h
theorem valB_len {v : Val} (h : v.right = true) (hf : v.fit) : (valB v).length ≤ 1100 := by
  have hok : v.Ok := of_decide_eq_true h
  have hn : -9223372036854775808 ≤ v.n ∧ v.n ≤ 9223372036854775807 := hf.2
  unfold valB
  rcases hok with ⟨e, _⟩ | ⟨e, _⟩ | ⟨e, _⟩ | ⟨e, _, hs⟩
  · rw [if_neg (by omega), if_neg (by omega), if_neg (by omega)]; simp
  · rw [if_pos e]
    have := uvar_len10 (zig_lt hn.1 hn.2)
    simp; omega
  · rw [if_neg (by omega), if_pos e]; simp
  · rw [if_neg (by omega), if_neg (by omega), if_pos e]
    have := uvar_len10 (n := v.s.size) (by omega)
    simp [tB_length]; omega
theorem rowB_len {r : List Val} (h : ∀ v ∈ r, v.right = true ∧ v.fit) : (rowB r).length ≤ 1100 * r.length := by
  unfold rowB
  induction r with
  | nil => simp
  | cons v r ih =>
    have h1 := valB_len (h v (by simp)).1 (h v (by simp)).2
    have h2 := ih fun x hx => h x (by simp [hx])
    rw [List.flatMap_cons, List.length_append, List.length_cons]; omega
theorem rowB_take {r : List Val} (h : ∀ v ∈ r, v.right = true ∧ v.fit) (hl : r.length ≤ 16) (k : Nat) : (rowB (r.take k)).length ≤ 17600 := by
  have := rowB_len (r := r.take k) fun v hv => h v (List.mem_of_mem_take hv)
  have h2 : (r.take k).length ≤ 16 := by rw [List.length_take]; omega
  omega
theorem rows_len : ∀ {R : List (List Val)}, (∀ r ∈ R, r.length ≤ 16 ∧ ∀ v ∈ r, v.right = true ∧ v.fit) → (R.flatMap rowB).length ≤ 17600 * R.length
  | [], _ => by simp
  | r :: R, h => by
    have h1 := rowB_take (h r (by simp)).2 (h r (by simp)).1 16
    rw [List.take_of_length_le (h r (by simp)).1] at h1
    have h2 := rows_len (R := R) fun x hx => h x (by simp [hx])
    rw [List.flatMap_cons, List.length_append, List.length_cons]; omega
theorem flat_len : ∀ {R : List (List Val)}, (∀ r ∈ R, r.length ≤ 16) → R.flatten.length ≤ 16 * R.length
  | [], _ => by simp
  | r :: R, h => by
    have h1 := h r (by simp)
    have h2 := flat_len (R := R) fun x hx => h x (by simp [hx])
    rw [List.flatten_cons, List.length_append, List.length_cons]; omega
theorem rowsB_flat (R : List (List Val)) : R.flatMap rowB = (R.flatten.map valB).flatten := by
  induction R with
  | nil => rfl
  | cons r R ih => rw [List.flatMap_cons, ih, List.flatten_cons, List.map_append, List.flatten_append]; rfl
/-- What is laid once j rows and k values of the next were. -/
def partR (l : List UInt8) (L : List (List Val)) (r : List Val) (j k : Nat) : List UInt8 := ((l ++ uvar L.length) ++ (L.take j).flatMap rowB) ++ rowB (r.take k)
def pieceR (l : List UInt8) (L : List (List Val)) (r : List Val) (j k : Nat) : List (List UInt8) := ((l ++ uvar L.length) :: (L.take j).flatten.map valB) ++ (r.take k).map valB
theorem pieceR_flat (l : List UInt8) (L : List (List Val)) (r : List Val) (j k : Nat) : (pieceR l L r j k).flatten = partR l L r j k := by
  unfold pieceR partR
  rw [List.flatten_append, List.flatten_cons, rowsB_flat]
  unfold rowB
  rw [List.flatMap_def]
theorem pieceR_next {l : List UInt8} {L : List (List Val)} {r : List Val} {j : Nat} (h : L[j]? = some r) : pieceR l L r j r.length = pieceR l L [] (j + 1) 0 := by
  unfold pieceR
  rw [take_snoc h, List.flatten_append, List.map_append, List.take_of_length_le (Nat.le_refl _)]
  simp
theorem pieceR_step {l : List UInt8} {L : List (List Val)} {r : List Val} {j k : Nat} {v : Val} (h : r[k]? = some v) : pieceR l L r j (k + 1) = pieceR l L r j k ++ [valB v] := by
  unfold pieceR
  rw [take_snoc h]
  simp
theorem pieceR_zero (l : List UInt8) (L : List (List Val)) (r r' : List Val) (j : Nat) : pieceR l L r j 0 = pieceR l L r' j 0 := by unfold pieceR; simp
theorem partR_all (l : List UInt8) (L : List (List Val)) : partR l L [] L.length 0 = l ++ rowsB L := by
  unfold partR rowsB
  rw [List.take_of_length_le (Nat.le_refl _)]
  simp [rowB]
end Go.Vc
namespace Go.Proofs.YtiojkfckaalooaaDoor
open Go Go.Vc Go.RowKit
set_option maxRecDepth 20000
attribute [local irreducible] Calls Put Drew New

theorem undPB : Tryd.prog.underlying 70 = some (.slice 28) := by kernel_rfl
theorem tySB : tyOf Tryd.prog 28 = some { agg := false, ls := [.slc], zero := .slice none 0 0, bytes := 24, big := false, n := 1 } := by kernel_rfl
/-- What is known of rows that fit, so far. -/
structure Fit16 (cols : List Col) (L : List (List Val)) (j : Nat) : Prop where
  fits : ∀ r ∈ L.take j, fitsL cols r = true
theorem Fit16.next {cols : List Col} {L : List (List Val)} {j : Nat} {r : List Val} (h : Fit16 cols L j) (hr : L[j]? = some r) (hf : fitsL cols r = true) : Fit16 cols L (j + 1) := by
  refine ⟨fun x hx => ?_⟩
  rw [take_snoc hr] at hx
  rcases List.mem_append.1 hx with hx | hx
  · exact h.fits x hx
  · simp at hx; subst hx; exact hf
section
variable {cols : List Col} {L : List (List Val)} {r : List Val} {l : List UInt8} {j k : Nat}
theorem row_facts (ht : rightC cols = true) (hf : fitsL cols r = true) (hv : ∀ v ∈ r, v.fit) : r.length ≤ 16 ∧ ∀ v ∈ r, v.right = true ∧ v.fit := by
  obtain ⟨r1, r2, _⟩ := right_all ht
  have := fitsL_length hf
  exact ⟨by omega, fun v hx => ⟨fits_right hf v hx, hv v hx⟩⟩
theorem partR_len (ht : rightC cols = true) (h : Fit16 cols L j) (hv : ∀ x ∈ L, ∀ v ∈ x, v.fit) (hL : L.length ≤ 1024) (hr : r.length ≤ 16 ∧ ∀ v ∈ r, v.right = true ∧ v.fit) : (partR l L r j k).length ≤ l.length + 18100000 := by
  have a1 := uvar_len10 (n := L.length) (by omega)
  have a2 := rows_len (R := L.take j) fun x hx => row_facts ht (h.fits x hx) (hv x (List.mem_of_mem_take hx))
  have a3 : (L.take j).length ≤ 1024 := by rw [List.length_take]; omega
  have a4 := rowB_take hr.2 hr.1 k
  unfold partR
  simp only [List.length_append]; omega
theorem pieceR_len (ht : rightC cols = true) (h : Fit16 cols L j) (hv : ∀ x ∈ L, ∀ v ∈ x, v.fit) (hL : L.length ≤ 1024) (hr : r.length ≤ 16) : (pieceR l L r j k).length ≤ 20000 := by
  have a2 := flat_len (R := L.take j) fun x hx => (row_facts ht (h.fits x hx) (hv x (List.mem_of_mem_take hx))).1
  have a3 : (L.take j).length ≤ 1024 := by rw [List.length_take]; omega
  have a4 : (r.take k).length ≤ 16 := by rw [List.length_take]; omega
  unfold pieceR
  simp only [List.length_append, List.length_cons, List.length_map]; omega
end
theorem parts_pts {w0 W : World} {p : Option Addr} {n c : Nat} {bl : List (List UInt8)} (h : Pts 5 28 1 vB w0 W p n c bl) : bl.length = n ∧ Parts W p bl := by
  obtain ⟨hs, h1, h2, h3, h4⟩ := h.heads
  refine ⟨h3, ?_⟩
  have hls : Ls Sl.cs W p n c hs := h2.ls Sl.cs_length (by decide)
  by_cases h0 : bl = []
  · exact .inl h0
  have hn : 0 < n := by
    have := List.length_pos_iff.2 h0
    omega
  obtain ⟨b, o, hp, _⟩ := hls.lies.things Sl.cs_length (by decide) (i := 0) (List.getElem?_eq_getElem (by omega))
  refine .inr ⟨b, o, hp, fun k y hy => ?_⟩
  have hk := (List.getElem?_eq_some_iff.1 hy).1
  have hx : hs[k]? = some (hs[k]'(by omega)) := List.getElem?_eq_getElem _
  generalize hs[k]'(by omega) = x at hx
  have hm := h4 k x y hx hy
  have hyl : y.length = x.n := by have := hm.len; rw [vB_length] at this; omega
  obtain ⟨b', o', hp', hc⟩ := hls.lies.things Sl.cs_length (by decide) hx
  rw [hp] at hp'
  cases hp'
  refine ⟨x.p, x.c, ?_, hm.at, ?_, fun e => ?_⟩
  · have := hc 0 _ rfl
    rw [Nat.mul_one, Nat.add_zero] at this
    rw [hyl]; exact this
  · have := hm.cap; omega
  · obtain ⟨a1, a2⟩ := hm.isNil e
    exact ⟨List.eq_nil_of_length_eq_zero (by omega), a2⟩
set_option maxHeartbeats 4000000 in
theorem slayrows_ok (w : World) {p cp rp : Option Addr} {n c cn cc rn rc : Nat} {l : List UInt8} {cols : List Col} {hs : List Sl} {L : List (List Val)} (h : In w p n c l) (hc : Cols w cp cn cc cols) (hr : Rws w rp rn rc hs L) (hv : ∀ x ∈ L, ∀ v ∈ x, v.fit) (hroom : n + 30000000 ≤ 211106232532992) :
    Calls Tryd.prog 24 #[.slice p n c, .slice cp cn cc, .slice rp rn rc] w fun e w' => ∃ p' n' c', e = .returned (.tuple #[.slice p' n' c', .int .i64 (layR l cols L).2]) ∧ Out w.heap.size w' p' n' c' (layR l cols L).1 ∧ Ext w w' := by
  have hl := h.len
  have hcl := hc.len
  have hrl := hr.len
  apply slayrows_vc
  unfold slayrows_T
  refine (sright_ok hc).mono ?_
  rintro e w2 ⟨rfl, e1⟩
  have bad : ∀ {W : World} {x : Int}, Ext w W → layR l cols L = ([], x) → ∃ p' n' c', Ending.returned (Value.tuple #[.slice none 0 0, .int .i64 x]) = .returned (.tuple #[.slice p' n' c', .int .i64 (layR l cols L).2]) ∧ Out w.heap.size W p' n' c' (layR l cols L).1 ∧ Ext w W := by
    intro W x hx e
    rw [e]
    exact ⟨none, 0, 0, rfl, ⟨rfl, Mine.nil _ _ _ _⟩, hx⟩
  refine ⟨_, rfl, fun hf => bad e1 (by unfold layR; rw [hf]; rfl), fun ht => ?_⟩
  have hL : layR l cols L = if L.length ≤ 1024 ∧ ∀ r ∈ L, fitsL cols r = true then (l ++ rowsB L, 0) else ([], 51) := by unfold layR; rw [if_pos ht]
  refine ⟨fun hbig => bad e1 (by rw [hL, if_neg (by omega)]), fun hsm => ?_⟩
  have hL24 : L.length ≤ 1024 := by omega
  rw [u64_nat (by omega)]
  refine (number_out w2 (h.ext e1) (by omega) (by omega)).mono ?_
  rintro e w9 ⟨p2, n2, c2, rfl, ho, e2⟩
  refine ⟨_, _, _, rfl, ?_⟩
  intro b13 w14 h13
  have P0 := Pts.one (en := vB) (y := l ++ uvar rn) e1 e2 ho.2 h13
  refine ⟨fun q m d i W => ∃ j : Nat, i = (j : Int) ∧ j ≤ rn ∧ Fit16 cols L j ∧ Pts 5 28 1 vB w W q m d (pieceR l L [] j 0), fun _ _ _ i _ => rn - i.toNat, ⟨0, rfl, Nat.zero_le _, ⟨by simp⟩, ?_⟩, ?_⟩
  · have : pieceR l L [] 0 0 = [l ++ uvar rn] := by unfold pieceR; rw [hrl]; simp
    rw [this]; exact P0
  clear P0 ho
  rintro q m d i W ⟨j, rfl, hj, hfit, Q⟩
  refine ⟨fun hlt => ?_, fun hge => ?_⟩
  · have gr : L[j]? = some (L[j]'(by omega)) := List.getElem?_eq_getElem _
    generalize L[j]'(by omega) = r at gr
    have hrv := hv r (List.mem_of_getElem? gr)
    obtain ⟨x, hx, hxv, b, o, hp, hcell⟩ := (hr.ext Q.ext).get gr
    simp only [Int.toNat_natCast]
    refine ⟨b, o, hp, by omega, hlt, _, _, _, hcell, ?_⟩
    refine (sfits0_ok (hc.ext Q.ext) hxv).mono ?_
    rintro e W2 ⟨rfl, eS⟩
    refine ⟨_, rfl, fun hf => bad (Q.ext.trans eS) (by rw [hL, if_neg]; rintro ⟨_, hall⟩; rw [hall r (List.mem_of_getElem? gr)] at hf; cases hf), fun hf => ?_⟩
    obtain ⟨hr16, hrr⟩ := row_facts ht hf hrv
    have hxl := hxv.len
    have hxv0 := hr.rows j x r hx gr
    replace Q := Q.step eS
    rw [pieceR_zero l L [] r j] at Q
    refine ⟨fun q m d i W => ∃ k : Nat, i = (k : Int) ∧ k ≤ x.n ∧ Pts 5 28 1 vB w W q m d (pieceR l L r j k), fun _ _ _ i _ => x.n - i.toNat, ⟨0, rfl, Nat.zero_le _, Q⟩, ?_⟩
    clear Q
    rintro q m d i W3 ⟨k, rfl, hk, Q⟩
    refine ⟨fun hlt2 => ?_, fun hge2 => ?_⟩
    · have gv : r[k]? = some (r[k]'(by omega)) := List.getElem?_eq_getElem _
      generalize r[k]'(by omega) = v at gv
      obtain ⟨v1, v2⟩ := hrr v (List.mem_of_getElem? gv)
      obtain ⟨b', o', hp', c0, c1, c2'⟩ := (hxv0.ext Q.ext).val gv
      simp only [Int.toNat_natCast]
      refine ⟨b', o', hp', by omega, hlt2, _, c0, _, c1, _, c2', ?_⟩
      have H := Hold.start (Ext.rfl (w := W3))
      repeat (first
        | (intro _ _ hS; replace H := H.new hS; clear hS)
        | (intro _ hS; (first | replace H := H.put 0 rfl hS | replace H := H.put 1 rfl hS | replace H := H.put 2 rfl hS | replace H := H.put 3 rfl hS | replace H := H.put 4 rfl hS | replace H := H.put 5 rfl hS | replace H := H.put 6 rfl hS | replace H := H.put 7 rfl hS); clear hS; try simp only [setA, List.setIfInBounds_toArray, List.set_cons_zero, List.set_cons_succ, Nat.zero_add, Nat.reduceAdd] at H)
        | (intro _ hS; replace H := H.step (Drew.ext hS); clear hS)
        | (first | refine ⟨⟨_, H.get 0 rfl rfl⟩, ?_⟩ | refine ⟨⟨_, H.get 1 rfl rfl⟩, ?_⟩ | refine ⟨⟨_, H.get 2 rfl rfl⟩, ?_⟩ | refine ⟨⟨_, H.get 3 rfl rfl⟩, ?_⟩ | refine ⟨⟨_, H.get 4 rfl rfl⟩, ?_⟩ | refine ⟨⟨_, H.get 5 rfl rfl⟩, ?_⟩ | refine ⟨⟨_, H.get 6 rfl rfl⟩, ?_⟩ | refine ⟨⟨_, H.get 7 rfl rfl⟩, ?_⟩)
        | (first | refine ⟨H.frz 0 rfl, ?_⟩ | refine ⟨H.frz 1 rfl, ?_⟩ | refine ⟨H.frz 2 rfl, ?_⟩ | refine ⟨H.frz 3 rfl, ?_⟩ | refine ⟨H.frz 4 rfl, ?_⟩ | refine ⟨H.frz 5 rfl, ?_⟩ | refine ⟨H.frz 6 rfl, ?_⟩ | refine ⟨H.frz 7 rfl, ?_⟩)
        | (first | refine ⟨_, H.get 0 rfl rfl, ?_⟩ | refine ⟨_, H.get 1 rfl rfl, ?_⟩ | refine ⟨_, H.get 2 rfl rfl, ?_⟩ | refine ⟨_, H.get 3 rfl rfl, ?_⟩ | refine ⟨_, H.get 4 rfl rfl, ?_⟩ | refine ⟨_, H.get 5 rfl rfl, ?_⟩ | refine ⟨_, H.get 6 rfl rfl, ?_⟩ | refine ⟨_, H.get 7 rfl rfl, ?_⟩)
        | (first | refine ⟨_, _, _, H.get 0 rfl rfl, ?_⟩ | refine ⟨_, _, _, H.get 1 rfl rfl, ?_⟩ | refine ⟨_, _, _, H.get 2 rfl rfl, ?_⟩ | refine ⟨_, _, _, H.get 3 rfl rfl, ?_⟩ | refine ⟨_, _, _, H.get 4 rfl rfl, ?_⟩ | refine ⟨_, _, _, H.get 5 rfl rfl, ?_⟩ | refine ⟨_, _, _, H.get 6 rfl rfl, ?_⟩ | refine ⟨_, _, _, H.get 7 rfl rfl, ?_⟩))
      refine (vlay_ok _ (In.nothing _) v2 (by omega)).mono ?_
      rintro e W4 ⟨p3, n3, c3, rfl, ho, eT⟩
      have hlv : layV [] v = (valB v, 0) := by unfold layV; rw [if_pos v1]; rfl
      rw [hlv] at ho ⊢
      have hsz := H.size
      replace H := H.step eT
      refine ⟨_, _, _, _, rfl, ?_⟩
      intro b66 w67 h66
      have hlen := pieceR_len (l := l) (k := k) ht hfit hv hL24 hr16
      obtain ⟨hpl, _⟩ := parts_pts Q
      obtain ⟨p', c', w72, hrun, Q2⟩ := Q.push (ty := 70) (t' := 70) (P := Tryd.prog) undPB tySB rfl rfl H.ext (ho.2.mono hsz) h66 (by omega)
      refine ⟨_, _, _, _, hrun, ?_⟩
      rw [i64_next (by omega)]
      refine ⟨⟨k + 1, rfl, by omega, ?_⟩, by simp only [Int.toNat_natCast]; omega⟩
      rw [pieceR_step gv]; exact Q2
    · have hkn : k = r.length := by omega
      subst hkn
      rw [pieceR_next gr] at Q
      rw [i64_next (by omega)]
      exact ⟨⟨j + 1, rfl, by omega, hfit.next gr hf, Q⟩, by simp only [Int.toNat_natCast]; omega⟩
  · have hjn : j = L.length := by omega
    subst hjn
    have hall : ∀ r ∈ L, fitsL cols r = true := fun r hr => hfit.fits r (by rw [List.take_of_length_le (Nat.le_refl _)]; exact hr)
    rw [if_pos ⟨hL24, hall⟩] at hL
    have hlen := partR_len (l := l) (r := []) (k := 0) ht hfit hv hL24 ⟨by simp, by simp⟩
    have hpl := pieceR_len (l := l) (r := []) (k := 0) ht hfit hv hL24 (by simp)
    obtain ⟨hbl, hparts⟩ := parts_pts Q
    refine (concat_ok W _ _ _ _ hbl (by unfold maxLen; omega) hparts (by rw [pieceR_flat]; omega)).mono ?_
    rintro e W2 ⟨p3, c3, rfl, hm, eS⟩
    rw [pieceR_flat, partR_all] at hm ⊢
    refine ⟨_, _, _, rfl, _, _, _, by rw [hL], ?_, Q.ext.trans eS⟩
    rw [hL]
    exact ⟨rfl, hm.mono Q.ext.size⟩
end Go.Proofs.YtiojkfckaalooaaDoor

/- The contracts of rows' bytes: taking, by the program and by the document. Printed by mksl4.py. -/
namespace Go.Vc
open Go Go.RowKit
def takeRV (l : List UInt8) (cols : List Col) (pos : Int) : List (List Val) × Int × Int :=
  if rightC cols then (match takeRws l cols pos with
    | some (R, k) => (R, (k : Int), 0)
    | none => ([], 0, 52)) else ([], 0, 50)
def rowEn (r : List Val) : List Value := r.flatMap Val.cs
theorem flatVals_len (r : List Val) : (r.flatMap Val.cs).length = r.length * 3 := by
  induction r with
  | nil => rfl
  | cons c r ih => rw [List.flatMap_cons, List.length_append, ih, List.length_cons]; show 3 + _ = _; omega
end Go.Vc
namespace Go.Proofs.YtiojkfckaalooaaDoor
open Go Go.Vc Go.RowKit
set_option maxRecDepth 20000
attribute [local irreducible] Calls Put Drew New

theorem undRows : Tryd.prog.underlying 39 = some (.slice 24) := by kernel_rfl
theorem tyRow : tyOf Tryd.prog 24 = some { agg := false, ls := [.slc], zero := .slice none 0 0, bytes := 24, big := false, n := 1 } := by kernel_rfl
theorem pts_rws {w0 W : World} {p : Option Addr} {n c : Nat} {R : List (List Val)} (h : Pts 65 24 3 rowEn w0 W p n c R) : ∃ hs, Rws W p n c hs R := by
  obtain ⟨hs, h1, h2, h3, h4⟩ := h.heads
  exact ⟨hs, h2.ls Sl.cs_length (by decide), fun i x r hx hr => (h4 i x r hx hr).ls Val.cs_length (by decide), h3⟩

set_option maxHeartbeats 4000000 in
theorem stakerows_ok (w : World) {p cp : Option Addr} {n c cn cc : Nat} {l : List UInt8} {cols : List Col} (h : In w p n c l) (hc : Cols w cp cn cc cols) (hcs : ∀ x ∈ cols, x.name.size ≤ 9223372036854775807) {pos : Int} (hpos : pos ≤ 9223372036854775807) :
    Calls Tryd.prog 26 #[.slice p n c, .int .i64 pos, .slice cp cn cc] w fun e w' => ∃ p' n' c' hs, e = .returned (.tuple #[.slice p' n' c', .int .i64 (takeRV l cols pos).2.1, .int .i64 (takeRV l cols pos).2.2]) ∧ Rws w' p' n' c' hs (takeRV l cols pos).1 ∧ Ext w w' := by
  have hl := h.len
  have hcl := hc.len
  have hn : n ≤ 9223372036854775807 := h.le
  have bad : ∀ {W : World} {x : Int}, Ext w W → takeRV l cols pos = ([], 0, x) → ∃ p' n' c' hs, Ending.returned (Value.tuple #[.slice none 0 0, .int .i64 0, .int .i64 x]) = .returned (.tuple #[.slice p' n' c', .int .i64 (takeRV l cols pos).2.1, .int .i64 (takeRV l cols pos).2.2]) ∧ Rws W p' n' c' hs (takeRV l cols pos).1 ∧ Ext w W := by
    intro W x hx e
    rw [e]
    exact ⟨none, 0, 0, [], rfl, Rws.nothing _, hx⟩
  apply stakerows_vc
  unfold stakerows_T
  refine (sright_ok hc).mono ?_
  rintro e w2 ⟨rfl, e1⟩
  refine ⟨_, rfl, fun hf => bad e1 (by unfold takeRV; rw [hf]; rfl), fun ht => ?_⟩
  obtain ⟨r1, r2, _⟩ := right_all ht
  have hV : takeRV l cols pos = (match takeRws l cols pos with | some (R, k) => (R, (k : Int), 0) | none => ([], 0, 52)) := by unfold takeRV; rw [if_pos ht]
  have bad2 : ∀ {W : World}, Ext w W → takeRws l cols pos = none → ∃ p' n' c' hs, Ending.returned (Value.tuple #[.slice none 0 0, .int .i64 0, .int .i64 52]) = .returned (.tuple #[.slice p' n' c', .int .i64 (takeRV l cols pos).2.1, .int .i64 (takeRV l cols pos).2.2]) ∧ Rws W p' n' c' hs (takeRV l cols pos).1 ∧ Ext w W := fun hx hn => bad hx (by rw [hV, hn])
  refine (takeNumber_ok w2 p n c l pos h.len h.cap.1 h.le (h.lies.ext e1)).mono ?_
  rintro e w7 ⟨rfl, e2⟩
  unfold takeV
  cases hN : takeN l pos with
  | none => exact ⟨0, 0, 20, rfl, fun _ => bad2 (e1.trans e2) (by unfold takeRws; rw [hN]; rfl), fun hx => absurd hx.1 (by decide)⟩
  | some r =>
    obtain ⟨N, k⟩ := r
    obtain ⟨_, hN64, _, hkl, _⟩ := takeN_spec hN
    have hS : takeRws l cols pos = if N ≤ 1024 then takeRowsN l cols N k else none := by unfold takeRws; rw [hN]; rfl
    refine ⟨_, _, _, rfl, fun hx => bad2 (e1.trans e2) (by rw [hS, if_neg (by omega)]), fun hx => ?_⟩
    have hN24 : N ≤ 1024 := by omega
    rw [if_pos hN24] at hS
    refine ⟨fun pos er q m d i W => ∃ (j z : Nat) (R : List (List Val)), i = (j : Int) ∧ pos = (z : Int) ∧ er = 0 ∧ j ≤ N ∧ R.length = j ∧ takeRowsN l cols j k = some (R, z) ∧ Pts 65 24 3 rowEn w W q m d R, fun _ _ _ _ _ i _ => N - i.toNat, ⟨0, k, [], rfl, rfl, rfl, Nat.zero_le _, rfl, rfl, Pts.none (e1.trans e2)⟩, ?_⟩
    rintro pos1 er1 q m d i W ⟨j, z, R, rfl, rfl, rfl, hj, rfl, hdone, Q⟩
    have hmR : m = R.length := by obtain ⟨_, _, _, h3, _⟩ := Q.heads; omega
    subst hmR
    obtain ⟨d1, d2, d3, d4, d5⟩ := takeRowsN_spec hdone hkl
    refine ⟨fun hlt => ?_, fun hge => ?_⟩
    · have hsnoc := takeRowsN_snoc (l := l) (cols := cols) (n := R.length) (p := k)
      rw [hdone] at hsnoc
      simp only [Option.bind_some] at hsnoc
      have hno : takeRowF l cols z = none → takeRws l cols pos = none := by
        intro hc
        rw [hS, takeRowsN_fail (n := R.length + 1) (by rw [hsnoc, hc]; rfl) (by omega)]
      have hno2 : ∀ {k' : Nat}, k' ≤ cols.length → takeRow l k' z = none → takeRws l cols pos = none := fun hk' hx => hno (by unfold takeRowF; rw [takeRow_fail hx hk']; rfl)
      refine ⟨by omega, Int.le_refl _, by omega, by omega, ?_⟩
      intro b24 w25 h24
      have K0 := (Hold.start (Ext.rfl (w := W))).litRow (s := 3) (cap := cn) h24 (by unfold maxLen; omega) (by rw [size_madeCells])
      generalize hZ : (madeCells #[Value.int .i64 0, .int .i64 0, .string ⟨#[]⟩] (cn * 3)).toList = Z at K0
      have hZl : Z.length = cn * 3 := by rw [← hZ, Array.length_toList, size_madeCells]
      refine ⟨fun pos er i W2 => ∃ (y : Nat) (done : List Val), i = (done.length : Int) ∧ pos = (y : Int) ∧ er = 0 ∧ done.length ≤ cn ∧ takeRow l done.length z = some (done, y) ∧ Hold W W2 [] [⟨65, 3, some ⟨b24, 0, none⟩, cn, cn, rowEn done ++ Z.drop (done.length * 3)⟩], fun _ _ i _ => cn - i.toNat, ⟨z, [], rfl, rfl, rfl, Nat.zero_le _, rfl, by simpa [rowEn] using K0⟩, ?_⟩
      clear K0
      rintro pos2 er2 i2 W2 ⟨y, done2, rfl, rfl, rfl, hk, hdone2, K⟩
      refine ⟨fun hlt2 => ?_, fun hge2 => ?_⟩
      · have hsn2 := takeRow_snoc (l := l) (n := done2.length) (p := z)
        rw [hdone2] at hsn2
        simp only [Option.bind_some] at hsn2
        refine (vtake_ok _ (h.ext (Q.ext.trans K.ext)) (pos := (y : Int))).mono ?_
        rintro e W3 ⟨rfl, eS⟩
        replace K := K.step eS
        simp only [Int.toNat_natCast, Nat.zero_add]
        unfold takeVV
        have store : ∀ v : Val, ∃ b, some ⟨b24, 0, none⟩ = some (Addr.mk b 0 none) ∧ (∀ q, q < 3 → (∃ u, W3.cell? ⟨b, done2.length * 3 + q, none⟩ = some u) ∧ W3.frozen? ⟨b, done2.length * 3 + q, none⟩ = false) ∧
            ∀ W', Put W3 b (done2.length * 3) v.cs W' → Hold W W' [] [⟨65, 3, some ⟨b24, 0, none⟩, cn, cn, rowEn (done2 ++ [v]) ++ Z.drop ((done2 ++ [v]).length * 3)⟩] := by
          intro v
          obtain ⟨b, hb, h1, h2⟩ := K.putRow 0 (us := v.cs) (j := done2.length) rfl (by omega) rfl
          refine ⟨b, hb, h1, fun W' hp => ?_⟩
          have := h2 W' hp
          have hlen : (rowEn done2).length = done2.length * 3 := flatVals_len done2
          have e1 : (rowEn done2 ++ Z.drop (done2.length * 3)).take (done2.length * 3) = rowEn done2 := by rw [← hlen, List.take_left]
          have e2 : (rowEn done2 ++ Z.drop (done2.length * 3)).drop (done2.length * 3 + 3) = Z.drop ((done2 ++ [v]).length * 3) := by
            rw [← List.drop_drop]
            rw [show (rowEn done2 ++ Z.drop (done2.length * 3)).drop (done2.length * 3) = Z.drop (done2.length * 3) by rw [← hlen, List.drop_left]]
            rw [List.drop_drop, List.length_append]
            congr 1
            simp only [List.length_cons, List.length_nil]; omega
          rw [e1, e2] at this
          have e3 : rowEn (done2 ++ [v]) = rowEn done2 ++ v.cs := by unfold rowEn; rw [List.flatMap_append]; simp
          rw [e3]
          exact this
        cases hv : takeVal l (y : Int) with
        | none =>
          obtain ⟨b, hb, h1, h2⟩ := store nullV
          refine ⟨0, 0, ⟨#[]⟩, 0, 20, rfl, b, 0, hb, by omega, hlt2, ?_⟩
          simp only [Nat.zero_add]
          refine ⟨(h1 0 (by decide)).1, (h1 0 (by decide)).2, (h1 1 (by decide)).1, (h1 1 (by decide)).2, (h1 2 (by decide)).1, (h1 2 (by decide)).2, ?_⟩
          intro w47 hP
          have K2 := h2 w47 hP
          exact ⟨fun _ => bad2 (Q.ext.trans K2.ext) (hno2 (k' := done2.length + 1) (by omega) (by rw [hsn2, hv]; rfl)), fun hx => absurd hx (by decide)⟩
        | some r =>
          obtain ⟨v, y2⟩ := r
          obtain ⟨b, hb, h1, h2⟩ := store v
          refine ⟨v.k, v.n, v.s, _, _, rfl, b, 0, hb, by omega, hlt2, ?_⟩
          simp only [Nat.zero_add]
          refine ⟨(h1 0 (by decide)).1, (h1 0 (by decide)).2, (h1 1 (by decide)).1, (h1 1 (by decide)).2, (h1 2 (by decide)).1, (h1 2 (by decide)).2, ?_⟩
          intro w47 hP
          have K2 := h2 w47 hP
          rw [hv] at hsn2
          simp only [Option.map_some] at hsn2
          refine ⟨fun hx => absurd rfl hx, fun _ => ?_⟩
          rw [i64_next (by omega)]
          have hll : (done2 ++ [v]).length = done2.length + 1 := by simp
          refine ⟨⟨y2, done2 ++ [v], by rw [hll], rfl, by trivial, by omega, by rw [hll]; exact hsn2, K2⟩, by simp only [Int.toNat_natCast]; omega⟩
      · have hkn : done2.length = cn := by omega
        have hZd : Z.drop (done2.length * 3) = [] := List.drop_eq_nil_of_le (by rw [hZl, hkn]; exact Nat.le_refl _)
        rw [hZd, List.append_nil] at K
        have hvs : Vs W2 (some ⟨b24, 0, none⟩) cn cn done2 := (K.row 0 rfl).ls Val.cs_length (by decide)
        refine (sfits0_ok (hc.ext (Q.ext.trans K.ext)) hvs).mono ?_
        rintro e W3 ⟨rfl, eS⟩
        have hrow : takeRow l cols.length z = some (done2, y) := by rw [hcl, ← hkn]; exact hdone2
        refine ⟨_, rfl, fun hf => bad2 ((Q.ext.trans K.ext).trans eS) (hno (by unfold takeRowF; rw [hrow]; simp only [Option.bind_some]; rw [hf]; rfl)), fun hf => ?_⟩
        intro b57 w58 h57
        have hrF : takeRowF l cols z = some (done2, y) := by unfold takeRowF; rw [hrow]; simp only [Option.bind_some]; rw [if_pos hf]
        rw [hrF] at hsnoc
        simp only [Option.map_some] at hsnoc
        replace K := K.step eS
        obtain ⟨p', c', w63, hrun, Q2⟩ := Q.push (ty := 39) (t' := 39) (P := Tryd.prog) (y := done2) undRows tyRow rfl rfl K.ext (K.row 0 rfl) h57 (by omega)
        refine ⟨_, _, _, _, hrun, ?_⟩
        have ei : IntKind.u64.wrap ((R.length : Int) + 1) = ((R.length + 1 : Nat) : Int) := by rw [show (R.length : Int) + 1 = ((R.length + 1 : Nat) : Int) by omega, u64_nat (by omega)]
        rw [ei]
        have hll : (R ++ [done2]).length = R.length + 1 := by simp
        refine ⟨⟨R.length + 1, y, R ++ [done2], rfl, rfl, rfl, by omega, hll, hsnoc, Q2⟩, by simp only [Int.toNat_natCast]; omega⟩
    · have hjN : R.length = N := by omega
      rw [← hjN, hdone] at hS
      obtain ⟨hs, hR⟩ := pts_rws Q
      have e : takeRV l cols pos = (R, (z : Int), 0) := by rw [hV, hS]
      rw [e]
      exact ⟨_, _, _, hs, rfl, hR, Q.ext⟩

end Go.Proofs.YtiojkfckaalooaaDoor

/- The contracts of the words that hold rows against one another. -/
namespace Go.Proofs.YtiojkfckaalooaaDoor
open Go Go.Vc Go.RowKit
set_option maxRecDepth 20000

theorem samerow_ok (w : World) {p q : Option Addr} {n c m d : Nat} {a b : List Val} (ha : Vs w p n c a) (hb : Vs w q m d b) :
    Calls Tryd.prog 53 #[.slice p n c, .slice q m d] w fun e w' => e = .returned (.bool (decide (a = b))) ∧ Ext w w' := by
  apply samerow_vc
  unfold samerow_T
  have la := ha.len
  have lb := hb.len
  have hm : n ≤ 9223372036854775807 := ha.le
  refine ⟨fun h => ⟨?_, .rfl⟩, fun h => ?_⟩
  · have : a ≠ b := fun e => by subst e; omega
    simp [this]
  refine ⟨fun i w' => ∃ k : Nat, i = (k : Int) ∧ k ≤ n ∧ a.take k = b.take k ∧ Ext w w', fun i _ => n - i.toNat, ⟨0, rfl, Nat.zero_le _, by simp, .rfl⟩, ?_⟩
  rintro i w' ⟨k, rfl, hk, he, hx⟩
  refine ⟨fun hlt w9 h9 => ?_, fun hge => ⟨?_, hx⟩⟩
  · have hx9 := hx.trans h9.ext
    have ga : a[k]? = some (a[k]'(by omega)) := List.getElem?_eq_getElem _
    have gb : b[k]? = some (b[k]'(by omega)) := List.getElem?_eq_getElem _
    obtain ⟨b1, o1, hp, c0, c1, c2⟩ := (ha.ext hx9).val ga
    obtain ⟨b2, o2, hq, d0, d1, d2⟩ := (hb.ext hx9).val gb
    simp only [Int.toNat_natCast]
    refine ⟨b1, o1, hp, by omega, by omega, _, c0, _, c1, _, c2, b2, o2, hq, by omega, by omega, _, d0, _, d1, _, d2, fun hne => ⟨?_, hx9⟩, fun heq => ?_⟩
    · have : a ≠ b := fun e => by
        subst e
        rcases hne with h | h | h <;> exact h rfl
      simp [this]
    · rw [i64_next (by omega)]
      refine ⟨⟨k + 1, rfl, by omega, ?_, hx9⟩, by simp only [Int.toNat_natCast]; omega⟩
      rw [take_snoc ga, take_snoc gb, he, Val.ext'.2 heq]
  · have : k = n := by omega
    subst this
    rw [List.take_of_length_le (by omega), List.take_of_length_le (by omega)] at he
    simp [he]
end Go.Proofs.YtiojkfckaalooaaDoor

/- The contracts of the words that hold rows against one another. -/
namespace Go.Proofs.YtiojkfckaalooaaDoor
open Go Go.Vc Go.RowKit
set_option maxRecDepth 20000

theorem samerows_ok (w : World) {p q : Option Addr} {n c m d : Nat} {hs ks : List Sl} {a b : List (List Val)} (ha : Rws w p n c hs a) (hb : Rws w q m d ks b) :
    Calls Tryd.prog 28 #[.slice p n c, .slice q m d] w fun e w' => e = .returned (.bool (decide (a = b))) ∧ Ext w w' := by
  apply samerows_vc
  unfold samerows_T
  have la := ha.len
  have lb := hb.len
  have hm : n ≤ 9223372036854775807 := ha.le
  refine ⟨fun h => ⟨?_, .rfl⟩, fun h => ?_⟩
  · have : a ≠ b := fun e => by subst e; omega
    simp [this]
  refine ⟨fun i w' => ∃ k : Nat, i = (k : Int) ∧ k ≤ n ∧ a.take k = b.take k ∧ Ext w w', fun i _ => n - i.toNat, ⟨0, rfl, Nat.zero_le _, by simp, .rfl⟩, ?_⟩
  rintro i w' ⟨k, rfl, hk, he, hx⟩
  refine ⟨fun hlt w9 h9 => ?_, fun hge => ⟨?_, hx⟩⟩
  · have hx9 := hx.trans h9.ext
    have ga : a[k]? = some (a[k]'(by omega)) := List.getElem?_eq_getElem _
    have gb : b[k]? = some (b[k]'(by omega)) := List.getElem?_eq_getElem _
    obtain ⟨x, hx1, hx2, b1, o1, hp, c0⟩ := (ha.ext hx9).get ga
    obtain ⟨y, hy1, hy2, b2, o2, hq, d0⟩ := (hb.ext hx9).get gb
    simp only [Int.toNat_natCast]
    refine ⟨b1, o1, hp, by omega, by omega, _, _, _, c0, b2, o2, hq, by omega, by omega, _, _, _, d0, (samerow_ok w9 hx2 hy2).mono ?_⟩
    rintro e w22 ⟨rfl, e22⟩
    have hx22 := hx9.trans e22
    refine ⟨_, rfl, fun hf => ⟨?_, hx22⟩, fun ht => ?_⟩
    · have : a ≠ b := fun e => by subst e; simp at hf
      simp [this]
    · rw [i64_next (by omega)]
      refine ⟨⟨k + 1, rfl, by omega, ?_, hx22⟩, by simp only [Int.toNat_natCast]; omega⟩
      rw [take_snoc ga, take_snoc gb, he, of_decide_eq_true ht]
  · have : k = n := by omega
    subst this
    rw [List.take_of_length_le (by omega), List.take_of_length_le (by omega)] at he
    simp [he]
end Go.Proofs.YtiojkfckaalooaaDoor

/- The laws of schema: Fits, Parts, Lays, Rows, One. -/
namespace Go.Vc
open Go Go.RowKit
end Go.Vc
namespace Go.Proofs.YtiojkfckaalooaaDoor
open Go Go.Vc Go.RowKit
set_option maxRecDepth 20000
attribute [local irreducible] Calls Put Drew New

end Go.Proofs.YtiojkfckaalooaaDoor

/- Tables of tables: what a row's list says of their cells. -/
namespace Go.Vc
open Go

theorem cells_of_arr {H α : Type} {enc : TypeId × Value → H} {P : Program} {w : World} {base : Nat} {sp : Nat → Bool} {held : Bool} {fuel : Nat} {t e : TypeId} {n s : Nat} {cs : List Value} {zs : List α} {p : List MemPlace} {D : α → DataW H} {C : α → List Value}
    (ht : P.underlying t = some (.array n e)) (hce : P.cellsOf e = s) (hct : P.cellsOf t = n * s) (hs : ∀ z, (C z).length = s) (h0 : 0 < s)
    (inner : ∀ fuel cs z p, cs.length = s → DataW.trod enc P w base sp held fuel e cs = some (D z, p) → cs = C z)
    (h : DataW.trod enc P w base sp held fuel t cs = some (.agg (zs.map D), p)) : cs = zs.flatMap C := by
  cases fuel with
  | zero => simp [DataW.trod] at h
  | succ fuel =>
    simp only [DataW.trod, ht, hce, hct] at h
    split at h
    · rename_i hl
      obtain ⟨xs, hm, hx⟩ := Option.map_eq_some_iff.1 h
      have hxs : xs.map (·.1) = zs.map D := by
        have := congrArg Prod.fst hx
        simpa using this
      have hxl : xs.length = n := by simpa using Lib.mapM_length hm
      have hzl : zs.length = n := by
        have := congrArg List.length hxs
        simp at this
        omega
      have key : ∀ i, i < n → ∃ z, zs[i]? = some z ∧ (cs.drop (i * s)).take s = C z := by
        intro i hi
        obtain ⟨b, hb, hf⟩ := Lib.mapM_at hm i i (by simp [hi])
        have h2 : (xs.map (·.1))[i]? = some b.1 := by simp [hb]
        rw [hxs, List.getElem?_map] at h2
        obtain ⟨z, hz, he⟩ := Option.map_eq_some_iff.1 h2
        refine ⟨z, hz, inner fuel _ z b.2 ?_ ?_⟩
        · have hmul : (i + 1) * s ≤ n * s := Nat.mul_le_mul_right _ (by omega)
          have e1 : (i + 1) * s = i * s + s := Nat.succ_mul i s
          simp only [List.length_take, List.length_drop]
          omega
        · rw [hf, he]
      -- both lists, piece by piece
      have go : ∀ (m : Nat) (zs : List α) (cs : List Value), zs.length = m → cs.length = m * s → (∀ i, i < m → ∃ z, zs[i]? = some z ∧ (cs.drop (i * s)).take s = C z) → cs = zs.flatMap C := by
        intro m
        induction m with
        | zero =>
          intro zs cs hz hc _
          rw [List.length_eq_zero_iff] at hz
          rw [Nat.zero_mul, List.length_eq_zero_iff] at hc
          rw [hz, hc]; rfl
        | succ m ih =>
          intro zs cs hz hc hk
          match zs, hz with
          | z :: r, hz =>
            have hcm : (m + 1) * s = m * s + s := Nat.succ_mul m s
            obtain ⟨z', hz', h1⟩ := hk 0 (by omega)
            cases hz'
            rw [Nat.zero_mul, List.drop_zero] at h1
            have := ih r (cs.drop s) (by simpa using hz) (by rw [List.length_drop]; omega) (fun i hi => by
              obtain ⟨y, hy, h2⟩ := hk (i + 1) (by omega)
              refine ⟨y, by simpa using hy, ?_⟩
              rw [List.drop_drop, ← h2]
              congr 2
              rw [Nat.succ_mul]; omega)
            rw [List.flatMap_cons, ← h1, ← this, List.take_append_drop]
      exact go n zs cs hzl (by simpa using hl) key
    · cases h
end Go.Vc

/- A row's list of tables, looked up by name; rows of three numbers. -/
namespace Go.Vc
open Go

theorem laid_get {P : Program} {w : World} : ∀ {laid : List (String × DataW Unit)} {ps : List MemPlace}, DataW.LaidVars P w laid ps → ∀ {n : String} {d : DataW Unit}, (n, d) ∈ laid →
    ∃ g t cs fuel p, P.globalNamed n = some g ∧ (P.globals[g]?).map (·.type) = some t ∧ w.var? P n = some cs ∧ DataW.trod (fun _ => ()) P w 0 (fun _ => true) false fuel t cs.toList = some (d, p)
  | [], _, _, n, d, hm => by cases hm
  | (m, e) :: r, ps, h, n, d, hm => by
    obtain ⟨g, t, cs, fuel, p, q, h1, h2, h3, h4, h5, _⟩ := h
    rcases List.mem_cons.1 hm with hm | hm
    · cases hm; exact ⟨g, t, cs, fuel, p, h1, h2, h3, h4⟩
    · exact laid_get h5 hm
end Go.Vc

/- The tables, the arguments, the walks of law05's five laws. -/
namespace Go.Proofs.YtiojkfckaalooaaDoor
open Go Go.Vc Go.RowKit
set_option maxRecDepth 20000
attribute [local irreducible] Calls Put Drew New

theorem uStr : Tryd.prog.underlying 9 = some .string := by kernel_rfl
theorem uWords : Tryd.prog.underlying 77 = some (.array 4 9) := by kernel_rfl
def wordsL : List (List UInt8) := [[110, 117, 108, 108], [105, 110, 116], [98, 111, 111, 108], [116, 101, 120, 116]]
theorem laid_words : Rows.laid_stackyard_schema_words (H := Unit) = .agg (wordsL.map fun l => .lit (.string l)) := by kernel_rfl
theorem wtab_of {L : List (String × DataW Unit)} {W : World} (hm : ("stackyard/schema.words", Rows.laid_stackyard_schema_words) ∈ L) (h : laidMet Tryd.prog L W) : WTab W := by
  obtain ⟨ps, hl, _⟩ := h
  obtain ⟨g, t, cs, fuel, p, hg, ht, hv, hd⟩ := laid_get hl (n := "stackyard/schema.words") (d := Rows.laid_stackyard_schema_words) hm
  obtain rfl : g = 0 := Option.some.inj (hg.symm.trans (by kernel_rfl))
  obtain rfl : t = 77 := Option.some.inj (ht.symm.trans (by kernel_rfl))
  rw [laid_words] at hd
  have hc := cells_of_arr (C := fun l => txt (bS l)) (s := 1) uWords (by kernel_rfl) (by kernel_rfl) (fun _ => rfl) (by decide) (fun fuel cs z p hl h => by
    obtain ⟨s, rfl, hx, _⟩ := DataW.trod_string uStr h
    have h1 := congrArg Prod.fst hx
    simp only [DataW.lit.injEq, Lit.string.injEq] at h1
    rw [h1]
    show [Value.string s] = [Value.string (bS (tB s))]
    rw [bS_tB]) hd
  have hcs : cs = wordsA := by apply Array.ext'; rw [hc]; rfl
  intro k v hk
  rw [World.var?_cell hg hv, hcs, Nat.zero_add]; exact hk
theorem list3 {cs : List Value} (h : cs.length = 3) : ∃ a b d, cs = [a, b, d] := by
  match cs, h with
  | [a, b, d], _ => exact ⟨a, b, d, rfl⟩
theorem arg_value {w : World} {cs : List Value} (h : Arg Tryd.prog w 65 cs) : ∃ v : Val, cs = v.cs ∧ v.fit :=
  arg_val (ti := 3) (tn := 2) (ts := 9) (by kernel_rfl) (by kernel_rfl) (by kernel_rfl) (by kernel_rfl) (by kernel_rfl) (by kernel_rfl) (by kernel_rfl) (by kernel_rfl) h
theorem arg_col {w : World} {cs : List Value} (h : Arg Tryd.prog w 53 cs) : ∃ c : Col, cs = c.cs ∧ c.name.size ≤ 140737488351232 := by
  obtain ⟨hl, hf⟩ := Arg.fields (l := [(9, 0), (3, 1), (4, 2)]) (by kernel_rfl) h
  have h3 : Tryd.prog.cellsOf 53 = 3 := by kernel_rfl
  rw [h3] at hl
  obtain ⟨a, b, d, rfl⟩ := list3 hl
  have f1 := hf (9, 0) (by simp)
  have f2 := hf (3, 1) (by simp)
  have f3 := hf (4, 2) (by simp)
  have c1 : Tryd.prog.cellsOf 9 = 1 := by kernel_rfl
  have c2 : Tryd.prog.cellsOf 3 = 1 := by kernel_rfl
  have c3 : Tryd.prog.cellsOf 4 = 1 := by kernel_rfl
  simp only [c1, c2, c3] at f1 f2 f3
  obtain ⟨s, e1, hs⟩ := Arg.string (by kernel_rfl) f1
  obtain ⟨n, e2, _⟩ := Arg.int (k := .i64) (by kernel_rfl) f2
  obtain ⟨v, e3⟩ := Arg.bool (by kernel_rfl) f3
  simp at e1 e2 e3
  subst e1 e2 e3
  exact ⟨⟨s, n, v⟩, rfl, hs⟩
theorem arg_cols {w : World} {v : Value} (h : Arg Tryd.prog w 22 [v]) : ∃ p n c cols, v = .slice p n c ∧ Cols w p n c cols ∧ ∀ x ∈ cols, x.name.size ≤ 9223372036854775807 := by
  obtain ⟨p, n, c, l, e, h1, h2, _⟩ := arg_ls (e := 53) (enc := Col.cs) (Q := fun x => x.name.size ≤ 140737488351232) (by kernel_rfl) (by decide +kernel) (fun x hx => arg_col hx) (fun _ => by kernel_rfl) h
  exact ⟨p, n, c, l, e, h1, fun x hx => by have := h2 x hx; omega⟩
theorem arg_row {w : World} {v : Value} (h : Arg Tryd.prog w 24 [v]) : ∃ p n c row, v = .slice p n c ∧ Vs w p n c row ∧ ∀ x ∈ row, x.fit := by
  obtain ⟨p, n, c, l, e, h1, h2, _⟩ := arg_ls (e := 65) (enc := Val.cs) (Q := Val.fit) (by kernel_rfl) (by decide +kernel) (fun x hx => arg_value hx) (fun _ => by kernel_rfl) h
  exact ⟨p, n, c, l, e, h1, h2⟩
theorem list_pick {α β : Type} {Q : α → β → Prop} : ∀ {hs : List α}, (∀ x ∈ hs, ∃ r, Q x r) → ∃ L : List β, L.length = hs.length ∧ ∀ (i : Nat) x r, hs[i]? = some x → L[i]? = some r → Q x r
  | [], _ => ⟨[], rfl, fun i x r h => by simp at h⟩
  | x :: hs, h => by
    obtain ⟨r, hr⟩ := h x (by simp)
    obtain ⟨L, hlen, hL⟩ := list_pick (hs := hs) fun y hy => h y (by simp [hy])
    refine ⟨r :: L, by simp [hlen], fun i y s hy hs' => ?_⟩
    cases i with
    | zero => cases hy; cases hs'; exact hr
    | succ i => exact hL i y s (by simpa using hy) (by simpa using hs')
theorem arg_rows {w : World} {v : Value} (h : Arg Tryd.prog w 39 [v]) : ∃ p n c hs L, v = .slice p n c ∧ Rws w p n c hs L ∧ (∀ r ∈ L, ∀ x ∈ r, x.fit) := by
  obtain ⟨p, n, c, l, rfl, hl, hf, _⟩ := arg_ls (e := 24) (enc := Sl.cs) (Q := fun x => ∃ r, Vs w x.p x.n x.c r ∧ ∀ v ∈ r, v.fit) (by kernel_rfl) (by decide +kernel)
    (fun x hx => by
      obtain ⟨p, n, c, css, he, _⟩ := Arg.slice (e := 65) (by kernel_rfl) (by decide +kernel) hx
      subst he
      obtain ⟨p', n', c', r, he, h1, h2⟩ := arg_row hx
      cases he
      exact ⟨⟨p, n, c⟩, rfl, r, h1, h2⟩) (fun a => by rw [Sl.cs_length]; kernel_rfl) h
  obtain ⟨L, hL, hq⟩ := list_pick hf
  refine ⟨p, n, c, l, L, rfl, ⟨hl, fun i x r hx hr => (hq i x r hx hr).1, by rw [hL, hl.len]⟩, fun r hr u hu => ?_⟩
  obtain ⟨i, hi⟩ := List.mem_iff_getElem?.1 hr
  have hlt := (List.getElem?_eq_some_iff.1 hi).1
  exact (hq i _ r (List.getElem?_eq_getElem (by omega)) hi).2 u hu
theorem u8u : Tryd.prog.underlying 5 = some (.int .u8) := by kernel_rfl
theorem arg_byte {w : World} {cs : List Value} (h : Arg Tryd.prog w 5 cs) : ∃ x : Nat, cs = [.int .u8 (x : Int)] ∧ x < 256 := by
  obtain ⟨n, rfl, hwf⟩ := Arg.int u8u h
  obtain ⟨a0, a1⟩ := wf_u8 hwf
  exact ⟨n.toNat, by rw [show ((n.toNat : Nat) : Int) = n by omega], by omega⟩
theorem arg_bytes {w : World} {v : Value} (h : Arg Tryd.prog w 28 [v]) : ∃ p n c l, v = .slice p n c ∧ In w p n c l ∧ n ≤ 140737488351232 := by
  obtain ⟨p, n, c, l, rfl, hl, hq, hb⟩ := arg_ls (e := 5) (enc := fun x : Nat => [.int .u8 (x : Int)]) (Q := fun x => x < 256) undB (by decide +kernel) (fun x hx => arg_byte hx) (fun _ => by kernel_rfl) h
  have hB : Tryd.prog.bytesOf 5 = 1 := by kernel_rfl
  rw [hB] at hb
  have hf : (l.flatMap fun x : Nat => [Value.int .u8 (x : Int)]) = vN .u8 l := by
    unfold vN
    clear hl hq
    induction l with
    | nil => rfl
    | cons x r ih => rw [List.flatMap_cons, ih]; rfl
  have hlies := hl.lies
  rw [hf, vN_bytes hq] at hlies
  have := hl.cap
  exact ⟨p, n, c, l.map UInt8.ofNat, rfl, ⟨by rw [List.length_map]; exact hl.len, hl.cap, hlies, hl.nil⟩, by omega⟩
/-! ### The walks -/
end Go.Proofs.YtiojkfckaalooaaDoor

/- The contracts of schemas' texts, read: words' kinds, CutSuffix, the document's parts. -/
namespace Go.Vc
open Go Go.RowKit
def kindT (s : ByteArray) : Int := if bS [110, 117, 108, 108] = s then 0 else if bS [105, 110, 116] = s then 1 else if bS [98, 111, 111, 108] = s then 2 else if bS [116, 101, 120, 116] = s then 3 else -1
/-- The text without a suffix; had it one? -/
def cutSuf (s x : ByteArray) : ByteArray × Bool := if x.size ≤ s.size ∧ s.extract (s.size - x.size) s.size = x then (s.extract 0 (s.size - x.size), true) else (s, false)
/-- What stands between separators. -/
def partsL (c : UInt8) : List UInt8 → List (List UInt8)
  | [] => [[]]
  | x :: r => if x = c then [] :: partsL c r else match partsL c r with
    | [] => [[x]]
    | p :: ps => (x :: p) :: ps
theorem partsL_hit {c : UInt8} : ∀ {a : List UInt8} (r : List UInt8), (∀ x ∈ a, x ≠ c) → partsL c (a ++ c :: r) = a :: partsL c r
  | [], r, _ => by rw [List.nil_append, partsL, if_pos rfl]
  | x :: a, r, h => by
    rw [List.cons_append, partsL, if_neg (h x (by simp)), partsL_hit r fun y hy => h y (by simp [hy])]
theorem partsL_none {c : UInt8} : ∀ {a : List UInt8}, (∀ x ∈ a, x ≠ c) → partsL c a = [a]
  | [], _ => rfl
  | x :: a, h => by rw [partsL, if_neg (h x (by simp)), partsL_none fun y hy => h y (by simp [hy])]
end Go.Vc
namespace Go.Proofs.YtiojkfckaalooaaDoor
open Go Go.Vc Go.RowKit
set_option maxRecDepth 20000
attribute [local irreducible] Calls Put Drew New

theorem skind_ok {w : World} (hT : WTab w) (s : ByteArray) : Calls Tryd.prog 59 #[.string s] w fun e w' => e = .returned (.int .i64 (kindT s)) ∧ Ext w w' := by
  apply skind_vc
  unfold skind_T
  have h0 := hT 0 _ rfl
  have h1 := hT 1 _ rfl
  have h2 := hT 2 _ rfl
  have h3 := hT 3 _ rfl
  refine ⟨_, h0, _, h1, _, h2, _, h3, fun i W => ∃ j : Nat, i = (j : Int) ∧ j ≤ 4 ∧ (1 ≤ j → bS [110, 117, 108, 108] ≠ s) ∧ (2 ≤ j → bS [105, 110, 116] ≠ s) ∧ (3 ≤ j → bS [98, 111, 111, 108] ≠ s) ∧ (4 ≤ j → bS [116, 101, 120, 116] ≠ s) ∧ Ext w W, fun i _ => 4 - i.toNat, ⟨0, rfl, by decide, by omega, by omega, by omega, by omega, Ext.rfl⟩, ?_⟩
  rintro i W ⟨j, rfl, hj, a1, a2, a3, a4, eW⟩
  refine ⟨fun hlt => ?_, fun hge => ⟨?_, eW⟩⟩
  · simp only [Int.toNat_natCast]
    rw [i64_next (by omega)]
    rcases (by omega : j = 0 ∨ j = 1 ∨ j = 2 ∨ j = 3) with e | e | e | e <;> subst e
    · refine ⟨by omega, hlt, _, rfl, fun h => ⟨?_, eW⟩, fun h => ⟨⟨1, rfl, by decide, fun _ => h, by omega, by omega, by omega, eW⟩, by decide⟩⟩
      unfold kindT; rw [if_pos h]; rfl
    · refine ⟨by omega, hlt, _, rfl, fun h => ⟨?_, eW⟩, fun h => ⟨⟨2, rfl, by decide, fun _ => a1 (by omega), fun _ => h, by omega, by omega, eW⟩, by decide⟩⟩
      unfold kindT; rw [if_neg (a1 (by omega)), if_pos h]; rfl
    · refine ⟨by omega, hlt, _, rfl, fun h => ⟨?_, eW⟩, fun h => ⟨⟨3, rfl, by decide, fun _ => a1 (by omega), fun _ => a2 (by omega), fun _ => h, by omega, eW⟩, by decide⟩⟩
      unfold kindT; rw [if_neg (a1 (by omega)), if_neg (a2 (by omega)), if_pos h]; rfl
    · refine ⟨by omega, hlt, _, rfl, fun h => ⟨?_, eW⟩, fun h => ⟨⟨4, rfl, by decide, fun _ => a1 (by omega), fun _ => a2 (by omega), fun _ => a3 (by omega), fun _ => h, eW⟩, by decide⟩⟩
      unfold kindT; rw [if_neg (a1 (by omega)), if_neg (a2 (by omega)), if_neg (a3 (by omega)), if_pos h]; rfl
  · unfold kindT
    rw [if_neg (a1 (by omega)), if_neg (a2 (by omega)), if_neg (a3 (by omega)), if_neg (a4 (by omega))]
theorem cutsfx_ok (s x : ByteArray) (hs : s.size ≤ 9223372036854775807) (w : World) : Calls Tryd.prog 57 #[.string s, .string x] w fun e w' => e = .returned (.tuple #[.string (cutSuf s x).1, .bool (cutSuf s x).2]) ∧ Ext w w' := by
  apply cutsfx_vc
  unfold cutsfx_T
  have h1 : Calls Tryd.prog 81 #[.string s, .string x] w fun e w' => e = .returned (.tuple #[.string (cutSuf s x).1, .bool (cutSuf s x).2]) ∧ Ext w w' := by
    apply cutsfx1_vc
    unfold cutsfx1_T
    have h2 : Calls Tryd.prog 95 #[.string s, .string x] w fun e w' => e = .returned (.bool (cutSuf s x).2) ∧ Ext w w' := by
      apply hassfx_vc
      unfold hassfx_T
      refine ⟨fun hle => ?_, fun hlt => ⟨?_, Ext.rfl⟩⟩
      · have e : IntKind.i64.wrap ((s.size : Int) - (x.size : Int)) = ((s.size - x.size : Nat) : Int) := by rw [i64_fit (by omega) (by omega)]; omega
        rw [e, Int.toNat_natCast]
        refine ⟨by omega, by omega, ?_, Ext.rfl⟩
        unfold cutSuf
        by_cases h : s.extract (s.size - x.size) s.size = x
        · rw [if_pos ⟨by omega, h⟩, sEq_iff.2 h]
        · rw [if_neg fun hh => h hh.2]
          cases hq : sEq (s.extract (s.size - x.size) s.size) x with
          | false => rfl
          | true => exact absurd (sEq_iff.1 hq) h
      · unfold cutSuf; rw [if_neg (by omega)]
    refine h2.mono ?_
    rintro e w2 ⟨rfl, e1⟩
    refine ⟨_, rfl, fun hf => ⟨?_, e1⟩, fun ht => ?_⟩
    · unfold cutSuf at hf ⊢
      split at hf
      · cases hf
      · rename_i h; rw [if_neg h]
    · unfold cutSuf at ht
      split at ht
      · rename_i h
        have e : IntKind.i64.wrap ((s.size : Int) - (x.size : Int)) = ((s.size - x.size : Nat) : Int) := by rw [i64_fit (by omega) (by omega)]; omega
        rw [e, Int.toNat_natCast]
        refine ⟨by omega, by omega, ?_, e1⟩
        unfold cutSuf; rw [if_pos h]
      · cases ht
  refine h1.mono ?_
  rintro e w2 ⟨rfl, e1⟩
  exact ⟨_, _, rfl, rfl, e1⟩
end Go.Proofs.YtiojkfckaalooaaDoor

/- The contract of the document's parts. -/
namespace Go.Proofs.YtiojkfckaalooaaDoor
open Go Go.Vc Go.RowKit
set_option maxRecDepth 20000
attribute [local irreducible] Calls Put Drew New

end Go.Proofs.YtiojkfckaalooaaDoor

/- Schemas' texts, read loosely: plain Lean, no program. -/
namespace Go.Vc
open Go Go.RowKit
def dropSp : List UInt8 → List UInt8
  | [] => []
  | x :: r => if x = 32 then r else x :: r
def wordK (w : List UInt8) : Int := if w = wordL 3 then 3 else if w = wordL 2 then 2 else if w = wordL 1 then 1 else 0
def looseC (t : List UInt8) : Option Col := match partsL 32 (dropSp t) with
  | n :: w :: r => some ⟨bS n, wordK w, decide (r ≠ [])⟩
  | _ => none
def looseCs : List (List UInt8) → Option (List Col)
  | [] => some []
  | t :: r => (looseC t).bind fun c => (looseCs r).map fun cs => c :: cs
/-- The schema whose text a text is. -/
def parseF (s : ByteArray) : List Col × Int :=
  if 16 < (partsL 44 (tB s)).length then ([], 50) else match looseCs (partsL 44 (tB s)) with
  | none => ([], 50)
  | some cs => if rightC cs ∧ bS (showL cs) = s then (cs, 0) else ([], 50)
theorem name_bytes {s : ByteArray} (h : isName s = true) : ∀ x ∈ tB s, otherB x = true := by
  unfold isName at h
  cases ht : tB s with
  | nil => simp
  | cons y r =>
    rw [ht] at h
    unfold isNameL at h
    simp only [Bool.and_eq_true] at h
    intro x hx
    rcases List.mem_cons.1 hx with rfl | hx
    · unfold otherB; rw [h.1.1]; rfl
    · exact List.all_eq_true.1 h.1.2 x hx
theorem other_ne {x : UInt8} (h : otherB x = true) : x ≠ 44 ∧ x ≠ 32 := by
  constructor
  · rintro rfl; exact absurd h (by decide)
  · rintro rfl; exact absurd h (by decide)
theorem word_ne : ∀ k : Int, ∀ x ∈ wordL k, x ≠ 44 ∧ x ≠ 32 := by
  intro k
  unfold wordL
  split
  · decide
  · split
    · decide
    · split <;> decide
theorem colT_ne {c : Col} (h : isName c.name = true) : ∀ x ∈ colT c, x ≠ 44 := by
  intro x hx
  unfold colT at hx
  rcases List.mem_append.1 hx with hx | hx
  · exact (other_ne (name_bytes h x hx)).1
  · rcases List.mem_append.1 hx with hx | hx
    · simp at hx; subst hx; decide
    · rcases List.mem_append.1 hx with hx | hx
      · exact (word_ne _ x hx).1
      · split at hx
        · simp at hx; rcases hx with rfl | rfl | rfl | rfl | rfl <;> decide
        · cases hx
theorem parts_join : ∀ (a : List UInt8) (r : List (List UInt8)), (∀ x ∈ a, x ≠ 44) → (∀ b ∈ r, ∀ x ∈ b, x ≠ 44) → partsL 44 (a ++ Lib.joinTail sepL r) = a :: r.map (32 :: ·)
  | a, [], ha, _ => by
    have : Lib.joinTail sepL [] = [] := rfl
    rw [this, List.append_nil, partsL_none ha]; rfl
  | a, b :: r, ha, hr => by
    have e : Lib.joinTail sepL (b :: r) = 44 :: ((32 :: b) ++ Lib.joinTail sepL r) := by unfold Lib.joinTail; simp [sepL]
    rw [e, partsL_hit _ ha, parts_join (32 :: b) r (by
      intro x hx
      rcases List.mem_cons.1 hx with rfl | hx
      · decide
      · exact hr b (by simp) x hx) fun y hy => hr y (by simp [hy])]
    rfl
theorem wordK_wordL {k : Int} (h : 1 ≤ k ∧ k ≤ 3) : wordK (wordL k) = k := by
  rcases (by omega : k = 1 ∨ k = 2 ∨ k = 3) with e | e | e <;> subst e <;> decide
theorem loose_colT {c : Col} (h : isName c.name = true) (hk : 1 ≤ c.kind ∧ c.kind ≤ 3) : partsL 32 (colT c) = tB c.name :: wordL c.kind :: (if c.null then [[110, 117, 108, 108]] else []) := by
  have h1 : ∀ x ∈ tB c.name, x ≠ 32 := fun x hx => (other_ne (name_bytes h x hx)).2
  have h2 : ∀ x ∈ wordL c.kind, x ≠ 32 := fun x hx => (word_ne _ x hx).2
  unfold colT
  rw [List.singleton_append, partsL_hit _ h1]
  cases c.null with
  | false => simp only [Bool.false_eq_true, if_false, List.append_nil]; rw [partsL_none h2]
  | true =>
    simp only [if_true]
    rw [partsL_hit _ h2, partsL_none (by decide)]
theorem dropSp_name {c : Col} (h : isName c.name = true) : dropSp (colT c) = colT c := by
  unfold isName at h
  unfold colT
  cases ht : tB c.name with
  | nil => rw [ht] at h; exact absurd h (by decide)
  | cons y r =>
    rw [ht] at h
    unfold isNameL at h
    simp only [Bool.and_eq_true] at h
    rw [List.cons_append]
    have hy : y ≠ 32 := by
      rintro rfl
      exact absurd h.1.1 (by decide)
    exact if_neg hy
theorem looseC_colT {c : Col} (h : isName c.name = true) (hk : 1 ≤ c.kind ∧ c.kind ≤ 3) : looseC (colT c) = some c ∧ looseC (32 :: colT c) = some c := by
  have key : looseC (colT c) = some c := by
    unfold looseC
    rw [dropSp_name h, loose_colT h hk]
    simp only [bS_tB, wordK_wordL hk]
    congr 1
    apply Col.ext'.2
    refine ⟨rfl, rfl, ?_⟩
    cases c.null <;> simp
  refine ⟨key, ?_⟩
  unfold looseC at key ⊢
  rw [dropSp_name h] at key
  have : dropSp (32 :: colT c) = colT c := by show (if (32 : UInt8) = 32 then colT c else 32 :: colT c) = colT c; rw [if_pos rfl]
  rw [this]; exact key
theorem looseCs_map : ∀ {r : List Col}, (∀ c ∈ r, isName c.name = true ∧ 1 ≤ c.kind ∧ c.kind ≤ 3) → looseCs ((r.map colT).map (32 :: ·)) = some r
  | [], _ => rfl
  | c :: r, h => by
    obtain ⟨h1, h2⟩ := h c (by simp)
    rw [List.map_cons, List.map_cons]
    unfold looseCs
    rw [(looseC_colT h1 h2).2, looseCs_map fun x hx => h x (by simp [hx])]; rfl
theorem right_names {cols : List Col} (h : rightC cols = true) : ∀ c ∈ cols, isName c.name = true ∧ 1 ≤ c.kind ∧ c.kind ≤ 3 := by
  unfold rightC at h
  rw [Bool.and_eq_true] at h
  exact colsOk_all h.2
theorem showL_parts {c : Col} {r : List Col} (h : ∀ x ∈ c :: r, isName x.name = true) : partsL 44 (showL (c :: r)) = colT c :: (r.map colT).map (32 :: ·) := by
  unfold showL
  rw [List.map_cons, Lib.join_cons]
  exact parts_join _ _ (colT_ne (h c (by simp))) fun b hb => by
    obtain ⟨x, hx, rfl⟩ := List.mem_map.1 hb
    exact colT_ne (h x (by simp [hx]))
/-- A schema's text is read as that schema. -/
theorem parseF_show {cols : List Col} (h : rightC cols = true) : parseF (bS (showL cols)) = (cols, 0) := by
  have hn := right_names h
  obtain ⟨r1, r2, _⟩ := right_all h
  cases cols with
  | nil => simp at r1
  | cons c r =>
    unfold parseF
    rw [tB_bS, showL_parts fun x hx => (hn x hx).1]
    have hl : (looseCs (colT c :: (r.map colT).map (32 :: ·))) = some (c :: r) := by
      unfold looseCs
      rw [(looseC_colT (hn c (by simp)).1 (hn c (by simp)).2).1, looseCs_map fun x hx => hn x (by simp [hx])]; rfl
    rw [if_neg (by simp at r2 ⊢; omega), hl]
    dsimp only
    rw [if_pos ⟨h, rfl⟩]
theorem parseF_back {s : ByteArray} {cols : List Col} (h : parseF s = (cols, 0)) : rightC cols = true ∧ bS (showL cols) = s := by
  have no : ∀ {x : List Col}, (x, (50 : Int)) ≠ (cols, 0) := fun e => absurd (Prod.mk.inj e).2 (by decide)
  unfold parseF at h
  split at h
  · exact absurd h no
  · split at h
    · exact absurd h no
    · split at h
      · rename_i hh
        cases h
        exact hh
      · exact absurd h no
end Go.Vc

/- Schemas' texts, read strictly: plain Lean, no program. -/
namespace Go.Vc
open Go Go.RowKit
def sepB : ByteArray := ByteArray.mk #[44, 32]
def splitS (s : ByteArray) : List (List UInt8) := (Lib.splitB sepB 0 (Lib.countB s sepB) s).map tB
theorem splitS_miss {s : ByteArray} (h : Lib.indexB s sepB = -1) : splitS s = [tB s] := by
  unfold splitS
  rw [Lib.splitB_miss sepB 0 _ s h]; rfl
theorem splitS_hit {s : ByteArray} {i : Nat} (h : Lib.indexB s sepB = (i : Int)) : splitS s = (tB s).take i :: splitS (s.extract (i + 2) s.size) := by
  unfold splitS
  have hc := Lib.countB_hit s sepB i (by decide) h
  rw [hc, Nat.add_comm 1]
  rw [Lib.splitB_hit sepB 0 _ s i h, List.map_cons]
  congr 1
  rw [Nat.add_zero, tB_extract, List.drop_zero]
theorem splitS_ne (s : ByteArray) : splitS s ≠ [] := by
  rcases Lib.indexB_cases s sepB with h | ⟨i, h, _⟩
  · rw [splitS_miss h]; simp
  · rw [splitS_hit h]; simp
theorem join_cons_ne {x : List UInt8} {r : List (List UInt8)} (h : r ≠ []) : Lib.join (x :: r) sepL = x ++ (sepL ++ Lib.join r sepL) := by
  cases r with
  | nil => exact absurd rfl h
  | cons y r =>
    rw [Lib.join_cons, Lib.join_cons]
    unfold Lib.joinTail
    simp
theorem join_split : ∀ (n : Nat) (s : ByteArray), s.size ≤ n → Lib.join (splitS s) sepL = tB s := by
  intro n
  induction n with
  | zero =>
    intro s hs
    rcases Lib.indexB_cases s sepB with h | ⟨i, h, hr⟩
    · rw [splitS_miss h, Lib.join_one]
    · have : sepB.size = 2 := rfl
      omega
  | succ n ih =>
    intro s hs
    have h2 : sepB.size = 2 := rfl
    rcases Lib.indexB_cases s sepB with h | ⟨i, h, hr⟩
    · rw [splitS_miss h, Lib.join_one]
    · rw [splitS_hit h, join_cons_ne (splitS_ne _), ih _ (by rw [ByteArray.size_extract]; omega), tB_extract]
      have hl := tB_length s
      have htk : (tB s).take s.size = tB s := List.take_of_length_le (by omega)
      rw [htk]
      have hidx : Lib.index (tB s) sepL = (i : Int) := h
      rcases Lib.index_spec (tB s) sepL with ⟨e, _⟩ | ⟨j, e, _, ho, _⟩
      · omega
      · have hij : j = i := by omega
        subst hij
        unfold Lib.occAt at ho
        obtain ⟨t, ht⟩ := List.isPrefixOf_iff_prefix.1 ho
        have hd : (tB s).drop (j + 2) = t := by
          rw [← List.drop_drop, ← ht]; rfl
        rw [hd, ht, List.take_append_drop]
theorem occ_ne {a r : List UInt8} (ha : ∀ x ∈ a, x ≠ 44) {j : Nat} (hj : j < a.length) : Lib.occAt (a ++ r) sepL j = false := by
  unfold Lib.occAt
  rw [List.drop_append_of_le_length (by omega), List.drop_eq_getElem_cons hj, List.cons_append]
  have := ha _ (List.getElem_mem hj)
  show ((44 : UInt8) == a[j] && _) = false
  rw [beq_eq_false_iff_ne.2 (fun e => this e.symm)]; rfl
theorem split_join : ∀ (r : List (List UInt8)) (a : List UInt8), (∀ x ∈ a, x ≠ 44) → (∀ b ∈ r, ∀ x ∈ b, x ≠ 44) → splitS (bS (a ++ Lib.joinTail sepL r)) = a :: r
  | [], a, ha, _ => by
    have e : a ++ Lib.joinTail sepL [] = a := by unfold Lib.joinTail; simp
    rw [e]
    have h : Lib.indexB (bS a) sepB = -1 := by
      show Lib.index (tB (bS a)) sepL = -1
      rw [tB_bS]
      refine Lib.index_none fun j hj => ?_
      rcases Nat.lt_or_ge j a.length with h | h
      · have := occ_ne (r := []) ha h
        rwa [List.append_nil] at this
      · unfold Lib.occAt
        rw [List.drop_eq_nil_of_le h]; rfl
    rw [splitS_miss h, tB_bS]
  | b :: r, a, ha, hr => by
    have e : Lib.joinTail sepL (b :: r) = sepL ++ (b ++ Lib.joinTail sepL r) := by unfold Lib.joinTail; simp
    rw [e]
    have h : Lib.indexB (bS (a ++ (sepL ++ (b ++ Lib.joinTail sepL r)))) sepB = (a.length : Int) := by
      show Lib.index (tB (bS _)) sepL = _
      rw [tB_bS]
      refine Lib.index_first (by simp) ?_ fun j hj => occ_ne ha hj
      unfold Lib.occAt
      rw [List.drop_left]
      exact List.isPrefixOf_iff_prefix.2 ⟨_, rfl⟩
    rw [splitS_hit h, tB_bS, List.take_left]
    congr 1
    have hx : (bS (a ++ (sepL ++ (b ++ Lib.joinTail sepL r)))).extract (a.length + 2) (bS (a ++ (sepL ++ (b ++ Lib.joinTail sepL r)))).size = bS (b ++ Lib.joinTail sepL r) := by
      apply tB_inj.1
      rw [tB_extract, tB_bS, tB_bS, bS_size, List.take_of_length_le (Nat.le_refl _), ← List.drop_drop, List.drop_left]; rfl
    rw [hx]
    exact split_join r b (hr b (by simp)) fun y hy => hr y (by simp [hy])

/-! ### A part as a column -/
def nullL : List UInt8 := [32, 110, 117, 108, 108]
def strictC (p : ByteArray) : Col :=
  ⟨bS (Lib.cut (tB (cutSuf p (bS nullL)).1) [32]).1, kindT (bS (Lib.cut (tB (cutSuf p (bS nullL)).1) [32]).2.1), (cutSuf p (bS nullL)).2⟩
theorem bS_inj {a b : List UInt8} (h : bS a = bS b) : a = b := by
  have := congrArg tB h
  rwa [tB_bS, tB_bS] at this
theorem kindT_word {l : List UInt8} (h : 1 ≤ kindT (bS l) ∧ kindT (bS l) ≤ 3) : l = wordL (kindT (bS l)) := by
  unfold kindT at h ⊢
  split at h
  · omega
  · rename_i h0
    rw [if_neg h0]
    split at h
    · rename_i h1; rw [if_pos h1, ← bS_inj h1]; rfl
    · rename_i h1
      rw [if_neg h1]
      split at h
      · rename_i h2; rw [if_pos h2, ← bS_inj h2]; rfl
      · rename_i h2
        rw [if_neg h2]
        split at h
        · rename_i h3; rw [if_pos h3, ← bS_inj h3]; rfl
        · omega
theorem kindT_wordL {k : Int} (h : 1 ≤ k ∧ k ≤ 3) : kindT (bS (wordL k)) = k := by
  rcases (by omega : k = 1 ∨ k = 2 ∨ k = 3) with e | e | e <;> subst e <;> decide +kernel
theorem cutSuf_spec (p : ByteArray) (x : List UInt8) : tB p = tB (cutSuf p (bS x)).1 ++ (if (cutSuf p (bS x)).2 then x else []) := by
  unfold cutSuf
  split
  · rename_i h
    rw [bS_size] at h ⊢
    have h2 := congrArg tB h.2
    rw [tB_extract, tB_bS] at h2
    rw [tB_extract]
    simp only [List.drop_zero, if_true]
    have hl := tB_length p
    rw [List.take_of_length_le (by omega)] at h2
    conv => lhs; rw [← List.take_append_drop (p.size - x.length) (tB p), h2]
  · simp
theorem strict_back {p : ByteArray} (hk : 1 ≤ (strictC p).kind ∧ (strictC p).kind ≤ 3) : colT (strictC p) = tB p := by
  have hs := cutSuf_spec p nullL
  unfold strictC at hk ⊢
  generalize cutSuf p (bS nullL) = q at *
  obtain ⟨d, b⟩ := q
  dsimp only at *
  have hw := kindT_word hk
  have hcut : 0 ≤ Lib.index (tB d) [32] := by
    rcases Int.lt_or_le (Lib.index (tB d) [32]) 0 with h | h
    · exfalso
      unfold Lib.cut at hk
      rw [if_neg (by omega)] at hk
      have : kindT (bS []) = -1 := by decide +kernel
      rw [this] at hk
      omega
    · exact h
  have hd : tB d = (Lib.cut (tB d) [32]).1 ++ 32 :: (Lib.cut (tB d) [32]).2.1 := by
    rcases Lib.index_spec (tB d) [32] with ⟨e, _⟩ | ⟨j, e, _, ho, _⟩
    · omega
    · unfold Lib.cut
      rw [if_pos hcut, e]
      unfold Lib.occAt at ho
      obtain ⟨t, ht⟩ := List.isPrefixOf_iff_prefix.1 ho
      simp only [Int.toNat_natCast]
      have h1 : (tB d).drop (j + ([32] : List UInt8).length) = t := by rw [← List.drop_drop, ← ht]; rfl
      rw [h1]
      conv => lhs; rw [← List.take_append_drop j (tB d), ← ht]
      rfl
  unfold colT
  dsimp only
  rw [tB_bS, ← hw, hs]
  conv => rhs; rw [hd]
  simp [nullL]
end Go.Vc

/- Both readings of a schema's text are one: plain Lean, no program. -/
namespace Go.Vc
open Go Go.RowKit
def bodyT (c : Col) : List UInt8 := tB c.name ++ 32 :: wordL c.kind
theorem colT_body (c : Col) : colT c = bodyT c ++ (if c.null then nullL else []) := by
  unfold colT bodyT nullL
  cases c.null <;> simp
theorem body_null {c : Col} (hk : 1 ≤ c.kind ∧ c.kind ≤ 3) (t : List UInt8) : bodyT c ≠ t ++ nullL := by
  intro h
  have hr := congrArg List.reverse h
  unfold bodyT at hr
  rw [List.reverse_append, List.reverse_append, List.reverse_cons] at hr
  rcases (by omega : c.kind = 1 ∨ c.kind = 2 ∨ c.kind = 3) with e | e | e <;> rw [e] at hr
  · have : (wordL 1).reverse = [116, 110, 105] := rfl
    rw [this] at hr
    simp [nullL] at hr
  · have : (wordL 2).reverse = [108, 111, 111, 98] := rfl
    rw [this] at hr
    simp [nullL] at hr
  · have : (wordL 3).reverse = [116, 120, 101, 116] := rfl
    rw [this] at hr
    simp [nullL] at hr
theorem cutSuf_colT {c : Col} (hk : 1 ≤ c.kind ∧ c.kind ≤ 3) : cutSuf (bS (colT c)) (bS nullL) = (bS (bodyT c), c.null) := by
  have h5 : nullL.length = 5 := rfl
  unfold cutSuf
  rw [bS_size, bS_size, colT_body]
  cases hn : c.null with
  | true =>
    simp only [if_true]
    rw [if_pos]
    · congr 1
      apply tB_inj.1
      rw [tB_extract, tB_bS, tB_bS, List.drop_zero, List.length_append, Nat.add_sub_cancel, List.take_left]
    · refine ⟨by rw [List.length_append]; omega, ?_⟩
      apply tB_inj.1
      rw [tB_extract, tB_bS, tB_bS, List.take_of_length_le (Nat.le_refl _), List.length_append, Nat.add_sub_cancel, List.drop_left]
  | false =>
    simp only [Bool.false_eq_true, if_false, List.append_nil]
    rw [if_neg]
    rintro ⟨h1, h2⟩
    have h3 := congrArg tB h2
    rw [tB_extract, tB_bS, tB_bS, List.take_of_length_le (Nat.le_refl _)] at h3
    refine body_null hk ((bodyT c).take ((bodyT c).length - nullL.length)) ?_
    conv => lhs; rw [← List.take_append_drop ((bodyT c).length - nullL.length) (bodyT c), h3]
theorem cut_body {c : Col} (hn : isName c.name = true) : Lib.cut (bodyT c) [32] = (tB c.name, wordL c.kind, true) := by
  have h1 : ∀ x ∈ tB c.name, x ≠ 32 := fun x hx => (other_ne (name_bytes hn x hx)).2
  have h : Lib.index (bodyT c) [32] = ((tB c.name).length : Int) := by
    unfold bodyT
    refine Lib.index_first (by simp) ?_ fun j hj => ?_
    · unfold Lib.occAt
      rw [List.drop_left]
      exact List.isPrefixOf_iff_prefix.2 ⟨_, rfl⟩
    · unfold Lib.occAt
      rw [List.drop_append_of_le_length (by omega), List.drop_eq_getElem_cons hj, List.cons_append]
      have := h1 _ (List.getElem_mem hj)
      show ((32 : UInt8) == (tB c.name)[j] && _) = false
      rw [beq_eq_false_iff_ne.2 (fun e => this e.symm)]; rfl
  unfold Lib.cut
  rw [h, if_pos (by omega), Int.toNat_natCast]
  have e1 : (bodyT c).take (tB c.name).length = tB c.name := by unfold bodyT; rw [List.take_left]
  have e2 : (bodyT c).drop ((tB c.name).length + ([32] : List UInt8).length) = wordL c.kind := by
    unfold bodyT
    rw [← List.drop_drop, List.drop_left]; rfl
  rw [e1, e2]
theorem strict_colT {c : Col} (hn : isName c.name = true) (hk : 1 ≤ c.kind ∧ c.kind ≤ 3) : strictC (bS (colT c)) = c := by
  unfold strictC
  rw [cutSuf_colT hk]
  dsimp only
  rw [tB_bS, cut_body hn]
  dsimp only
  rw [bS_tB, kindT_wordL hk]
def strictCs (s : ByteArray) : List Col := (splitS s).map fun p => strictC (bS p)
def strictP (s : ByteArray) : List Col × Int := if rightC (strictCs s) then (strictCs s, 0) else ([], 50)
theorem parseF_cases (s : ByteArray) : parseF s = ([], 50) ∨ ∃ cs, parseF s = (cs, 0) := by
  unfold parseF
  split
  · exact .inl rfl
  · split
    · exact .inl rfl
    · split
      · exact .inr ⟨_, rfl⟩
      · exact .inl rfl
theorem strict_show {cols : List Col} (h : rightC cols = true) : strictCs (bS (showL cols)) = cols := by
  have hn := right_names h
  obtain ⟨r1, _, _⟩ := right_all h
  cases cols with
  | nil => simp at r1
  | cons c r =>
    unfold strictCs showL
    rw [List.map_cons, Lib.join_cons, split_join _ _ (colT_ne (hn c (by simp)).1) fun b hb => by
      obtain ⟨x, hx, rfl⟩ := List.mem_map.1 hb
      exact colT_ne (hn x (by simp [hx])).1]
    rw [List.map_cons, strict_colT (hn c (by simp)).1 (hn c (by simp)).2, List.map_map]
    congr 1
    have : ∀ x ∈ r, ((fun p => strictC (bS p)) ∘ colT) x = x := fun x hx => strict_colT (hn x (by simp [hx])).1 (hn x (by simp [hx])).2
    rw [List.map_congr_left this, List.map_id']
theorem strict_eq (s : ByteArray) : strictP s = parseF s := by
  unfold strictP
  by_cases h : rightC (strictCs s) = true
  · rw [if_pos h]
    have hn := right_names h
    have hm : (strictCs s).map colT = splitS s := by
      unfold strictCs at hn ⊢
      rw [List.map_map]
      have : ∀ p ∈ splitS s, (colT ∘ fun p => strictC (bS p)) p = p := by
        intro p hp
        have := strict_back (p := bS p) (hn _ (List.mem_map.2 ⟨p, hp, rfl⟩)).2
        rw [tB_bS] at this
        exact this
      rw [List.map_congr_left this, List.map_id']
    have hs : bS (showL (strictCs s)) = s := by
      unfold showL
      rw [hm, join_split _ s (Nat.le_refl _), bS_tB]
    conv => rhs; rw [← hs]
    rw [parseF_show h]
  · rw [if_neg h]
    rcases parseF_cases s with e | ⟨cs, e⟩
    · exact e.symm
    · exfalso
      obtain ⟨h1, h2⟩ := parseF_back e
      rw [← h2, strict_show h1] at h
      exact h h1
end Go.Vc

/- The contract of schema.Parse (strings.Split and strings.Cut by the kit's shelf). -/
namespace Go.Proofs.YtiojkfckaalooaaDoor
open Go Go.Vc Go.RowKit
set_option maxRecDepth 20000
attribute [local irreducible] Calls Put Drew New

theorem split_size : ∀ (n : Nat) (s : ByteArray), s.size ≤ n → ∀ x ∈ splitS s, x.length ≤ s.size := by
  intro n
  induction n with
  | zero =>
    intro s hs x hx
    rcases Lib.indexB_cases s sepB with h | ⟨i, h, hr⟩
    · rw [splitS_miss h] at hx
      simp at hx
      rw [hx, tB_length]; exact Nat.le_refl _
    · have : sepB.size = 2 := rfl
      omega
  | succ n ih =>
    intro s hs x hx
    have h2 : sepB.size = 2 := rfl
    rcases Lib.indexB_cases s sepB with h | ⟨i, h, hr⟩
    · rw [splitS_miss h] at hx
      simp at hx
      rw [hx, tB_length]; exact Nat.le_refl _
    · rw [splitS_hit h] at hx
      rcases List.mem_cons.1 hx with rfl | hx
      · rw [List.length_take, tB_length]; omega
      · have := ih _ (by rw [ByteArray.size_extract]; omega) x hx
        rw [ByteArray.size_extract] at this
        omega
/-- What the search reads: some number. -/
def MTab (w : World) : Prop := ∃ m, w.cell? ⟨1, 0, none⟩ = some (.int .i64 m)
theorem MTab.ext {w w' : World} (h : MTab w) (e : Ext w w') : MTab w' := by
  obtain ⟨m, hm⟩ := h
  exact ⟨m, cell_ext hm e⟩
theorem drewN_ext (w : World) (n : Nat) : Ext w (w.drewN n) := ⟨rfl, rfl, rfl, Nat.le_refl _, fun _ _ => rfl⟩
theorem split_ok {w : World} (hM : MTab w) (s : ByteArray) (hs : s.size ≤ 100000000) :
    Calls Tryd.prog 56 #[.string s, .string sepB] w fun e w' => ∃ p n c, e = .returned (.slice p n c) ∧ Ls txt w' p n c ((splitS s).map bS) ∧ Ext w w' := by
  obtain ⟨m, hm⟩ := hM
  have := Any.strings_Split splitL (by kernel_rfl) s sepB m w (by omega) hm (by decide)
  refine this.mono ?_
  rintro e w' ⟨rfl, rfl⟩
  have hl := Lib.splitB_all sepB (by decide) 0 _ s rfl
  have hc := Lib.countB_le sepB (by decide) s.size s (Nat.le_refl _)
  have e1 : (splitS s).map bS = Lib.splitB sepB 0 (Lib.countB s sepB) s := by
    unfold splitS
    rw [List.map_map]
    have : ∀ x ∈ Lib.splitB sepB 0 (Lib.countB s sepB) s, (bS ∘ tB) x = x := fun x _ => bS_tB x
    rw [List.map_congr_left this, List.map_id']
  rw [e1]
  have hN : New w (.cells ((Lib.splitB sepB 0 (Lib.countB s sepB) s).map Value.string).toArray 9) w.heap.size (w.alloc (.cells ((Lib.splitB sepB 0 (Lib.countB s sepB) s).map Value.string).toArray 9)) := by
    with_unfolding_all exact ⟨rfl, rfl⟩
  have hf : (Lib.splitB sepB 0 (Lib.countB s sepB) s).flatMap txt = (Lib.splitB sepB 0 (Lib.countB s sepB) s).map Value.string := by
    generalize Lib.splitB sepB 0 (Lib.countB s sepB) s = L
    induction L with
    | nil => rfl
    | cons x r ih => rw [List.flatMap_cons, ih]; rfl
  refine ⟨_, _, _, rfl, ⟨hl, ⟨Nat.le_refl _, by unfold maxLen; omega⟩, ?_, fun e => by cases e⟩, hN.ext⟩
  rw [hf]
  have h9 : At (w.alloc (.cells ((Lib.splitB sepB 0 (Lib.countB s sepB) s).map Value.string).toArray 9)) (some ⟨w.heap.size, 0, none⟩) ((Lib.splitB sepB 0 (Lib.countB s sepB) s).map Value.string) := by simpa using hN.at
  exact h9
theorem cut_ok {w : World} (hM : MTab w) (s : ByteArray) (hs : s.size ≤ 100000000) :
    Calls Tryd.prog 58 #[.string s, .string (ByteArray.mk #[32])] w fun e w' => e = .returned (.tuple #[.string (bS (Lib.cut (tB s) [32]).1), .string (bS (Lib.cut (tB s) [32]).2.1), .bool (Lib.cut (tB s) [32]).2.2]) ∧ Ext w w' := by
  obtain ⟨m, hm⟩ := hM
  have := Any.strings_Cut cutL s (ByteArray.mk #[32]) m w (by omega) hm
  refine this.mono ?_
  rintro e w' ⟨rfl, n, rfl⟩
  exact ⟨rfl, drewN_ext w n⟩
set_option maxHeartbeats 2000000 in
theorem sparse_ok {w : World} (hT : WTab w) (hM : MTab w) (s : ByteArray) (hs : s.size ≤ 100000000) :
    Calls Tryd.prog 31 #[.string s] w fun e w' => ∃ p n c, e = .returned (.tuple #[.slice p n c, .int .i64 (parseF s).2]) ∧ Cols w' p n c (parseF s).1 ∧ Ext w w' := by
  rw [← strict_eq]
  have bad : ∀ {W : World}, Ext w W → rightC (strictCs s) = false → ∃ p n c, Ending.returned (Value.tuple #[.slice none 0 0, .int .i64 50]) = .returned (.tuple #[.slice p n c, .int .i64 (strictP s).2]) ∧ Cols W p n c (strictP s).1 ∧ Ext w W := by
    intro W hx hf
    have e : strictP s = ([], 50) := by unfold strictP; rw [hf]; rfl
    rw [e]
    exact ⟨none, 0, 0, rfl, Ls.nothing _ _, hx⟩
  apply sparse_vc
  unfold sparse_T
  refine (split_ok hM s hs).mono ?_
  rintro e w2 ⟨p3, n4, c5, rfl, hS, e1⟩
  have hSl := hS.len
  rw [List.length_map] at hSl
  have hle : n4 ≤ 9223372036854775807 := hS.le
  refine ⟨_, _, _, rfl, ?_⟩
  refine ⟨fun q m d i W => ∃ j : Nat, i = (j : Int) ∧ j ≤ n4 ∧ j = m ∧ m ≤ 16 ∧ Hold w2 W [] [⟨53, 3, q, m, d, (((splitS s).take j).map fun p => strictC (bS p)).flatMap Col.cs⟩], fun _ _ _ i _ => n4 - i.toNat, ⟨0, rfl, Nat.zero_le _, rfl, by decide, (Hold.start Ext.rfl).nilRow _ _⟩, ?_⟩
  rintro q m d i W ⟨j, rfl, hj, rfl, hj16, H⟩
  have hcl : (((splitS s).take j).map fun p => strictC (bS p)).length = j := by rw [List.length_map, List.length_take]; omega
  refine ⟨fun hlt => ?_, fun hge => ?_⟩
  · have gp : (splitS s)[j]? = some ((splitS s)[j]'(by omega)) := List.getElem?_eq_getElem _
    generalize (splitS s)[j]'(by omega) = x at gp
    have gb : ((splitS s).map bS)[j]? = some (bS x) := by rw [List.getElem?_map, gp]; rfl
    obtain ⟨b, o, hp, hc⟩ := (hS.ext H.ext).lies.things txt_len (by decide) gb
    have hcell := hc 0 _ rfl
    rw [Nat.mul_one, Nat.add_zero] at hcell
    simp only [Int.toNat_natCast]
    refine ⟨b, o, hp, by omega, hlt, _, hcell, ?_⟩
    have hxs : (bS x).size ≤ 100000000 := by have := split_size s.size s (Nat.le_refl _) x (List.mem_of_getElem? gp); rw [bS_size]; omega
    refine (cutsfx_ok (bS x) (bS nullL) (by omega) W).mono ?_
    rintro e w19 ⟨rfl, eS⟩
    have hds : (cutSuf (bS x) (bS nullL)).1.size ≤ 100000000 := by
      have := cutSuf_spec (bS x) nullL
      have h2 := congrArg List.length this
      rw [List.length_append, tB_length, tB_length] at h2
      omega
    refine ⟨_, _, rfl, ?_⟩
    refine (cut_ok (hM.ext ((e1.trans H.ext).trans eS)) _ hds).mono ?_
    rintro e w23 ⟨rfl, eT⟩
    refine ⟨_, _, _, rfl, ?_⟩
    refine (skind_ok (hT.ext (((e1.trans H.ext).trans eS).trans eT)) _).mono ?_
    rintro e w28 ⟨rfl, eU⟩
    refine ⟨_, rfl, ?_⟩
    have eA := (eS.trans eT).trans eU
    intro b30 w31 h30
    have K := (H.step eA).new h30
    obtain ⟨p', c', w36, hrun, H1⟩ := K.append (ty := 22) (P := Tryd.prog) (q := some ⟨b30, 0, none⟩) (m := 1) (d' := 1) (news := Col.cs (strictC (bS x))) 0 rfl undCols tyCol rfl (by decide) (K.blk 0 rfl).at rfl (fun e => by cases e) (Col.cs_one _) (by show ((j + 1) + (j + 1) / 4 + 192) * 32 ≤ 281474976710656; omega) (by unfold maxLen; omega)
    refine ⟨_, _, _, _, hrun, ?_⟩
    have hst : ((splitS s).take (j + 1)).map (fun p => strictC (bS p)) = ((splitS s).take j).map (fun p => strictC (bS p)) ++ [strictC (bS x)] := by rw [take_snoc gp, List.map_append]; rfl
    have H2 : Hold w2 w36 [] [⟨53, 3, p', j + 1, c', (((splitS s).take (j + 1)).map fun p => strictC (bS p)).flatMap Col.cs⟩] := by
      rw [hst, List.flatMap_append]
      have := H1.tail
      simpa using this
    have hcl1 : (((splitS s).take (j + 1)).map fun p => strictC (bS p)).length = j + 1 := by rw [List.length_map, List.length_take]; omega
    refine ⟨fun hbig => ?_, fun hsm => ?_⟩
    · have hcols := hold_cols H2 0 rfl hcl1
      refine (sright_ok hcols).mono ?_
      rintro e w39 ⟨rfl, eV⟩
      have hno : ∀ cs : List Col, 16 < cs.length → rightC cs = false := by
        intro cs h
        unfold rightC
        rw [decide_eq_false (by omega)]; rfl
      rw [hno _ (by omega)]
      refine ⟨_, rfl, fun _ => bad (e1.trans (H2.ext.trans eV)) (hno _ ?_), fun h => by cases h⟩
      unfold strictCs
      rw [List.length_map]; omega
    · rw [i64_next (by omega)]
      refine ⟨⟨j + 1, rfl, by omega, rfl, by omega, H2⟩, by first | omega | (simp only [Int.toNat_natCast]; omega)⟩
  · have hjn : j = n4 := by omega
    have htk : (splitS s).take j = splitS s := List.take_of_length_le (by omega)
    rw [htk] at H hcl
    have hcols : Cols W q j d (strictCs s) := hold_cols H 0 rfl hcl
    refine (sright_ok hcols).mono ?_
    rintro e w46 ⟨rfl, eV⟩
    refine ⟨_, rfl, fun hf => bad (e1.trans (H.ext.trans eV)) hf, fun ht => ?_⟩
    have e : strictP s = (strictCs s, 0) := by unfold strictP; rw [if_pos ht]
    rw [e]
    exact ⟨_, _, _, rfl, hcols.ext eV, e1.trans (H.ext.trans eV)⟩
end Go.Proofs.YtiojkfckaalooaaDoor

/- The contract of the document's Parse. Printed by mksp4.py. -/
namespace Go.Proofs.YtiojkfckaalooaaDoor
open Go Go.Vc Go.RowKit
set_option maxRecDepth 20000
attribute [local irreducible] Calls Put Drew New

/-- The kind after the words up to k. -/
def kindUp (w : List UInt8) (k : Nat) : Int := if 3 ≤ k ∧ w = wordL 3 then 3 else if 2 ≤ k ∧ w = wordL 2 then 2 else if 1 ≤ k ∧ w = wordL 1 then 1 else 0
end Go.Proofs.YtiojkfckaalooaaDoor

/- The laws of schema: Texts, Back. -/
namespace Go.Proofs.YtiojkfckaalooaaDoor
open Go Go.Vc Go.RowKit
set_option maxRecDepth 20000
attribute [local irreducible] Calls Put Drew New

theorem schB_len {cols : List Col} (h : rightC cols = true) : (schB cols).length ≤ 1000 := by
  have := partS_len (l := []) h cols.length
  rw [partS_all] at this
  simp at this
  omega
theorem rowsB_len {cols : List Col} {L : List (List Val)} (ht : rightC cols = true) (hf : ∀ r ∈ L, fitsL cols r = true) (hv : ∀ x ∈ L, ∀ v ∈ x, v.fit) (hL : L.length ≤ 1024) : (rowsB L).length ≤ 20000000 := by
  have := partR_len (l := []) (r := []) (j := L.length) (k := 0) ht ⟨fun r hr => hf r (List.mem_of_mem_take hr)⟩ hv hL ⟨by simp, by simp⟩
  rw [partR_all] at this
  simp at this
  omega
theorem takeSV_lay {cols : List Col} (h : rightC cols = true) (rest : List UInt8) : takeSV (schB cols ++ rest) 0 = (cols, ((schB cols).length : Int), 0) := by
  obtain ⟨r1, r2, r3⟩ := right_all h
  have hN := takeN_uvar (n := cols.length) (by omega) [] (cols.flatMap colB ++ rest)
  have hc := takeCols_lay cols (fun c hc => by obtain ⟨a, b, d⟩ := r3 c hc; exact ⟨a, by omega, by omega⟩) (uvar cols.length) rest
  have e : schB cols ++ rest = [] ++ (uvar cols.length ++ (cols.flatMap colB ++ rest)) := by unfold schB; simp
  have e2 : schB cols ++ rest = uvar cols.length ++ (cols.flatMap colB ++ rest) := by unfold schB; simp
  have hS : takeSch (schB cols ++ rest) 0 = some (cols, (schB cols).length) := by
    unfold takeSch
    rw [e, show (0 : Int) = (([] : List UInt8).length : Int) from rfl, hN]
    simp only [Option.bind_some, List.nil_append, List.length_nil, Nat.zero_add]
    rw [if_pos r2, hc]
    simp only [Option.bind_some]
    rw [if_pos h]
    unfold schB
    rw [List.length_append]
  unfold takeSV
  rw [hS]
theorem takeRV_lay {cols : List Col} {L : List (List Val)} (ht : rightC cols = true) (hf : ∀ r ∈ L, fitsL cols r = true) (hv : ∀ x ∈ L, ∀ v ∈ x, v.fit) (hL : L.length ≤ 1024) (rest : List UInt8) : takeRV (rowsB L ++ rest) cols 0 = (L, ((rowsB L).length : Int), 0) := by
  have hN := takeN_uvar (n := L.length) (by omega) [] (L.flatMap rowB ++ rest)
  have hc := takeRowsN_lay (cols := cols) L (fun r hr => ⟨hf r hr, fun v hx => ⟨of_decide_eq_true (fits_right (hf r hr) v hx), hv r hr v hx⟩⟩) (uvar L.length) rest
  have e : rowsB L ++ rest = [] ++ (uvar L.length ++ (L.flatMap rowB ++ rest)) := by unfold rowsB; simp
  have hS : takeRws (rowsB L ++ rest) cols 0 = some (L, (rowsB L).length) := by
    unfold takeRws
    rw [e, show (0 : Int) = (([] : List UInt8).length : Int) from rfl, hN]
    simp only [Option.bind_some, List.nil_append, List.length_nil, Nat.zero_add]
    rw [if_pos hL, hc]
    unfold rowsB
    rw [List.length_append]
  unfold takeRV
  rw [if_pos ht, hS]
set_option maxHeartbeats 4000000 in
theorem lawBack_ok {w : World} (hT : WTab w) (hM : MTab w) {p rp bp : Option Addr} {n c rn rc bn bc : Nat} {cols : List Col} {hs : List Sl} {L : List (List Val)} {l : List UInt8} (hc : Cols w p n c cols) (hcs : ∀ x ∈ cols, x.name.size ≤ 9223372036854775807) (hr : Rws w rp rn rc hs L) (hv : ∀ x ∈ L, ∀ v ∈ x, v.fit) (hb : In w bp bn bc l) (hbn : bn ≤ 140737488351232) :
    Calls Tryd.prog 9 #[.slice p n c, .slice rp rn rc, .slice bp bn bc] w fun e w' => e = .returned (.bool true) ∧ Ext w w' := by
  have hbl := hb.len
  apply lawBack_vc
  unfold lawBack_T
  refine (shown05_ok hT).mono ?_
  rintro e w2 ⟨rfl, e1⟩
  refine ⟨_, rfl, ?_⟩
  refine (slay_ok w2 (In.nothing _) (hc.ext e1) (by decide)).mono ?_
  rintro e w5 ⟨p6, n7, c8, rfl, ho, eS⟩
  have K0 := (Hold.start e1).addRow eS ho.2
  replace e1 := e1.trans eS
  refine ⟨_, _, _, _, rfl, ?_⟩
  refine (sshow_ok (hT.ext e1) (hc.ext e1)).mono ?_
  rintro e w11 ⟨rfl, eT⟩
  replace e1 := e1.trans eT
  have K := K0.step eT
  have ho1 := ho.1
  refine ⟨_, _, rfl, fun hne => ?_, fun hok => ?_⟩
  · have hf : rightC cols = false := by
      cases hr : rightC cols with
      | false => rfl
      | true =>
        have a1 : layS [] cols = ([] ++ schB cols, 0) := by unfold layS; rw [if_pos hr]
        have a2 : showS cols = (bS (showL cols), 0) := by unfold showS; rw [if_pos hr]
        rw [a1, a2] at hne
        rcases hne with h | h <;> exact absurd rfl h
    have a1 : layS [] cols = ([], 50) := by unfold layS; rw [hf]; rfl
    have a2 : showS cols = (⟨#[]⟩, 50) := by unfold showS; rw [hf]; rfl
    refine ⟨fun _ => ?_, fun hx => ?_⟩
    · refine (sright_ok (hc.ext e1)).mono ?_
      rintro e w17 ⟨rfl, eU⟩
      exact ⟨_, rfl, by rw [hf]; rfl, e1.trans eU⟩
    · exfalso
      rw [a1, a2] at hx
      rcases hx with hx | hx
      · cases hx
      · exact hx rfl
  · have ht : rightC cols = true := by
      cases hr : rightC cols with
      | true => rfl
      | false =>
        have a1 : layS [] cols = ([], 50) := by unfold layS; rw [hr]; rfl
        rw [a1] at hok
        exact absurd hok.1 (by decide)
    have a1 : layS [] cols = (schB cols, 0) := by unfold layS; rw [if_pos ht]; rfl
    have a2 : showS cols = (bS (showL cols), 0) := by unfold showS; rw [if_pos ht]
    rw [a1] at K ho1
    rw [a2]
    have hlen := schB_len ht
    obtain ⟨r1, r2, r3⟩ := right_all ht
    have hsl := showL_len (cols := cols) fun c hc => (r3 c hc).1
    have ho1 : (schB cols).length = n7 := ho1
    obtain ⟨p21, c23, w24, hrun, K1⟩ := K.append (ty := 28) (P := Tryd.prog) (q := bp) (m := bn) (d' := bc) (news := vB l) 0 rfl undB tyB rfl (by decide) (hb.lies.ext e1) (by rw [vB_length]; omega) hb.nil vB_one (by dsimp only; omega) (by unfold maxLen; omega)
    refine ⟨_, _, _, _, hrun, ?_⟩
    rw [← vB_append] at K1
    have hin : In w24 p21 (n7 + bn) c23 (schB cols ++ l) := hold_in K1 0 rfl (by rw [List.length_append]; omega)
    refine (stake_ok w24 hin (pos := 0) (by decide)).mono ?_
    rintro e w26 ⟨p27, n28, c29, rfl, h1, eU⟩
    have e2 := K1.ext.trans eU
    rw [takeSV_lay ht] at h1 ⊢
    refine ⟨_, _, _, _, _, rfl, ?_⟩
    refine (sparse_ok (hT.ext e2) (hM.ext e2) (bS (showL cols)) (by rw [bS_size]; omega)).mono ?_
    rintro e w33 ⟨p34, n35, c36, rfl, h2, eV⟩
    rw [parseF_show ht] at h2 ⊢
    replace e2 := e2.trans eV
    refine ⟨_, _, _, _, rfl, fun hx => ?_, fun _ => ?_⟩
    · exfalso
      rcases hx with (hx | hx) | hx
      · exact hx rfl
      · exact hx rfl
      · exact hx (by rw [ho1])
    refine (r5same_ok w33 (h1.ext eV) (hc.ext e2)).mono ?_
    rintro e w41 ⟨rfl, eW⟩
    replace e2 := e2.trans eW
    refine ⟨_, rfl, fun hx => by simp at hx, fun _ => ?_⟩
    refine (r5same_ok w41 (h2.ext eW) (hc.ext e2)).mono ?_
    rintro e w46 ⟨rfl, eX⟩
    replace e2 := e2.trans eX
    refine ⟨_, rfl, fun hx => by simp at hx, fun _ => ?_⟩
    refine (slayrows_ok w46 (In.nothing _) (hc.ext e2) (hr.ext e2) hv (by decide)).mono ?_
    rintro e w51 ⟨p52, n53, c54, rfl, ho2, eY⟩
    have M0 := (Hold.start e2).addRow eY ho2.2
    have e3 := e2.trans eY
    have hLR : layR [] cols L = if L.length ≤ 1024 ∧ ∀ r ∈ L, fitsL cols r = true then ([] ++ rowsB L, 0) else ([], 51) := by unfold layR; rw [if_pos ht]
    refine ⟨_, _, _, _, rfl, fun hne => ?_, fun h0 => ?_⟩
    · have : layR [] cols L = ([], 51) := by
        rw [hLR] at hne ⊢
        split at hne
        · exact absurd rfl hne
        · rename_i h; rw [if_neg h]
      rw [this]
      exact ⟨rfl, e3⟩
    · have hall : L.length ≤ 1024 ∧ ∀ r ∈ L, fitsL cols r = true := by
        rw [hLR] at h0
        split at h0
        · assumption
        · exact absurd h0 (by decide)
      have b1 : layR [] cols L = (rowsB L, 0) := by rw [hLR, if_pos hall]; rfl
      have ho3 := ho2.1
      rw [b1] at M0 ho3
      have ho3 : (rowsB L).length = n53 := ho3
      have hlen2 := rowsB_len ht hall.2 hv hall.1
      obtain ⟨p58, c60, w61, hrun2, M1⟩ := M0.append (ty := 28) (P := Tryd.prog) (q := bp) (m := bn) (d' := bc) (news := vB l) 0 rfl undB tyB rfl (by decide) (hb.lies.ext e3) (by rw [vB_length]; omega) hb.nil vB_one (by dsimp only; omega) (by unfold maxLen; omega)
      refine ⟨_, _, _, _, hrun2, ?_⟩
      rw [← vB_append] at M1
      have hin2 : In w61 p58 (n53 + bn) c60 (rowsB L ++ l) := hold_in M1 0 rfl (by rw [List.length_append]; omega)
      refine (stakerows_ok w61 hin2 (hc.ext M1.ext) hcs (pos := 0) (by decide)).mono ?_
      rintro e w63 ⟨p64, n65, c66, hs2, rfl, h4, eZ⟩
      rw [takeRV_lay ht hall.2 hv hall.1] at h4 ⊢
      have e4 := M1.ext.trans eZ
      refine ⟨_, _, _, _, _, rfl, fun _ => ?_, fun hx => ?_⟩
      · refine (samerows_ok w63 h4 (hr.ext e4)).mono ?_
        rintro e w71 ⟨rfl, eQ⟩
        refine ⟨_, rfl, ?_, e4.trans eQ⟩
        simp
      · exfalso
        rcases hx with (hx | hx) | hx
        · cases hx
        · exact hx rfl
        · exact hx (by rw [ho3])
end Go.Proofs.YtiojkfckaalooaaDoor

/- The walk of SchemaBack: the world's shape gives the search's variable. -/
namespace Go.Proofs.YtiojkfckaalooaaDoor
open Go Go.Vc Go.RowKit
set_option maxRecDepth 20000
attribute [local irreducible] Calls Put Drew New

theorem mtab_of {W : World} (h : W.ShapedOpen Tryd.prog) : MTab W :=
  cell_of_shapedOpen_int (P := Tryd.prog) (g := 1) (t := 3) (zero := #[.int .i64 0]) h (of_decide_eq_true (by kernel_rfl)) (by kernel_rfl) rfl (by kernel_rfl) (by kernel_rfl) (by kernel_rfl)
theorem back_walk (W : World) (hT : WTab W) (hM : MTab W) (v0 v1 v2 : Value) (a0 : Arg Tryd.prog W 22 [v0]) (a1 : Arg Tryd.prog W 39 [v1]) (a2 : Arg Tryd.prog W 28 [v2]) :
    Calls Tryd.prog 9 #[v0, v1, v2] W fun e w' => e = .returned (.bool true) ∧ Ext W w' := by
  obtain ⟨p, n, c, cols, rfl, hc, hs⟩ := arg_cols a0
  obtain ⟨rp, rn, rc, hs1, L, rfl, hr, hv⟩ := arg_rows a1
  obtain ⟨bp, bn, bc, l, rfl, h, hn⟩ := arg_bytes a2
  exact lawBack_ok hT hM hc hs hr hv h hn
theorem tabs_back {W : World} (h : laidMetH Tryd.prog Rows.schemaBackRow.laid W) : WTab W := wtab_of (L := Rows.schemaBackRow.laid) (by simp [Rows.schemaBackRow]) h
end Go.Proofs.YtiojkfckaalooaaDoor

/- Three closed facts of the seat's program, asked once: they want much memory. -/
namespace Go.Proofs.YtiojkfckaalooaaDoor
set_option maxRecDepth 100000 in
theorem Tryd.entersB : (Tryd.prog.mayEnter && (false == Tryd.prog.liftsFinal) && (Tryd.prog.make == some .cut)) = true := by kernel_rfl
theorem Tryd.enters : Tryd.prog.mayEnter = true ∧ Tryd.prog.liftsFinal = false ∧ Tryd.prog.make = some .cut := by
  have h := Tryd.entersB
  simp only [Bool.and_eq_true, beq_iff_eq] at h
  exact ⟨h.1.1, h.1.2.symm, h.2⟩
end Go.Proofs.YtiojkfckaalooaaDoor
