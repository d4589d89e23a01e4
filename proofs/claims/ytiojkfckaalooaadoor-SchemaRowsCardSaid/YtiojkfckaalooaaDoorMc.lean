/- Texts of the proof, one behind the other. -/
import Derived.Test.YtiojkfckaalooaaDoorMb
set_option linter.unusedVariables false
set_option linter.unusedSimpArgs false
/- Values, schemas and rows as bytes: plain Lean, no program. -/
namespace Go.Vc
open Go Go.RowKit

/-! ### Values -/
def valB (v : Val) : List UInt8 := UInt8.ofNat v.k.toNat :: (if v.k = 1 then uvar (zigN v.n) else if v.k = 2 then [UInt8.ofNat v.n.toNat] else if v.k = 3 then uvar v.s.size ++ tB v.s else [])
/-- Which byte stands at a place. -/
def by_ (l : List UInt8) (i : Nat) : Nat := (l.getD i 0).toNat
def textOf (l : List UInt8) (i n : Nat) : ByteArray := ⟨((l.drop i).take n).toArray⟩
def takeVal (l : List UInt8) (pos : Int) : Option (Val × Nat) :=
  if 0 ≤ pos ∧ pos < (l.length : Int) then
    if by_ l pos.toNat = 0 then some (nullV, pos.toNat + 1)
    else if by_ l pos.toNat = 1 then (takeN l (pos + 1)).map fun r => (⟨1, unzig r.1, ⟨#[]⟩⟩, r.2)
    else if by_ l pos.toNat = 2 then (takeN l (pos + 1)).bind fun r => if r.1 ≤ 1 then some (⟨2, (r.1 : Int), ⟨#[]⟩⟩, r.2) else none
    else if by_ l pos.toNat = 3 then (takeN l (pos + 1)).bind fun r => if r.1 ≤ 1024 ∧ r.1 ≤ l.length - r.2 then some (⟨3, 0, textOf l r.2 r.1⟩, r.2 + r.1) else none
    else none
  else none
theorem drop_cons {l : List UInt8} {p k : Nat} (hp : p < k) (hk : k ≤ l.length) : (l.take k).drop p = l.getD p 0 :: (l.take k).drop (p + 1) := by
  rw [List.drop_eq_getElem_cons (by rw [List.length_take]; omega)]
  congr 1
  rw [List.getElem_take, List.getD_eq_getElem?_getD, List.getElem?_eq_getElem (by omega)]; rfl
theorem drop_none {l : List UInt8} {p : Nat} : (l.take p).drop p = [] := by rw [List.drop_eq_nil_iff, List.length_take]; omega
theorem text_size {l : List UInt8} {i n : Nat} (h : n ≤ l.length - i) : (textOf l i n).size = n := by
  unfold textOf
  show (List.toArray _).size = n
  rw [List.size_toArray, List.length_take, List.length_drop]; omega
theorem text_bytes (l : List UInt8) (i n : Nat) : tB (textOf l i n) = (l.drop i).take n := by unfold textOf; rw [tB_mk]
theorem text_lies {l : List UInt8} {i n : Nat} : (l.take (i + n)).drop i = tB (textOf l i n) := by
  rw [text_bytes, List.drop_take, Nat.add_sub_cancel_left]
/-- A list's pieces, one behind the other. -/
theorem take_two {l : List UInt8} {a b c : Nat} (h1 : a ≤ b) (h2 : b ≤ c) : (l.take c).drop a = (l.take b).drop a ++ (l.take c).drop b := by
  have e : l.take c = l.take b ++ (l.take c).drop b := by
    have := List.take_append_drop b (l.take c)
    rw [List.take_take, Nat.min_eq_left h2] at this
    exact this.symm
  rcases Nat.lt_or_ge l.length a with h | h
  · rw [List.drop_eq_nil_iff.2 (by rw [List.length_take]; omega), List.drop_eq_nil_iff.2 (by rw [List.length_take]; omega), List.drop_eq_nil_iff.2 (by rw [List.length_take]; omega)]; rfl
  · conv => lhs; rw [e]
    rw [List.drop_append_of_le_length (by rw [List.length_take]; omega)]
theorem takeVal_spec {l : List UInt8} {pos : Int} {v : Val} {k : Nat} (h : takeVal l pos = some (v, k)) : 0 ≤ pos ∧ v.Ok ∧ v.fit ∧ pos.toNat < k ∧ k ≤ l.length ∧ (l.take k).drop pos.toNat = valB v := by
  unfold takeVal at h
  split at h
  · rename_i hp
    obtain ⟨q, rfl⟩ := Int.eq_ofNat_of_zero_le hp.1
    have hq : q < l.length := by omega
    simp only [Int.toNat_natCast] at *
    have e1 : (q : Int) + 1 = ((q + 1 : Nat) : Int) := by omega
    rw [e1] at h
    have hd : ∀ {k : Nat}, q < k → k ≤ l.length → (l.take k).drop q = UInt8.ofNat (by_ l q) :: (l.take k).drop (q + 1) := by
      intro k h1 h2
      rw [drop_cons h1 h2]
      unfold by_
      rw [UInt8.ofNat_toNat]
    split at h
    · rename_i h0
      cases h
      refine ⟨by omega, .inl ⟨rfl, rfl, rfl⟩, ⟨by unfold i64F nullV; decide, by unfold i64F nullV; decide⟩, by omega, by omega, ?_⟩
      rw [hd (by omega) (by omega), h0, drop_none]; rfl
    · split at h
      · rename_i _ h1
        cases ht : takeN l ((q + 1 : Nat) : Int) with
        | none => rw [ht] at h; cases h
        | some r =>
          obtain ⟨x, j⟩ := r
          rw [ht] at h
          cases h
          obtain ⟨_, a2, a3, a4, _⟩ := takeN_spec ht
          have ab := takeN_back ht
          simp only [Int.toNat_natCast] at a3 ab
          have af := unzig_fit a2
          refine ⟨by omega, .inr (.inl ⟨rfl, rfl⟩), ⟨by show i64F 1; unfold i64F; decide, by unfold i64F; exact af⟩, by omega, a4, ?_⟩
          rw [hd (by omega) a4, h1, ab]
          unfold valB
          rw [if_pos rfl, zig_unzig]; rfl
      · split at h
        · rename_i _ _ h2
          cases ht : takeN l ((q + 1 : Nat) : Int) with
          | none => rw [ht] at h; cases h
          | some r =>
            obtain ⟨x, j⟩ := r
            rw [ht] at h
            simp only [Option.bind_some] at h
            split at h
            · rename_i hx
              cases h
              obtain ⟨_, a2, a3, a4, _⟩ := takeN_spec ht
              have ab := takeN_back ht
              simp only [Int.toNat_natCast] at a3 ab
              refine ⟨by omega, .inr (.inr (.inl ⟨rfl, by show (x : Int) = 0 ∨ (x : Int) = 1; omega, rfl⟩)), ⟨by show i64F 2; unfold i64F; decide, by show i64F (x : Int); unfold i64F; omega⟩, by omega, a4, ?_⟩
              rw [hd (by omega) a4, h2, ab, uvar_small (by omega)]; rfl
            · cases h
        · split at h
          · rename_i _ _ _ h3
            cases ht : takeN l ((q + 1 : Nat) : Int) with
            | none => rw [ht] at h; cases h
            | some r =>
              obtain ⟨x, j⟩ := r
              rw [ht] at h
              simp only [Option.bind_some] at h
              split at h
              · rename_i hx
                cases h
                obtain ⟨_, a2, a3, a4, _⟩ := takeN_spec ht
                have ab := takeN_back ht
                simp only [Int.toNat_natCast] at a3 ab
                have hsz := text_size (l := l) (i := j) hx.2
                refine ⟨by omega, .inr (.inr (.inr ⟨rfl, rfl, by show (textOf l j x).size ≤ 1024; omega⟩)), ⟨by show i64F 3; unfold i64F; decide, by show i64F 0; unfold i64F; decide⟩, by omega, by omega, ?_⟩
                rw [hd (by omega) (by omega), h3, take_two (a := q + 1) (b := j) (c := j + x) (by omega) (by omega), ab, text_lies]
                have hvb : valB ⟨3, 0, textOf l j x⟩ = 3 :: (uvar (textOf l j x).size ++ tB (textOf l j x)) := rfl
                rw [hvb, hsz]; rfl
              · cases h
          · cases h
  · cases h
/-- A byte below 2 is a number of one byte. -/
theorem takeN_bool (l : List UInt8) (q : Nat) : ((takeN l (q : Int)).bind fun r => if r.1 ≤ 1 then some r else none) = if q < l.length ∧ by_ l q ≤ 1 then some (by_ l q, q + 1) else none := by
  by_cases hc : q < l.length ∧ by_ l q ≤ 1
  · rw [if_pos hc]
    have hd : l.drop q = l.getD q 0 :: l.drop (q + 1) := by
      rw [List.drop_eq_getElem_cons hc.1]
      congr 1
      rw [List.getD_eq_getElem?_getD, List.getElem?_eq_getElem hc.1]; rfl
    have hb : (l.getD q 0).toNat = by_ l q := rfl
    unfold takeN
    rw [if_pos (by omega), Int.toNat_natCast, hd, rd, hb, if_neg (by omega), if_pos (by omega), if_neg (by omega)]
    simp only [Option.map_some, Option.bind_some, Nat.zero_add, Nat.mul_zero, Nat.pow_zero, Nat.mul_one]
    rw [Nat.mod_eq_of_lt (by omega), if_pos hc.2]
  · rw [if_neg hc]
    cases ht : takeN l (q : Int) with
    | none => rfl
    | some r =>
      obtain ⟨v, k⟩ := r
      simp only [Option.bind_some]
      rw [if_neg]
      intro hv
      obtain ⟨_, a2, a3, a4, _⟩ := takeN_spec ht
      have ab := takeN_back ht
      simp only [Int.toNat_natCast] at a3 ab
      rw [drop_cons a3 a4, uvar_small (by omega)] at ab
      have := (List.cons.inj ab).1
      refine hc ⟨by omega, ?_⟩
      unfold by_
      rw [this, u8_toNat (by omega)]; exact hv
theorem take_bool2 (l : List UInt8) (q : Nat) : ((takeN l (q : Int)).bind fun r => if r.1 ≤ 1 then some ((⟨2, (r.1 : Int), ⟨#[]⟩⟩ : Val), r.2) else none) = if q < l.length ∧ by_ l q ≤ 1 then some (⟨2, ((by_ l q : Nat) : Int), ⟨#[]⟩⟩, q + 1) else none := by
  have h := takeN_bool l q
  have e : ((takeN l (q : Int)).bind fun r => if r.1 ≤ 1 then some ((⟨2, (r.1 : Int), ⟨#[]⟩⟩ : Val), r.2) else none) = ((takeN l (q : Int)).bind fun r => if r.1 ≤ 1 then some r else none).map fun r => (⟨2, (r.1 : Int), ⟨#[]⟩⟩, r.2) := by
    cases takeN l (q : Int) with
    | none => rfl
    | some r =>
      simp only [Option.bind_some]
      split <;> rfl
  rw [e, h]
  split <;> rfl
end Go.Vc

/- Schemas and rows as bytes: plain Lean, no program. -/
namespace Go.Vc
open Go Go.RowKit

/-! ### Columns -/
def colB (c : Col) : List UInt8 := uvar c.name.size ++ (tB c.name ++ [UInt8.ofNat c.kind.toNat, if c.null then 1 else 0])
def schB (cols : List Col) : List UInt8 := uvar cols.length ++ cols.flatMap colB
/-- A text of at most m bytes at a place. -/
def takeTx (l : List UInt8) (pos : Int) (m : Nat) : Option (ByteArray × Nat) := (takeN l pos).bind fun r => if r.1 ≤ m ∧ r.1 ≤ l.length - r.2 then some (textOf l r.2 r.1, r.2 + r.1) else none
def takeCol (l : List UInt8) (pos : Nat) : Option (Col × Nat) :=
  (takeTx l (pos : Int) 24).bind fun r => if 2 ≤ l.length - r.2 ∧ by_ l (r.2 + 1) ≤ 1 then some (⟨r.1, (by_ l r.2 : Int), decide (by_ l (r.2 + 1) = 1)⟩, r.2 + 2) else none
def takeCols (l : List UInt8) : Nat → Nat → Option (List Col × Nat)
  | 0, pos => some ([], pos)
  | n + 1, pos => (takeCol l pos).bind fun r => (takeCols l n r.2).map fun q => (r.1 :: q.1, q.2)
def takeSch (l : List UInt8) (pos : Int) : Option (List Col × Nat) :=
  (takeN l pos).bind fun r => if r.1 ≤ 16 then (takeCols l r.1 r.2).bind fun q => if rightC q.1 then some q else none else none
/-! ### Rows -/
def rowB (r : List Val) : List UInt8 := r.flatMap valB
def rowsB (rows : List (List Val)) : List UInt8 := uvar rows.length ++ rows.flatMap rowB
def takeRow (l : List UInt8) : Nat → Nat → Option (List Val × Nat)
  | 0, pos => some ([], pos)
  | n + 1, pos => (takeVal l (pos : Int)).bind fun r => (takeRow l n r.2).map fun q => (r.1 :: q.1, q.2)
def takeRowF (l : List UInt8) (cols : List Col) (pos : Nat) : Option (List Val × Nat) := (takeRow l cols.length pos).bind fun r => if fitsL cols r.1 then some r else none
def takeRowsN (l : List UInt8) (cols : List Col) : Nat → Nat → Option (List (List Val) × Nat)
  | 0, pos => some ([], pos)
  | n + 1, pos => (takeRowF l cols pos).bind fun r => (takeRowsN l cols n r.2).map fun q => (r.1 :: q.1, q.2)
def takeRws (l : List UInt8) (cols : List Col) (pos : Int) : Option (List (List Val) × Nat) := (takeN l pos).bind fun r => if r.1 ≤ 1024 then takeRowsN l cols r.1 r.2 else none
theorem takeRow_spec {l : List UInt8} : ∀ {n p : Nat} {r : List Val} {k : Nat}, takeRow l n p = some (r, k) → p ≤ l.length → r.length = n ∧ p ≤ k ∧ k ≤ l.length ∧ (l.take k).drop p = rowB r ∧ ∀ v ∈ r, v.Ok ∧ v.fit
  | 0, p, cs, k, h, hp => by
    cases h
    exact ⟨rfl, Nat.le_refl _, hp, drop_none, by simp⟩
  | n + 1, p, cs, k, h, hp => by
    unfold takeRow at h
    cases hc : takeVal l (p : Int) with
    | none => rw [hc] at h; cases h
    | some r =>
      obtain ⟨c, j⟩ := r
      rw [hc] at h
      simp only [Option.bind_some] at h
      cases hcs : takeRow l n j with
      | none => rw [hcs] at h; cases h
      | some r =>
        obtain ⟨cs', k'⟩ := r
        rw [hcs] at h
        cases h
        obtain ⟨_, a1, a2, a4, a5, a6⟩ := takeVal_spec hc
        simp only [Int.toNat_natCast] at a4 a6
        obtain ⟨b1, b2, b3, b4, b5⟩ := takeRow_spec hcs a5
        refine ⟨by simp [b1], by omega, b3, ?_, ?_⟩
        · rw [take_two (b := j) (by omega) b2, a6, b4]; rfl
        · intro x hx
          rcases List.mem_cons.1 hx with rfl | hx
          · exact ⟨a1, a2⟩
          · exact b5 x hx
theorem takeRow_snoc {l : List UInt8} : ∀ {n p : Nat}, takeRow l (n + 1) p = (takeRow l n p).bind fun r => (takeVal l (r.2 : Int)).map fun q => (r.1 ++ [q.1], q.2)
  | 0, p => by
    show (takeVal l (p : Int)).bind (fun r => some ([r.1], r.2)) = (takeVal l (p : Int)).map fun q => ([q.1], q.2)
    cases takeVal l (p : Int) <;> rfl
  | n + 1, p => by
    rw [takeRow]
    conv => rhs; rw [takeRow]
    cases hc : takeVal l (p : Int) with
    | none => rfl
    | some r =>
      simp only [Option.bind_some]
      rw [takeRow_snoc (n := n) (p := r.2)]
      cases takeRow l n r.2 with
      | none => rfl
      | some q =>
        simp only [Option.bind_some, Option.map_some]
        cases takeVal l (q.2 : Int) <;> simp
theorem takeRow_fail {l : List UInt8} {n m p : Nat} (h : takeRow l n p = none) (hm : n ≤ m) : takeRow l m p = none := by
  obtain ⟨d, rfl⟩ : ∃ d, m = n + d := ⟨m - n, by omega⟩
  induction d with
  | zero => exact h
  | succ d ih => rw [← Nat.add_assoc, takeRow_snoc, ih (by omega)]; rfl
theorem takeRowF_spec {l : List UInt8} {cols : List Col} {p : Nat} {r : List Val} {k : Nat} (h : takeRowF l cols p = some (r, k)) (hp : p ≤ l.length) : fitsL cols r = true ∧ p ≤ k ∧ k ≤ l.length ∧ (l.take k).drop p = rowB r ∧ ∀ v ∈ r, v.Ok ∧ v.fit := by
  unfold takeRowF at h
  cases hc : takeRow l cols.length p with
  | none => rw [hc] at h; cases h
  | some q =>
    rw [hc] at h
    simp only [Option.bind_some] at h
    split at h
    · rename_i hf
      cases h
      obtain ⟨_, b2, b3, b4, b5⟩ := takeRow_spec hc hp
      exact ⟨hf, b2, b3, b4, b5⟩
    · cases h
theorem takeRowsN_spec {l : List UInt8} {cols : List Col} : ∀ {n p : Nat} {R : List (List Val)} {k : Nat}, takeRowsN l cols n p = some (R, k) → p ≤ l.length → R.length = n ∧ p ≤ k ∧ k ≤ l.length ∧ (l.take k).drop p = R.flatMap rowB ∧ ∀ r ∈ R, fitsL cols r = true ∧ ∀ v ∈ r, v.Ok ∧ v.fit
  | 0, p, cs, k, h, hp => by
    cases h
    exact ⟨rfl, Nat.le_refl _, hp, drop_none, by simp⟩
  | n + 1, p, cs, k, h, hp => by
    unfold takeRowsN at h
    cases hc : takeRowF l cols p with
    | none => rw [hc] at h; cases h
    | some r =>
      obtain ⟨c, j⟩ := r
      rw [hc] at h
      simp only [Option.bind_some] at h
      cases hcs : takeRowsN l cols n j with
      | none => rw [hcs] at h; cases h
      | some r =>
        obtain ⟨cs', k'⟩ := r
        rw [hcs] at h
        cases h
        obtain ⟨a1, a4, a5, a6, a2⟩ := takeRowF_spec hc hp
        obtain ⟨b1, b2, b3, b4, b5⟩ := takeRowsN_spec hcs a5
        refine ⟨by simp [b1], by omega, b3, ?_, ?_⟩
        · rw [take_two (b := j) (by omega) b2, a6, b4]; rfl
        · intro x hx
          rcases List.mem_cons.1 hx with rfl | hx
          · exact ⟨a1, a2⟩
          · exact b5 x hx
theorem takeRowsN_snoc {l : List UInt8} {cols : List Col} : ∀ {n p : Nat}, takeRowsN l cols (n + 1) p = (takeRowsN l cols n p).bind fun r => (takeRowF l cols r.2).map fun q => (r.1 ++ [q.1], q.2)
  | 0, p => by
    show (takeRowF l cols p).bind (fun r => some ([r.1], r.2)) = (takeRowF l cols p).map fun q => ([q.1], q.2)
    cases takeRowF l cols p <;> rfl
  | n + 1, p => by
    rw [takeRowsN]
    conv => rhs; rw [takeRowsN]
    cases hc : takeRowF l cols p with
    | none => rfl
    | some r =>
      simp only [Option.bind_some]
      rw [takeRowsN_snoc (n := n) (p := r.2)]
      cases takeRowsN l cols n r.2 with
      | none => rfl
      | some q =>
        simp only [Option.bind_some, Option.map_some]
        cases takeRowF l cols q.2 <;> simp
theorem takeRowsN_fail {l : List UInt8} {cols : List Col} {n m p : Nat} (h : takeRowsN l cols n p = none) (hm : n ≤ m) : takeRowsN l cols m p = none := by
  obtain ⟨d, rfl⟩ : ∃ d, m = n + d := ⟨m - n, by omega⟩
  induction d with
  | zero => exact h
  | succ d ih => rw [← Nat.add_assoc, takeRowsN_snoc, ih (by omega)]; rfl
end Go.Vc

/- The verification conditions of the functions, evaluated: printed by program. -/
namespace Go.Proofs.YtiojkfckaalooaaDoor
open Go Go.Vc
set_option maxRecDepth 20000

set_option maxRecDepth 100000 in
def vright_T (v0 : Int) (v1 : Int) (v2 : ByteArray) (w : World) (R : Ending → World → Prop) : Prop :=
  ∀ b1 w'2, New w (Obj.cells #[.int .i64 v0, .int .i64 v1, .string v2] 65) b1 w'2 → ∃ n4, w'2.cell? ⟨b1, 0, none⟩ = some (.int .i64 n4) ∧ ∀ b5 w'6, New w'2 (Obj.cells #[.int .i64 0, .int .i64 0, .string ⟨#[]⟩] 65) b5 w'6 → (∃ u8, w'6.cell? ⟨b5, 0, none⟩ = some u8) ∧ w'6.frozen? ⟨b5, 0, none⟩ = false ∧ (∃ u9, w'6.cell? ⟨b5, 1, none⟩ = some u9) ∧ w'6.frozen? ⟨b5, 1, none⟩ = false ∧ (∃ u10, w'6.cell? ⟨b5, 2, none⟩ = some u10) ∧ w'6.frozen? ⟨b5, 2, none⟩ = false ∧ ∀ w'11, Put w'6 b5 0 [.int .i64 n4, .int .i64 0, .string ⟨#[]⟩] w'11 → ∃ n13, w'11.cell? ⟨b1, 0, none⟩ = some (.int .i64 n13) ∧ (n13 = 0 → ∃ n15, w'11.cell? ⟨b1, 0, none⟩ = some (.int .i64 n15) ∧ (0 ≤ n15 → ∃ n17, w'11.cell? ⟨b1, 0, none⟩ = some (.int .i64 n17) ∧ (n17 < 4 → ∃ n19, w'11.cell? ⟨b1, 0, none⟩ = some (.int .i64 n19) ∧ ∃ n20, w'11.cell? ⟨b1, 1, none⟩ = some (.int .i64 n20) ∧ ∃ s21, w'11.cell? ⟨b1, 2, none⟩ = some (.string s21) ∧ ∃ n22, w'11.cell? ⟨b5, 0, none⟩ = some (.int .i64 n22) ∧ ∃ n23, w'11.cell? ⟨b5, 1, none⟩ = some (.int .i64 n23) ∧ ∃ s24, w'11.cell? ⟨b5, 2, none⟩ = some (.string s24) ∧ (n19 = n22 ∧ n20 = n23 ∧ s21 = s24 → ∃ s26, w'11.cell? ⟨b1, 2, none⟩ = some (.string s26) ∧ R (.returned (.bool (decide ((↑s26.size : Int) ≤ 1024)))) w'11) ∧ (n19 ≠ n22 ∨ n20 ≠ n23 ∨ s21 ≠ s24 → R (.returned (.bool false)) w'11)) ∧ (4 ≤ n17 → R (.returned (.bool false)) w'11)) ∧ (n15 < 0 → R (.returned (.bool false)) w'11)) ∧ (n13 ≠ 0 → (n13 = 1 → ∃ n32, w'11.cell? ⟨b1, 1, none⟩ = some (.int .i64 n32) ∧ (∃ u33, w'11.cell? ⟨b5, 1, none⟩ = some u33) ∧ w'11.frozen? ⟨b5, 1, none⟩ = false ∧ ∀ w'34, Put w'11 b5 1 [.int .i64 n32] w'34 → ∃ n36, w'34.cell? ⟨b1, 0, none⟩ = some (.int .i64 n36) ∧ (0 ≤ n36 → ∃ n38, w'34.cell? ⟨b1, 0, none⟩ = some (.int .i64 n38) ∧ (n38 < 4 → ∃ n40, w'34.cell? ⟨b1, 0, none⟩ = some (.int .i64 n40) ∧ ∃ n41, w'34.cell? ⟨b1, 1, none⟩ = some (.int .i64 n41) ∧ ∃ s42, w'34.cell? ⟨b1, 2, none⟩ = some (.string s42) ∧ ∃ n43, w'34.cell? ⟨b5, 0, none⟩ = some (.int .i64 n43) ∧ ∃ n44, w'34.cell? ⟨b5, 1, none⟩ = some (.int .i64 n44) ∧ ∃ s45, w'34.cell? ⟨b5, 2, none⟩ = some (.string s45) ∧ (n40 = n43 ∧ n41 = n44 ∧ s42 = s45 → ∃ s47, w'34.cell? ⟨b1, 2, none⟩ = some (.string s47) ∧ R (.returned (.bool (decide ((↑s47.size : Int) ≤ 1024)))) w'34) ∧ (n40 ≠ n43 ∨ n41 ≠ n44 ∨ s42 ≠ s45 → R (.returned (.bool false)) w'34)) ∧ (4 ≤ n38 → R (.returned (.bool false)) w'34)) ∧ (n36 < 0 → R (.returned (.bool false)) w'34)) ∧ (n13 ≠ 1 → (n13 = 2 → ∃ n53, w'11.cell? ⟨b1, 1, none⟩ = some (.int .i64 n53) ∧ (∃ u54, w'11.cell? ⟨b5, 1, none⟩ = some u54) ∧ w'11.frozen? ⟨b5, 1, none⟩ = false ∧ ∀ w'55, Put w'11 b5 1 [.int .i64 (bits BinOp.and IntKind.i64 n53 1)] w'55 → ∃ n57, w'55.cell? ⟨b1, 0, none⟩ = some (.int .i64 n57) ∧ (0 ≤ n57 → ∃ n59, w'55.cell? ⟨b1, 0, none⟩ = some (.int .i64 n59) ∧ (n59 < 4 → ∃ n61, w'55.cell? ⟨b1, 0, none⟩ = some (.int .i64 n61) ∧ ∃ n62, w'55.cell? ⟨b1, 1, none⟩ = some (.int .i64 n62) ∧ ∃ s63, w'55.cell? ⟨b1, 2, none⟩ = some (.string s63) ∧ ∃ n64, w'55.cell? ⟨b5, 0, none⟩ = some (.int .i64 n64) ∧ ∃ n65, w'55.cell? ⟨b5, 1, none⟩ = some (.int .i64 n65) ∧ ∃ s66, w'55.cell? ⟨b5, 2, none⟩ = some (.string s66) ∧ (n61 = n64 ∧ n62 = n65 ∧ s63 = s66 → ∃ s68, w'55.cell? ⟨b1, 2, none⟩ = some (.string s68) ∧ R (.returned (.bool (decide ((↑s68.size : Int) ≤ 1024)))) w'55) ∧ (n61 ≠ n64 ∨ n62 ≠ n65 ∨ s63 ≠ s66 → R (.returned (.bool false)) w'55)) ∧ (4 ≤ n59 → R (.returned (.bool false)) w'55)) ∧ (n57 < 0 → R (.returned (.bool false)) w'55)) ∧ (n13 ≠ 2 → (n13 = 3 → ∃ s74, w'11.cell? ⟨b1, 2, none⟩ = some (.string s74) ∧ (∃ u75, w'11.cell? ⟨b5, 2, none⟩ = some u75) ∧ w'11.frozen? ⟨b5, 2, none⟩ = false ∧ ∀ w'76, Put w'11 b5 2 [.string s74] w'76 → ∃ n78, w'76.cell? ⟨b1, 0, none⟩ = some (.int .i64 n78) ∧ (0 ≤ n78 → ∃ n80, w'76.cell? ⟨b1, 0, none⟩ = some (.int .i64 n80) ∧ (n80 < 4 → ∃ n82, w'76.cell? ⟨b1, 0, none⟩ = some (.int .i64 n82) ∧ ∃ n83, w'76.cell? ⟨b1, 1, none⟩ = some (.int .i64 n83) ∧ ∃ s84, w'76.cell? ⟨b1, 2, none⟩ = some (.string s84) ∧ ∃ n85, w'76.cell? ⟨b5, 0, none⟩ = some (.int .i64 n85) ∧ ∃ n86, w'76.cell? ⟨b5, 1, none⟩ = some (.int .i64 n86) ∧ ∃ s87, w'76.cell? ⟨b5, 2, none⟩ = some (.string s87) ∧ (n82 = n85 ∧ n83 = n86 ∧ s84 = s87 → ∃ s89, w'76.cell? ⟨b1, 2, none⟩ = some (.string s89) ∧ R (.returned (.bool (decide ((↑s89.size : Int) ≤ 1024)))) w'76) ∧ (n82 ≠ n85 ∨ n83 ≠ n86 ∨ s84 ≠ s87 → R (.returned (.bool false)) w'76)) ∧ (4 ≤ n80 → R (.returned (.bool false)) w'76)) ∧ (n78 < 0 → R (.returned (.bool false)) w'76)) ∧ (n13 ≠ 3 → ∃ n94, w'11.cell? ⟨b1, 0, none⟩ = some (.int .i64 n94) ∧ (0 ≤ n94 → ∃ n96, w'11.cell? ⟨b1, 0, none⟩ = some (.int .i64 n96) ∧ (n96 < 4 → ∃ n98, w'11.cell? ⟨b1, 0, none⟩ = some (.int .i64 n98) ∧ ∃ n99, w'11.cell? ⟨b1, 1, none⟩ = some (.int .i64 n99) ∧ ∃ s100, w'11.cell? ⟨b1, 2, none⟩ = some (.string s100) ∧ ∃ n101, w'11.cell? ⟨b5, 0, none⟩ = some (.int .i64 n101) ∧ ∃ n102, w'11.cell? ⟨b5, 1, none⟩ = some (.int .i64 n102) ∧ ∃ s103, w'11.cell? ⟨b5, 2, none⟩ = some (.string s103) ∧ (n98 = n101 ∧ n99 = n102 ∧ s100 = s103 → ∃ s105, w'11.cell? ⟨b1, 2, none⟩ = some (.string s105) ∧ R (.returned (.bool (decide ((↑s105.size : Int) ≤ 1024)))) w'11) ∧ (n98 ≠ n101 ∨ n99 ≠ n102 ∨ s100 ≠ s103 → R (.returned (.bool false)) w'11)) ∧ (4 ≤ n96 → R (.returned (.bool false)) w'11)) ∧ (n94 < 0 → R (.returned (.bool false)) w'11)))))

set_option maxRecDepth 100000 in
theorem vright_eq (v0 : Int) (v1 : Int) (v2 : ByteArray) (w : World) (R : Ending → World → Prop) : vright_T v0 v1 v2 w R = vcFn Tryd.prog [] [] Tryd.f62 [.agg #[.int .i64 v0, .int .i64 v1, .string v2]] w R := by kernel_rfl

set_option maxRecDepth 100000 in
theorem vright_vc (v0 : Int) (v1 : Int) (v2 : ByteArray) (w : World) (R : Ending → World → Prop) (hvc : vright_T v0 v1 v2 w R) : Calls Tryd.prog 62 #[.agg #[.int .i64 v0, .int .i64 v1, .string v2]] w R :=
  calls_of_vc (args := [.agg #[.int .i64 v0, .int .i64 v1, .string v2]]) [] [] Tryd.mixed Tryd.func62 (cast (vright_eq _ _ _ w R) hvc)

set_option maxRecDepth 100000 in
def rvright_T (v0 : Int) (v1 : Int) (v2 : ByteArray) (w : World) (R : Ending → World → Prop) : Prop :=
  ∀ b1 w'2, New w (Obj.cells #[.int .i64 v0, .int .i64 v1, .string v2] 65) b1 w'2 → ∃ n4, w'2.cell? ⟨b1, 0, none⟩ = some (.int .i64 n4) ∧ (n4 = 0 → ∃ n6, w'2.cell? ⟨b1, 1, none⟩ = some (.int .i64 n6) ∧ (n6 = 0 → ∃ s8, w'2.cell? ⟨b1, 2, none⟩ = some (.string s8) ∧ R (.returned (.bool (sEq s8 ⟨#[]⟩))) w'2) ∧ (n6 ≠ 0 → R (.returned (.bool false)) w'2)) ∧ (n4 ≠ 0 → (n4 = 1 → ∃ s12, w'2.cell? ⟨b1, 2, none⟩ = some (.string s12) ∧ R (.returned (.bool (sEq s12 ⟨#[]⟩))) w'2) ∧ (n4 ≠ 1 → (n4 = 2 → ∃ n15, w'2.cell? ⟨b1, 1, none⟩ = some (.int .i64 n15) ∧ (n15 = 0 → ∃ s17, w'2.cell? ⟨b1, 2, none⟩ = some (.string s17) ∧ R (.returned (.bool (sEq s17 ⟨#[]⟩))) w'2) ∧ (n15 ≠ 0 → ∃ n19, w'2.cell? ⟨b1, 1, none⟩ = some (.int .i64 n19) ∧ (n19 = 1 → ∃ s21, w'2.cell? ⟨b1, 2, none⟩ = some (.string s21) ∧ R (.returned (.bool (sEq s21 ⟨#[]⟩))) w'2) ∧ (n19 ≠ 1 → R (.returned (.bool false)) w'2))) ∧ (n4 ≠ 2 → (n4 = 3 → ∃ n25, w'2.cell? ⟨b1, 1, none⟩ = some (.int .i64 n25) ∧ (n25 = 0 → ∃ s27, w'2.cell? ⟨b1, 2, none⟩ = some (.string s27) ∧ R (.returned (.bool (decide ((↑s27.size : Int) ≤ 1024)))) w'2) ∧ (n25 ≠ 0 → R (.returned (.bool false)) w'2)) ∧ (n4 ≠ 3 → R (.returned (.bool false)) w'2))))

set_option maxRecDepth 100000 in
theorem rvright_eq (v0 : Int) (v1 : Int) (v2 : ByteArray) (w : World) (R : Ending → World → Prop) : rvright_T v0 v1 v2 w R = vcFn Tryd.prog [] [] Tryd.f43 [.agg #[.int .i64 v0, .int .i64 v1, .string v2]] w R := by kernel_rfl

set_option maxRecDepth 100000 in
theorem rvright_vc (v0 : Int) (v1 : Int) (v2 : ByteArray) (w : World) (R : Ending → World → Prop) (hvc : rvright_T v0 v1 v2 w R) : Calls Tryd.prog 43 #[.agg #[.int .i64 v0, .int .i64 v1, .string v2]] w R :=
  calls_of_vc (args := [.agg #[.int .i64 v0, .int .i64 v1, .string v2]]) [] [] Tryd.mixed Tryd.func43 (cast (rvright_eq _ _ _ w R) hvc)

set_option maxRecDepth 100000 in
def samerow_T (a_p : Option Addr) (a_n : Nat) (a_c : Nat) (b_p : Option Addr) (b_n : Nat) (b_c : Nat) (w : World) (R : Ending → World → Prop) : Prop :=
  ((↑a_n : Int) ≠ (↑b_n : Int) → R (.returned (.bool false)) w) ∧ ((↑a_n : Int) = (↑b_n : Int) → ∃ (I3 : Int → World → Prop), ∃ (M4 : Int → World → Nat), I3 0 w ∧ ∀ (n5 : Int) (w'6 : World), I3 n5 w'6 → (n5 < (↑a_n : Int) → ∀ w'9, Drew w'6 w'9 → ∃ b11, ∃ o12, a_p = some ⟨b11, o12, none⟩ ∧ 0 ≤ n5 ∧ n5 < (↑a_n : Int) ∧ ∃ n13, w'9.cell? ⟨b11, (o12 + n5.toNat * 3), none⟩ = some (.int .i64 n13) ∧ ∃ n14, w'9.cell? ⟨b11, (o12 + n5.toNat * 3 + 1), none⟩ = some (.int .i64 n14) ∧ ∃ s15, w'9.cell? ⟨b11, (o12 + n5.toNat * 3 + 2), none⟩ = some (.string s15) ∧ ∃ b16, ∃ o17, b_p = some ⟨b16, o17, none⟩ ∧ 0 ≤ n5 ∧ n5 < (↑b_n : Int) ∧ ∃ n18, w'9.cell? ⟨b16, (o17 + n5.toNat * 3), none⟩ = some (.int .i64 n18) ∧ ∃ n19, w'9.cell? ⟨b16, (o17 + n5.toNat * 3 + 1), none⟩ = some (.int .i64 n19) ∧ ∃ s20, w'9.cell? ⟨b16, (o17 + n5.toNat * 3 + 2), none⟩ = some (.string s20) ∧ (n13 ≠ n18 ∨ n14 ≠ n19 ∨ s15 ≠ s20 → R (.returned (.bool false)) w'9) ∧ (n13 = n18 ∧ n14 = n19 ∧ s15 = s20 → I3 (IntKind.i64.wrap (n5 + 1)) w'9 ∧ M4 (IntKind.i64.wrap (n5 + 1)) w'9 < M4 n5 w'6)) ∧ ((↑a_n : Int) ≤ n5 → R (.returned (.bool true)) w'6))

set_option maxRecDepth 100000 in
theorem samerow_eq (a_p : Option Addr) (a_n : Nat) (a_c : Nat) (b_p : Option Addr) (b_n : Nat) (b_c : Nat) (w : World) (R : Ending → World → Prop) : samerow_T a_p a_n a_c b_p b_n b_c w R = vcFn Tryd.prog [] [(6, [2, 4, 6, 8, 10, 12, 14, 16, 18, 0])] Tryd.f53 [.slice a_p a_n a_c, .slice b_p b_n b_c] w R := by kernel_rfl

set_option maxRecDepth 100000 in
theorem samerow_vc (a_p : Option Addr) (a_n : Nat) (a_c : Nat) (b_p : Option Addr) (b_n : Nat) (b_c : Nat) (w : World) (R : Ending → World → Prop) (hvc : samerow_T a_p a_n a_c b_p b_n b_c w R) : Calls Tryd.prog 53 #[.slice a_p a_n a_c, .slice b_p b_n b_c] w R :=
  calls_of_vc (args := [.slice a_p a_n a_c, .slice b_p b_n b_c]) [] [(6, [2, 4, 6, 8, 10, 12, 14, 16, 18, 0])] Tryd.mixed Tryd.func53 (cast (samerow_eq _ _ _ _ _ _ w R) hvc)

set_option maxRecDepth 100000 in
def samerows_T (a_p : Option Addr) (a_n : Nat) (a_c : Nat) (b_p : Option Addr) (b_n : Nat) (b_c : Nat) (w : World) (R : Ending → World → Prop) : Prop :=
  ((↑a_n : Int) ≠ (↑b_n : Int) → R (.returned (.bool false)) w) ∧ ((↑a_n : Int) = (↑b_n : Int) → ∃ (I3 : Int → World → Prop), ∃ (M4 : Int → World → Nat), I3 0 w ∧ ∀ (n5 : Int) (w'6 : World), I3 n5 w'6 → (n5 < (↑a_n : Int) → ∀ w'9, Drew w'6 w'9 → ∃ b11, ∃ o12, a_p = some ⟨b11, o12, none⟩ ∧ 0 ≤ n5 ∧ n5 < (↑a_n : Int) ∧ ∃ p13 n14 c15, w'9.cell? ⟨b11, (o12 + n5.toNat), none⟩ = some (.slice p13 n14 c15) ∧ ∃ b16, ∃ o17, b_p = some ⟨b16, o17, none⟩ ∧ 0 ≤ n5 ∧ n5 < (↑b_n : Int) ∧ ∃ p18 n19 c20, w'9.cell? ⟨b16, (o17 + n5.toNat), none⟩ = some (.slice p18 n19 c20) ∧ Calls Tryd.prog 53 #[.slice p13 n14 c15, .slice p18 n19 c20] w'9 fun e21 w22 ↦
 ∃ b23, e21 = .returned (.bool b23) ∧ (b23 = false → R (.returned (.bool false)) w22) ∧ (b23 = true → I3 (IntKind.i64.wrap (n5 + 1)) w22 ∧ M4 (IntKind.i64.wrap (n5 + 1)) w22 < M4 n5 w'6)) ∧ ((↑a_n : Int) ≤ n5 → R (.returned (.bool true)) w'6))

set_option maxRecDepth 100000 in
theorem samerows_eq (a_p : Option Addr) (a_n : Nat) (a_c : Nat) (b_p : Option Addr) (b_n : Nat) (b_c : Nat) (w : World) (R : Ending → World → Prop) : samerows_T a_p a_n a_c b_p b_n b_c w R = vcFn Tryd.prog [] [(6, [2, 4, 6, 8, 10, 12, 14, 16, 18, 20, 0])] Tryd.f28 [.slice a_p a_n a_c, .slice b_p b_n b_c] w R := by kernel_rfl

set_option maxRecDepth 100000 in
theorem samerows_vc (a_p : Option Addr) (a_n : Nat) (a_c : Nat) (b_p : Option Addr) (b_n : Nat) (b_c : Nat) (w : World) (R : Ending → World → Prop) (hvc : samerows_T a_p a_n a_c b_p b_n b_c w R) : Calls Tryd.prog 28 #[.slice a_p a_n a_c, .slice b_p b_n b_c] w R :=
  calls_of_vc (args := [.slice a_p a_n a_c, .slice b_p b_n b_c]) [] [(6, [2, 4, 6, 8, 10, 12, 14, 16, 18, 20, 0])] Tryd.mixed Tryd.func28 (cast (samerows_eq _ _ _ _ _ _ w R) hvc)


end Go.Proofs.YtiojkfckaalooaaDoor

/- The contracts of value.Right and of the document's answer for it. -/
namespace Go.Proofs.YtiojkfckaalooaaDoor
open Go Go.Vc Go.RowKit
set_option maxRecDepth 20000

theorem nil_size : (ByteArray.mk #[]).size = 0 := rfl
theorem vright_ok (v : Val) (w : World) : Calls Tryd.prog 62 #[v.agg] w fun e w' => e = .returned (.bool v.right) ∧ Ext w w' := by
  apply vright_vc
  unfold vright_T
  intro b1 w2 h1
  have H1 := (Hold.start (Ext.rfl (w := w))).new h1
  obtain ⟨p0, p1, p2⟩ := (H1.blk 0 rfl).c3
  refine ⟨_, p0, fun b5 w6 h5 => ?_⟩
  have H5 := H1.new h5
  obtain ⟨q0, q1, q2⟩ := (H5.blk 0 rfl).c3
  refine ⟨⟨_, q0⟩, (H5.blk 0 rfl).frozen _, ⟨_, q1⟩, (H5.blk 0 rfl).frozen _, ⟨_, q2⟩, (H5.blk 0 rfl).frozen _, fun w11 h11 => ?_⟩
  have H11 := H5.put 0 rfl h11
  have B1 : Blk w11 b1 65 #[.int .i64 v.k, .int .i64 v.n, .string v.s] := H11.blk 1 rfl
  have B5 : Blk w11 b5 65 #[.int .i64 v.k, .int .i64 0, .string ⟨#[]⟩] := H11.blk 0 rfl
  obtain ⟨a0, a1, a2⟩ := B1.c3
  obtain ⟨d0, d1, d2⟩ := B5.c3
  have hx := H11.ext
  have key : ∀ (b : Bool) w', Ext w w' → (b = true ↔ v.Ok) → Ending.returned (Value.bool b) = Ending.returned (Value.bool v.right) ∧ Ext w w' := by
    intro b w' hx hb
    refine ⟨?_, hx⟩
    have : b = v.right := by unfold Val.right; rw [Bool.eq_iff_iff, hb]; simp
    rw [this]
  refine ⟨_, a0, fun hk => ?_, fun hk0 => ⟨fun hk => ?_, fun hk1 => ⟨fun hk => ?_, fun hk2 => ⟨fun hk => ?_, fun hk3 => ?_⟩⟩⟩⟩
  · refine ⟨_, a0, fun _ => ⟨_, a0, fun _ => ⟨_, a0, _, a1, _, a2, _, d0, _, d1, _, d2, fun he => ⟨_, a2, key _ _ hx ?_⟩, fun he => key _ _ hx ?_⟩, fun _ => by omega⟩, fun _ => by omega⟩
    · unfold Val.Ok; rw [he.2.2]; simp [hk, he.2.1, nil_size]
    · unfold Val.Ok; constructor
      · intro h; cases h
      · intro h; rcases h with h | h | h | h
        · rcases he with e | e | e
          · exact absurd rfl e
          · exact absurd h.2.1 e
          · exact absurd h.2.2 e
        · omega
        · omega
        · omega
  · refine ⟨_, a1, ⟨_, d1⟩, B5.frozen _, fun w34 h34 => ?_⟩
    have H34 := H11.put 0 rfl h34
    have B1' : Blk w34 b1 65 #[.int .i64 v.k, .int .i64 v.n, .string v.s] := H34.blk 1 rfl
    have B5' : Blk w34 b5 65 #[.int .i64 v.k, .int .i64 v.n, .string ⟨#[]⟩] := H34.blk 0 rfl
    obtain ⟨a0, a1, a2⟩ := B1'.c3
    obtain ⟨d0, d1, d2⟩ := B5'.c3
    refine ⟨_, a0, fun _ => ⟨_, a0, fun _ => ⟨_, a0, _, a1, _, a2, _, d0, _, d1, _, d2, fun he => ⟨_, a2, key _ _ H34.ext ?_⟩, fun he => key _ _ H34.ext ?_⟩, fun _ => by omega⟩, fun _ => by omega⟩
    · unfold Val.Ok; rw [he.2.2]; simp [hk, nil_size]
    · unfold Val.Ok; constructor
      · intro h; cases h
      · intro h; rcases h with h | h | h | h
        · omega
        · rcases he with e | e | e
          · exact absurd rfl e
          · exact absurd rfl e
          · exact absurd h.2 e
        · omega
        · omega
  · refine ⟨_, a1, ⟨_, d1⟩, B5.frozen _, fun w34 h34 => ?_⟩
    have H34 := H11.put 0 rfl h34
    have B1' : Blk w34 b1 65 #[.int .i64 v.k, .int .i64 v.n, .string v.s] := H34.blk 1 rfl
    have B5' : Blk w34 b5 65 #[.int .i64 v.k, .int .i64 (bits .and .i64 v.n 1), .string ⟨#[]⟩] := H34.blk 0 rfl
    rw [and1_i64] at B5'
    obtain ⟨a0, a1, a2⟩ := B1'.c3
    obtain ⟨d0, d1, d2⟩ := B5'.c3
    refine ⟨_, a0, fun _ => ⟨_, a0, fun _ => ⟨_, a0, _, a1, _, a2, _, d0, _, d1, _, d2, fun he => ⟨_, a2, key _ _ H34.ext ?_⟩, fun he => key _ _ H34.ext ?_⟩, fun _ => by omega⟩, fun _ => by omega⟩
    · unfold Val.Ok
      have : v.n = 0 ∨ v.n = 1 := by omega
      rw [he.2.2]; simp [hk, this, nil_size]
    · unfold Val.Ok; constructor
      · intro h; cases h
      · intro h; rcases h with h | h | h | h
        · omega
        · omega
        · rcases he with e | e | e
          · exact absurd rfl e
          · omega
          · exact absurd h.2.2 e
        · omega
  · refine ⟨_, a2, ⟨_, d2⟩, B5.frozen _, fun w34 h34 => ?_⟩
    have H34 := H11.put 0 rfl h34
    have B1' : Blk w34 b1 65 #[.int .i64 v.k, .int .i64 v.n, .string v.s] := H34.blk 1 rfl
    have B5' : Blk w34 b5 65 #[.int .i64 v.k, .int .i64 0, .string v.s] := H34.blk 0 rfl
    obtain ⟨a0, a1, a2⟩ := B1'.c3
    obtain ⟨d0, d1, d2⟩ := B5'.c3
    refine ⟨_, a0, fun _ => ⟨_, a0, fun _ => ⟨_, a0, _, a1, _, a2, _, d0, _, d1, _, d2, fun he => ⟨_, a2, key _ _ H34.ext ?_⟩, fun he => key _ _ H34.ext ?_⟩, fun _ => by omega⟩, fun _ => by omega⟩
    · unfold Val.Ok; simp only [decide_eq_true_eq]
      constructor
      · intro h; exact .inr (.inr (.inr ⟨hk, he.2.1, by omega⟩))
      · intro h; rcases h with h | h | h | h <;> omega
    · unfold Val.Ok; constructor
      · intro h; cases h
      · intro h; rcases h with h | h | h | h
        · omega
        · omega
        · omega
        · rcases he with e | e | e
          · exact absurd rfl e
          · exact absurd h.2.1 e
          · exact absurd rfl e
  · have no : ¬ v.Ok := by unfold Val.Ok; omega
    refine ⟨_, a0, fun _ => ⟨_, a0, fun _ => ⟨_, a0, _, a1, _, a2, _, d0, _, d1, _, d2, fun he => by omega, fun he => key _ _ hx (by simp [no])⟩, fun _ => key _ _ hx (by simp [no])⟩, fun _ => key _ _ hx (by simp [no])⟩

theorem rvright_ok (v : Val) (w : World) : Calls Tryd.prog 43 #[v.agg] w fun e w' => e = .returned (.bool v.right) ∧ Ext w w' := by
  apply rvright_vc
  unfold rvright_T
  intro b1 w2 h1
  have hx := h1.ext
  obtain ⟨p0, p1, p2⟩ := (Blk.new h1).c3
  have key : ∀ (b : Bool) w', Ext w w' → (b = true ↔ v.Ok) → Ending.returned (Value.bool b) = Ending.returned (Value.bool v.right) ∧ Ext w w' := by
    intro b w' hx hb
    refine ⟨?_, hx⟩
    have : b = v.right := by unfold Val.right; rw [Bool.eq_iff_iff, hb]; simp
    rw [this]
  have f : ∀ {b : Bool}, b = false → ¬ v.Ok → (b = true ↔ v.Ok) := fun hb hn => by simp [hb, hn]
  refine ⟨_, p0, fun hk => ⟨_, p1, fun hn => ⟨_, p2, key _ _ hx ?_⟩, fun hn => key _ _ hx ?_⟩, fun hk0 => ⟨fun hk => ⟨_, p2, key _ _ hx ?_⟩, fun hk1 => ⟨fun hk => ⟨_, p1, fun hn => ⟨_, p2, key _ _ hx ?_⟩, fun hn => ⟨_, p1, fun hn1 => ⟨_, p2, key _ _ hx ?_⟩, fun hn1 => key _ _ hx ?_⟩⟩,
    fun hk2 => ⟨fun hk => ⟨_, p1, fun hn => ⟨_, p2, key _ _ hx ?_⟩, fun hn => key _ _ hx ?_⟩, fun hk3 => key _ _ hx ?_⟩⟩⟩⟩
  all_goals (unfold Val.Ok; try rw [sEq_iff])
  · exact ⟨fun h => .inl ⟨hk, hn, h⟩, fun h => by rcases h with h | h | h | h <;> first | exact h.2.2 | omega⟩
  · exact ⟨fun h => (by cases h), fun h => by omega⟩
  · exact ⟨fun h => .inr (.inl ⟨hk, h⟩), fun h => by rcases h with h | h | h | h <;> first | exact h.2 | omega⟩
  · exact ⟨fun h => .inr (.inr (.inl ⟨hk, .inl hn, h⟩)), fun h => by rcases h with h | h | h | h <;> first | exact h.2.2 | omega⟩
  · exact ⟨fun h => .inr (.inr (.inl ⟨hk, .inr hn1, h⟩)), fun h => by rcases h with h | h | h | h <;> first | exact h.2.2 | omega⟩
  · exact ⟨fun h => (by cases h), fun h => by omega⟩
  · rw [decide_eq_true_eq]
    exact ⟨fun h => .inr (.inr (.inr ⟨hk, hn, by omega⟩)), fun h => by rcases h with h | h | h | h <;> omega⟩
  · exact ⟨fun h => (by cases h), fun h => by omega⟩
  · exact ⟨fun h => (by cases h), fun h => by omega⟩

end Go.Proofs.YtiojkfckaalooaaDoor

/- The verification conditions of the functions, evaluated: printed by program. -/
namespace Go.Proofs.YtiojkfckaalooaaDoor
open Go Go.Vc
set_option maxRecDepth 20000

set_option maxRecDepth 100000 in
def vlay_T (b_p : Option Addr) (b_n : Nat) (b_c : Nat) (v0 : Int) (v1 : Int) (v2 : ByteArray) (w : World) (R : Ending → World → Prop) : Prop :=
  ∀ b1 w'2, New w (Obj.cells #[.int .i64 v0, .int .i64 v1, .string v2] 65) b1 w'2 → ∃ n4, w'2.cell? ⟨b1, 0, none⟩ = some (.int .i64 n4) ∧ ∃ n5, w'2.cell? ⟨b1, 1, none⟩ = some (.int .i64 n5) ∧ ∃ s6, w'2.cell? ⟨b1, 2, none⟩ = some (.string s6) ∧ Calls Tryd.prog 62 #[.agg #[.int .i64 n4, .int .i64 n5, .string s6]] w'2 fun e7 w8 ↦
 ∃ b9, e7 = .returned (.bool b9) ∧ (b9 = false → R (.returned (.tuple #[.slice none 0 0, .int .i64 2])) w8) ∧ (b9 = true → ∃ n12, w8.cell? ⟨b1, 0, none⟩ = some (.int .i64 n12) ∧ ∀ b13 w'14, New w8 (Obj.cells #[.int .u8 (IntKind.u8.wrap n12)] 5) b13 w'14 → ∀ b16 w'17, New w'14 (Obj.cells #[.slice b_p b_n b_c, .slice (some ⟨b13, 0, none⟩) 1 1] 28) b16 w'17 → Calls Tryd.prog 49 #[.slice (some ⟨b16, 0, none⟩) 2 2] w'17 fun e19 w20 ↦
 ∃ p21 n22 c23, e19 = .returned (.slice p21 n22 c23) ∧ ∃ n24, w20.cell? ⟨b1, 0, none⟩ = some (.int .i64 n24) ∧ (n24 = 1 → ∃ n26, w20.cell? ⟨b1, 1, none⟩ = some (.int .i64 n26) ∧ Calls Tryd.prog 72 #[.slice p21 n22 c23, .int .i64 n26] w20 fun e27 w28 ↦
 ∃ p29 n30 c31, e27 = .returned (.slice p29 n30 c31) ∧ R (.returned (.tuple #[.slice p29 n30 c31, .int .i64 0])) w28) ∧ (n24 ≠ 1 → (n24 = 2 → ∃ n34, w20.cell? ⟨b1, 1, none⟩ = some (.int .i64 n34) ∧ ∀ b35 w'36, New w20 (Obj.cells #[.int .u8 (IntKind.u8.wrap n34)] 5) b35 w'36 → ∃ p38 n39 c40, ∃ (w'41 : World), Sem.run Tryd.prog (Builtin.append_ #[28, 28] 28 #[.slice p21 n22 c23, .slice (some ⟨b35, 0, none⟩) 1 1]) w'36 = Result.ok (.slice p38 n39 c40) w'41 ∧ R (.returned (.tuple #[.slice p38 n39 c40, .int .i64 0])) w'41) ∧ (n24 ≠ 2 → (n24 = 3 → ∃ s44, w20.cell? ⟨b1, 2, none⟩ = some (.string s44) ∧ Calls Tryd.prog 35 #[.slice p21 n22 c23, .string s44] w20 fun e45 w46 ↦
 ∃ p47 n48 c49, ∃ n50, e45 = .returned (.tuple #[.slice p47 n48 c49, .int .i64 n50]) ∧ R (.returned (.tuple #[.slice p47 n48 c49, .int .i64 n50])) w46) ∧ (n24 ≠ 3 → R (.returned (.tuple #[.slice p21 n22 c23, .int .i64 0])) w20))))

set_option maxRecDepth 100000 in
theorem vlay_eq (b_p : Option Addr) (b_n : Nat) (b_c : Nat) (v0 : Int) (v1 : Int) (v2 : ByteArray) (w : World) (R : Ending → World → Prop) : vlay_T b_p b_n b_c v0 v1 v2 w R = vcFn Tryd.prog [] [] Tryd.f48 [.slice b_p b_n b_c, .agg #[.int .i64 v0, .int .i64 v1, .string v2]] w R := by kernel_rfl

set_option maxRecDepth 100000 in
theorem vlay_vc (b_p : Option Addr) (b_n : Nat) (b_c : Nat) (v0 : Int) (v1 : Int) (v2 : ByteArray) (w : World) (R : Ending → World → Prop) (hvc : vlay_T b_p b_n b_c v0 v1 v2 w R) : Calls Tryd.prog 48 #[.slice b_p b_n b_c, .agg #[.int .i64 v0, .int .i64 v1, .string v2]] w R :=
  calls_of_vc (args := [.slice b_p b_n b_c, .agg #[.int .i64 v0, .int .i64 v1, .string v2]]) [] [] Tryd.mixed Tryd.func48 (cast (vlay_eq _ _ _ _ _ _ w R) hvc)

set_option maxRecDepth 100000 in
def vtake_T (b_p : Option Addr) (b_n : Nat) (b_c : Nat) (at_ : Int) (w : World) (R : Ending → World → Prop) : Prop :=
  ∀ b1 w'2, New w (Obj.cells #[.int .i64 0, .int .i64 0, .string ⟨#[]⟩] 65) b1 w'2 → (at_ < 0 ∨ (↑b_n : Int) ≤ at_ → (∃ u5, w'2.cell? ⟨b1, 0, none⟩ = some u5) ∧ w'2.frozen? ⟨b1, 0, none⟩ = false ∧ (∃ u6, w'2.cell? ⟨b1, 1, none⟩ = some u6) ∧ w'2.frozen? ⟨b1, 1, none⟩ = false ∧ (∃ u7, w'2.cell? ⟨b1, 2, none⟩ = some u7) ∧ w'2.frozen? ⟨b1, 2, none⟩ = false ∧ ∀ w'8, Put w'2 b1 0 [.int .i64 0, .int .i64 0, .string ⟨#[]⟩] w'8 → ∃ n10, w'8.cell? ⟨b1, 0, none⟩ = some (.int .i64 n10) ∧ ∃ n11, w'8.cell? ⟨b1, 1, none⟩ = some (.int .i64 n11) ∧ ∃ s12, w'8.cell? ⟨b1, 2, none⟩ = some (.string s12) ∧ R
 (.returned (.tuple #[.agg #[.int .i64 n10, .int .i64 n11, .string s12], .int .i64 0, .int .i64 20]))
 w'8) ∧ (0 ≤ at_ ∧ at_ < (↑b_n : Int) → ∃ b14, ∃ o15, b_p = some ⟨b14, o15, none⟩ ∧ 0 ≤ at_ ∧ at_ < (↑b_n : Int) ∧ ∃ n16, w'2.cell? ⟨b14, (o15 + at_.toNat), none⟩ = some (.int .u8 n16) ∧ ∀ b17 w'18, New w'2 (Obj.cells #[.int .i64 0, .int .i64 0, .string ⟨#[]⟩] 65) b17 w'18 → (∃ u20, w'18.cell? ⟨b17, 0, none⟩ = some u20) ∧ w'18.frozen? ⟨b17, 0, none⟩ = false ∧ (∃ u21, w'18.cell? ⟨b17, 1, none⟩ = some u21) ∧ w'18.frozen? ⟨b17, 1, none⟩ = false ∧ (∃ u22, w'18.cell? ⟨b17, 2, none⟩ = some u22) ∧ w'18.frozen? ⟨b17, 2, none⟩ = false ∧ ∀ w'23, Put w'18 b17 0 [.int .i64 (IntKind.i64.wrap n16), .int .i64 0, .string ⟨#[]⟩] w'23 → ∃ n25, w'23.cell? ⟨b17, 0, none⟩ = some (.int .i64 n25) ∧ (n25 = 0 → ((0 : Int) ≠ 0 → (∃ u28, w'23.cell? ⟨b1, 0, none⟩ = some u28) ∧ w'23.frozen? ⟨b1, 0, none⟩ = false ∧ (∃ u29, w'23.cell? ⟨b1, 1, none⟩ = some u29) ∧ w'23.frozen? ⟨b1, 1, none⟩ = false ∧ (∃ u30, w'23.cell? ⟨b1, 2, none⟩ = some u30) ∧ w'23.frozen? ⟨b1, 2, none⟩ = false ∧ ∀ w'31, Put w'23 b1 0 [.int .i64 0, .int .i64 0, .string ⟨#[]⟩] w'31 → ∃ n33, w'31.cell? ⟨b1, 0, none⟩ = some (.int .i64 n33) ∧ ∃ n34, w'31.cell? ⟨b1, 1, none⟩ = some (.int .i64 n34) ∧ ∃ s35, w'31.cell? ⟨b1, 2, none⟩ = some (.string s35) ∧ R
 (.returned (.tuple #[.agg #[.int .i64 n33, .int .i64 n34, .string s35], .int .i64 0, .int .i64 20]))
 w'31) ∧ ((0 : Int) = 0 → ∃ n37, w'23.cell? ⟨b17, 0, none⟩ = some (.int .i64 n37) ∧ ∃ n38, w'23.cell? ⟨b17, 1, none⟩ = some (.int .i64 n38) ∧ ∃ s39, w'23.cell? ⟨b17, 2, none⟩ = some (.string s39) ∧ Calls Tryd.prog 62 #[.agg #[.int .i64 n37, .int .i64 n38, .string s39]] w'23 fun e40 w41 ↦
 ∃ b42, e40 = .returned (.bool b42) ∧ (b42 = false → (∃ u44, w41.cell? ⟨b1, 0, none⟩ = some u44) ∧ w41.frozen? ⟨b1, 0, none⟩ = false ∧ (∃ u45, w41.cell? ⟨b1, 1, none⟩ = some u45) ∧ w41.frozen? ⟨b1, 1, none⟩ = false ∧ (∃ u46, w41.cell? ⟨b1, 2, none⟩ = some u46) ∧ w41.frozen? ⟨b1, 2, none⟩ = false ∧ ∀ w'47, Put w41 b1 0 [.int .i64 0, .int .i64 0, .string ⟨#[]⟩] w'47 → ∃ n49, w'47.cell? ⟨b1, 0, none⟩ = some (.int .i64 n49) ∧ ∃ n50, w'47.cell? ⟨b1, 1, none⟩ = some (.int .i64 n50) ∧ ∃ s51, w'47.cell? ⟨b1, 2, none⟩ = some (.string s51) ∧ R
 (.returned (.tuple #[.agg #[.int .i64 n49, .int .i64 n50, .string s51], .int .i64 0, .int .i64 20]))
 w'47) ∧ (b42 = true → ∃ n53, w41.cell? ⟨b17, 0, none⟩ = some (.int .i64 n53) ∧ ∃ n54, w41.cell? ⟨b17, 1, none⟩ = some (.int .i64 n54) ∧ ∃ s55, w41.cell? ⟨b17, 2, none⟩ = some (.string s55) ∧ (∃ u56, w41.cell? ⟨b1, 0, none⟩ = some u56) ∧ w41.frozen? ⟨b1, 0, none⟩ = false ∧ (∃ u57, w41.cell? ⟨b1, 1, none⟩ = some u57) ∧ w41.frozen? ⟨b1, 1, none⟩ = false ∧ (∃ u58, w41.cell? ⟨b1, 2, none⟩ = some u58) ∧ w41.frozen? ⟨b1, 2, none⟩ = false ∧ ∀ w'59, Put w41 b1 0 [.int .i64 n53, .int .i64 n54, .string s55] w'59 → ∃ n61, w'59.cell? ⟨b1, 0, none⟩ = some (.int .i64 n61) ∧ ∃ n62, w'59.cell? ⟨b1, 1, none⟩ = some (.int .i64 n62) ∧ ∃ s63, w'59.cell? ⟨b1, 2, none⟩ = some (.string s63) ∧ R
 (.returned
 (Value.tuple
 #[.agg #[.int .i64 n61, .int .i64 n62, .string s63], .int .i64 (IntKind.i64.wrap (at_ + 1)), .int .i64 0]))
 w'59))) ∧ (n25 ≠ 0 → (n25 = 1 → Calls Tryd.prog 75 #[.slice b_p b_n b_c, .int .i64 (IntKind.i64.wrap (at_ + 1))] w'23 fun e66 w67 ↦
 ∃ n68, ∃ n69, ∃ n70, e66 = .returned (.tuple #[.int .i64 n68, .int .i64 n69, .int .i64 n70]) ∧ (∃ u71, w67.cell? ⟨b17, 1, none⟩ = some u71) ∧ w67.frozen? ⟨b17, 1, none⟩ = false ∧ ∀ w'72, Put w67 b17 1 [.int .i64 n68] w'72 → (n70 ≠ 0 → (∃ u75, w'72.cell? ⟨b1, 0, none⟩ = some u75) ∧ w'72.frozen? ⟨b1, 0, none⟩ = false ∧ (∃ u76, w'72.cell? ⟨b1, 1, none⟩ = some u76) ∧ w'72.frozen? ⟨b1, 1, none⟩ = false ∧ (∃ u77, w'72.cell? ⟨b1, 2, none⟩ = some u77) ∧ w'72.frozen? ⟨b1, 2, none⟩ = false ∧ ∀ w'78, Put w'72 b1 0 [.int .i64 0, .int .i64 0, .string ⟨#[]⟩] w'78 → ∃ n80, w'78.cell? ⟨b1, 0, none⟩ = some (.int .i64 n80) ∧ ∃ n81, w'78.cell? ⟨b1, 1, none⟩ = some (.int .i64 n81) ∧ ∃ s82, w'78.cell? ⟨b1, 2, none⟩ = some (.string s82) ∧ R
 (.returned (.tuple #[.agg #[.int .i64 n80, .int .i64 n81, .string s82], .int .i64 0, .int .i64 20]))
 w'78) ∧ (n70 = 0 → ∃ n84, w'72.cell? ⟨b17, 0, none⟩ = some (.int .i64 n84) ∧ ∃ n85, w'72.cell? ⟨b17, 1, none⟩ = some (.int .i64 n85) ∧ ∃ s86, w'72.cell? ⟨b17, 2, none⟩ = some (.string s86) ∧ Calls Tryd.prog 62 #[.agg #[.int .i64 n84, .int .i64 n85, .string s86]] w'72 fun e87 w88 ↦
 ∃ b89, e87 = .returned (.bool b89) ∧ (b89 = false → (∃ u91, w88.cell? ⟨b1, 0, none⟩ = some u91) ∧ w88.frozen? ⟨b1, 0, none⟩ = false ∧ (∃ u92, w88.cell? ⟨b1, 1, none⟩ = some u92) ∧ w88.frozen? ⟨b1, 1, none⟩ = false ∧ (∃ u93, w88.cell? ⟨b1, 2, none⟩ = some u93) ∧ w88.frozen? ⟨b1, 2, none⟩ = false ∧ ∀ w'94, Put w88 b1 0 [.int .i64 0, .int .i64 0, .string ⟨#[]⟩] w'94 → ∃ n96, w'94.cell? ⟨b1, 0, none⟩ = some (.int .i64 n96) ∧ ∃ n97, w'94.cell? ⟨b1, 1, none⟩ = some (.int .i64 n97) ∧ ∃ s98, w'94.cell? ⟨b1, 2, none⟩ = some (.string s98) ∧ R
 (.returned (.tuple #[.agg #[.int .i64 n96, .int .i64 n97, .string s98], .int .i64 0, .int .i64 20]))
 w'94) ∧ (b89 = true → ∃ n100, w88.cell? ⟨b17, 0, none⟩ = some (.int .i64 n100) ∧ ∃ n101, w88.cell? ⟨b17, 1, none⟩ = some (.int .i64 n101) ∧ ∃ s102, w88.cell? ⟨b17, 2, none⟩ = some (.string s102) ∧ (∃ u103, w88.cell? ⟨b1, 0, none⟩ = some u103) ∧ w88.frozen? ⟨b1, 0, none⟩ = false ∧ (∃ u104, w88.cell? ⟨b1, 1, none⟩ = some u104) ∧ w88.frozen? ⟨b1, 1, none⟩ = false ∧ (∃ u105, w88.cell? ⟨b1, 2, none⟩ = some u105) ∧ w88.frozen? ⟨b1, 2, none⟩ = false ∧ ∀ w'106, Put w88 b1 0 [.int .i64 n100, .int .i64 n101, .string s102] w'106 → ∃ n108, w'106.cell? ⟨b1, 0, none⟩ = some (.int .i64 n108) ∧ ∃ n109, w'106.cell? ⟨b1, 1, none⟩ = some (.int .i64 n109) ∧ ∃ s110, w'106.cell? ⟨b1, 2, none⟩ = some (.string s110) ∧ R
 (.returned
 (.tuple #[.agg #[.int .i64 n108, .int .i64 n109, .string s110], .int .i64 n69, .int .i64 0]))
 w'106))) ∧ (n25 ≠ 1 → (n25 = 2 → Calls Tryd.prog 39 #[.slice b_p b_n b_c, .int .i64 (IntKind.i64.wrap (at_ + 1))] w'23 fun e113 w114 ↦
 ∃ n115, ∃ n116, ∃ n117, e113 = .returned (.tuple #[.int .u64 n115, .int .i64 n116, .int .i64 n117]) ∧ (∃ u118, w114.cell? ⟨b17, 1, none⟩ = some u118) ∧ w114.frozen? ⟨b17, 1, none⟩ = false ∧ ∀ w'119, Put w114 b17 1 [.int .i64 (IntKind.i64.wrap n115)] w'119 → (n117 ≠ 0 → (∃ u122, w'119.cell? ⟨b1, 0, none⟩ = some u122) ∧ w'119.frozen? ⟨b1, 0, none⟩ = false ∧ (∃ u123, w'119.cell? ⟨b1, 1, none⟩ = some u123) ∧ w'119.frozen? ⟨b1, 1, none⟩ = false ∧ (∃ u124, w'119.cell? ⟨b1, 2, none⟩ = some u124) ∧ w'119.frozen? ⟨b1, 2, none⟩ = false ∧ ∀ w'125, Put w'119 b1 0 [.int .i64 0, .int .i64 0, .string ⟨#[]⟩] w'125 → ∃ n127, w'125.cell? ⟨b1, 0, none⟩ = some (.int .i64 n127) ∧ ∃ n128, w'125.cell? ⟨b1, 1, none⟩ = some (.int .i64 n128) ∧ ∃ s129, w'125.cell? ⟨b1, 2, none⟩ = some (.string s129) ∧ R
 (.returned
 (.tuple #[.agg #[.int .i64 n127, .int .i64 n128, .string s129], .int .i64 0, .int .i64 20]))
 w'125) ∧ (n117 = 0 → ∃ n131, w'119.cell? ⟨b17, 0, none⟩ = some (.int .i64 n131) ∧ ∃ n132, w'119.cell? ⟨b17, 1, none⟩ = some (.int .i64 n132) ∧ ∃ s133, w'119.cell? ⟨b17, 2, none⟩ = some (.string s133) ∧ Calls Tryd.prog 62 #[.agg #[.int .i64 n131, .int .i64 n132, .string s133]] w'119 fun e134 w135 ↦
 ∃ b136, e134 = .returned (.bool b136) ∧ (b136 = false → (∃ u138, w135.cell? ⟨b1, 0, none⟩ = some u138) ∧ w135.frozen? ⟨b1, 0, none⟩ = false ∧ (∃ u139, w135.cell? ⟨b1, 1, none⟩ = some u139) ∧ w135.frozen? ⟨b1, 1, none⟩ = false ∧ (∃ u140, w135.cell? ⟨b1, 2, none⟩ = some u140) ∧ w135.frozen? ⟨b1, 2, none⟩ = false ∧ ∀ w'141, Put w135 b1 0 [.int .i64 0, .int .i64 0, .string ⟨#[]⟩] w'141 → ∃ n143, w'141.cell? ⟨b1, 0, none⟩ = some (.int .i64 n143) ∧ ∃ n144, w'141.cell? ⟨b1, 1, none⟩ = some (.int .i64 n144) ∧ ∃ s145, w'141.cell? ⟨b1, 2, none⟩ = some (.string s145) ∧ R
 (.returned
 (.tuple #[.agg #[.int .i64 n143, .int .i64 n144, .string s145], .int .i64 0, .int .i64 20]))
 w'141) ∧ (b136 = true → ∃ n147, w135.cell? ⟨b17, 0, none⟩ = some (.int .i64 n147) ∧ ∃ n148, w135.cell? ⟨b17, 1, none⟩ = some (.int .i64 n148) ∧ ∃ s149, w135.cell? ⟨b17, 2, none⟩ = some (.string s149) ∧ (∃ u150, w135.cell? ⟨b1, 0, none⟩ = some u150) ∧ w135.frozen? ⟨b1, 0, none⟩ = false ∧ (∃ u151, w135.cell? ⟨b1, 1, none⟩ = some u151) ∧ w135.frozen? ⟨b1, 1, none⟩ = false ∧ (∃ u152, w135.cell? ⟨b1, 2, none⟩ = some u152) ∧ w135.frozen? ⟨b1, 2, none⟩ = false ∧ ∀ w'153, Put w135 b1 0 [.int .i64 n147, .int .i64 n148, .string s149] w'153 → ∃ n155, w'153.cell? ⟨b1, 0, none⟩ = some (.int .i64 n155) ∧ ∃ n156, w'153.cell? ⟨b1, 1, none⟩ = some (.int .i64 n156) ∧ ∃ s157, w'153.cell? ⟨b1, 2, none⟩ = some (.string s157) ∧ R
 (.returned
 (.tuple #[.agg #[.int .i64 n155, .int .i64 n156, .string s157], .int .i64 n116, .int .i64 0]))
 w'153))) ∧ (n25 ≠ 2 → (n25 = 3 → Calls Tryd.prog 40 #[.slice b_p b_n b_c, .int .i64 (IntKind.i64.wrap (at_ + 1)), .int .i64 1024] w'23 fun e160 w161 ↦
 ∃ s162, ∃ n163, ∃ n164, e160 = .returned (.tuple #[.string s162, .int .i64 n163, .int .i64 n164]) ∧ (∃ u165, w161.cell? ⟨b17, 2, none⟩ = some u165) ∧ w161.frozen? ⟨b17, 2, none⟩ = false ∧ ∀ w'166, Put w161 b17 2 [.string s162] w'166 → (n164 ≠ 0 → (∃ u169, w'166.cell? ⟨b1, 0, none⟩ = some u169) ∧ w'166.frozen? ⟨b1, 0, none⟩ = false ∧ (∃ u170, w'166.cell? ⟨b1, 1, none⟩ = some u170) ∧ w'166.frozen? ⟨b1, 1, none⟩ = false ∧ (∃ u171, w'166.cell? ⟨b1, 2, none⟩ = some u171) ∧ w'166.frozen? ⟨b1, 2, none⟩ = false ∧ ∀ w'172, Put w'166 b1 0 [.int .i64 0, .int .i64 0, .string ⟨#[]⟩] w'172 → ∃ n174, w'172.cell? ⟨b1, 0, none⟩ = some (.int .i64 n174) ∧ ∃ n175, w'172.cell? ⟨b1, 1, none⟩ = some (.int .i64 n175) ∧ ∃ s176, w'172.cell? ⟨b1, 2, none⟩ = some (.string s176) ∧ R
 (.returned
 (.tuple #[.agg #[.int .i64 n174, .int .i64 n175, .string s176], .int .i64 0, .int .i64 20]))
 w'172) ∧ (n164 = 0 → ∃ n178, w'166.cell? ⟨b17, 0, none⟩ = some (.int .i64 n178) ∧ ∃ n179, w'166.cell? ⟨b17, 1, none⟩ = some (.int .i64 n179) ∧ ∃ s180, w'166.cell? ⟨b17, 2, none⟩ = some (.string s180) ∧ Calls Tryd.prog 62 #[.agg #[.int .i64 n178, .int .i64 n179, .string s180]] w'166 fun e181 w182 ↦
 ∃ b183, e181 = .returned (.bool b183) ∧ (b183 = false → (∃ u185, w182.cell? ⟨b1, 0, none⟩ = some u185) ∧ w182.frozen? ⟨b1, 0, none⟩ = false ∧ (∃ u186, w182.cell? ⟨b1, 1, none⟩ = some u186) ∧ w182.frozen? ⟨b1, 1, none⟩ = false ∧ (∃ u187, w182.cell? ⟨b1, 2, none⟩ = some u187) ∧ w182.frozen? ⟨b1, 2, none⟩ = false ∧ ∀ w'188, Put w182 b1 0 [.int .i64 0, .int .i64 0, .string ⟨#[]⟩] w'188 → ∃ n190, w'188.cell? ⟨b1, 0, none⟩ = some (.int .i64 n190) ∧ ∃ n191, w'188.cell? ⟨b1, 1, none⟩ = some (.int .i64 n191) ∧ ∃ s192, w'188.cell? ⟨b1, 2, none⟩ = some (.string s192) ∧ R
 (.returned
 (.tuple #[.agg #[.int .i64 n190, .int .i64 n191, .string s192], .int .i64 0, .int .i64 20]))
 w'188) ∧ (b183 = true → ∃ n194, w182.cell? ⟨b17, 0, none⟩ = some (.int .i64 n194) ∧ ∃ n195, w182.cell? ⟨b17, 1, none⟩ = some (.int .i64 n195) ∧ ∃ s196, w182.cell? ⟨b17, 2, none⟩ = some (.string s196) ∧ (∃ u197, w182.cell? ⟨b1, 0, none⟩ = some u197) ∧ w182.frozen? ⟨b1, 0, none⟩ = false ∧ (∃ u198, w182.cell? ⟨b1, 1, none⟩ = some u198) ∧ w182.frozen? ⟨b1, 1, none⟩ = false ∧ (∃ u199, w182.cell? ⟨b1, 2, none⟩ = some u199) ∧ w182.frozen? ⟨b1, 2, none⟩ = false ∧ ∀ w'200, Put w182 b1 0 [.int .i64 n194, .int .i64 n195, .string s196] w'200 → ∃ n202, w'200.cell? ⟨b1, 0, none⟩ = some (.int .i64 n202) ∧ ∃ n203, w'200.cell? ⟨b1, 1, none⟩ = some (.int .i64 n203) ∧ ∃ s204, w'200.cell? ⟨b1, 2, none⟩ = some (.string s204) ∧ R
 (.returned
 (.tuple #[.agg #[.int .i64 n202, .int .i64 n203, .string s204], .int .i64 n163, .int .i64 0]))
 w'200))) ∧ (n25 ≠ 3 → ((0 : Int) ≠ 0 → (∃ u207, w'23.cell? ⟨b1, 0, none⟩ = some u207) ∧ w'23.frozen? ⟨b1, 0, none⟩ = false ∧ (∃ u208, w'23.cell? ⟨b1, 1, none⟩ = some u208) ∧ w'23.frozen? ⟨b1, 1, none⟩ = false ∧ (∃ u209, w'23.cell? ⟨b1, 2, none⟩ = some u209) ∧ w'23.frozen? ⟨b1, 2, none⟩ = false ∧ ∀ w'210, Put w'23 b1 0 [.int .i64 0, .int .i64 0, .string ⟨#[]⟩] w'210 → ∃ n212, w'210.cell? ⟨b1, 0, none⟩ = some (.int .i64 n212) ∧ ∃ n213, w'210.cell? ⟨b1, 1, none⟩ = some (.int .i64 n213) ∧ ∃ s214, w'210.cell? ⟨b1, 2, none⟩ = some (.string s214) ∧ R
 (.returned
 (.tuple #[.agg #[.int .i64 n212, .int .i64 n213, .string s214], .int .i64 0, .int .i64 20]))
 w'210) ∧ ((0 : Int) = 0 → ∃ n216, w'23.cell? ⟨b17, 0, none⟩ = some (.int .i64 n216) ∧ ∃ n217, w'23.cell? ⟨b17, 1, none⟩ = some (.int .i64 n217) ∧ ∃ s218, w'23.cell? ⟨b17, 2, none⟩ = some (.string s218) ∧ Calls Tryd.prog 62 #[.agg #[.int .i64 n216, .int .i64 n217, .string s218]] w'23 fun e219 w220 ↦
 ∃ b221, e219 = .returned (.bool b221) ∧ (b221 = false → (∃ u223, w220.cell? ⟨b1, 0, none⟩ = some u223) ∧ w220.frozen? ⟨b1, 0, none⟩ = false ∧ (∃ u224, w220.cell? ⟨b1, 1, none⟩ = some u224) ∧ w220.frozen? ⟨b1, 1, none⟩ = false ∧ (∃ u225, w220.cell? ⟨b1, 2, none⟩ = some u225) ∧ w220.frozen? ⟨b1, 2, none⟩ = false ∧ ∀ w'226, Put w220 b1 0 [.int .i64 0, .int .i64 0, .string ⟨#[]⟩] w'226 → ∃ n228, w'226.cell? ⟨b1, 0, none⟩ = some (.int .i64 n228) ∧ ∃ n229, w'226.cell? ⟨b1, 1, none⟩ = some (.int .i64 n229) ∧ ∃ s230, w'226.cell? ⟨b1, 2, none⟩ = some (.string s230) ∧ R
 (.returned
 (.tuple #[.agg #[.int .i64 n228, .int .i64 n229, .string s230], .int .i64 0, .int .i64 20]))
 w'226) ∧ (b221 = true → ∃ n232, w220.cell? ⟨b17, 0, none⟩ = some (.int .i64 n232) ∧ ∃ n233, w220.cell? ⟨b17, 1, none⟩ = some (.int .i64 n233) ∧ ∃ s234, w220.cell? ⟨b17, 2, none⟩ = some (.string s234) ∧ (∃ u235, w220.cell? ⟨b1, 0, none⟩ = some u235) ∧ w220.frozen? ⟨b1, 0, none⟩ = false ∧ (∃ u236, w220.cell? ⟨b1, 1, none⟩ = some u236) ∧ w220.frozen? ⟨b1, 1, none⟩ = false ∧ (∃ u237, w220.cell? ⟨b1, 2, none⟩ = some u237) ∧ w220.frozen? ⟨b1, 2, none⟩ = false ∧ ∀ w'238, Put w220 b1 0 [.int .i64 n232, .int .i64 n233, .string s234] w'238 → ∃ n240, w'238.cell? ⟨b1, 0, none⟩ = some (.int .i64 n240) ∧ ∃ n241, w'238.cell? ⟨b1, 1, none⟩ = some (.int .i64 n241) ∧ ∃ s242, w'238.cell? ⟨b1, 2, none⟩ = some (.string s242) ∧ R
 (.returned
 (Value.tuple
 #[.agg #[.int .i64 n240, .int .i64 n241, .string s242], .int .i64 (IntKind.i64.wrap (at_ + 1)), .int .i64 0]))
 w'238)))))))

set_option maxRecDepth 100000 in
theorem vtake_eq (b_p : Option Addr) (b_n : Nat) (b_c : Nat) (at_ : Int) (w : World) (R : Ending → World → Prop) : vtake_T b_p b_n b_c at_ w R = vcFn Tryd.prog [] [] Tryd.f51 [.slice b_p b_n b_c, .int .i64 at_] w R := by kernel_rfl

set_option maxRecDepth 100000 in
theorem vtake_vc (b_p : Option Addr) (b_n : Nat) (b_c : Nat) (at_ : Int) (w : World) (R : Ending → World → Prop) (hvc : vtake_T b_p b_n b_c at_ w R) : Calls Tryd.prog 51 #[.slice b_p b_n b_c, .int .i64 at_] w R :=
  calls_of_vc (args := [.slice b_p b_n b_c, .int .i64 at_]) [] [] Tryd.mixed Tryd.func51 (cast (vtake_eq _ _ _ _ w R) hvc)

set_option maxRecDepth 100000 in
def rvlay_T (b_p : Option Addr) (b_n : Nat) (b_c : Nat) (v0 : Int) (v1 : Int) (v2 : ByteArray) (w : World) (R : Ending → World → Prop) : Prop :=
  ∀ b1 w'2, New w (Obj.cells #[.int .i64 v0, .int .i64 v1, .string v2] 65) b1 w'2 → ∃ n4, w'2.cell? ⟨b1, 0, none⟩ = some (.int .i64 n4) ∧ ∃ n5, w'2.cell? ⟨b1, 1, none⟩ = some (.int .i64 n5) ∧ ∃ s6, w'2.cell? ⟨b1, 2, none⟩ = some (.string s6) ∧ Calls Tryd.prog 43 #[.agg #[.int .i64 n4, .int .i64 n5, .string s6]] w'2 fun e7 w8 ↦
 ∃ b9, e7 = .returned (.bool b9) ∧ (b9 = false → R (.returned (.tuple #[.slice none 0 0, .int .i64 2])) w8) ∧ (b9 = true → ∀ w'12, Drew w8 w'12 → ∃ n14, w'12.cell? ⟨b1, 0, none⟩ = some (.int .i64 n14) ∧ ((0 : Int) ≤ 0 ∧ 0 ≤ IntKind.i64.wrap ((↑b_n : Int) + 1) ∧ 1 * IntKind.i64.wrap ((↑b_n : Int) + 1) ≤ 281474976710656 ∧ IntKind.i64.wrap ((↑b_n : Int) + 1) ≤ 9223372036854775807 ∧ ∀ b15 w'16, New w'12 (Obj.cells (madeCells #[.int .u8 0] (IntKind.i64.wrap ((↑b_n : Int) + 1)).toNat) 5) b15 w'16 → SameTo none w'12 w'12 w'16 ∧ (∃ p18 n19 c20, ∃ (w'21 : World), Sem.run Tryd.prog (Builtin.append_ #[28, 28] 28 #[.slice (some ⟨b15, 0, none⟩) 0 (IntKind.i64.wrap ((↑b_n : Int) + 1)).toNat, .slice b_p b_n b_c]) w'16 =
 Result.ok (.slice p18 n19 c20) w'21 ∧ SameTo none w'12 w'16 w'21 ∧ ∀ b22 w'23, New w'21 (Obj.cells #[.int .u8 (IntKind.u8.wrap n14)] 5) b22 w'23 → ∃ p25 n26 c27, ∃ (w'28 : World), Sem.run Tryd.prog (Builtin.append_ #[28, 28] 28 #[.slice p18 n19 c20, .slice (some ⟨b22, 0, none⟩) 1 1]) w'23 = Result.ok (.slice p25 n26 c27) w'28 ∧ ∃ n29, w'28.cell? ⟨b1, 0, none⟩ = some (.int .i64 n29) ∧ (n29 = 1 → ∃ n31, w'28.cell? ⟨b1, 1, none⟩ = some (.int .i64 n31) ∧ Calls Tryd.prog 74 #[.slice p25 n26 c27, .int .i64 n31] w'28 fun e32 w33 ↦
 ∃ p34 n35 c36, e32 = .returned (.slice p34 n35 c36) ∧ R (.returned (.tuple #[.slice p34 n35 c36, .int .i64 0])) w33) ∧ (n29 ≠ 1 → (n29 = 2 → ∃ n39, w'28.cell? ⟨b1, 1, none⟩ = some (.int .i64 n39) ∧ ∀ b40 w'41, New w'28 (Obj.cells #[.int .u8 (IntKind.u8.wrap n39)] 5) b40 w'41 → ∃ p43 n44 c45, ∃ (w'46 : World), Sem.run Tryd.prog (Builtin.append_ #[28, 28] 28 #[.slice p25 n26 c27, .slice (some ⟨b40, 0, none⟩) 1 1]) w'41 = Result.ok (.slice p43 n44 c45) w'46 ∧ R (.returned (.tuple #[.slice p43 n44 c45, .int .i64 0])) w'46) ∧ (n29 ≠ 2 → (n29 = 3 → ∃ s49, w'28.cell? ⟨b1, 2, none⟩ = some (.string s49) ∧ Calls Tryd.prog 38 #[.slice p25 n26 c27, .string s49] w'28 fun e50 w51 ↦
 ∃ p52 n53 c54, ∃ n55, e50 = .returned (.tuple #[.slice p52 n53 c54, .int .i64 n55]) ∧ R (.returned (.tuple #[.slice p52 n53 c54, .int .i64 n55])) w51) ∧ (n29 ≠ 3 → R (.returned (.tuple #[.slice p25 n26 c27, .int .i64 0])) w'28)))) ∧ ∀ b57 w'58, New w'16 (Obj.cells #[.int .u8 (IntKind.u8.wrap n14)] 5) b57 w'58 → ∃ p60 n61 c62, ∃ (w'63 : World), Sem.run Tryd.prog (Builtin.append_ #[28, 28] 28 #[.slice (some ⟨b15, 0, none⟩) 0 (IntKind.i64.wrap ((↑b_n : Int) + 1)).toNat, .slice b_p b_n b_c]) w'58 =
 Result.ok (.slice p60 n61 c62) w'63 ∧ SameTo none w'12 w'58 w'63 ∧ ∃ p64 n65 c66, ∃ (w'67 : World), Sem.run Tryd.prog (Builtin.append_ #[28, 28] 28 #[.slice p60 n61 c62, .slice (some ⟨b57, 0, none⟩) 1 1]) w'63 = Result.ok (.slice p64 n65 c66) w'67 ∧ ∃ n68, w'67.cell? ⟨b1, 0, none⟩ = some (.int .i64 n68) ∧ (n68 = 1 → ∃ n70, w'67.cell? ⟨b1, 1, none⟩ = some (.int .i64 n70) ∧ Calls Tryd.prog 74 #[.slice p64 n65 c66, .int .i64 n70] w'67 fun e71 w72 ↦
 ∃ p73 n74 c75, e71 = .returned (.slice p73 n74 c75) ∧ R (.returned (.tuple #[.slice p73 n74 c75, .int .i64 0])) w72) ∧ (n68 ≠ 1 → (n68 = 2 → ∃ n78, w'67.cell? ⟨b1, 1, none⟩ = some (.int .i64 n78) ∧ ∀ b79 w'80, New w'67 (Obj.cells #[.int .u8 (IntKind.u8.wrap n78)] 5) b79 w'80 → ∃ p82 n83 c84, ∃ (w'85 : World), Sem.run Tryd.prog (Builtin.append_ #[28, 28] 28 #[.slice p64 n65 c66, .slice (some ⟨b79, 0, none⟩) 1 1]) w'80 = Result.ok (.slice p82 n83 c84) w'85 ∧ R (.returned (.tuple #[.slice p82 n83 c84, .int .i64 0])) w'85) ∧ (n68 ≠ 2 → (n68 = 3 → ∃ s88, w'67.cell? ⟨b1, 2, none⟩ = some (.string s88) ∧ Calls Tryd.prog 38 #[.slice p64 n65 c66, .string s88] w'67 fun e89 w90 ↦
 ∃ p91 n92 c93, ∃ n94, e89 = .returned (.tuple #[.slice p91 n92 c93, .int .i64 n94]) ∧ R (.returned (.tuple #[.slice p91 n92 c93, .int .i64 n94])) w90) ∧ (n68 ≠ 3 → R (.returned (.tuple #[.slice p64 n65 c66, .int .i64 0])) w'67)))) ∧ ∀ b96 w'97, New w'12 (Obj.cells #[.int .u8 (IntKind.u8.wrap n14)] 5) b96 w'97 → (0 : Int) ≤ 0 ∧ 0 ≤ IntKind.i64.wrap ((↑b_n : Int) + 1) ∧ 1 * IntKind.i64.wrap ((↑b_n : Int) + 1) ≤ 281474976710656 ∧ IntKind.i64.wrap ((↑b_n : Int) + 1) ≤ 9223372036854775807 ∧ ∀ b99 w'100, New w'97 (Obj.cells (madeCells #[.int .u8 0] (IntKind.i64.wrap ((↑b_n : Int) + 1)).toNat) 5) b99 w'100 → SameTo none w'12 w'97 w'100 ∧ ∃ p102 n103 c104, ∃ (w'105 : World), Sem.run Tryd.prog (Builtin.append_ #[28, 28] 28 #[.slice (some ⟨b99, 0, none⟩) 0 (IntKind.i64.wrap ((↑b_n : Int) + 1)).toNat, .slice b_p b_n b_c]) w'100 =
 Result.ok (.slice p102 n103 c104) w'105 ∧ SameTo none w'12 w'100 w'105 ∧ ∃ p106 n107 c108, ∃ (w'109 : World), Sem.run Tryd.prog (Builtin.append_ #[28, 28] 28 #[.slice p102 n103 c104, .slice (some ⟨b96, 0, none⟩) 1 1]) w'105 =
 Result.ok (.slice p106 n107 c108) w'109 ∧ ∃ n110, w'109.cell? ⟨b1, 0, none⟩ = some (.int .i64 n110) ∧ (n110 = 1 → ∃ n112, w'109.cell? ⟨b1, 1, none⟩ = some (.int .i64 n112) ∧ Calls Tryd.prog 74 #[.slice p106 n107 c108, .int .i64 n112] w'109 fun e113 w114 ↦
 ∃ p115 n116 c117, e113 = .returned (.slice p115 n116 c117) ∧ R (.returned (.tuple #[.slice p115 n116 c117, .int .i64 0])) w114) ∧ (n110 ≠ 1 → (n110 = 2 → ∃ n120, w'109.cell? ⟨b1, 1, none⟩ = some (.int .i64 n120) ∧ ∀ b121 w'122, New w'109 (Obj.cells #[.int .u8 (IntKind.u8.wrap n120)] 5) b121 w'122 → ∃ p124 n125 c126, ∃ (w'127 : World), Sem.run Tryd.prog (Builtin.append_ #[28, 28] 28 #[.slice p106 n107 c108, .slice (some ⟨b121, 0, none⟩) 1 1]) w'122 =
 Result.ok (.slice p124 n125 c126) w'127 ∧ R (.returned (.tuple #[.slice p124 n125 c126, .int .i64 0])) w'127) ∧ (n110 ≠ 2 → (n110 = 3 → ∃ s130, w'109.cell? ⟨b1, 2, none⟩ = some (.string s130) ∧ Calls Tryd.prog 38 #[.slice p106 n107 c108, .string s130] w'109 fun e131 w132 ↦
 ∃ p133 n134 c135, ∃ n136, e131 = .returned (.tuple #[.slice p133 n134 c135, .int .i64 n136]) ∧ R (.returned (.tuple #[.slice p133 n134 c135, .int .i64 n136])) w132) ∧ (n110 ≠ 3 → R (.returned (.tuple #[.slice p106 n107 c108, .int .i64 0])) w'109))))

set_option maxRecDepth 100000 in
theorem rvlay_eq (b_p : Option Addr) (b_n : Nat) (b_c : Nat) (v0 : Int) (v1 : Int) (v2 : ByteArray) (w : World) (R : Ending → World → Prop) : rvlay_T b_p b_n b_c v0 v1 v2 w R = vcFn Tryd.prog [] [(4, [2, 4, 6, 10, 14, 16, 18, 1, 9, 1, 13, 20, 22, 24, 0, 20, 13, 22, 24, 0, 20, 9, 13, 22, 24, 0])] Tryd.f50 [.slice b_p b_n b_c, .agg #[.int .i64 v0, .int .i64 v1, .string v2]] w R := by kernel_rfl

set_option maxRecDepth 100000 in
theorem rvlay_vc (b_p : Option Addr) (b_n : Nat) (b_c : Nat) (v0 : Int) (v1 : Int) (v2 : ByteArray) (w : World) (R : Ending → World → Prop) (hvc : rvlay_T b_p b_n b_c v0 v1 v2 w R) : Calls Tryd.prog 50 #[.slice b_p b_n b_c, .agg #[.int .i64 v0, .int .i64 v1, .string v2]] w R :=
  calls_of_vc (args := [.slice b_p b_n b_c, .agg #[.int .i64 v0, .int .i64 v1, .string v2]]) [] [(4, [2, 4, 6, 10, 14, 16, 18, 1, 9, 1, 13, 20, 22, 24, 0, 20, 13, 22, 24, 0, 20, 9, 13, 22, 24, 0])] Tryd.mixed Tryd.func50 (cast (rvlay_eq _ _ _ _ _ _ w R) hvc)

set_option maxRecDepth 100000 in
def rvtake_T (b_p : Option Addr) (b_n : Nat) (b_c : Nat) (at_ : Int) (w : World) (R : Ending → World → Prop) : Prop :=
  ∀ b1 w'2, New w (Obj.cells #[.int .i64 0, .int .i64 0, .string ⟨#[]⟩] 65) b1 w'2 → (at_ < 0 ∨ (↑b_n : Int) ≤ at_ → (∃ u5, w'2.cell? ⟨b1, 0, none⟩ = some u5) ∧ w'2.frozen? ⟨b1, 0, none⟩ = false ∧ (∃ u6, w'2.cell? ⟨b1, 1, none⟩ = some u6) ∧ w'2.frozen? ⟨b1, 1, none⟩ = false ∧ (∃ u7, w'2.cell? ⟨b1, 2, none⟩ = some u7) ∧ w'2.frozen? ⟨b1, 2, none⟩ = false ∧ ∀ w'8, Put w'2 b1 0 [.int .i64 0, .int .i64 0, .string ⟨#[]⟩] w'8 → ∃ n10, w'8.cell? ⟨b1, 0, none⟩ = some (.int .i64 n10) ∧ ∃ n11, w'8.cell? ⟨b1, 1, none⟩ = some (.int .i64 n11) ∧ ∃ s12, w'8.cell? ⟨b1, 2, none⟩ = some (.string s12) ∧ R
 (.returned (.tuple #[.agg #[.int .i64 n10, .int .i64 n11, .string s12], .int .i64 0, .int .i64 20]))
 w'8) ∧ (0 ≤ at_ ∧ at_ < (↑b_n : Int) → ∃ b14, ∃ o15, b_p = some ⟨b14, o15, none⟩ ∧ 0 ≤ at_ ∧ at_ < (↑b_n : Int) ∧ ∃ n16, w'2.cell? ⟨b14, (o15 + at_.toNat), none⟩ = some (.int .u8 n16) ∧ ∀ b17 w'18, New w'2 (Obj.cells #[.int .i64 0, .int .i64 0, .string ⟨#[]⟩] 65) b17 w'18 → (∃ u20, w'18.cell? ⟨b17, 0, none⟩ = some u20) ∧ w'18.frozen? ⟨b17, 0, none⟩ = false ∧ (∃ u21, w'18.cell? ⟨b17, 1, none⟩ = some u21) ∧ w'18.frozen? ⟨b17, 1, none⟩ = false ∧ (∃ u22, w'18.cell? ⟨b17, 2, none⟩ = some u22) ∧ w'18.frozen? ⟨b17, 2, none⟩ = false ∧ ∀ w'23, Put w'18 b17 0 [.int .i64 (IntKind.i64.wrap n16), .int .i64 0, .string ⟨#[]⟩] w'23 → ∃ n25, w'23.cell? ⟨b17, 0, none⟩ = some (.int .i64 n25) ∧ (n25 = 0 → ((0 : Int) ≠ 0 → (∃ u28, w'23.cell? ⟨b1, 0, none⟩ = some u28) ∧ w'23.frozen? ⟨b1, 0, none⟩ = false ∧ (∃ u29, w'23.cell? ⟨b1, 1, none⟩ = some u29) ∧ w'23.frozen? ⟨b1, 1, none⟩ = false ∧ (∃ u30, w'23.cell? ⟨b1, 2, none⟩ = some u30) ∧ w'23.frozen? ⟨b1, 2, none⟩ = false ∧ ∀ w'31, Put w'23 b1 0 [.int .i64 0, .int .i64 0, .string ⟨#[]⟩] w'31 → ∃ n33, w'31.cell? ⟨b1, 0, none⟩ = some (.int .i64 n33) ∧ ∃ n34, w'31.cell? ⟨b1, 1, none⟩ = some (.int .i64 n34) ∧ ∃ s35, w'31.cell? ⟨b1, 2, none⟩ = some (.string s35) ∧ R (.returned (.tuple #[.agg #[.int .i64 n33, .int .i64 n34, .string s35], .int .i64 0, .int .i64 0]))
 w'31) ∧ ((0 : Int) = 0 → ∃ n37, w'23.cell? ⟨b17, 0, none⟩ = some (.int .i64 n37) ∧ ∃ n38, w'23.cell? ⟨b17, 1, none⟩ = some (.int .i64 n38) ∧ ∃ s39, w'23.cell? ⟨b17, 2, none⟩ = some (.string s39) ∧ (∃ u40, w'23.cell? ⟨b1, 0, none⟩ = some u40) ∧ w'23.frozen? ⟨b1, 0, none⟩ = false ∧ (∃ u41, w'23.cell? ⟨b1, 1, none⟩ = some u41) ∧ w'23.frozen? ⟨b1, 1, none⟩ = false ∧ (∃ u42, w'23.cell? ⟨b1, 2, none⟩ = some u42) ∧ w'23.frozen? ⟨b1, 2, none⟩ = false ∧ ∀ w'43, Put w'23 b1 0 [.int .i64 n37, .int .i64 n38, .string s39] w'43 → ∃ n45, w'43.cell? ⟨b1, 0, none⟩ = some (.int .i64 n45) ∧ ∃ n46, w'43.cell? ⟨b1, 1, none⟩ = some (.int .i64 n46) ∧ ∃ s47, w'43.cell? ⟨b1, 2, none⟩ = some (.string s47) ∧ R
 (.returned
 (Value.tuple
 #[.agg #[.int .i64 n45, .int .i64 n46, .string s47], .int .i64 (IntKind.i64.wrap (at_ + 1)), .int .i64 0]))
 w'43)) ∧ (n25 ≠ 0 → (n25 = 1 → Calls Tryd.prog 76 #[.slice b_p b_n b_c, .int .i64 (IntKind.i64.wrap (at_ + 1))] w'23 fun e50 w51 ↦
 ∃ n52, ∃ n53, ∃ n54, e50 = .returned (.tuple #[.int .i64 n52, .int .i64 n53, .int .i64 n54]) ∧ (∃ u55, w51.cell? ⟨b17, 1, none⟩ = some u55) ∧ w51.frozen? ⟨b17, 1, none⟩ = false ∧ ∀ w'56, Put w51 b17 1 [.int .i64 n52] w'56 → (n54 ≠ 0 → (∃ u59, w'56.cell? ⟨b1, 0, none⟩ = some u59) ∧ w'56.frozen? ⟨b1, 0, none⟩ = false ∧ (∃ u60, w'56.cell? ⟨b1, 1, none⟩ = some u60) ∧ w'56.frozen? ⟨b1, 1, none⟩ = false ∧ (∃ u61, w'56.cell? ⟨b1, 2, none⟩ = some u61) ∧ w'56.frozen? ⟨b1, 2, none⟩ = false ∧ ∀ w'62, Put w'56 b1 0 [.int .i64 0, .int .i64 0, .string ⟨#[]⟩] w'62 → ∃ n64, w'62.cell? ⟨b1, 0, none⟩ = some (.int .i64 n64) ∧ ∃ n65, w'62.cell? ⟨b1, 1, none⟩ = some (.int .i64 n65) ∧ ∃ s66, w'62.cell? ⟨b1, 2, none⟩ = some (.string s66) ∧ R
 (.returned (.tuple #[.agg #[.int .i64 n64, .int .i64 n65, .string s66], .int .i64 0, .int .i64 n54]))
 w'62) ∧ (n54 = 0 → ∃ n68, w'56.cell? ⟨b17, 0, none⟩ = some (.int .i64 n68) ∧ ∃ n69, w'56.cell? ⟨b17, 1, none⟩ = some (.int .i64 n69) ∧ ∃ s70, w'56.cell? ⟨b17, 2, none⟩ = some (.string s70) ∧ (∃ u71, w'56.cell? ⟨b1, 0, none⟩ = some u71) ∧ w'56.frozen? ⟨b1, 0, none⟩ = false ∧ (∃ u72, w'56.cell? ⟨b1, 1, none⟩ = some u72) ∧ w'56.frozen? ⟨b1, 1, none⟩ = false ∧ (∃ u73, w'56.cell? ⟨b1, 2, none⟩ = some u73) ∧ w'56.frozen? ⟨b1, 2, none⟩ = false ∧ ∀ w'74, Put w'56 b1 0 [.int .i64 n68, .int .i64 n69, .string s70] w'74 → ∃ n76, w'74.cell? ⟨b1, 0, none⟩ = some (.int .i64 n76) ∧ ∃ n77, w'74.cell? ⟨b1, 1, none⟩ = some (.int .i64 n77) ∧ ∃ s78, w'74.cell? ⟨b1, 2, none⟩ = some (.string s78) ∧ R
 (.returned (.tuple #[.agg #[.int .i64 n76, .int .i64 n77, .string s78], .int .i64 n53, .int .i64 0]))
 w'74)) ∧ (n25 ≠ 1 → (n25 = 2 → ((↑b_n : Int) ≤ IntKind.i64.wrap (at_ + 1) → (∃ u82, w'23.cell? ⟨b1, 0, none⟩ = some u82) ∧ w'23.frozen? ⟨b1, 0, none⟩ = false ∧ (∃ u83, w'23.cell? ⟨b1, 1, none⟩ = some u83) ∧ w'23.frozen? ⟨b1, 1, none⟩ = false ∧ (∃ u84, w'23.cell? ⟨b1, 2, none⟩ = some u84) ∧ w'23.frozen? ⟨b1, 2, none⟩ = false ∧ ∀ w'85, Put w'23 b1 0 [.int .i64 0, .int .i64 0, .string ⟨#[]⟩] w'85 → ∃ n87, w'85.cell? ⟨b1, 0, none⟩ = some (.int .i64 n87) ∧ ∃ n88, w'85.cell? ⟨b1, 1, none⟩ = some (.int .i64 n88) ∧ ∃ s89, w'85.cell? ⟨b1, 2, none⟩ = some (.string s89) ∧ R
 (.returned (.tuple #[.agg #[.int .i64 n87, .int .i64 n88, .string s89], .int .i64 0, .int .i64 20]))
 w'85) ∧ (IntKind.i64.wrap (at_ + 1) < (↑b_n : Int) → ∃ b91, ∃ o92, b_p = some ⟨b91, o92, none⟩ ∧ 0 ≤ IntKind.i64.wrap (at_ + 1) ∧ IntKind.i64.wrap (at_ + 1) < (↑b_n : Int) ∧ ∃ n93, w'23.cell? ⟨b91, (o92 + (IntKind.i64.wrap (at_ + 1)).toNat), none⟩ = some (.int .u8 n93) ∧ (1 < n93 → (∃ u95, w'23.cell? ⟨b1, 0, none⟩ = some u95) ∧ w'23.frozen? ⟨b1, 0, none⟩ = false ∧ (∃ u96, w'23.cell? ⟨b1, 1, none⟩ = some u96) ∧ w'23.frozen? ⟨b1, 1, none⟩ = false ∧ (∃ u97, w'23.cell? ⟨b1, 2, none⟩ = some u97) ∧ w'23.frozen? ⟨b1, 2, none⟩ = false ∧ ∀ w'98, Put w'23 b1 0 [.int .i64 0, .int .i64 0, .string ⟨#[]⟩] w'98 → ∃ n100, w'98.cell? ⟨b1, 0, none⟩ = some (.int .i64 n100) ∧ ∃ n101, w'98.cell? ⟨b1, 1, none⟩ = some (.int .i64 n101) ∧ ∃ s102, w'98.cell? ⟨b1, 2, none⟩ = some (.string s102) ∧ R
 (.returned
 (.tuple #[.agg #[.int .i64 n100, .int .i64 n101, .string s102], .int .i64 0, .int .i64 20]))
 w'98) ∧ (n93 ≤ 1 → ∃ b104, ∃ o105, b_p = some ⟨b104, o105, none⟩ ∧ 0 ≤ IntKind.i64.wrap (at_ + 1) ∧ IntKind.i64.wrap (at_ + 1) < (↑b_n : Int) ∧ ∃ n106, w'23.cell? ⟨b104, (o105 + (IntKind.i64.wrap (at_ + 1)).toNat), none⟩ = some (.int .u8 n106) ∧ (∃ u107, w'23.cell? ⟨b17, 1, none⟩ = some u107) ∧ w'23.frozen? ⟨b17, 1, none⟩ = false ∧ ∀ w'108, Put w'23 b17 1 [.int .i64 (IntKind.i64.wrap n106)] w'108 → ((0 : Int) ≠ 0 → (∃ u111, w'108.cell? ⟨b1, 0, none⟩ = some u111) ∧ w'108.frozen? ⟨b1, 0, none⟩ = false ∧ (∃ u112, w'108.cell? ⟨b1, 1, none⟩ = some u112) ∧ w'108.frozen? ⟨b1, 1, none⟩ = false ∧ (∃ u113, w'108.cell? ⟨b1, 2, none⟩ = some u113) ∧ w'108.frozen? ⟨b1, 2, none⟩ = false ∧ ∀ w'114, Put w'108 b1 0 [.int .i64 0, .int .i64 0, .string ⟨#[]⟩] w'114 → ∃ n116, w'114.cell? ⟨b1, 0, none⟩ = some (.int .i64 n116) ∧ ∃ n117, w'114.cell? ⟨b1, 1, none⟩ = some (.int .i64 n117) ∧ ∃ s118, w'114.cell? ⟨b1, 2, none⟩ = some (.string s118) ∧ R
 (.returned
 (.tuple #[.agg #[.int .i64 n116, .int .i64 n117, .string s118], .int .i64 0, .int .i64 0]))
 w'114) ∧ ((0 : Int) = 0 → ∃ n120, w'108.cell? ⟨b17, 0, none⟩ = some (.int .i64 n120) ∧ ∃ n121, w'108.cell? ⟨b17, 1, none⟩ = some (.int .i64 n121) ∧ ∃ s122, w'108.cell? ⟨b17, 2, none⟩ = some (.string s122) ∧ (∃ u123, w'108.cell? ⟨b1, 0, none⟩ = some u123) ∧ w'108.frozen? ⟨b1, 0, none⟩ = false ∧ (∃ u124, w'108.cell? ⟨b1, 1, none⟩ = some u124) ∧ w'108.frozen? ⟨b1, 1, none⟩ = false ∧ (∃ u125, w'108.cell? ⟨b1, 2, none⟩ = some u125) ∧ w'108.frozen? ⟨b1, 2, none⟩ = false ∧ ∀ w'126, Put w'108 b1 0 [.int .i64 n120, .int .i64 n121, .string s122] w'126 → ∃ n128, w'126.cell? ⟨b1, 0, none⟩ = some (.int .i64 n128) ∧ ∃ n129, w'126.cell? ⟨b1, 1, none⟩ = some (.int .i64 n129) ∧ ∃ s130, w'126.cell? ⟨b1, 2, none⟩ = some (.string s130) ∧ R
 (.returned
 (Value.tuple
 #[.agg #[.int .i64 n128, .int .i64 n129, .string s130], .int .i64 (IntKind.i64.wrap (IntKind.i64.wrap (at_ + 1) + 1)), .int .i64 0]))
 w'126)))) ∧ (n25 ≠ 2 → (n25 = 3 → Calls Tryd.prog 42 #[.slice b_p b_n b_c, .int .i64 (IntKind.i64.wrap (at_ + 1)), .int .i64 1024] w'23 fun e133 w134 ↦
 ∃ s135, ∃ n136, ∃ n137, e133 = .returned (.tuple #[.string s135, .int .i64 n136, .int .i64 n137]) ∧ (∃ u138, w134.cell? ⟨b17, 2, none⟩ = some u138) ∧ w134.frozen? ⟨b17, 2, none⟩ = false ∧ ∀ w'139, Put w134 b17 2 [.string s135] w'139 → (n137 ≠ 0 → (∃ u142, w'139.cell? ⟨b1, 0, none⟩ = some u142) ∧ w'139.frozen? ⟨b1, 0, none⟩ = false ∧ (∃ u143, w'139.cell? ⟨b1, 1, none⟩ = some u143) ∧ w'139.frozen? ⟨b1, 1, none⟩ = false ∧ (∃ u144, w'139.cell? ⟨b1, 2, none⟩ = some u144) ∧ w'139.frozen? ⟨b1, 2, none⟩ = false ∧ ∀ w'145, Put w'139 b1 0 [.int .i64 0, .int .i64 0, .string ⟨#[]⟩] w'145 → ∃ n147, w'145.cell? ⟨b1, 0, none⟩ = some (.int .i64 n147) ∧ ∃ n148, w'145.cell? ⟨b1, 1, none⟩ = some (.int .i64 n148) ∧ ∃ s149, w'145.cell? ⟨b1, 2, none⟩ = some (.string s149) ∧ R
 (.returned
 (.tuple #[.agg #[.int .i64 n147, .int .i64 n148, .string s149], .int .i64 0, .int .i64 n137]))
 w'145) ∧ (n137 = 0 → ∃ n151, w'139.cell? ⟨b17, 0, none⟩ = some (.int .i64 n151) ∧ ∃ n152, w'139.cell? ⟨b17, 1, none⟩ = some (.int .i64 n152) ∧ ∃ s153, w'139.cell? ⟨b17, 2, none⟩ = some (.string s153) ∧ (∃ u154, w'139.cell? ⟨b1, 0, none⟩ = some u154) ∧ w'139.frozen? ⟨b1, 0, none⟩ = false ∧ (∃ u155, w'139.cell? ⟨b1, 1, none⟩ = some u155) ∧ w'139.frozen? ⟨b1, 1, none⟩ = false ∧ (∃ u156, w'139.cell? ⟨b1, 2, none⟩ = some u156) ∧ w'139.frozen? ⟨b1, 2, none⟩ = false ∧ ∀ w'157, Put w'139 b1 0 [.int .i64 n151, .int .i64 n152, .string s153] w'157 → ∃ n159, w'157.cell? ⟨b1, 0, none⟩ = some (.int .i64 n159) ∧ ∃ n160, w'157.cell? ⟨b1, 1, none⟩ = some (.int .i64 n160) ∧ ∃ s161, w'157.cell? ⟨b1, 2, none⟩ = some (.string s161) ∧ R
 (.returned
 (.tuple #[.agg #[.int .i64 n159, .int .i64 n160, .string s161], .int .i64 n136, .int .i64 0]))
 w'157)) ∧ (n25 ≠ 3 → (∃ u163, w'23.cell? ⟨b1, 0, none⟩ = some u163) ∧ w'23.frozen? ⟨b1, 0, none⟩ = false ∧ (∃ u164, w'23.cell? ⟨b1, 1, none⟩ = some u164) ∧ w'23.frozen? ⟨b1, 1, none⟩ = false ∧ (∃ u165, w'23.cell? ⟨b1, 2, none⟩ = some u165) ∧ w'23.frozen? ⟨b1, 2, none⟩ = false ∧ ∀ w'166, Put w'23 b1 0 [.int .i64 0, .int .i64 0, .string ⟨#[]⟩] w'166 → ∃ n168, w'166.cell? ⟨b1, 0, none⟩ = some (.int .i64 n168) ∧ ∃ n169, w'166.cell? ⟨b1, 1, none⟩ = some (.int .i64 n169) ∧ ∃ s170, w'166.cell? ⟨b1, 2, none⟩ = some (.string s170) ∧ R
 (.returned
 (.tuple #[.agg #[.int .i64 n168, .int .i64 n169, .string s170], .int .i64 0, .int .i64 20]))
 w'166)))))

set_option maxRecDepth 100000 in
theorem rvtake_eq (b_p : Option Addr) (b_n : Nat) (b_c : Nat) (at_ : Int) (w : World) (R : Ending → World → Prop) : rvtake_T b_p b_n b_c at_ w R = vcFn Tryd.prog [] [] Tryd.f52 [.slice b_p b_n b_c, .int .i64 at_] w R := by kernel_rfl

set_option maxRecDepth 100000 in
theorem rvtake_vc (b_p : Option Addr) (b_n : Nat) (b_c : Nat) (at_ : Int) (w : World) (R : Ending → World → Prop) (hvc : rvtake_T b_p b_n b_c at_ w R) : Calls Tryd.prog 52 #[.slice b_p b_n b_c, .int .i64 at_] w R :=
  calls_of_vc (args := [.slice b_p b_n b_c, .int .i64 at_]) [] [] Tryd.mixed Tryd.func52 (cast (rvtake_eq _ _ _ _ w R) hvc)

set_option maxRecDepth 100000 in
def sflag_T (b : Bool) (w : World) (R : Ending → World → Prop) : Prop :=
  (b = true → R (.returned (.int .u8 1)) w) ∧ (b = false → R (.returned (.int .u8 0)) w)

set_option maxRecDepth 100000 in
theorem sflag_eq (b : Bool) (w : World) (R : Ending → World → Prop) : sflag_T b w R = vcFn Tryd.prog [] [] Tryd.f36 [.bool b] w R := by kernel_rfl

set_option maxRecDepth 100000 in
theorem sflag_vc (b : Bool) (w : World) (R : Ending → World → Prop) (hvc : sflag_T b w R) : Calls Tryd.prog 36 #[.bool b] w R :=
  calls_of_vc (args := [.bool b]) [] [] Tryd.mixed Tryd.func36 (cast (sflag_eq _ w R) hvc)

set_option maxRecDepth 100000 in
def slay_T (b_p : Option Addr) (b_n : Nat) (b_c : Nat) (cols_p : Option Addr) (cols_n : Nat) (cols_c : Nat) (w : World) (R : Ending → World → Prop) : Prop :=
  Calls Tryd.prog 11 #[.slice cols_p cols_n cols_c] w fun e1 w2 ↦
 ∃ b3, e1 = .returned (.bool b3) ∧ (b3 = false → R (.returned (.tuple #[.slice none 0 0, .int .i64 50])) w2) ∧ (b3 = true → Calls Tryd.prog 34 #[.slice b_p b_n b_c, .int .u64 (IntKind.u64.wrap (↑cols_n : Int))] w2 fun e6 w7 ↦
 ∃ p8 n9 c10, e6 = .returned (.slice p8 n9 c10) ∧ ∃ (I11 : Option Addr → Nat → Nat → Int → World → Prop), ∃ (M12 : Option Addr → Nat → Nat → Int → World → Nat), I11 p8 n9 c10 0 w7 ∧ ∀ (p13 : Option Addr) (n14 c15 : Nat) (n16 : Int) (w'17 : World), I11 p13 n14 c15 n16 w'17 → (n16 < (↑cols_n : Int) → ∃ b20, ∃ o21, cols_p = some ⟨b20, o21, none⟩ ∧ 0 ≤ n16 ∧ n16 < (↑cols_n : Int) ∧ ∃ s22, w'17.cell? ⟨b20, (o21 + n16.toNat * 3), none⟩ = some (.string s22) ∧ ∃ n23, w'17.cell? ⟨b20, (o21 + n16.toNat * 3 + 1), none⟩ = some (.int .i64 n23) ∧ ∃ b24, w'17.cell? ⟨b20, (o21 + n16.toNat * 3 + 2), none⟩ = some (.bool b24) ∧ ∀ b25 w'26, New w'17 (Obj.cells #[.string ⟨#[]⟩, .int .i64 0, .bool false] 53) b25 w'26 → (∃ u28, w'26.cell? ⟨b25, 0, none⟩ = some u28) ∧ w'26.frozen? ⟨b25, 0, none⟩ = false ∧ (∃ u29, w'26.cell? ⟨b25, 1, none⟩ = some u29) ∧ w'26.frozen? ⟨b25, 1, none⟩ = false ∧ (∃ u30, w'26.cell? ⟨b25, 2, none⟩ = some u30) ∧ w'26.frozen? ⟨b25, 2, none⟩ = false ∧ ∀ w'31, Put w'26 b25 0 [.string s22, .int .i64 n23, .bool b24] w'31 → ∃ s33, w'31.cell? ⟨b25, 0, none⟩ = some (.string s33) ∧ Calls Tryd.prog 35 #[.slice p13 n14 c15, .string s33] w'31 fun e34 w35 ↦
 ∃ p36 n37 c38, ∃ n39, e34 = .returned (.tuple #[.slice p36 n37 c38, .int .i64 n39]) ∧ ∀ w'40, Drew w35 w'40 → ∃ n42, w'40.cell? ⟨b25, 1, none⟩ = some (.int .i64 n42) ∧ ∃ b43, w'40.cell? ⟨b25, 2, none⟩ = some (.bool b43) ∧ Calls Tryd.prog 36 #[.bool b43] w'40 fun e44 w45 ↦
 ∃ n46, e44 = .returned (.int .u8 n46) ∧ SameTo none w'40 w'40 w45 ∧ ∀ b47 w'48, New w45 (Obj.cells #[.int .u8 (IntKind.u8.wrap n42), .int .u8 n46] 5) b47 w'48 → ∃ p50 n51 c52, ∃ (w'53 : World), Sem.run Tryd.prog (Builtin.append_ #[28, 28] 28 #[.slice p36 n37 c38, .slice (some ⟨b47, 0, none⟩) 2 2]) w'48 = Result.ok (.slice p50 n51 c52) w'53 ∧ I11 p50 n51 c52 (IntKind.i64.wrap (n16 + 1)) w'53 ∧ M12 p50 n51 c52 (IntKind.i64.wrap (n16 + 1)) w'53 < M12 p13 n14 c15 n16 w'17) ∧ ((↑cols_n : Int) ≤ n16 → R (.returned (.tuple #[.slice p13 n14 c15, .int .i64 0])) w'17))

set_option maxRecDepth 100000 in
theorem slay_eq (b_p : Option Addr) (b_n : Nat) (b_c : Nat) (cols_p : Option Addr) (cols_n : Nat) (cols_c : Nat) (w : World) (R : Ending → World → Prop) : slay_T b_p b_n b_c cols_p cols_n cols_c w R = vcFn Tryd.prog [] [(8, [2, 4, 6, 8, 10, 12, 15, 16, 18, 20, 0])] Tryd.f13 [.slice b_p b_n b_c, .slice cols_p cols_n cols_c] w R := by kernel_rfl

set_option maxRecDepth 100000 in
theorem slay_vc (b_p : Option Addr) (b_n : Nat) (b_c : Nat) (cols_p : Option Addr) (cols_n : Nat) (cols_c : Nat) (w : World) (R : Ending → World → Prop) (hvc : slay_T b_p b_n b_c cols_p cols_n cols_c w R) : Calls Tryd.prog 13 #[.slice b_p b_n b_c, .slice cols_p cols_n cols_c] w R :=
  calls_of_vc (args := [.slice b_p b_n b_c, .slice cols_p cols_n cols_c]) [] [(8, [2, 4, 6, 8, 10, 12, 15, 16, 18, 20, 0])] Tryd.mixed Tryd.func13 (cast (slay_eq _ _ _ _ _ _ w R) hvc)

set_option maxRecDepth 100000 in
def slayrows_T (b_p : Option Addr) (b_n : Nat) (b_c : Nat) (cols_p : Option Addr) (cols_n : Nat) (cols_c : Nat) (rows_p : Option Addr) (rows_n : Nat) (rows_c : Nat) (w : World) (R : Ending → World → Prop) : Prop :=
  Calls Tryd.prog 11 #[.slice cols_p cols_n cols_c] w fun e1 w2 ↦
 ∃ b3, e1 = .returned (.bool b3) ∧ (b3 = false → R (.returned (.tuple #[.slice none 0 0, .int .i64 50])) w2) ∧ (b3 = true → (1024 < (↑rows_n : Int) → R (.returned (.tuple #[.slice none 0 0, .int .i64 51])) w2) ∧ ((↑rows_n : Int) ≤ 1024 → Calls Tryd.prog 34 #[.slice b_p b_n b_c, .int .u64 (IntKind.u64.wrap (↑rows_n : Int))] w2 fun e8 w9 ↦
 ∃ p10 n11 c12, e8 = .returned (.slice p10 n11 c12) ∧ ∀ b13 w'14, New w9 (Obj.cells #[.slice p10 n11 c12] 28) b13 w'14 → ∃ (I16 : Option Addr → Nat → Nat → Int → World → Prop), ∃ (M17 : Option Addr → Nat → Nat → Int → World → Nat), I16 (some ⟨b13, 0, none⟩) 1 1 0 w'14 ∧ ∀ (p18 : Option Addr) (n19 c20 : Nat) (n21 : Int) (w'22 : World), I16 p18 n19 c20 n21 w'22 → (n21 < (↑rows_n : Int) → ∃ b25, ∃ o26, rows_p = some ⟨b25, o26, none⟩ ∧ 0 ≤ n21 ∧ n21 < (↑rows_n : Int) ∧ ∃ p27 n28 c29, w'22.cell? ⟨b25, (o26 + n21.toNat), none⟩ = some (.slice p27 n28 c29) ∧ Calls Tryd.prog 33 #[.slice cols_p cols_n cols_c, .slice p27 n28 c29] w'22 fun e30 w31 ↦
 ∃ b32, e30 = .returned (.bool b32) ∧ (b32 = false → R (.returned (.tuple #[.slice none 0 0, .int .i64 51])) w31) ∧ (b32 = true → ∃ (I35 : Option Addr → Nat → Nat → Int → World → Prop), ∃ (M36 : Option Addr → Nat → Nat → Int → World → Nat), I35 p18 n19 c20 0 w31 ∧ ∀ (p37 : Option Addr) (n38 c39 : Nat) (n40 : Int) (w'41 : World), I35 p37 n38 c39 n40 w'41 → (n40 < (↑n28 : Int) → ∃ b44, ∃ o45, p27 = some ⟨b44, o45, none⟩ ∧ 0 ≤ n40 ∧ n40 < (↑n28 : Int) ∧ ∃ n46, w'41.cell? ⟨b44, (o45 + n40.toNat * 3), none⟩ = some (.int .i64 n46) ∧ ∃ n47, w'41.cell? ⟨b44, (o45 + n40.toNat * 3 + 1), none⟩ = some (.int .i64 n47) ∧ ∃ s48, w'41.cell? ⟨b44, (o45 + n40.toNat * 3 + 2), none⟩ = some (.string s48) ∧ ∀ b49 w'50, New w'41 (Obj.cells #[.int .i64 0, .int .i64 0, .string ⟨#[]⟩] 65) b49 w'50 → (∃ u52, w'50.cell? ⟨b49, 0, none⟩ = some u52) ∧ w'50.frozen? ⟨b49, 0, none⟩ = false ∧ (∃ u53, w'50.cell? ⟨b49, 1, none⟩ = some u53) ∧ w'50.frozen? ⟨b49, 1, none⟩ = false ∧ (∃ u54, w'50.cell? ⟨b49, 2, none⟩ = some u54) ∧ w'50.frozen? ⟨b49, 2, none⟩ = false ∧ ∀ w'55, Put w'50 b49 0 [.int .i64 n46, .int .i64 n47, .string s48] w'55 → ∃ n57, w'55.cell? ⟨b49, 0, none⟩ = some (.int .i64 n57) ∧ ∃ n58, w'55.cell? ⟨b49, 1, none⟩ = some (.int .i64 n58) ∧ ∃ s59, w'55.cell? ⟨b49, 2, none⟩ = some (.string s59) ∧ Calls Tryd.prog 48 #[.slice none 0 0, .agg #[.int .i64 n57, .int .i64 n58, .string s59]] w'55 fun e60 w61 ↦
 ∃ p62 n63 c64, ∃ n65, e60 = .returned (.tuple #[.slice p62 n63 c64, .int .i64 n65]) ∧ ∀ b66 w'67, New w61 (Obj.cells #[.slice p62 n63 c64] 28) b66 w'67 → ∃ p69 n70 c71, ∃ (w'72 : World), Sem.run Tryd.prog (Builtin.append_ #[70, 70] 70 #[.slice p37 n38 c39, .slice (some ⟨b66, 0, none⟩) 1 1]) w'67 = Result.ok (.slice p69 n70 c71) w'72 ∧ I35 p69 n70 c71 (IntKind.i64.wrap (n40 + 1)) w'72 ∧ M36 p69 n70 c71 (IntKind.i64.wrap (n40 + 1)) w'72 < M36 p37 n38 c39 n40 w'41) ∧ ((↑n28 : Int) ≤ n40 → I16 p37 n38 c39 (IntKind.i64.wrap (n21 + 1)) w'41 ∧ M17 p37 n38 c39 (IntKind.i64.wrap (n21 + 1)) w'41 < M17 p18 n19 c20 n21 w'22))) ∧ ((↑rows_n : Int) ≤ n21 → Calls Tryd.prog 49 #[.slice p18 n19 c20] w'22 fun e75 w76 ↦
 ∃ p77 n78 c79, e75 = .returned (.slice p77 n78 c79) ∧ R (.returned (.tuple #[.slice p77 n78 c79, .int .i64 0])) w76)))

set_option maxRecDepth 100000 in
theorem slayrows_eq (b_p : Option Addr) (b_n : Nat) (b_c : Nat) (cols_p : Option Addr) (cols_n : Nat) (cols_c : Nat) (rows_p : Option Addr) (rows_n : Nat) (rows_c : Nat) (w : World) (R : Ending → World → Prop) : slayrows_T b_p b_n b_c cols_p cols_n cols_c rows_p rows_n rows_c w R = vcFn Tryd.prog [] [] Tryd.f24 [.slice b_p b_n b_c, .slice cols_p cols_n cols_c, .slice rows_p rows_n rows_c] w R := by kernel_rfl

set_option maxRecDepth 100000 in
theorem slayrows_vc (b_p : Option Addr) (b_n : Nat) (b_c : Nat) (cols_p : Option Addr) (cols_n : Nat) (cols_c : Nat) (rows_p : Option Addr) (rows_n : Nat) (rows_c : Nat) (w : World) (R : Ending → World → Prop) (hvc : slayrows_T b_p b_n b_c cols_p cols_n cols_c rows_p rows_n rows_c w R) : Calls Tryd.prog 24 #[.slice b_p b_n b_c, .slice cols_p cols_n cols_c, .slice rows_p rows_n rows_c] w R :=
  calls_of_vc (args := [.slice b_p b_n b_c, .slice cols_p cols_n cols_c, .slice rows_p rows_n rows_c]) [] [] Tryd.mixed Tryd.func24 (cast (slayrows_eq _ _ _ _ _ _ _ _ _ w R) hvc)

set_option maxRecDepth 100000 in
def stakerows_T (b_p : Option Addr) (b_n : Nat) (b_c : Nat) (at_ : Int) (cols_p : Option Addr) (cols_n : Nat) (cols_c : Nat) (w : World) (R : Ending → World → Prop) : Prop :=
  Calls Tryd.prog 11 #[.slice cols_p cols_n cols_c] w fun e1 w2 ↦
 ∃ b3, e1 = .returned (.bool b3) ∧ (b3 = false → R (.returned (.tuple #[.slice none 0 0, .int .i64 0, .int .i64 50])) w2) ∧ (b3 = true → Calls Tryd.prog 39 #[.slice b_p b_n b_c, .int .i64 at_] w2 fun e6 w7 ↦
 ∃ n8, ∃ n9, ∃ n10, e6 = .returned (.tuple #[.int .u64 n8, .int .i64 n9, .int .i64 n10]) ∧ (n10 ≠ 0 ∨ 1024 < n8 → R (.returned (.tuple #[.slice none 0 0, .int .i64 0, .int .i64 52])) w7) ∧ (n10 = 0 ∧ n8 ≤ 1024 → ∃ (I13 : Int → Int → Option Addr → Nat → Nat → Int → World → Prop), ∃ (M14 : Int → Int → Option Addr → Nat → Nat → Int → World → Nat), I13 n9 n10 none 0 0 0 w7 ∧ ∀ (n15 n16 : Int) (p17 : Option Addr) (n18 c19 : Nat) (n20 : Int) (w'21 : World), I13 n15 n16 p17 n18 c19 n20 w'21 → (n20 < n8 → 0 ≤ (↑cols_n : Int) ∧ (↑cols_n : Int) ≤ (↑cols_n : Int) ∧ 32 * (↑cols_n : Int) ≤ 281474976710656 ∧ (↑cols_n : Int) ≤ 9223372036854775807 ∧ ∀ b24 w'25, New w'21 (Obj.cells (madeCells #[.int .i64 0, .int .i64 0, .string ⟨#[]⟩] (cols_n * 3)) 65) b24 w'25 → ∃ (I27 : Int → Int → Int → World → Prop), ∃ (M28 : Int → Int → Int → World → Nat), I27 n15 n16 0 w'25 ∧ ∀ (n29 n30 n31 : Int) (w'32 : World), I27 n29 n30 n31 w'32 → (n31 < (↑cols_n : Int) → Calls Tryd.prog 51 #[.slice b_p b_n b_c, .int .i64 n29] w'32 fun e35 w36 ↦
 ∃ n37, ∃ n38, ∃ s39, ∃ n40, ∃ n41, e35 =
 .returned
 (.tuple #[.agg #[.int .i64 n37, .int .i64 n38, .string s39], .int .i64 n40, .int .i64 n41]) ∧ ∃ b42, ∃ o43, some (Addr.mk b24 0 none) = some ⟨b42, o43, none⟩ ∧ 0 ≤ n31 ∧ n31 < (↑cols_n : Int) ∧ (∃ u44, w36.cell? ⟨b42, (o43 + n31.toNat * 3), none⟩ = some u44) ∧ w36.frozen? ⟨b42, (o43 + n31.toNat * 3), none⟩ = false ∧ (∃ u45, w36.cell? ⟨b42, (o43 + n31.toNat * 3 + 1), none⟩ = some u45) ∧ w36.frozen? ⟨b42, (o43 + n31.toNat * 3 + 1), none⟩ = false ∧ (∃ u46, w36.cell? ⟨b42, (o43 + n31.toNat * 3 + 2), none⟩ = some u46) ∧ w36.frozen? ⟨b42, (o43 + n31.toNat * 3 + 2), none⟩ = false ∧ ∀ w'47, Put w36 b42 (o43 + n31.toNat * 3) [.int .i64 n37, .int .i64 n38, .string s39] w'47 → (n41 ≠ 0 → R (.returned (.tuple #[.slice none 0 0, .int .i64 0, .int .i64 52])) w'47) ∧ (n41 = 0 → I27 n40 n41 (IntKind.i64.wrap (n31 + 1)) w'47 ∧ M28 n40 n41 (IntKind.i64.wrap (n31 + 1)) w'47 < M28 n29 n30 n31 w'32)) ∧ ((↑cols_n : Int) ≤ n31 → Calls Tryd.prog 33 #[.slice cols_p cols_n cols_c, .slice (some ⟨b24, 0, none⟩) cols_n cols_n] w'32 fun e52 w53 ↦
 ∃ b54, e52 = .returned (.bool b54) ∧ (b54 = false → R (.returned (.tuple #[.slice none 0 0, .int .i64 0, .int .i64 52])) w53) ∧ (b54 = true → ∀ b57 w'58, New w53 (Obj.cells #[.slice (some ⟨b24, 0, none⟩) cols_n cols_n] 24) b57 w'58 → ∃ p60 n61 c62, ∃ (w'63 : World), Sem.run Tryd.prog (Builtin.append_ #[39, 39] 39 #[.slice p17 n18 c19, .slice (some ⟨b57, 0, none⟩) 1 1]) w'58 = Result.ok (.slice p60 n61 c62) w'63 ∧ I13 n29 n30 p60 n61 c62 (IntKind.u64.wrap (n20 + 1)) w'63 ∧ M14 n29 n30 p60 n61 c62 (IntKind.u64.wrap (n20 + 1)) w'63 < M14 n15 n16 p17 n18 c19 n20 w'21))) ∧ (n8 ≤ n20 → R (.returned (.tuple #[.slice p17 n18 c19, .int .i64 n15, .int .i64 0])) w'21)))

set_option maxRecDepth 100000 in
theorem stakerows_eq (b_p : Option Addr) (b_n : Nat) (b_c : Nat) (at_ : Int) (cols_p : Option Addr) (cols_n : Nat) (cols_c : Nat) (w : World) (R : Ending → World → Prop) : stakerows_T b_p b_n b_c at_ cols_p cols_n cols_c w R = vcFn Tryd.prog [] [] Tryd.f26 [.slice b_p b_n b_c, .int .i64 at_, .slice cols_p cols_n cols_c] w R := by kernel_rfl

set_option maxRecDepth 100000 in
theorem stakerows_vc (b_p : Option Addr) (b_n : Nat) (b_c : Nat) (at_ : Int) (cols_p : Option Addr) (cols_n : Nat) (cols_c : Nat) (w : World) (R : Ending → World → Prop) (hvc : stakerows_T b_p b_n b_c at_ cols_p cols_n cols_c w R) : Calls Tryd.prog 26 #[.slice b_p b_n b_c, .int .i64 at_, .slice cols_p cols_n cols_c] w R :=
  calls_of_vc (args := [.slice b_p b_n b_c, .int .i64 at_, .slice cols_p cols_n cols_c]) [] [] Tryd.mixed Tryd.func26 (cast (stakerows_eq _ _ _ _ _ _ _ w R) hvc)

set_option maxRecDepth 100000 in
def sshow_T (cols_p : Option Addr) (cols_n : Nat) (cols_c : Nat) (w : World) (R : Ending → World → Prop) : Prop :=
  Calls Tryd.prog 11 #[.slice cols_p cols_n cols_c] w fun e1 w2 ↦
 ∃ b3, e1 = .returned (.bool b3) ∧ (b3 = false → R (.returned (.tuple #[.string ⟨#[]⟩, .int .i64 50])) w2) ∧ (b3 = true → ∃ (I6 : Option Addr → Nat → Nat → Int → World → Prop), ∃ (M7 : Option Addr → Nat → Nat → Int → World → Nat), I6 none 0 0 0 w2 ∧ ∀ (p8 : Option Addr) (n9 c10 : Nat) (n11 : Int) (w'12 : World), I6 p8 n9 c10 n11 w'12 → (n11 < (↑cols_n : Int) → ∃ b15, ∃ o16, cols_p = some ⟨b15, o16, none⟩ ∧ 0 ≤ n11 ∧ n11 < (↑cols_n : Int) ∧ ∃ s17, w'12.cell? ⟨b15, (o16 + n11.toNat * 3), none⟩ = some (.string s17) ∧ ∃ n18, w'12.cell? ⟨b15, (o16 + n11.toNat * 3 + 1), none⟩ = some (.int .i64 n18) ∧ ∃ b19, w'12.cell? ⟨b15, (o16 + n11.toNat * 3 + 2), none⟩ = some (.bool b19) ∧ ∀ b20 w'21, New w'12 (Obj.cells #[.string ⟨#[]⟩, .int .i64 0, .bool false] 53) b20 w'21 → (∃ u23, w'21.cell? ⟨b20, 0, none⟩ = some u23) ∧ w'21.frozen? ⟨b20, 0, none⟩ = false ∧ (∃ u24, w'21.cell? ⟨b20, 1, none⟩ = some u24) ∧ w'21.frozen? ⟨b20, 1, none⟩ = false ∧ (∃ u25, w'21.cell? ⟨b20, 2, none⟩ = some u25) ∧ w'21.frozen? ⟨b20, 2, none⟩ = false ∧ ∀ w'26, Put w'21 b20 0 [.string s17, .int .i64 n18, .bool b19] w'26 → ∀ w'28, Drew w'26 w'28 → ∃ s30, w'28.cell? ⟨b20, 0, none⟩ = some (.string s30) ∧ s30.size + 1 ≤ 9223372036854775807 ∧ ∃ n31, w'28.cell? ⟨b20, 1, none⟩ = some (.int .i64 n31) ∧ 0 ≤ n31 ∧ n31 < 4 ∧ ∃ s32, w'28.cell? ⟨0, (0 + n31.toNat), none⟩ = some (.string s32) ∧ (ByteArray.instAppend.1 s30 (ByteArray.mk #[32])).size + s32.size ≤ 9223372036854775807 ∧ ∃ b33, w'28.cell? ⟨b20, 2, none⟩ = some (.bool b33) ∧ (b33 = true → (ByteArray.instAppend.1 (ByteArray.instAppend.1 s30 (ByteArray.mk #[32])) s32).size + 5 ≤ 9223372036854775807 ∧ ∀ b35 w'36, New w'28
 (Obj.cells
 #[.string (ByteArray.instAppend.1 (ByteArray.instAppend.1 (ByteArray.instAppend.1 s30 (ByteArray.mk #[32])) s32) (ByteArray.mk #[32, 110, 117, 108, 108]))] 9)
 b35 w'36 → ∃ p38 n39 c40, ∃ (w'41 : World), Sem.run Tryd.prog (Builtin.append_ #[76, 76] 76 #[.slice p8 n9 c10, .slice (some ⟨b35, 0, none⟩) 1 1]) w'36 = Result.ok (.slice p38 n39 c40) w'41 ∧ I6 p38 n39 c40 (IntKind.i64.wrap (n11 + 1)) w'41 ∧ M7 p38 n39 c40 (IntKind.i64.wrap (n11 + 1)) w'41 < M7 p8 n9 c10 n11 w'12) ∧ (b33 = false → ∀ b43 w'44, New w'28 (Obj.cells #[.string (ByteArray.instAppend.1 (ByteArray.instAppend.1 s30 (ByteArray.mk #[32])) s32)] 9) b43 w'44 → ∃ p46 n47 c48, ∃ (w'49 : World), Sem.run Tryd.prog (Builtin.append_ #[76, 76] 76 #[.slice p8 n9 c10, .slice (some ⟨b43, 0, none⟩) 1 1]) w'44 = Result.ok (.slice p46 n47 c48) w'49 ∧ I6 p46 n47 c48 (IntKind.i64.wrap (n11 + 1)) w'49 ∧ M7 p46 n47 c48 (IntKind.i64.wrap (n11 + 1)) w'49 < M7 p8 n9 c10 n11 w'12)) ∧ ((↑cols_n : Int) ≤ n11 → Calls Tryd.prog 54 #[.slice p8 n9 c10, .string (ByteArray.mk #[44, 32])] w'12 fun e51 w52 ↦
 ∃ s53, e51 = .returned (.string s53) ∧ R (.returned (.tuple #[.string s53, .int .i64 0])) w52))

set_option maxRecDepth 100000 in
theorem sshow_eq (cols_p : Option Addr) (cols_n : Nat) (cols_c : Nat) (w : World) (R : Ending → World → Prop) : sshow_T cols_p cols_n cols_c w R = vcFn Tryd.prog [] [(7, [2, 4, 6, 8, 10, 12, 14, 16, 18, 0])] Tryd.f29 [.slice cols_p cols_n cols_c] w R := by kernel_rfl

set_option maxRecDepth 100000 in
theorem sshow_vc (cols_p : Option Addr) (cols_n : Nat) (cols_c : Nat) (w : World) (R : Ending → World → Prop) (hvc : sshow_T cols_p cols_n cols_c w R) : Calls Tryd.prog 29 #[.slice cols_p cols_n cols_c] w R :=
  calls_of_vc (args := [.slice cols_p cols_n cols_c]) [] [(7, [2, 4, 6, 8, 10, 12, 14, 16, 18, 0])] Tryd.mixed Tryd.func29 (cast (sshow_eq _ _ _ w R) hvc)

set_option maxRecDepth 100000 in
def r5layrows_T (b_p : Option Addr) (b_n : Nat) (b_c : Nat) (cols_p : Option Addr) (cols_n : Nat) (cols_c : Nat) (rows_p : Option Addr) (rows_n : Nat) (rows_c : Nat) (w : World) (R : Ending → World → Prop) : Prop :=
  Calls Tryd.prog 18 #[.slice cols_p cols_n cols_c] w fun e1 w2 ↦
 ∃ b3, e1 = .returned (.bool b3) ∧ (b3 = false → R (.returned (.tuple #[.slice none 0 0, .int .i64 50])) w2) ∧ (b3 = true → (1024 < (↑rows_n : Int) → R (.returned (.tuple #[.slice none 0 0, .int .i64 51])) w2) ∧ ((↑rows_n : Int) ≤ 1024 → Calls Tryd.prog 37 #[.slice b_p b_n b_c, .int .u64 (IntKind.u64.wrap (↑rows_n : Int))] w2 fun e8 w9 ↦
 ∃ p10 n11 c12, e8 = .returned (.slice p10 n11 c12) ∧ ∃ (I13 : Option Addr → Nat → Nat → Int → World → Prop), ∃ (M14 : Option Addr → Nat → Nat → Int → World → Nat), I13 p10 n11 c12 0 w9 ∧ ∀ (p15 : Option Addr) (n16 c17 : Nat) (n18 : Int) (w'19 : World), I13 p15 n16 c17 n18 w'19 → (n18 < (↑rows_n : Int) → ∃ b22, ∃ o23, rows_p = some ⟨b22, o23, none⟩ ∧ 0 ≤ n18 ∧ n18 < (↑rows_n : Int) ∧ ∃ p24 n25 c26, w'19.cell? ⟨b22, (o23 + n18.toNat), none⟩ = some (.slice p24 n25 c26) ∧ Calls Tryd.prog 19 #[.slice cols_p cols_n cols_c, .slice p24 n25 c26] w'19 fun e27 w28 ↦
 ∃ b29, e27 = .returned (.bool b29) ∧ (b29 = false → R (.returned (.tuple #[.slice none 0 0, .int .i64 51])) w28) ∧ (b29 = true → ∃ (I32 : Option Addr → Nat → Nat → Int → World → Prop), ∃ (M33 : Option Addr → Nat → Nat → Int → World → Nat), I32 p15 n16 c17 0 w28 ∧ ∀ (p34 : Option Addr) (n35 c36 : Nat) (n37 : Int) (w'38 : World), I32 p34 n35 c36 n37 w'38 → (n37 < (↑cols_n : Int) → ∃ b41, ∃ o42, rows_p = some ⟨b41, o42, none⟩ ∧ 0 ≤ n18 ∧ n18 < (↑rows_n : Int) ∧ ∃ p43 n44 c45, w'38.cell? ⟨b41, (o42 + n18.toNat), none⟩ = some (.slice p43 n44 c45) ∧ ∃ b46, ∃ o47, p43 = some ⟨b46, o47, none⟩ ∧ 0 ≤ n37 ∧ n37 < (↑n44 : Int) ∧ ∃ n48, w'38.cell? ⟨b46, (o47 + n37.toNat * 3), none⟩ = some (.int .i64 n48) ∧ ∃ n49, w'38.cell? ⟨b46, (o47 + n37.toNat * 3 + 1), none⟩ = some (.int .i64 n49) ∧ ∃ s50, w'38.cell? ⟨b46, (o47 + n37.toNat * 3 + 2), none⟩ = some (.string s50) ∧ Calls Tryd.prog 50 #[.slice none 0 0, .agg #[.int .i64 n48, .int .i64 n49, .string s50]] w'38 fun e51 w52 ↦
 ∃ p53 n54 c55, ∃ n56, e51 = .returned (.tuple #[.slice p53 n54 c55, .int .i64 n56]) ∧ ∃ p57 n58 c59, ∃ (w'60 : World), Sem.run Tryd.prog (Builtin.append_ #[28, 28] 28 #[.slice p34 n35 c36, .slice p53 n54 c55]) w52 = Result.ok (.slice p57 n58 c59) w'60 ∧ I32 p57 n58 c59 (IntKind.i64.wrap (n37 + 1)) w'60 ∧ M33 p57 n58 c59 (IntKind.i64.wrap (n37 + 1)) w'60 < M33 p34 n35 c36 n37 w'38) ∧ ((↑cols_n : Int) ≤ n37 → I13 p34 n35 c36 (IntKind.i64.wrap (n18 + 1)) w'38 ∧ M14 p34 n35 c36 (IntKind.i64.wrap (n18 + 1)) w'38 < M14 p15 n16 c17 n18 w'19))) ∧ ((↑rows_n : Int) ≤ n18 → R (.returned (.tuple #[.slice p15 n16 c17, .int .i64 0])) w'19)))

set_option maxRecDepth 100000 in
theorem r5layrows_eq (b_p : Option Addr) (b_n : Nat) (b_c : Nat) (cols_p : Option Addr) (cols_n : Nat) (cols_c : Nat) (rows_p : Option Addr) (rows_n : Nat) (rows_c : Nat) (w : World) (R : Ending → World → Prop) : r5layrows_T b_p b_n b_c cols_p cols_n cols_c rows_p rows_n rows_c w R = vcFn Tryd.prog [] [] Tryd.f25 [.slice b_p b_n b_c, .slice cols_p cols_n cols_c, .slice rows_p rows_n rows_c] w R := by kernel_rfl

set_option maxRecDepth 100000 in
theorem r5layrows_vc (b_p : Option Addr) (b_n : Nat) (b_c : Nat) (cols_p : Option Addr) (cols_n : Nat) (cols_c : Nat) (rows_p : Option Addr) (rows_n : Nat) (rows_c : Nat) (w : World) (R : Ending → World → Prop) (hvc : r5layrows_T b_p b_n b_c cols_p cols_n cols_c rows_p rows_n rows_c w R) : Calls Tryd.prog 25 #[.slice b_p b_n b_c, .slice cols_p cols_n cols_c, .slice rows_p rows_n rows_c] w R :=
  calls_of_vc (args := [.slice b_p b_n b_c, .slice cols_p cols_n cols_c, .slice rows_p rows_n rows_c]) [] [] Tryd.mixed Tryd.func25 (cast (r5layrows_eq _ _ _ _ _ _ _ _ _ w R) hvc)

set_option maxRecDepth 100000 in
def r5takerows_T (b_p : Option Addr) (b_n : Nat) (b_c : Nat) (at_ : Int) (cols_p : Option Addr) (cols_n : Nat) (cols_c : Nat) (w : World) (R : Ending → World → Prop) : Prop :=
  Calls Tryd.prog 18 #[.slice cols_p cols_n cols_c] w fun e1 w2 ↦
 ∃ b3, e1 = .returned (.bool b3) ∧ (b3 = false → R (.returned (.tuple #[.slice none 0 0, .int .i64 0, .int .i64 50])) w2) ∧ (b3 = true → Calls Tryd.prog 41 #[.slice b_p b_n b_c, .int .i64 at_] w2 fun e6 w7 ↦
 ∃ n8, ∃ n9, ∃ n10, e6 = .returned (.tuple #[.int .u64 n8, .int .i64 n9, .int .i64 n10]) ∧ (n10 ≠ 0 ∨ 1024 < n8 → R (.returned (.tuple #[.slice none 0 0, .int .i64 0, .int .i64 52])) w7) ∧ (n10 = 0 ∧ n8 ≤ 1024 → ∃ (I13 : Int → Option Addr → Nat → Nat → Int → World → Prop), ∃ (M14 : Int → Option Addr → Nat → Nat → Int → World → Nat), I13 n9 none 0 0 0 w7 ∧ ∀ (n15 : Int) (p16 : Option Addr) (n17 c18 : Nat) (n19 : Int) (w'20 : World), I13 n15 p16 n17 c18 n19 w'20 → (n19 < IntKind.i64.wrap n8 → ∃ (I23 : Option Addr → Nat → Nat → Int → Int → World → Prop), ∃ (M24 : Option Addr → Nat → Nat → Int → Int → World → Nat), I23 none 0 0 n15 0 w'20 ∧ ∀ (p25 : Option Addr) (n26 c27 : Nat) (n28 n29 : Int) (w'30 : World), I23 p25 n26 c27 n28 n29 w'30 → (n29 < (↑cols_n : Int) → Calls Tryd.prog 52 #[.slice b_p b_n b_c, .int .i64 n28] w'30 fun e33 w34 ↦
 ∃ n35, ∃ n36, ∃ s37, ∃ n38, ∃ n39, e33 =
 .returned
 (.tuple #[.agg #[.int .i64 n35, .int .i64 n36, .string s37], .int .i64 n38, .int .i64 n39]) ∧ ∀ b40 w'41, New w34 (Obj.cells #[.int .i64 0, .int .i64 0, .string ⟨#[]⟩] 65) b40 w'41 → (∃ u43, w'41.cell? ⟨b40, 0, none⟩ = some u43) ∧ w'41.frozen? ⟨b40, 0, none⟩ = false ∧ (∃ u44, w'41.cell? ⟨b40, 1, none⟩ = some u44) ∧ w'41.frozen? ⟨b40, 1, none⟩ = false ∧ (∃ u45, w'41.cell? ⟨b40, 2, none⟩ = some u45) ∧ w'41.frozen? ⟨b40, 2, none⟩ = false ∧ ∀ w'46, Put w'41 b40 0 [.int .i64 n35, .int .i64 n36, .string s37] w'46 → (n39 ≠ 0 → R (.returned (.tuple #[.slice none 0 0, .int .i64 0, .int .i64 52])) w'46) ∧ (n39 = 0 → ∃ n50, w'46.cell? ⟨b40, 0, none⟩ = some (.int .i64 n50) ∧ ∃ n51, w'46.cell? ⟨b40, 1, none⟩ = some (.int .i64 n51) ∧ ∃ s52, w'46.cell? ⟨b40, 2, none⟩ = some (.string s52) ∧ ∀ b53 w'54, New w'46 (Obj.cells #[.int .i64 n50, .int .i64 n51, .string s52] 65) b53 w'54 → ∃ p56 n57 c58, ∃ (w'59 : World), Sem.run Tryd.prog (Builtin.append_ #[24, 24] 24 #[.slice p25 n26 c27, .slice (some ⟨b53, 0, none⟩) 1 1]) w'54 = Result.ok (.slice p56 n57 c58) w'59 ∧ I23 p56 n57 c58 n38 (IntKind.i64.wrap (n29 + 1)) w'59 ∧ M24 p56 n57 c58 n38 (IntKind.i64.wrap (n29 + 1)) w'59 < M24 p25 n26 c27 n28 n29 w'30)) ∧ ((↑cols_n : Int) ≤ n29 → Calls Tryd.prog 19 #[.slice cols_p cols_n cols_c, .slice p25 n26 c27] w'30 fun e61 w62 ↦
 ∃ b63, e61 = .returned (.bool b63) ∧ (b63 = false → R (.returned (.tuple #[.slice none 0 0, .int .i64 0, .int .i64 52])) w62) ∧ (b63 = true → ∀ b66 w'67, New w62 (Obj.cells #[.slice p25 n26 c27] 24) b66 w'67 → ∃ p69 n70 c71, ∃ (w'72 : World), Sem.run Tryd.prog (Builtin.append_ #[39, 39] 39 #[.slice p16 n17 c18, .slice (some ⟨b66, 0, none⟩) 1 1]) w'67 = Result.ok (.slice p69 n70 c71) w'72 ∧ I13 n28 p69 n70 c71 (IntKind.i64.wrap (n19 + 1)) w'72 ∧ M14 n28 p69 n70 c71 (IntKind.i64.wrap (n19 + 1)) w'72 < M14 n15 p16 n17 c18 n19 w'20))) ∧ (IntKind.i64.wrap n8 ≤ n19 → R (.returned (.tuple #[.slice p16 n17 c18, .int .i64 n15, .int .i64 0])) w'20)))

set_option maxRecDepth 100000 in
theorem r5takerows_eq (b_p : Option Addr) (b_n : Nat) (b_c : Nat) (at_ : Int) (cols_p : Option Addr) (cols_n : Nat) (cols_c : Nat) (w : World) (R : Ending → World → Prop) : r5takerows_T b_p b_n b_c at_ cols_p cols_n cols_c w R = vcFn Tryd.prog [] [] Tryd.f27 [.slice b_p b_n b_c, .int .i64 at_, .slice cols_p cols_n cols_c] w R := by kernel_rfl

set_option maxRecDepth 100000 in
theorem r5takerows_vc (b_p : Option Addr) (b_n : Nat) (b_c : Nat) (at_ : Int) (cols_p : Option Addr) (cols_n : Nat) (cols_c : Nat) (w : World) (R : Ending → World → Prop) (hvc : r5takerows_T b_p b_n b_c at_ cols_p cols_n cols_c w R) : Calls Tryd.prog 27 #[.slice b_p b_n b_c, .int .i64 at_, .slice cols_p cols_n cols_c] w R :=
  calls_of_vc (args := [.slice b_p b_n b_c, .int .i64 at_, .slice cols_p cols_n cols_c]) [] [] Tryd.mixed Tryd.func27 (cast (r5takerows_eq _ _ _ _ _ _ _ w R) hvc)

set_option maxRecDepth 100000 in
def shown05_T (w : World) (R : Ending → World → Prop) : Prop :=
  ∀ b1 w'2, New w
 (Obj.cells #[.string (ByteArray.mk #[97]), .int .i64 1, .bool false, .string (ByteArray.mk #[98]), .int .i64 3, .bool true]
 53)
 b1 w'2 → Calls Tryd.prog 29 #[.slice (some ⟨b1, 0, none⟩) 2 2] w'2 fun e4 w5 ↦
 ∃ s6, ∃ n7, e4 = .returned (.tuple #[.string s6, .int .i64 n7]) ∧ (0 : Int) ≤ 1 ∧ (1 : Int) ≤ 2 ∧ Calls Tryd.prog 13 #[.slice none 0 0, .slice (some ⟨b1, 0, none⟩) 1 2] w5 fun e8 w9 ↦
 ∃ p10 n11 c12, ∃ n13, e8 = .returned (.tuple #[.slice p10 n11 c12, .int .i64 n13]) ∧ ((n7 = 0 ∧ s6 = ByteArray.mk #[97, 32, 105, 110, 116, 44, 32, 98, 32, 116, 101, 120, 116, 32, 110, 117, 108, 108]) ∧ n13 = 0 → ∃ (l15 : List UInt8), BytesAt w9 p10 n11 l15 ∧ R (.returned (.bool (sEq (ByteArray.mk (Array.mk l15)) (ByteArray.mk #[1, 1, 97, 1, 0])))) w9) ∧ ((n7 ≠ 0 ∨ s6 ≠ ByteArray.mk #[97, 32, 105, 110, 116, 44, 32, 98, 32, 116, 101, 120, 116, 32, 110, 117, 108, 108]) ∨ n13 ≠ 0 → R (.returned (.bool false)) w9)

set_option maxRecDepth 100000 in
theorem shown05_eq (w : World) (R : Ending → World → Prop) : shown05_T w R = vcFn Tryd.prog [] [] Tryd.f10 [] w R := by kernel_rfl

set_option maxRecDepth 100000 in
theorem shown05_vc (w : World) (R : Ending → World → Prop) (hvc : shown05_T w R) : Calls Tryd.prog 10 #[] w R :=
  calls_of_vc (args := []) [] [] Tryd.mixed Tryd.func10 (cast (shown05_eq w R) hvc)

set_option maxRecDepth 100000 in
def lawRows_T (b_p : Option Addr) (b_n : Nat) (b_c : Nat) (cols_p : Option Addr) (cols_n : Nat) (cols_c : Nat) (rows_p : Option Addr) (rows_n : Nat) (rows_c : Nat) (at_ : Int) (w : World) (R : Ending → World → Prop) : Prop :=
  Calls Tryd.prog 10 #[] w fun e1 w2 ↦
 ∃ b3, e1 = .returned (.bool b3) ∧ Calls Tryd.prog 24 #[.slice b_p b_n b_c, .slice cols_p cols_n cols_c, .slice rows_p rows_n rows_c] w2 fun e4 w5 ↦
 ∃ p6 n7 c8, ∃ n9, e4 = .returned (.tuple #[.slice p6 n7 c8, .int .i64 n9]) ∧ Calls Tryd.prog 25 #[.slice b_p b_n b_c, .slice cols_p cols_n cols_c, .slice rows_p rows_n rows_c] w5 fun e10 w11 ↦
 ∃ p12 n13 c14, ∃ n15, e10 = .returned (.tuple #[.slice p12 n13 c14, .int .i64 n15]) ∧ Calls Tryd.prog 26 #[.slice b_p b_n b_c, .int .i64 at_, .slice cols_p cols_n cols_c] w11 fun e16 w17 ↦
 ∃ p18 n19 c20, ∃ n21, ∃ n22, e16 = .returned (.tuple #[.slice p18 n19 c20, .int .i64 n21, .int .i64 n22]) ∧ Calls Tryd.prog 27 #[.slice b_p b_n b_c, .int .i64 at_, .slice cols_p cols_n cols_c] w17 fun e23 w24 ↦
 ∃ p25 n26 c27, ∃ n28, ∃ n29, e23 = .returned (.tuple #[.slice p25 n26 c27, .int .i64 n28, .int .i64 n29]) ∧ (b3 = true → ∃ (l31 : List UInt8), BytesAt w24 p6 n7 l31 ∧ ∃ (l32 : List UInt8), BytesAt w24 p12 n13 l32 ∧ (ByteArray.mk (Array.mk l31) = ByteArray.mk (Array.mk l32) ∧ n9 = n15 → Calls Tryd.prog 28 #[.slice p18 n19 c20, .slice p25 n26 c27] w24 fun e34 w35 ↦
 ∃ b36, e34 = .returned (.bool b36) ∧ R (.returned (.bool (b36 && decide (n21 = n28) && decide (n22 = n29)))) w35) ∧ (ByteArray.mk (Array.mk l31) ≠ ByteArray.mk (Array.mk l32) ∨ n9 ≠ n15 → R (.returned (.bool false)) w24)) ∧ (b3 = false → R (.returned (.bool false)) w24)

set_option maxRecDepth 100000 in
theorem lawRows_eq (b_p : Option Addr) (b_n : Nat) (b_c : Nat) (cols_p : Option Addr) (cols_n : Nat) (cols_c : Nat) (rows_p : Option Addr) (rows_n : Nat) (rows_c : Nat) (at_ : Int) (w : World) (R : Ending → World → Prop) : lawRows_T b_p b_n b_c cols_p cols_n cols_c rows_p rows_n rows_c at_ w R = vcFn Tryd.prog [] [] Tryd.f6 [.slice b_p b_n b_c, .slice cols_p cols_n cols_c, .slice rows_p rows_n rows_c, .int .i64 at_] w R := by kernel_rfl

set_option maxRecDepth 100000 in
theorem lawRows_vc (b_p : Option Addr) (b_n : Nat) (b_c : Nat) (cols_p : Option Addr) (cols_n : Nat) (cols_c : Nat) (rows_p : Option Addr) (rows_n : Nat) (rows_c : Nat) (at_ : Int) (w : World) (R : Ending → World → Prop) (hvc : lawRows_T b_p b_n b_c cols_p cols_n cols_c rows_p rows_n rows_c at_ w R) : Calls Tryd.prog 6 #[.slice b_p b_n b_c, .slice cols_p cols_n cols_c, .slice rows_p rows_n rows_c, .int .i64 at_] w R :=
  calls_of_vc (args := [.slice b_p b_n b_c, .slice cols_p cols_n cols_c, .slice rows_p rows_n rows_c, .int .i64 at_]) [] [] Tryd.mixed Tryd.func6 (cast (lawRows_eq _ _ _ _ _ _ _ _ _ _ w R) hvc)

end Go.Proofs.YtiojkfckaalooaaDoor

/- The frame, its blocks in any order; blocks for deferred calls that are not known one by one. -/
namespace Go.Vc
open Go Go.RowKit

section
variable {w0 W W' : World} {fs fs' gs : List (Nat × Obj)} {B d : Nat} {ds : List Nat} {ms : List Row}

theorem Hold.mem (h : Hold w0 W fs ms) {x : Nat × Obj} (hx : x ∈ fs) : W.heap[x.1]? = some x.2 := by
  obtain ⟨i, hi⟩ := List.mem_iff_getElem?.1 hx
  exact h.holds i x hi
theorem Hold.ltM (h : Hold w0 W fs ms) {x : Nat × Obj} (hx : x ∈ fs) : x.1 < W.heap.size := (Array.getElem?_eq_some_iff.1 (h.mem hx)).1
theorem Hold.nodup (h : Hold w0 W fs ms) : (fs.map (·.1)).Nodup := by
  rw [List.Nodup, List.pairwise_iff_getElem]
  intro i j hi hj hij
  simp only [List.getElem_map]
  simp only [List.length_map] at hi hj
  exact h.keys i j _ _ (List.getElem?_eq_getElem hi) (List.getElem?_eq_getElem hj) (by omega)
theorem Hold.make (e : Ext w0 W) (h : ∀ x ∈ fs, w0.heap.size ≤ x.1 ∧ W.heap[x.1]? = some x.2) (hn : (fs.map (·.1)).Nodup) : Hold w0 W fs [] := by
  refine ⟨e, fun x hx => (h x hx).1, fun i x hx => (h x (List.mem_of_getElem? hx)).2, fun i j x y hx hy hij => ?_, by simp, by simp, by simp⟩
  rw [List.Nodup, List.pairwise_iff_getElem] at hn
  obtain ⟨hi, rfl⟩ := List.getElem?_eq_some_iff.1 hx
  obtain ⟨hj, rfl⟩ := List.getElem?_eq_some_iff.1 hy
  rcases Nat.lt_or_ge i j with hlt | hge
  · have := hn i j (by simpa) (by simpa) hlt
    rwa [List.getElem_map, List.getElem_map] at this
  · have := hn j i (by simpa) (by simpa) (by omega)
    rw [List.getElem_map, List.getElem_map] at this
    exact this.symm
theorem Hold.perm (h : Hold w0 W fs []) (hp : fs.Perm fs') : Hold w0 W fs' [] :=
  Hold.make h.ext (fun x hx => ⟨h.ge x (hp.mem_iff.2 hx), h.mem (hp.mem_iff.2 hx)⟩) ((hp.map _).nodup_iff.1 h.nodup)
theorem Hold.sub (h : Hold w0 W fs []) (hp : fs'.Sublist fs) : Hold w0 W fs' [] :=
  Hold.make h.ext (fun x hx => ⟨h.ge x (hp.subset hx), h.mem (hp.subset hx)⟩) (h.nodup.sublist (hp.map _))
theorem Hold.swap {a b c : List (Nat × Obj)} (h : Hold w0 W ((a ++ b) ++ c) []) : Hold w0 W (b ++ (a ++ c)) [] := by
  rw [← List.append_assoc]
  exact h.perm (List.perm_append_comm.append_right c)
theorem Hold.left {a b : List (Nat × Obj)} (h : Hold w0 W (a ++ b) []) : Hold w0 W a [] := h.sub (List.sublist_append_left _ _)
theorem Hold.right {a b : List (Nat × Obj)} (h : Hold w0 W (a ++ b) []) : Hold w0 W b [] := h.sub (List.sublist_append_right _ _)
theorem Hold.but {b : Nat} (h : Hold w0 W fs []) (e : But b W W') (hb : w0.heap.size ≤ b) (hf : ∀ x ∈ fs, x.1 ≠ b) : Hold w0 W' fs [] :=
  Hold.make (h.ext.below.but e hb h.size) (fun x hx => ⟨h.ge x hx, (e.block _ (h.ltM hx) (hf x hx)).trans (h.mem hx)⟩) h.nodup

/-- Open blocks as held ones. -/
def dfs (ds : List Nat) : List (Nat × Obj) := ds.map fun d => (d, .deferred (some []))
theorem Hold.opened (h : Hold w0 W (dfs ds ++ fs) []) (hB : ∀ d ∈ ds, B ≤ d) : Go.Vc.Open B ds W := by
  constructor
  · have := h.left.nodup
    have e : (dfs ds).map (·.1) = ds := by unfold dfs; rw [List.map_map]; exact List.map_id _
    rwa [e] at this
  · intro d hd
    exact ⟨hB d hd, h.mem (x := (d, .deferred (some []))) (List.mem_append_left _ (List.mem_map.2 ⟨d, hd, rfl⟩))⟩
end

theorem Blk.c6 {w : World} {b : Nat} {t : TypeId} {x y z u v q : Value} (h : Blk w b t #[x, y, z, u, v, q]) : w.cell? ⟨b, 0, none⟩ = some x ∧ w.cell? ⟨b, 1, none⟩ = some y ∧ w.cell? ⟨b, 2, none⟩ = some z ∧
    w.cell? ⟨b, 3, none⟩ = some u ∧ w.cell? ⟨b, 4, none⟩ = some v ∧ w.cell? ⟨b, 5, none⟩ = some q := by
  refine ⟨?_, ?_, ?_, ?_, ?_, ?_⟩ <;> (rw [h.cell]; rfl)
/-- A block of six cells can be written. -/
theorem Blk.w6 {w : World} {b : Nat} {t : TypeId} {x y z u v q : Value} (h : Blk w b t #[x, y, z, u, v, q]) {X : Prop} (hX : X) : (∃ u, w.cell? ⟨b, 0, none⟩ = some u) ∧ w.frozen? ⟨b, 0, none⟩ = false ∧ (∃ u, w.cell? ⟨b, 1, none⟩ = some u) ∧ w.frozen? ⟨b, 1, none⟩ = false ∧
    (∃ u, w.cell? ⟨b, 2, none⟩ = some u) ∧ w.frozen? ⟨b, 2, none⟩ = false ∧ (∃ u, w.cell? ⟨b, 3, none⟩ = some u) ∧ w.frozen? ⟨b, 3, none⟩ = false ∧ (∃ u, w.cell? ⟨b, 4, none⟩ = some u) ∧ w.frozen? ⟨b, 4, none⟩ = false ∧
    (∃ u, w.cell? ⟨b, 5, none⟩ = some u) ∧ w.frozen? ⟨b, 5, none⟩ = false ∧ X := by
  obtain ⟨a0, a1, a2, a3, a4, a5⟩ := h.c6
  exact ⟨⟨_, a0⟩, h.frozen _, ⟨_, a1⟩, h.frozen _, ⟨_, a2⟩, h.frozen _, ⟨_, a3⟩, h.frozen _, ⟨_, a4⟩, h.frozen _, ⟨_, a5⟩, h.frozen _, hX⟩
end Go.Vc
namespace Go.Vc
open Go Go.RowKit
end Go.Vc

/- Cells out of the frame, one by one: what the printed steps of a walk use. -/
namespace Go.Vc
open Go Go.RowKit

section
variable {w0 W W' : World} {fs : List (Nat × Obj)} {ms : List Row} {b k : Nat} {t : TypeId} {cs : Array Value} {v : Value}
theorem Hold.get (h : Hold w0 W fs ms) (i : Nat) (hi : fs[i]? = some (b, .cells cs t (0, 0))) (hk : cs[k]? = some v) : W.cell? ⟨b, k, none⟩ = some v := by
  rw [(h.blk i hi).cell]; exact hk
theorem Hold.frz (h : Hold w0 W fs ms) (i : Nat) (hi : fs[i]? = some (b, .cells cs t (0, 0))) : W.frozen? ⟨b, k, none⟩ = false := (h.blk i hi).frozen k
end
end Go.Vc

/- The contracts of package value's bytes, and of the document's answer for them. -/
namespace Go.Proofs.YtiojkfckaalooaaDoor
open Go Go.Vc Go.RowKit
set_option maxRecDepth 20000
attribute [local irreducible] Calls Put Drew New

def takeVV (l : List UInt8) (pos : Int) : Value :=
  match takeVal l pos with
  | some (v, k) => .tuple #[v.agg, .int .i64 (k : Int), .int .i64 0]
  | none => .tuple #[nullV.agg, .int .i64 0, .int .i64 20]
def layV (l : List UInt8) (v : Val) : List UInt8 × Int := if v.right then (l ++ valB v, 0) else ([], 2)
theorem In.byte {w : World} {p : Option Addr} {n c : Nat} {l : List UInt8} (h : In w p n c l) {i : Nat} (hi : i < n) : ∃ b o, p = some ⟨b, o, none⟩ ∧ w.cell? ⟨b, o + i, none⟩ = some (.int .u8 ((by_ l i : Nat) : Int)) := by
  have hl := h.len
  obtain ⟨b, o, hp, hc⟩ := h.lies.getB (i := i) (by omega)
  refine ⟨b, o, hp, ?_⟩
  rw [hc]
  unfold by_
  rw [List.getD_eq_getElem?_getD, List.getElem?_eq_getElem (by omega)]; rfl
theorem by_lt (l : List UInt8) (i : Nat) : by_ l i < 256 := UInt8.toNat_lt _
theorem ok_right {v : Val} (h : v.Ok) : v.right = true := decide_eq_true h
set_option maxHeartbeats 4000000 in
theorem vtake_ok (w : World) {p : Option Addr} {n c : Nat} {l : List UInt8} (h : In w p n c l) {pos : Int} :
    Calls Tryd.prog 51 #[.slice p n c, .int .i64 pos] w fun e w' => e = .returned (takeVV l pos) ∧ Ext w w' := by
  have hl := h.len
  have hn : n ≤ 9223372036854775807 := h.le
  apply vtake_vc
  unfold vtake_T
  have H := Hold.start (Ext.rfl (w := w))
  repeat (first
    | (intro _ _ hS; replace H := H.new hS; clear hS)
    | (intro _ hS; (first | replace H := H.put 0 rfl hS | replace H := H.put 1 rfl hS | replace H := H.put 2 rfl hS | replace H := H.put 3 rfl hS | replace H := H.put 4 rfl hS | replace H := H.put 5 rfl hS | replace H := H.put 6 rfl hS | replace H := H.put 7 rfl hS); clear hS; try simp only [setA, List.setIfInBounds_toArray, List.set_cons_zero, List.set_cons_succ, Nat.zero_add, Nat.reduceAdd] at H)
    | (intro _ hS; replace H := H.step (Drew.ext hS); clear hS)
    | (first | refine ⟨⟨_, H.get 0 rfl rfl⟩, ?_⟩ | refine ⟨⟨_, H.get 1 rfl rfl⟩, ?_⟩ | refine ⟨⟨_, H.get 2 rfl rfl⟩, ?_⟩ | refine ⟨⟨_, H.get 3 rfl rfl⟩, ?_⟩ | refine ⟨⟨_, H.get 4 rfl rfl⟩, ?_⟩ | refine ⟨⟨_, H.get 5 rfl rfl⟩, ?_⟩ | refine ⟨⟨_, H.get 6 rfl rfl⟩, ?_⟩ | refine ⟨⟨_, H.get 7 rfl rfl⟩, ?_⟩)
    | (first | refine ⟨H.frz 0 rfl, ?_⟩ | refine ⟨H.frz 1 rfl, ?_⟩ | refine ⟨H.frz 2 rfl, ?_⟩ | refine ⟨H.frz 3 rfl, ?_⟩ | refine ⟨H.frz 4 rfl, ?_⟩ | refine ⟨H.frz 5 rfl, ?_⟩ | refine ⟨H.frz 6 rfl, ?_⟩ | refine ⟨H.frz 7 rfl, ?_⟩)
    | (first | refine ⟨_, H.get 0 rfl rfl, ?_⟩ | refine ⟨_, H.get 1 rfl rfl, ?_⟩ | refine ⟨_, H.get 2 rfl rfl, ?_⟩ | refine ⟨_, H.get 3 rfl rfl, ?_⟩ | refine ⟨_, H.get 4 rfl rfl, ?_⟩ | refine ⟨_, H.get 5 rfl rfl, ?_⟩ | refine ⟨_, H.get 6 rfl rfl, ?_⟩ | refine ⟨_, H.get 7 rfl rfl, ?_⟩)
    | (first | refine ⟨_, _, _, H.get 0 rfl rfl, ?_⟩ | refine ⟨_, _, _, H.get 1 rfl rfl, ?_⟩ | refine ⟨_, _, _, H.get 2 rfl rfl, ?_⟩ | refine ⟨_, _, _, H.get 3 rfl rfl, ?_⟩ | refine ⟨_, _, _, H.get 4 rfl rfl, ?_⟩ | refine ⟨_, _, _, H.get 5 rfl rfl, ?_⟩ | refine ⟨_, _, _, H.get 6 rfl rfl, ?_⟩ | refine ⟨_, _, _, H.get 7 rfl rfl, ?_⟩))
  refine ⟨fun hout => ?_, fun hin => ?_⟩
  · have e : takeVV l pos = .tuple #[nullV.agg, .int .i64 0, .int .i64 20] := by unfold takeVV takeVal; rw [if_neg (by omega)]
    repeat (first
      | (intro _ _ hS; replace H := H.new hS; clear hS)
      | (intro _ hS; (first | replace H := H.put 0 rfl hS | replace H := H.put 1 rfl hS | replace H := H.put 2 rfl hS | replace H := H.put 3 rfl hS | replace H := H.put 4 rfl hS | replace H := H.put 5 rfl hS | replace H := H.put 6 rfl hS | replace H := H.put 7 rfl hS); clear hS; try simp only [setA, List.setIfInBounds_toArray, List.set_cons_zero, List.set_cons_succ, Nat.zero_add, Nat.reduceAdd] at H)
      | (intro _ hS; replace H := H.step (Drew.ext hS); clear hS)
      | (first | refine ⟨⟨_, H.get 0 rfl rfl⟩, ?_⟩ | refine ⟨⟨_, H.get 1 rfl rfl⟩, ?_⟩ | refine ⟨⟨_, H.get 2 rfl rfl⟩, ?_⟩ | refine ⟨⟨_, H.get 3 rfl rfl⟩, ?_⟩ | refine ⟨⟨_, H.get 4 rfl rfl⟩, ?_⟩ | refine ⟨⟨_, H.get 5 rfl rfl⟩, ?_⟩ | refine ⟨⟨_, H.get 6 rfl rfl⟩, ?_⟩ | refine ⟨⟨_, H.get 7 rfl rfl⟩, ?_⟩)
      | (first | refine ⟨H.frz 0 rfl, ?_⟩ | refine ⟨H.frz 1 rfl, ?_⟩ | refine ⟨H.frz 2 rfl, ?_⟩ | refine ⟨H.frz 3 rfl, ?_⟩ | refine ⟨H.frz 4 rfl, ?_⟩ | refine ⟨H.frz 5 rfl, ?_⟩ | refine ⟨H.frz 6 rfl, ?_⟩ | refine ⟨H.frz 7 rfl, ?_⟩)
      | (first | refine ⟨_, H.get 0 rfl rfl, ?_⟩ | refine ⟨_, H.get 1 rfl rfl, ?_⟩ | refine ⟨_, H.get 2 rfl rfl, ?_⟩ | refine ⟨_, H.get 3 rfl rfl, ?_⟩ | refine ⟨_, H.get 4 rfl rfl, ?_⟩ | refine ⟨_, H.get 5 rfl rfl, ?_⟩ | refine ⟨_, H.get 6 rfl rfl, ?_⟩ | refine ⟨_, H.get 7 rfl rfl, ?_⟩)
      | (first | refine ⟨_, _, _, H.get 0 rfl rfl, ?_⟩ | refine ⟨_, _, _, H.get 1 rfl rfl, ?_⟩ | refine ⟨_, _, _, H.get 2 rfl rfl, ?_⟩ | refine ⟨_, _, _, H.get 3 rfl rfl, ?_⟩ | refine ⟨_, _, _, H.get 4 rfl rfl, ?_⟩ | refine ⟨_, _, _, H.get 5 rfl rfl, ?_⟩ | refine ⟨_, _, _, H.get 6 rfl rfl, ?_⟩ | refine ⟨_, _, _, H.get 7 rfl rfl, ?_⟩))
    exact ⟨by rw [e]; rfl, H.ext⟩
  obtain ⟨q, rfl⟩ := Int.eq_ofNat_of_zero_le hin.1
  have hq : q < n := by omega
  obtain ⟨b, o, hb, hc⟩ := h.byte hq
  have hlt := by_lt l q
  simp only [Int.toNat_natCast]
  refine ⟨b, o, hb, by omega, by omega, _, cell_ext hc H.ext, ?_⟩
  have e8 : IntKind.i64.wrap ((by_ l q : Nat) : Int) = ((by_ l q : Nat) : Int) := i64_fit (by omega) (by omega)
  have ep : IntKind.i64.wrap ((q : Int) + 1) = ((q + 1 : Nat) : Int) := i64_fit (by omega) (by omega)
  rw [e8, ep]
  have e1 : (q : Int) + 1 = ((q + 1 : Nat) : Int) := by omega
  have hv : takeVal l (q : Int) = (if by_ l q = 0 then some (nullV, q + 1)
      else if by_ l q = 1 then (takeN l ((q + 1 : Nat) : Int)).map fun r => (⟨1, unzig r.1, ⟨#[]⟩⟩, r.2)
      else if by_ l q = 2 then (takeN l ((q + 1 : Nat) : Int)).bind fun r => if r.1 ≤ 1 then some (⟨2, (r.1 : Int), ⟨#[]⟩⟩, r.2) else none
      else if by_ l q = 3 then (takeN l ((q + 1 : Nat) : Int)).bind fun r => if r.1 ≤ 1024 ∧ r.1 ≤ l.length - r.2 then some (⟨3, 0, textOf l r.2 r.1⟩, r.2 + r.1) else none
      else none) := by
    unfold takeVal
    rw [if_pos (by omega), Int.toNat_natCast, e1]
  generalize hk : by_ l q = k at *
  repeat (first
    | (intro _ _ hS; replace H := H.new hS; clear hS)
    | (intro _ hS; (first | replace H := H.put 0 rfl hS | replace H := H.put 1 rfl hS | replace H := H.put 2 rfl hS | replace H := H.put 3 rfl hS | replace H := H.put 4 rfl hS | replace H := H.put 5 rfl hS | replace H := H.put 6 rfl hS | replace H := H.put 7 rfl hS); clear hS; try simp only [setA, List.setIfInBounds_toArray, List.set_cons_zero, List.set_cons_succ, Nat.zero_add, Nat.reduceAdd] at H)
    | (intro _ hS; replace H := H.step (Drew.ext hS); clear hS)
    | (first | refine ⟨⟨_, H.get 0 rfl rfl⟩, ?_⟩ | refine ⟨⟨_, H.get 1 rfl rfl⟩, ?_⟩ | refine ⟨⟨_, H.get 2 rfl rfl⟩, ?_⟩ | refine ⟨⟨_, H.get 3 rfl rfl⟩, ?_⟩ | refine ⟨⟨_, H.get 4 rfl rfl⟩, ?_⟩ | refine ⟨⟨_, H.get 5 rfl rfl⟩, ?_⟩ | refine ⟨⟨_, H.get 6 rfl rfl⟩, ?_⟩ | refine ⟨⟨_, H.get 7 rfl rfl⟩, ?_⟩)
    | (first | refine ⟨H.frz 0 rfl, ?_⟩ | refine ⟨H.frz 1 rfl, ?_⟩ | refine ⟨H.frz 2 rfl, ?_⟩ | refine ⟨H.frz 3 rfl, ?_⟩ | refine ⟨H.frz 4 rfl, ?_⟩ | refine ⟨H.frz 5 rfl, ?_⟩ | refine ⟨H.frz 6 rfl, ?_⟩ | refine ⟨H.frz 7 rfl, ?_⟩)
    | (first | refine ⟨_, H.get 0 rfl rfl, ?_⟩ | refine ⟨_, H.get 1 rfl rfl, ?_⟩ | refine ⟨_, H.get 2 rfl rfl, ?_⟩ | refine ⟨_, H.get 3 rfl rfl, ?_⟩ | refine ⟨_, H.get 4 rfl rfl, ?_⟩ | refine ⟨_, H.get 5 rfl rfl, ?_⟩ | refine ⟨_, H.get 6 rfl rfl, ?_⟩ | refine ⟨_, H.get 7 rfl rfl, ?_⟩)
    | (first | refine ⟨_, _, _, H.get 0 rfl rfl, ?_⟩ | refine ⟨_, _, _, H.get 1 rfl rfl, ?_⟩ | refine ⟨_, _, _, H.get 2 rfl rfl, ?_⟩ | refine ⟨_, _, _, H.get 3 rfl rfl, ?_⟩ | refine ⟨_, _, _, H.get 4 rfl rfl, ?_⟩ | refine ⟨_, _, _, H.get 5 rfl rfl, ?_⟩ | refine ⟨_, _, _, H.get 6 rfl rfl, ?_⟩ | refine ⟨_, _, _, H.get 7 rfl rfl, ?_⟩))
  refine ⟨fun h0 => ⟨fun hx => absurd rfl hx, fun _ => ?_⟩, fun h0 => ⟨fun h1 => ?_, fun h1 => ⟨fun h2 => ?_, fun h2 => ⟨fun h3 => ?_, fun h3 => ⟨fun hx => absurd rfl hx, fun _ => ?_⟩⟩⟩⟩⟩
  · have h0 : k = 0 := by omega
    subst h0
    rw [if_pos rfl] at hv
    have e : takeVV l (q : Int) = .tuple #[nullV.agg, .int .i64 ((q + 1 : Nat) : Int), .int .i64 0] := by unfold takeVV; rw [hv]
    repeat (first
      | (intro _ _ hS; replace H := H.new hS; clear hS)
      | (intro _ hS; (first | replace H := H.put 0 rfl hS | replace H := H.put 1 rfl hS | replace H := H.put 2 rfl hS | replace H := H.put 3 rfl hS | replace H := H.put 4 rfl hS | replace H := H.put 5 rfl hS | replace H := H.put 6 rfl hS | replace H := H.put 7 rfl hS); clear hS; try simp only [setA, List.setIfInBounds_toArray, List.set_cons_zero, List.set_cons_succ, Nat.zero_add, Nat.reduceAdd] at H)
      | (intro _ hS; replace H := H.step (Drew.ext hS); clear hS)
      | (first | refine ⟨⟨_, H.get 0 rfl rfl⟩, ?_⟩ | refine ⟨⟨_, H.get 1 rfl rfl⟩, ?_⟩ | refine ⟨⟨_, H.get 2 rfl rfl⟩, ?_⟩ | refine ⟨⟨_, H.get 3 rfl rfl⟩, ?_⟩ | refine ⟨⟨_, H.get 4 rfl rfl⟩, ?_⟩ | refine ⟨⟨_, H.get 5 rfl rfl⟩, ?_⟩ | refine ⟨⟨_, H.get 6 rfl rfl⟩, ?_⟩ | refine ⟨⟨_, H.get 7 rfl rfl⟩, ?_⟩)
      | (first | refine ⟨H.frz 0 rfl, ?_⟩ | refine ⟨H.frz 1 rfl, ?_⟩ | refine ⟨H.frz 2 rfl, ?_⟩ | refine ⟨H.frz 3 rfl, ?_⟩ | refine ⟨H.frz 4 rfl, ?_⟩ | refine ⟨H.frz 5 rfl, ?_⟩ | refine ⟨H.frz 6 rfl, ?_⟩ | refine ⟨H.frz 7 rfl, ?_⟩)
      | (first | refine ⟨_, H.get 0 rfl rfl, ?_⟩ | refine ⟨_, H.get 1 rfl rfl, ?_⟩ | refine ⟨_, H.get 2 rfl rfl, ?_⟩ | refine ⟨_, H.get 3 rfl rfl, ?_⟩ | refine ⟨_, H.get 4 rfl rfl, ?_⟩ | refine ⟨_, H.get 5 rfl rfl, ?_⟩ | refine ⟨_, H.get 6 rfl rfl, ?_⟩ | refine ⟨_, H.get 7 rfl rfl, ?_⟩)
      | (first | refine ⟨_, _, _, H.get 0 rfl rfl, ?_⟩ | refine ⟨_, _, _, H.get 1 rfl rfl, ?_⟩ | refine ⟨_, _, _, H.get 2 rfl rfl, ?_⟩ | refine ⟨_, _, _, H.get 3 rfl rfl, ?_⟩ | refine ⟨_, _, _, H.get 4 rfl rfl, ?_⟩ | refine ⟨_, _, _, H.get 5 rfl rfl, ?_⟩ | refine ⟨_, _, _, H.get 6 rfl rfl, ?_⟩ | refine ⟨_, _, _, H.get 7 rfl rfl, ?_⟩))
    refine (vright_ok nullV _).mono ?_
    rintro e W ⟨rfl, eS⟩
    replace H := H.step eS
    refine ⟨_, rfl, fun hf => absurd hf (by rw [ok_right (.inl ⟨rfl, rfl, rfl⟩)]; decide), fun _ => ?_⟩
    repeat (first
      | (intro _ _ hS; replace H := H.new hS; clear hS)
      | (intro _ hS; (first | replace H := H.put 0 rfl hS | replace H := H.put 1 rfl hS | replace H := H.put 2 rfl hS | replace H := H.put 3 rfl hS | replace H := H.put 4 rfl hS | replace H := H.put 5 rfl hS | replace H := H.put 6 rfl hS | replace H := H.put 7 rfl hS); clear hS; try simp only [setA, List.setIfInBounds_toArray, List.set_cons_zero, List.set_cons_succ, Nat.zero_add, Nat.reduceAdd] at H)
      | (intro _ hS; replace H := H.step (Drew.ext hS); clear hS)
      | (first | refine ⟨⟨_, H.get 0 rfl rfl⟩, ?_⟩ | refine ⟨⟨_, H.get 1 rfl rfl⟩, ?_⟩ | refine ⟨⟨_, H.get 2 rfl rfl⟩, ?_⟩ | refine ⟨⟨_, H.get 3 rfl rfl⟩, ?_⟩ | refine ⟨⟨_, H.get 4 rfl rfl⟩, ?_⟩ | refine ⟨⟨_, H.get 5 rfl rfl⟩, ?_⟩ | refine ⟨⟨_, H.get 6 rfl rfl⟩, ?_⟩ | refine ⟨⟨_, H.get 7 rfl rfl⟩, ?_⟩)
      | (first | refine ⟨H.frz 0 rfl, ?_⟩ | refine ⟨H.frz 1 rfl, ?_⟩ | refine ⟨H.frz 2 rfl, ?_⟩ | refine ⟨H.frz 3 rfl, ?_⟩ | refine ⟨H.frz 4 rfl, ?_⟩ | refine ⟨H.frz 5 rfl, ?_⟩ | refine ⟨H.frz 6 rfl, ?_⟩ | refine ⟨H.frz 7 rfl, ?_⟩)
      | (first | refine ⟨_, H.get 0 rfl rfl, ?_⟩ | refine ⟨_, H.get 1 rfl rfl, ?_⟩ | refine ⟨_, H.get 2 rfl rfl, ?_⟩ | refine ⟨_, H.get 3 rfl rfl, ?_⟩ | refine ⟨_, H.get 4 rfl rfl, ?_⟩ | refine ⟨_, H.get 5 rfl rfl, ?_⟩ | refine ⟨_, H.get 6 rfl rfl, ?_⟩ | refine ⟨_, H.get 7 rfl rfl, ?_⟩)
      | (first | refine ⟨_, _, _, H.get 0 rfl rfl, ?_⟩ | refine ⟨_, _, _, H.get 1 rfl rfl, ?_⟩ | refine ⟨_, _, _, H.get 2 rfl rfl, ?_⟩ | refine ⟨_, _, _, H.get 3 rfl rfl, ?_⟩ | refine ⟨_, _, _, H.get 4 rfl rfl, ?_⟩ | refine ⟨_, _, _, H.get 5 rfl rfl, ?_⟩ | refine ⟨_, _, _, H.get 6 rfl rfl, ?_⟩ | refine ⟨_, _, _, H.get 7 rfl rfl, ?_⟩))
    exact ⟨by rw [e]; rfl, H.ext⟩
  · have h1 : k = 1 := by omega
    subst h1
    rw [if_neg (by decide), if_pos rfl] at hv
    refine (takeSigned_ok _ p n c l _ h.len h.cap.1 h.le (h.lies.ext H.ext)).mono ?_
    rintro e W ⟨rfl, eS⟩
    replace H := H.step eS
    clear eS
    unfold takeS
    cases ht : takeN l ((q + 1 : Nat) : Int) with
    | none =>
      rw [ht] at hv
      have e : takeVV l (q : Int) = .tuple #[nullV.agg, .int .i64 0, .int .i64 20] := by unfold takeVV; rw [hv]; rfl
      refine ⟨0, 0, 20, rfl, ?_⟩
      repeat (first
        | (intro _ _ hS; replace H := H.new hS; clear hS)
        | (intro _ hS; (first | replace H := H.put 0 rfl hS | replace H := H.put 1 rfl hS | replace H := H.put 2 rfl hS | replace H := H.put 3 rfl hS | replace H := H.put 4 rfl hS | replace H := H.put 5 rfl hS | replace H := H.put 6 rfl hS | replace H := H.put 7 rfl hS); clear hS; try simp only [setA, List.setIfInBounds_toArray, List.set_cons_zero, List.set_cons_succ, Nat.zero_add, Nat.reduceAdd] at H)
        | (intro _ hS; replace H := H.step (Drew.ext hS); clear hS)
        | (first | refine ⟨⟨_, H.get 0 rfl rfl⟩, ?_⟩ | refine ⟨⟨_, H.get 1 rfl rfl⟩, ?_⟩ | refine ⟨⟨_, H.get 2 rfl rfl⟩, ?_⟩ | refine ⟨⟨_, H.get 3 rfl rfl⟩, ?_⟩ | refine ⟨⟨_, H.get 4 rfl rfl⟩, ?_⟩ | refine ⟨⟨_, H.get 5 rfl rfl⟩, ?_⟩ | refine ⟨⟨_, H.get 6 rfl rfl⟩, ?_⟩ | refine ⟨⟨_, H.get 7 rfl rfl⟩, ?_⟩)
        | (first | refine ⟨H.frz 0 rfl, ?_⟩ | refine ⟨H.frz 1 rfl, ?_⟩ | refine ⟨H.frz 2 rfl, ?_⟩ | refine ⟨H.frz 3 rfl, ?_⟩ | refine ⟨H.frz 4 rfl, ?_⟩ | refine ⟨H.frz 5 rfl, ?_⟩ | refine ⟨H.frz 6 rfl, ?_⟩ | refine ⟨H.frz 7 rfl, ?_⟩)
        | (first | refine ⟨_, H.get 0 rfl rfl, ?_⟩ | refine ⟨_, H.get 1 rfl rfl, ?_⟩ | refine ⟨_, H.get 2 rfl rfl, ?_⟩ | refine ⟨_, H.get 3 rfl rfl, ?_⟩ | refine ⟨_, H.get 4 rfl rfl, ?_⟩ | refine ⟨_, H.get 5 rfl rfl, ?_⟩ | refine ⟨_, H.get 6 rfl rfl, ?_⟩ | refine ⟨_, H.get 7 rfl rfl, ?_⟩)
        | (first | refine ⟨_, _, _, H.get 0 rfl rfl, ?_⟩ | refine ⟨_, _, _, H.get 1 rfl rfl, ?_⟩ | refine ⟨_, _, _, H.get 2 rfl rfl, ?_⟩ | refine ⟨_, _, _, H.get 3 rfl rfl, ?_⟩ | refine ⟨_, _, _, H.get 4 rfl rfl, ?_⟩ | refine ⟨_, _, _, H.get 5 rfl rfl, ?_⟩ | refine ⟨_, _, _, H.get 6 rfl rfl, ?_⟩ | refine ⟨_, _, _, H.get 7 rfl rfl, ?_⟩))
      refine ⟨fun _ => ?_, fun hx => absurd hx (by decide)⟩
      repeat (first
        | (intro _ _ hS; replace H := H.new hS; clear hS)
        | (intro _ hS; (first | replace H := H.put 0 rfl hS | replace H := H.put 1 rfl hS | replace H := H.put 2 rfl hS | replace H := H.put 3 rfl hS | replace H := H.put 4 rfl hS | replace H := H.put 5 rfl hS | replace H := H.put 6 rfl hS | replace H := H.put 7 rfl hS); clear hS; try simp only [setA, List.setIfInBounds_toArray, List.set_cons_zero, List.set_cons_succ, Nat.zero_add, Nat.reduceAdd] at H)
        | (intro _ hS; replace H := H.step (Drew.ext hS); clear hS)
        | (first | refine ⟨⟨_, H.get 0 rfl rfl⟩, ?_⟩ | refine ⟨⟨_, H.get 1 rfl rfl⟩, ?_⟩ | refine ⟨⟨_, H.get 2 rfl rfl⟩, ?_⟩ | refine ⟨⟨_, H.get 3 rfl rfl⟩, ?_⟩ | refine ⟨⟨_, H.get 4 rfl rfl⟩, ?_⟩ | refine ⟨⟨_, H.get 5 rfl rfl⟩, ?_⟩ | refine ⟨⟨_, H.get 6 rfl rfl⟩, ?_⟩ | refine ⟨⟨_, H.get 7 rfl rfl⟩, ?_⟩)
        | (first | refine ⟨H.frz 0 rfl, ?_⟩ | refine ⟨H.frz 1 rfl, ?_⟩ | refine ⟨H.frz 2 rfl, ?_⟩ | refine ⟨H.frz 3 rfl, ?_⟩ | refine ⟨H.frz 4 rfl, ?_⟩ | refine ⟨H.frz 5 rfl, ?_⟩ | refine ⟨H.frz 6 rfl, ?_⟩ | refine ⟨H.frz 7 rfl, ?_⟩)
        | (first | refine ⟨_, H.get 0 rfl rfl, ?_⟩ | refine ⟨_, H.get 1 rfl rfl, ?_⟩ | refine ⟨_, H.get 2 rfl rfl, ?_⟩ | refine ⟨_, H.get 3 rfl rfl, ?_⟩ | refine ⟨_, H.get 4 rfl rfl, ?_⟩ | refine ⟨_, H.get 5 rfl rfl, ?_⟩ | refine ⟨_, H.get 6 rfl rfl, ?_⟩ | refine ⟨_, H.get 7 rfl rfl, ?_⟩)
        | (first | refine ⟨_, _, _, H.get 0 rfl rfl, ?_⟩ | refine ⟨_, _, _, H.get 1 rfl rfl, ?_⟩ | refine ⟨_, _, _, H.get 2 rfl rfl, ?_⟩ | refine ⟨_, _, _, H.get 3 rfl rfl, ?_⟩ | refine ⟨_, _, _, H.get 4 rfl rfl, ?_⟩ | refine ⟨_, _, _, H.get 5 rfl rfl, ?_⟩ | refine ⟨_, _, _, H.get 6 rfl rfl, ?_⟩ | refine ⟨_, _, _, H.get 7 rfl rfl, ?_⟩))
      exact ⟨by rw [e]; rfl, H.ext⟩
    | some r =>
      obtain ⟨x, j⟩ := r
      rw [ht] at hv
      have e : takeVV l (q : Int) = .tuple #[(⟨1, unzig x, ⟨#[]⟩⟩ : Val).agg, .int .i64 (j : Int), .int .i64 0] := by unfold takeVV; rw [hv]; rfl
      refine ⟨_, _, _, rfl, ?_⟩
      repeat (first
        | (intro _ _ hS; replace H := H.new hS; clear hS)
        | (intro _ hS; (first | replace H := H.put 0 rfl hS | replace H := H.put 1 rfl hS | replace H := H.put 2 rfl hS | replace H := H.put 3 rfl hS | replace H := H.put 4 rfl hS | replace H := H.put 5 rfl hS | replace H := H.put 6 rfl hS | replace H := H.put 7 rfl hS); clear hS; try simp only [setA, List.setIfInBounds_toArray, List.set_cons_zero, List.set_cons_succ, Nat.zero_add, Nat.reduceAdd] at H)
        | (intro _ hS; replace H := H.step (Drew.ext hS); clear hS)
        | (first | refine ⟨⟨_, H.get 0 rfl rfl⟩, ?_⟩ | refine ⟨⟨_, H.get 1 rfl rfl⟩, ?_⟩ | refine ⟨⟨_, H.get 2 rfl rfl⟩, ?_⟩ | refine ⟨⟨_, H.get 3 rfl rfl⟩, ?_⟩ | refine ⟨⟨_, H.get 4 rfl rfl⟩, ?_⟩ | refine ⟨⟨_, H.get 5 rfl rfl⟩, ?_⟩ | refine ⟨⟨_, H.get 6 rfl rfl⟩, ?_⟩ | refine ⟨⟨_, H.get 7 rfl rfl⟩, ?_⟩)
        | (first | refine ⟨H.frz 0 rfl, ?_⟩ | refine ⟨H.frz 1 rfl, ?_⟩ | refine ⟨H.frz 2 rfl, ?_⟩ | refine ⟨H.frz 3 rfl, ?_⟩ | refine ⟨H.frz 4 rfl, ?_⟩ | refine ⟨H.frz 5 rfl, ?_⟩ | refine ⟨H.frz 6 rfl, ?_⟩ | refine ⟨H.frz 7 rfl, ?_⟩)
        | (first | refine ⟨_, H.get 0 rfl rfl, ?_⟩ | refine ⟨_, H.get 1 rfl rfl, ?_⟩ | refine ⟨_, H.get 2 rfl rfl, ?_⟩ | refine ⟨_, H.get 3 rfl rfl, ?_⟩ | refine ⟨_, H.get 4 rfl rfl, ?_⟩ | refine ⟨_, H.get 5 rfl rfl, ?_⟩ | refine ⟨_, H.get 6 rfl rfl, ?_⟩ | refine ⟨_, H.get 7 rfl rfl, ?_⟩)
        | (first | refine ⟨_, _, _, H.get 0 rfl rfl, ?_⟩ | refine ⟨_, _, _, H.get 1 rfl rfl, ?_⟩ | refine ⟨_, _, _, H.get 2 rfl rfl, ?_⟩ | refine ⟨_, _, _, H.get 3 rfl rfl, ?_⟩ | refine ⟨_, _, _, H.get 4 rfl rfl, ?_⟩ | refine ⟨_, _, _, H.get 5 rfl rfl, ?_⟩ | refine ⟨_, _, _, H.get 6 rfl rfl, ?_⟩ | refine ⟨_, _, _, H.get 7 rfl rfl, ?_⟩))
      refine ⟨fun hx => absurd rfl hx, fun _ => ?_⟩
      repeat (first
        | (intro _ _ hS; replace H := H.new hS; clear hS)
        | (intro _ hS; (first | replace H := H.put 0 rfl hS | replace H := H.put 1 rfl hS | replace H := H.put 2 rfl hS | replace H := H.put 3 rfl hS | replace H := H.put 4 rfl hS | replace H := H.put 5 rfl hS | replace H := H.put 6 rfl hS | replace H := H.put 7 rfl hS); clear hS; try simp only [setA, List.setIfInBounds_toArray, List.set_cons_zero, List.set_cons_succ, Nat.zero_add, Nat.reduceAdd] at H)
        | (intro _ hS; replace H := H.step (Drew.ext hS); clear hS)
        | (first | refine ⟨⟨_, H.get 0 rfl rfl⟩, ?_⟩ | refine ⟨⟨_, H.get 1 rfl rfl⟩, ?_⟩ | refine ⟨⟨_, H.get 2 rfl rfl⟩, ?_⟩ | refine ⟨⟨_, H.get 3 rfl rfl⟩, ?_⟩ | refine ⟨⟨_, H.get 4 rfl rfl⟩, ?_⟩ | refine ⟨⟨_, H.get 5 rfl rfl⟩, ?_⟩ | refine ⟨⟨_, H.get 6 rfl rfl⟩, ?_⟩ | refine ⟨⟨_, H.get 7 rfl rfl⟩, ?_⟩)
        | (first | refine ⟨H.frz 0 rfl, ?_⟩ | refine ⟨H.frz 1 rfl, ?_⟩ | refine ⟨H.frz 2 rfl, ?_⟩ | refine ⟨H.frz 3 rfl, ?_⟩ | refine ⟨H.frz 4 rfl, ?_⟩ | refine ⟨H.frz 5 rfl, ?_⟩ | refine ⟨H.frz 6 rfl, ?_⟩ | refine ⟨H.frz 7 rfl, ?_⟩)
        | (first | refine ⟨_, H.get 0 rfl rfl, ?_⟩ | refine ⟨_, H.get 1 rfl rfl, ?_⟩ | refine ⟨_, H.get 2 rfl rfl, ?_⟩ | refine ⟨_, H.get 3 rfl rfl, ?_⟩ | refine ⟨_, H.get 4 rfl rfl, ?_⟩ | refine ⟨_, H.get 5 rfl rfl, ?_⟩ | refine ⟨_, H.get 6 rfl rfl, ?_⟩ | refine ⟨_, H.get 7 rfl rfl, ?_⟩)
        | (first | refine ⟨_, _, _, H.get 0 rfl rfl, ?_⟩ | refine ⟨_, _, _, H.get 1 rfl rfl, ?_⟩ | refine ⟨_, _, _, H.get 2 rfl rfl, ?_⟩ | refine ⟨_, _, _, H.get 3 rfl rfl, ?_⟩ | refine ⟨_, _, _, H.get 4 rfl rfl, ?_⟩ | refine ⟨_, _, _, H.get 5 rfl rfl, ?_⟩ | refine ⟨_, _, _, H.get 6 rfl rfl, ?_⟩ | refine ⟨_, _, _, H.get 7 rfl rfl, ?_⟩))
      refine (vright_ok ⟨1, unzig x, ⟨#[]⟩⟩ _).mono ?_
      rintro e W ⟨rfl, eS⟩
      replace H := H.step eS
      refine ⟨_, rfl, fun hf => absurd hf (by rw [ok_right (.inr (.inl ⟨rfl, rfl⟩))]; decide), fun _ => ?_⟩
      repeat (first
        | (intro _ _ hS; replace H := H.new hS; clear hS)
        | (intro _ hS; (first | replace H := H.put 0 rfl hS | replace H := H.put 1 rfl hS | replace H := H.put 2 rfl hS | replace H := H.put 3 rfl hS | replace H := H.put 4 rfl hS | replace H := H.put 5 rfl hS | replace H := H.put 6 rfl hS | replace H := H.put 7 rfl hS); clear hS; try simp only [setA, List.setIfInBounds_toArray, List.set_cons_zero, List.set_cons_succ, Nat.zero_add, Nat.reduceAdd] at H)
        | (intro _ hS; replace H := H.step (Drew.ext hS); clear hS)
        | (first | refine ⟨⟨_, H.get 0 rfl rfl⟩, ?_⟩ | refine ⟨⟨_, H.get 1 rfl rfl⟩, ?_⟩ | refine ⟨⟨_, H.get 2 rfl rfl⟩, ?_⟩ | refine ⟨⟨_, H.get 3 rfl rfl⟩, ?_⟩ | refine ⟨⟨_, H.get 4 rfl rfl⟩, ?_⟩ | refine ⟨⟨_, H.get 5 rfl rfl⟩, ?_⟩ | refine ⟨⟨_, H.get 6 rfl rfl⟩, ?_⟩ | refine ⟨⟨_, H.get 7 rfl rfl⟩, ?_⟩)
        | (first | refine ⟨H.frz 0 rfl, ?_⟩ | refine ⟨H.frz 1 rfl, ?_⟩ | refine ⟨H.frz 2 rfl, ?_⟩ | refine ⟨H.frz 3 rfl, ?_⟩ | refine ⟨H.frz 4 rfl, ?_⟩ | refine ⟨H.frz 5 rfl, ?_⟩ | refine ⟨H.frz 6 rfl, ?_⟩ | refine ⟨H.frz 7 rfl, ?_⟩)
        | (first | refine ⟨_, H.get 0 rfl rfl, ?_⟩ | refine ⟨_, H.get 1 rfl rfl, ?_⟩ | refine ⟨_, H.get 2 rfl rfl, ?_⟩ | refine ⟨_, H.get 3 rfl rfl, ?_⟩ | refine ⟨_, H.get 4 rfl rfl, ?_⟩ | refine ⟨_, H.get 5 rfl rfl, ?_⟩ | refine ⟨_, H.get 6 rfl rfl, ?_⟩ | refine ⟨_, H.get 7 rfl rfl, ?_⟩)
        | (first | refine ⟨_, _, _, H.get 0 rfl rfl, ?_⟩ | refine ⟨_, _, _, H.get 1 rfl rfl, ?_⟩ | refine ⟨_, _, _, H.get 2 rfl rfl, ?_⟩ | refine ⟨_, _, _, H.get 3 rfl rfl, ?_⟩ | refine ⟨_, _, _, H.get 4 rfl rfl, ?_⟩ | refine ⟨_, _, _, H.get 5 rfl rfl, ?_⟩ | refine ⟨_, _, _, H.get 6 rfl rfl, ?_⟩ | refine ⟨_, _, _, H.get 7 rfl rfl, ?_⟩))
      exact ⟨by rw [e]; rfl, H.ext⟩
  · have h2 : k = 2 := by omega
    subst h2
    rw [if_neg (by decide), if_neg (by decide), if_pos rfl] at hv
    refine (takeNumber_ok _ p n c l _ h.len h.cap.1 h.le (h.lies.ext H.ext)).mono ?_
    rintro e W ⟨rfl, eS⟩
    replace H := H.step eS
    clear eS
    unfold takeV
    cases ht : takeN l ((q + 1 : Nat) : Int) with
    | none =>
      rw [ht] at hv
      have e : takeVV l (q : Int) = .tuple #[nullV.agg, .int .i64 0, .int .i64 20] := by unfold takeVV; rw [hv]; rfl
      refine ⟨0, 0, 20, rfl, ?_⟩
      repeat (first
        | (intro _ _ hS; replace H := H.new hS; clear hS)
        | (intro _ hS; (first | replace H := H.put 0 rfl hS | replace H := H.put 1 rfl hS | replace H := H.put 2 rfl hS | replace H := H.put 3 rfl hS | replace H := H.put 4 rfl hS | replace H := H.put 5 rfl hS | replace H := H.put 6 rfl hS | replace H := H.put 7 rfl hS); clear hS; try simp only [setA, List.setIfInBounds_toArray, List.set_cons_zero, List.set_cons_succ, Nat.zero_add, Nat.reduceAdd] at H)
        | (intro _ hS; replace H := H.step (Drew.ext hS); clear hS)
        | (first | refine ⟨⟨_, H.get 0 rfl rfl⟩, ?_⟩ | refine ⟨⟨_, H.get 1 rfl rfl⟩, ?_⟩ | refine ⟨⟨_, H.get 2 rfl rfl⟩, ?_⟩ | refine ⟨⟨_, H.get 3 rfl rfl⟩, ?_⟩ | refine ⟨⟨_, H.get 4 rfl rfl⟩, ?_⟩ | refine ⟨⟨_, H.get 5 rfl rfl⟩, ?_⟩ | refine ⟨⟨_, H.get 6 rfl rfl⟩, ?_⟩ | refine ⟨⟨_, H.get 7 rfl rfl⟩, ?_⟩)
        | (first | refine ⟨H.frz 0 rfl, ?_⟩ | refine ⟨H.frz 1 rfl, ?_⟩ | refine ⟨H.frz 2 rfl, ?_⟩ | refine ⟨H.frz 3 rfl, ?_⟩ | refine ⟨H.frz 4 rfl, ?_⟩ | refine ⟨H.frz 5 rfl, ?_⟩ | refine ⟨H.frz 6 rfl, ?_⟩ | refine ⟨H.frz 7 rfl, ?_⟩)
        | (first | refine ⟨_, H.get 0 rfl rfl, ?_⟩ | refine ⟨_, H.get 1 rfl rfl, ?_⟩ | refine ⟨_, H.get 2 rfl rfl, ?_⟩ | refine ⟨_, H.get 3 rfl rfl, ?_⟩ | refine ⟨_, H.get 4 rfl rfl, ?_⟩ | refine ⟨_, H.get 5 rfl rfl, ?_⟩ | refine ⟨_, H.get 6 rfl rfl, ?_⟩ | refine ⟨_, H.get 7 rfl rfl, ?_⟩)
        | (first | refine ⟨_, _, _, H.get 0 rfl rfl, ?_⟩ | refine ⟨_, _, _, H.get 1 rfl rfl, ?_⟩ | refine ⟨_, _, _, H.get 2 rfl rfl, ?_⟩ | refine ⟨_, _, _, H.get 3 rfl rfl, ?_⟩ | refine ⟨_, _, _, H.get 4 rfl rfl, ?_⟩ | refine ⟨_, _, _, H.get 5 rfl rfl, ?_⟩ | refine ⟨_, _, _, H.get 6 rfl rfl, ?_⟩ | refine ⟨_, _, _, H.get 7 rfl rfl, ?_⟩))
      refine ⟨fun _ => ?_, fun hx => absurd hx (by decide)⟩
      repeat (first
        | (intro _ _ hS; replace H := H.new hS; clear hS)
        | (intro _ hS; (first | replace H := H.put 0 rfl hS | replace H := H.put 1 rfl hS | replace H := H.put 2 rfl hS | replace H := H.put 3 rfl hS | replace H := H.put 4 rfl hS | replace H := H.put 5 rfl hS | replace H := H.put 6 rfl hS | replace H := H.put 7 rfl hS); clear hS; try simp only [setA, List.setIfInBounds_toArray, List.set_cons_zero, List.set_cons_succ, Nat.zero_add, Nat.reduceAdd] at H)
        | (intro _ hS; replace H := H.step (Drew.ext hS); clear hS)
        | (first | refine ⟨⟨_, H.get 0 rfl rfl⟩, ?_⟩ | refine ⟨⟨_, H.get 1 rfl rfl⟩, ?_⟩ | refine ⟨⟨_, H.get 2 rfl rfl⟩, ?_⟩ | refine ⟨⟨_, H.get 3 rfl rfl⟩, ?_⟩ | refine ⟨⟨_, H.get 4 rfl rfl⟩, ?_⟩ | refine ⟨⟨_, H.get 5 rfl rfl⟩, ?_⟩ | refine ⟨⟨_, H.get 6 rfl rfl⟩, ?_⟩ | refine ⟨⟨_, H.get 7 rfl rfl⟩, ?_⟩)
        | (first | refine ⟨H.frz 0 rfl, ?_⟩ | refine ⟨H.frz 1 rfl, ?_⟩ | refine ⟨H.frz 2 rfl, ?_⟩ | refine ⟨H.frz 3 rfl, ?_⟩ | refine ⟨H.frz 4 rfl, ?_⟩ | refine ⟨H.frz 5 rfl, ?_⟩ | refine ⟨H.frz 6 rfl, ?_⟩ | refine ⟨H.frz 7 rfl, ?_⟩)
        | (first | refine ⟨_, H.get 0 rfl rfl, ?_⟩ | refine ⟨_, H.get 1 rfl rfl, ?_⟩ | refine ⟨_, H.get 2 rfl rfl, ?_⟩ | refine ⟨_, H.get 3 rfl rfl, ?_⟩ | refine ⟨_, H.get 4 rfl rfl, ?_⟩ | refine ⟨_, H.get 5 rfl rfl, ?_⟩ | refine ⟨_, H.get 6 rfl rfl, ?_⟩ | refine ⟨_, H.get 7 rfl rfl, ?_⟩)
        | (first | refine ⟨_, _, _, H.get 0 rfl rfl, ?_⟩ | refine ⟨_, _, _, H.get 1 rfl rfl, ?_⟩ | refine ⟨_, _, _, H.get 2 rfl rfl, ?_⟩ | refine ⟨_, _, _, H.get 3 rfl rfl, ?_⟩ | refine ⟨_, _, _, H.get 4 rfl rfl, ?_⟩ | refine ⟨_, _, _, H.get 5 rfl rfl, ?_⟩ | refine ⟨_, _, _, H.get 6 rfl rfl, ?_⟩ | refine ⟨_, _, _, H.get 7 rfl rfl, ?_⟩))
      exact ⟨by rw [e]; rfl, H.ext⟩
    | some r =>
      obtain ⟨x, j⟩ := r
      rw [ht] at hv
      obtain ⟨_, hx64, _⟩ := takeN_spec ht
      refine ⟨_, _, _, rfl, ?_⟩
      repeat (first
        | (intro _ _ hS; replace H := H.new hS; clear hS)
        | (intro _ hS; (first | replace H := H.put 0 rfl hS | replace H := H.put 1 rfl hS | replace H := H.put 2 rfl hS | replace H := H.put 3 rfl hS | replace H := H.put 4 rfl hS | replace H := H.put 5 rfl hS | replace H := H.put 6 rfl hS | replace H := H.put 7 rfl hS); clear hS; try simp only [setA, List.setIfInBounds_toArray, List.set_cons_zero, List.set_cons_succ, Nat.zero_add, Nat.reduceAdd] at H)
        | (intro _ hS; replace H := H.step (Drew.ext hS); clear hS)
        | (first | refine ⟨⟨_, H.get 0 rfl rfl⟩, ?_⟩ | refine ⟨⟨_, H.get 1 rfl rfl⟩, ?_⟩ | refine ⟨⟨_, H.get 2 rfl rfl⟩, ?_⟩ | refine ⟨⟨_, H.get 3 rfl rfl⟩, ?_⟩ | refine ⟨⟨_, H.get 4 rfl rfl⟩, ?_⟩ | refine ⟨⟨_, H.get 5 rfl rfl⟩, ?_⟩ | refine ⟨⟨_, H.get 6 rfl rfl⟩, ?_⟩ | refine ⟨⟨_, H.get 7 rfl rfl⟩, ?_⟩)
        | (first | refine ⟨H.frz 0 rfl, ?_⟩ | refine ⟨H.frz 1 rfl, ?_⟩ | refine ⟨H.frz 2 rfl, ?_⟩ | refine ⟨H.frz 3 rfl, ?_⟩ | refine ⟨H.frz 4 rfl, ?_⟩ | refine ⟨H.frz 5 rfl, ?_⟩ | refine ⟨H.frz 6 rfl, ?_⟩ | refine ⟨H.frz 7 rfl, ?_⟩)
        | (first | refine ⟨_, H.get 0 rfl rfl, ?_⟩ | refine ⟨_, H.get 1 rfl rfl, ?_⟩ | refine ⟨_, H.get 2 rfl rfl, ?_⟩ | refine ⟨_, H.get 3 rfl rfl, ?_⟩ | refine ⟨_, H.get 4 rfl rfl, ?_⟩ | refine ⟨_, H.get 5 rfl rfl, ?_⟩ | refine ⟨_, H.get 6 rfl rfl, ?_⟩ | refine ⟨_, H.get 7 rfl rfl, ?_⟩)
        | (first | refine ⟨_, _, _, H.get 0 rfl rfl, ?_⟩ | refine ⟨_, _, _, H.get 1 rfl rfl, ?_⟩ | refine ⟨_, _, _, H.get 2 rfl rfl, ?_⟩ | refine ⟨_, _, _, H.get 3 rfl rfl, ?_⟩ | refine ⟨_, _, _, H.get 4 rfl rfl, ?_⟩ | refine ⟨_, _, _, H.get 5 rfl rfl, ?_⟩ | refine ⟨_, _, _, H.get 6 rfl rfl, ?_⟩ | refine ⟨_, _, _, H.get 7 rfl rfl, ?_⟩))
      refine ⟨fun hx => absurd rfl hx, fun _ => ?_⟩
      repeat (first
        | (intro _ _ hS; replace H := H.new hS; clear hS)
        | (intro _ hS; (first | replace H := H.put 0 rfl hS | replace H := H.put 1 rfl hS | replace H := H.put 2 rfl hS | replace H := H.put 3 rfl hS | replace H := H.put 4 rfl hS | replace H := H.put 5 rfl hS | replace H := H.put 6 rfl hS | replace H := H.put 7 rfl hS); clear hS; try simp only [setA, List.setIfInBounds_toArray, List.set_cons_zero, List.set_cons_succ, Nat.zero_add, Nat.reduceAdd] at H)
        | (intro _ hS; replace H := H.step (Drew.ext hS); clear hS)
        | (first | refine ⟨⟨_, H.get 0 rfl rfl⟩, ?_⟩ | refine ⟨⟨_, H.get 1 rfl rfl⟩, ?_⟩ | refine ⟨⟨_, H.get 2 rfl rfl⟩, ?_⟩ | refine ⟨⟨_, H.get 3 rfl rfl⟩, ?_⟩ | refine ⟨⟨_, H.get 4 rfl rfl⟩, ?_⟩ | refine ⟨⟨_, H.get 5 rfl rfl⟩, ?_⟩ | refine ⟨⟨_, H.get 6 rfl rfl⟩, ?_⟩ | refine ⟨⟨_, H.get 7 rfl rfl⟩, ?_⟩)
        | (first | refine ⟨H.frz 0 rfl, ?_⟩ | refine ⟨H.frz 1 rfl, ?_⟩ | refine ⟨H.frz 2 rfl, ?_⟩ | refine ⟨H.frz 3 rfl, ?_⟩ | refine ⟨H.frz 4 rfl, ?_⟩ | refine ⟨H.frz 5 rfl, ?_⟩ | refine ⟨H.frz 6 rfl, ?_⟩ | refine ⟨H.frz 7 rfl, ?_⟩)
        | (first | refine ⟨_, H.get 0 rfl rfl, ?_⟩ | refine ⟨_, H.get 1 rfl rfl, ?_⟩ | refine ⟨_, H.get 2 rfl rfl, ?_⟩ | refine ⟨_, H.get 3 rfl rfl, ?_⟩ | refine ⟨_, H.get 4 rfl rfl, ?_⟩ | refine ⟨_, H.get 5 rfl rfl, ?_⟩ | refine ⟨_, H.get 6 rfl rfl, ?_⟩ | refine ⟨_, H.get 7 rfl rfl, ?_⟩)
        | (first | refine ⟨_, _, _, H.get 0 rfl rfl, ?_⟩ | refine ⟨_, _, _, H.get 1 rfl rfl, ?_⟩ | refine ⟨_, _, _, H.get 2 rfl rfl, ?_⟩ | refine ⟨_, _, _, H.get 3 rfl rfl, ?_⟩ | refine ⟨_, _, _, H.get 4 rfl rfl, ?_⟩ | refine ⟨_, _, _, H.get 5 rfl rfl, ?_⟩ | refine ⟨_, _, _, H.get 6 rfl rfl, ?_⟩ | refine ⟨_, _, _, H.get 7 rfl rfl, ?_⟩))
      refine (vright_ok ⟨2, IntKind.i64.wrap (x : Int), ⟨#[]⟩⟩ _).mono ?_
      rintro e W ⟨rfl, eS⟩
      replace H := H.step eS
      refine ⟨_, rfl, fun hf => ?_, fun ht => ?_⟩
      · have hx1 : ¬ x ≤ 1 := by
          intro hx
          rw [ok_right (.inr (.inr (.inl ⟨rfl, by show IntKind.i64.wrap (x : Int) = 0 ∨ IntKind.i64.wrap (x : Int) = 1; rw [i64_fit (by omega) (by omega)]; omega, rfl⟩)))] at hf
          cases hf
        have e : takeVV l (q : Int) = .tuple #[nullV.agg, .int .i64 0, .int .i64 20] := by unfold takeVV; rw [hv]; simp only [Option.bind_some]; rw [if_neg hx1]
        repeat (first
          | (intro _ _ hS; replace H := H.new hS; clear hS)
          | (intro _ hS; (first | replace H := H.put 0 rfl hS | replace H := H.put 1 rfl hS | replace H := H.put 2 rfl hS | replace H := H.put 3 rfl hS | replace H := H.put 4 rfl hS | replace H := H.put 5 rfl hS | replace H := H.put 6 rfl hS | replace H := H.put 7 rfl hS); clear hS; try simp only [setA, List.setIfInBounds_toArray, List.set_cons_zero, List.set_cons_succ, Nat.zero_add, Nat.reduceAdd] at H)
          | (intro _ hS; replace H := H.step (Drew.ext hS); clear hS)
          | (first | refine ⟨⟨_, H.get 0 rfl rfl⟩, ?_⟩ | refine ⟨⟨_, H.get 1 rfl rfl⟩, ?_⟩ | refine ⟨⟨_, H.get 2 rfl rfl⟩, ?_⟩ | refine ⟨⟨_, H.get 3 rfl rfl⟩, ?_⟩ | refine ⟨⟨_, H.get 4 rfl rfl⟩, ?_⟩ | refine ⟨⟨_, H.get 5 rfl rfl⟩, ?_⟩ | refine ⟨⟨_, H.get 6 rfl rfl⟩, ?_⟩ | refine ⟨⟨_, H.get 7 rfl rfl⟩, ?_⟩)
          | (first | refine ⟨H.frz 0 rfl, ?_⟩ | refine ⟨H.frz 1 rfl, ?_⟩ | refine ⟨H.frz 2 rfl, ?_⟩ | refine ⟨H.frz 3 rfl, ?_⟩ | refine ⟨H.frz 4 rfl, ?_⟩ | refine ⟨H.frz 5 rfl, ?_⟩ | refine ⟨H.frz 6 rfl, ?_⟩ | refine ⟨H.frz 7 rfl, ?_⟩)
          | (first | refine ⟨_, H.get 0 rfl rfl, ?_⟩ | refine ⟨_, H.get 1 rfl rfl, ?_⟩ | refine ⟨_, H.get 2 rfl rfl, ?_⟩ | refine ⟨_, H.get 3 rfl rfl, ?_⟩ | refine ⟨_, H.get 4 rfl rfl, ?_⟩ | refine ⟨_, H.get 5 rfl rfl, ?_⟩ | refine ⟨_, H.get 6 rfl rfl, ?_⟩ | refine ⟨_, H.get 7 rfl rfl, ?_⟩)
          | (first | refine ⟨_, _, _, H.get 0 rfl rfl, ?_⟩ | refine ⟨_, _, _, H.get 1 rfl rfl, ?_⟩ | refine ⟨_, _, _, H.get 2 rfl rfl, ?_⟩ | refine ⟨_, _, _, H.get 3 rfl rfl, ?_⟩ | refine ⟨_, _, _, H.get 4 rfl rfl, ?_⟩ | refine ⟨_, _, _, H.get 5 rfl rfl, ?_⟩ | refine ⟨_, _, _, H.get 6 rfl rfl, ?_⟩ | refine ⟨_, _, _, H.get 7 rfl rfl, ?_⟩))
        exact ⟨by rw [e]; rfl, H.ext⟩
      · have hok : Val.Ok ⟨2, IntKind.i64.wrap (x : Int), ⟨#[]⟩⟩ := of_decide_eq_true ht
        have hx1 : x ≤ 1 ∧ IntKind.i64.wrap (x : Int) = (x : Int) := by
          rw [IntKind.wrap_i64] at hok ⊢
          rcases hok with ⟨a, _⟩ | ⟨a, _⟩ | ⟨_, a, _⟩ | ⟨a, _⟩
          · cases a
          · cases a
          · dsimp only at a; omega
          · cases a
        have e : takeVV l (q : Int) = .tuple #[(⟨2, (x : Int), ⟨#[]⟩⟩ : Val).agg, .int .i64 (j : Int), .int .i64 0] := by unfold takeVV; rw [hv]; simp only [Option.bind_some]; rw [if_pos hx1.1]
        repeat (first
          | (intro _ _ hS; replace H := H.new hS; clear hS)
          | (intro _ hS; (first | replace H := H.put 0 rfl hS | replace H := H.put 1 rfl hS | replace H := H.put 2 rfl hS | replace H := H.put 3 rfl hS | replace H := H.put 4 rfl hS | replace H := H.put 5 rfl hS | replace H := H.put 6 rfl hS | replace H := H.put 7 rfl hS); clear hS; try simp only [setA, List.setIfInBounds_toArray, List.set_cons_zero, List.set_cons_succ, Nat.zero_add, Nat.reduceAdd] at H)
          | (intro _ hS; replace H := H.step (Drew.ext hS); clear hS)
          | (first | refine ⟨⟨_, H.get 0 rfl rfl⟩, ?_⟩ | refine ⟨⟨_, H.get 1 rfl rfl⟩, ?_⟩ | refine ⟨⟨_, H.get 2 rfl rfl⟩, ?_⟩ | refine ⟨⟨_, H.get 3 rfl rfl⟩, ?_⟩ | refine ⟨⟨_, H.get 4 rfl rfl⟩, ?_⟩ | refine ⟨⟨_, H.get 5 rfl rfl⟩, ?_⟩ | refine ⟨⟨_, H.get 6 rfl rfl⟩, ?_⟩ | refine ⟨⟨_, H.get 7 rfl rfl⟩, ?_⟩)
          | (first | refine ⟨H.frz 0 rfl, ?_⟩ | refine ⟨H.frz 1 rfl, ?_⟩ | refine ⟨H.frz 2 rfl, ?_⟩ | refine ⟨H.frz 3 rfl, ?_⟩ | refine ⟨H.frz 4 rfl, ?_⟩ | refine ⟨H.frz 5 rfl, ?_⟩ | refine ⟨H.frz 6 rfl, ?_⟩ | refine ⟨H.frz 7 rfl, ?_⟩)
          | (first | refine ⟨_, H.get 0 rfl rfl, ?_⟩ | refine ⟨_, H.get 1 rfl rfl, ?_⟩ | refine ⟨_, H.get 2 rfl rfl, ?_⟩ | refine ⟨_, H.get 3 rfl rfl, ?_⟩ | refine ⟨_, H.get 4 rfl rfl, ?_⟩ | refine ⟨_, H.get 5 rfl rfl, ?_⟩ | refine ⟨_, H.get 6 rfl rfl, ?_⟩ | refine ⟨_, H.get 7 rfl rfl, ?_⟩)
          | (first | refine ⟨_, _, _, H.get 0 rfl rfl, ?_⟩ | refine ⟨_, _, _, H.get 1 rfl rfl, ?_⟩ | refine ⟨_, _, _, H.get 2 rfl rfl, ?_⟩ | refine ⟨_, _, _, H.get 3 rfl rfl, ?_⟩ | refine ⟨_, _, _, H.get 4 rfl rfl, ?_⟩ | refine ⟨_, _, _, H.get 5 rfl rfl, ?_⟩ | refine ⟨_, _, _, H.get 6 rfl rfl, ?_⟩ | refine ⟨_, _, _, H.get 7 rfl rfl, ?_⟩))
        exact ⟨by rw [e, hx1.2]; rfl, H.ext⟩
  · have h3 : k = 3 := by omega
    subst h3
    rw [if_neg (by decide), if_neg (by decide), if_neg (by decide), if_pos rfl] at hv
    refine (takeText_ok _ (h.ext H.ext) (pos := ((q + 1 : Nat) : Int)) (most := 1024) (by decide)).mono ?_
    rintro e W ⟨rfl, eS⟩
    replace H := H.step eS
    clear eS
    have bad : takeT l ((q + 1 : Nat) : Int) 1024 = .tuple #[.string ⟨#[]⟩, .int .i64 0, .int .i64 20] → takeVal l (q : Int) = none → ∃ s n1 n2, Ending.returned (takeT l ((q + 1 : Nat) : Int) 1024) = .returned (.tuple #[.string s, .int .i64 n1, .int .i64 n2]) ∧ s = ⟨#[]⟩ ∧ n2 = 20 := fun e _ => ⟨_, _, _, by rw [e], rfl, rfl⟩
    clear bad
    unfold takeT
    cases ht : takeN l ((q + 1 : Nat) : Int) with
    | none =>
      rw [ht] at hv
      have e : takeVV l (q : Int) = .tuple #[nullV.agg, .int .i64 0, .int .i64 20] := by unfold takeVV; rw [hv]; rfl
      refine ⟨⟨#[]⟩, 0, 20, rfl, ?_⟩
      repeat (first
        | (intro _ _ hS; replace H := H.new hS; clear hS)
        | (intro _ hS; (first | replace H := H.put 0 rfl hS | replace H := H.put 1 rfl hS | replace H := H.put 2 rfl hS | replace H := H.put 3 rfl hS | replace H := H.put 4 rfl hS | replace H := H.put 5 rfl hS | replace H := H.put 6 rfl hS | replace H := H.put 7 rfl hS); clear hS; try simp only [setA, List.setIfInBounds_toArray, List.set_cons_zero, List.set_cons_succ, Nat.zero_add, Nat.reduceAdd] at H)
        | (intro _ hS; replace H := H.step (Drew.ext hS); clear hS)
        | (first | refine ⟨⟨_, H.get 0 rfl rfl⟩, ?_⟩ | refine ⟨⟨_, H.get 1 rfl rfl⟩, ?_⟩ | refine ⟨⟨_, H.get 2 rfl rfl⟩, ?_⟩ | refine ⟨⟨_, H.get 3 rfl rfl⟩, ?_⟩ | refine ⟨⟨_, H.get 4 rfl rfl⟩, ?_⟩ | refine ⟨⟨_, H.get 5 rfl rfl⟩, ?_⟩ | refine ⟨⟨_, H.get 6 rfl rfl⟩, ?_⟩ | refine ⟨⟨_, H.get 7 rfl rfl⟩, ?_⟩)
        | (first | refine ⟨H.frz 0 rfl, ?_⟩ | refine ⟨H.frz 1 rfl, ?_⟩ | refine ⟨H.frz 2 rfl, ?_⟩ | refine ⟨H.frz 3 rfl, ?_⟩ | refine ⟨H.frz 4 rfl, ?_⟩ | refine ⟨H.frz 5 rfl, ?_⟩ | refine ⟨H.frz 6 rfl, ?_⟩ | refine ⟨H.frz 7 rfl, ?_⟩)
        | (first | refine ⟨_, H.get 0 rfl rfl, ?_⟩ | refine ⟨_, H.get 1 rfl rfl, ?_⟩ | refine ⟨_, H.get 2 rfl rfl, ?_⟩ | refine ⟨_, H.get 3 rfl rfl, ?_⟩ | refine ⟨_, H.get 4 rfl rfl, ?_⟩ | refine ⟨_, H.get 5 rfl rfl, ?_⟩ | refine ⟨_, H.get 6 rfl rfl, ?_⟩ | refine ⟨_, H.get 7 rfl rfl, ?_⟩)
        | (first | refine ⟨_, _, _, H.get 0 rfl rfl, ?_⟩ | refine ⟨_, _, _, H.get 1 rfl rfl, ?_⟩ | refine ⟨_, _, _, H.get 2 rfl rfl, ?_⟩ | refine ⟨_, _, _, H.get 3 rfl rfl, ?_⟩ | refine ⟨_, _, _, H.get 4 rfl rfl, ?_⟩ | refine ⟨_, _, _, H.get 5 rfl rfl, ?_⟩ | refine ⟨_, _, _, H.get 6 rfl rfl, ?_⟩ | refine ⟨_, _, _, H.get 7 rfl rfl, ?_⟩))
      refine ⟨fun _ => ?_, fun hx => absurd hx (by decide)⟩
      repeat (first
        | (intro _ _ hS; replace H := H.new hS; clear hS)
        | (intro _ hS; (first | replace H := H.put 0 rfl hS | replace H := H.put 1 rfl hS | replace H := H.put 2 rfl hS | replace H := H.put 3 rfl hS | replace H := H.put 4 rfl hS | replace H := H.put 5 rfl hS | replace H := H.put 6 rfl hS | replace H := H.put 7 rfl hS); clear hS; try simp only [setA, List.setIfInBounds_toArray, List.set_cons_zero, List.set_cons_succ, Nat.zero_add, Nat.reduceAdd] at H)
        | (intro _ hS; replace H := H.step (Drew.ext hS); clear hS)
        | (first | refine ⟨⟨_, H.get 0 rfl rfl⟩, ?_⟩ | refine ⟨⟨_, H.get 1 rfl rfl⟩, ?_⟩ | refine ⟨⟨_, H.get 2 rfl rfl⟩, ?_⟩ | refine ⟨⟨_, H.get 3 rfl rfl⟩, ?_⟩ | refine ⟨⟨_, H.get 4 rfl rfl⟩, ?_⟩ | refine ⟨⟨_, H.get 5 rfl rfl⟩, ?_⟩ | refine ⟨⟨_, H.get 6 rfl rfl⟩, ?_⟩ | refine ⟨⟨_, H.get 7 rfl rfl⟩, ?_⟩)
        | (first | refine ⟨H.frz 0 rfl, ?_⟩ | refine ⟨H.frz 1 rfl, ?_⟩ | refine ⟨H.frz 2 rfl, ?_⟩ | refine ⟨H.frz 3 rfl, ?_⟩ | refine ⟨H.frz 4 rfl, ?_⟩ | refine ⟨H.frz 5 rfl, ?_⟩ | refine ⟨H.frz 6 rfl, ?_⟩ | refine ⟨H.frz 7 rfl, ?_⟩)
        | (first | refine ⟨_, H.get 0 rfl rfl, ?_⟩ | refine ⟨_, H.get 1 rfl rfl, ?_⟩ | refine ⟨_, H.get 2 rfl rfl, ?_⟩ | refine ⟨_, H.get 3 rfl rfl, ?_⟩ | refine ⟨_, H.get 4 rfl rfl, ?_⟩ | refine ⟨_, H.get 5 rfl rfl, ?_⟩ | refine ⟨_, H.get 6 rfl rfl, ?_⟩ | refine ⟨_, H.get 7 rfl rfl, ?_⟩)
        | (first | refine ⟨_, _, _, H.get 0 rfl rfl, ?_⟩ | refine ⟨_, _, _, H.get 1 rfl rfl, ?_⟩ | refine ⟨_, _, _, H.get 2 rfl rfl, ?_⟩ | refine ⟨_, _, _, H.get 3 rfl rfl, ?_⟩ | refine ⟨_, _, _, H.get 4 rfl rfl, ?_⟩ | refine ⟨_, _, _, H.get 5 rfl rfl, ?_⟩ | refine ⟨_, _, _, H.get 6 rfl rfl, ?_⟩ | refine ⟨_, _, _, H.get 7 rfl rfl, ?_⟩))
      exact ⟨by rw [e]; rfl, H.ext⟩
    | some r =>
      obtain ⟨x, j⟩ := r
      rw [ht] at hv
      simp only [Option.bind_some] at hv
      dsimp only
      by_cases hx : x ≤ 1024 ∧ x ≤ l.length - j
      · rw [if_pos hx] at hv
        rw [if_pos ⟨by omega, by omega, hx.2⟩]
        have hsz := text_size hx.2
        have e : takeVV l (q : Int) = .tuple #[(⟨3, 0, textOf l j x⟩ : Val).agg, .int .i64 ((j + x : Nat) : Int), .int .i64 0] := by unfold takeVV; rw [hv]
        refine ⟨textOf l j x, _, _, rfl, ?_⟩
        repeat (first
          | (intro _ _ hS; replace H := H.new hS; clear hS)
          | (intro _ hS; (first | replace H := H.put 0 rfl hS | replace H := H.put 1 rfl hS | replace H := H.put 2 rfl hS | replace H := H.put 3 rfl hS | replace H := H.put 4 rfl hS | replace H := H.put 5 rfl hS | replace H := H.put 6 rfl hS | replace H := H.put 7 rfl hS); clear hS; try simp only [setA, List.setIfInBounds_toArray, List.set_cons_zero, List.set_cons_succ, Nat.zero_add, Nat.reduceAdd] at H)
          | (intro _ hS; replace H := H.step (Drew.ext hS); clear hS)
          | (first | refine ⟨⟨_, H.get 0 rfl rfl⟩, ?_⟩ | refine ⟨⟨_, H.get 1 rfl rfl⟩, ?_⟩ | refine ⟨⟨_, H.get 2 rfl rfl⟩, ?_⟩ | refine ⟨⟨_, H.get 3 rfl rfl⟩, ?_⟩ | refine ⟨⟨_, H.get 4 rfl rfl⟩, ?_⟩ | refine ⟨⟨_, H.get 5 rfl rfl⟩, ?_⟩ | refine ⟨⟨_, H.get 6 rfl rfl⟩, ?_⟩ | refine ⟨⟨_, H.get 7 rfl rfl⟩, ?_⟩)
          | (first | refine ⟨H.frz 0 rfl, ?_⟩ | refine ⟨H.frz 1 rfl, ?_⟩ | refine ⟨H.frz 2 rfl, ?_⟩ | refine ⟨H.frz 3 rfl, ?_⟩ | refine ⟨H.frz 4 rfl, ?_⟩ | refine ⟨H.frz 5 rfl, ?_⟩ | refine ⟨H.frz 6 rfl, ?_⟩ | refine ⟨H.frz 7 rfl, ?_⟩)
          | (first | refine ⟨_, H.get 0 rfl rfl, ?_⟩ | refine ⟨_, H.get 1 rfl rfl, ?_⟩ | refine ⟨_, H.get 2 rfl rfl, ?_⟩ | refine ⟨_, H.get 3 rfl rfl, ?_⟩ | refine ⟨_, H.get 4 rfl rfl, ?_⟩ | refine ⟨_, H.get 5 rfl rfl, ?_⟩ | refine ⟨_, H.get 6 rfl rfl, ?_⟩ | refine ⟨_, H.get 7 rfl rfl, ?_⟩)
          | (first | refine ⟨_, _, _, H.get 0 rfl rfl, ?_⟩ | refine ⟨_, _, _, H.get 1 rfl rfl, ?_⟩ | refine ⟨_, _, _, H.get 2 rfl rfl, ?_⟩ | refine ⟨_, _, _, H.get 3 rfl rfl, ?_⟩ | refine ⟨_, _, _, H.get 4 rfl rfl, ?_⟩ | refine ⟨_, _, _, H.get 5 rfl rfl, ?_⟩ | refine ⟨_, _, _, H.get 6 rfl rfl, ?_⟩ | refine ⟨_, _, _, H.get 7 rfl rfl, ?_⟩))
        refine ⟨fun hx => absurd rfl hx, fun _ => ?_⟩
        repeat (first
          | (intro _ _ hS; replace H := H.new hS; clear hS)
          | (intro _ hS; (first | replace H := H.put 0 rfl hS | replace H := H.put 1 rfl hS | replace H := H.put 2 rfl hS | replace H := H.put 3 rfl hS | replace H := H.put 4 rfl hS | replace H := H.put 5 rfl hS | replace H := H.put 6 rfl hS | replace H := H.put 7 rfl hS); clear hS; try simp only [setA, List.setIfInBounds_toArray, List.set_cons_zero, List.set_cons_succ, Nat.zero_add, Nat.reduceAdd] at H)
          | (intro _ hS; replace H := H.step (Drew.ext hS); clear hS)
          | (first | refine ⟨⟨_, H.get 0 rfl rfl⟩, ?_⟩ | refine ⟨⟨_, H.get 1 rfl rfl⟩, ?_⟩ | refine ⟨⟨_, H.get 2 rfl rfl⟩, ?_⟩ | refine ⟨⟨_, H.get 3 rfl rfl⟩, ?_⟩ | refine ⟨⟨_, H.get 4 rfl rfl⟩, ?_⟩ | refine ⟨⟨_, H.get 5 rfl rfl⟩, ?_⟩ | refine ⟨⟨_, H.get 6 rfl rfl⟩, ?_⟩ | refine ⟨⟨_, H.get 7 rfl rfl⟩, ?_⟩)
          | (first | refine ⟨H.frz 0 rfl, ?_⟩ | refine ⟨H.frz 1 rfl, ?_⟩ | refine ⟨H.frz 2 rfl, ?_⟩ | refine ⟨H.frz 3 rfl, ?_⟩ | refine ⟨H.frz 4 rfl, ?_⟩ | refine ⟨H.frz 5 rfl, ?_⟩ | refine ⟨H.frz 6 rfl, ?_⟩ | refine ⟨H.frz 7 rfl, ?_⟩)
          | (first | refine ⟨_, H.get 0 rfl rfl, ?_⟩ | refine ⟨_, H.get 1 rfl rfl, ?_⟩ | refine ⟨_, H.get 2 rfl rfl, ?_⟩ | refine ⟨_, H.get 3 rfl rfl, ?_⟩ | refine ⟨_, H.get 4 rfl rfl, ?_⟩ | refine ⟨_, H.get 5 rfl rfl, ?_⟩ | refine ⟨_, H.get 6 rfl rfl, ?_⟩ | refine ⟨_, H.get 7 rfl rfl, ?_⟩)
          | (first | refine ⟨_, _, _, H.get 0 rfl rfl, ?_⟩ | refine ⟨_, _, _, H.get 1 rfl rfl, ?_⟩ | refine ⟨_, _, _, H.get 2 rfl rfl, ?_⟩ | refine ⟨_, _, _, H.get 3 rfl rfl, ?_⟩ | refine ⟨_, _, _, H.get 4 rfl rfl, ?_⟩ | refine ⟨_, _, _, H.get 5 rfl rfl, ?_⟩ | refine ⟨_, _, _, H.get 6 rfl rfl, ?_⟩ | refine ⟨_, _, _, H.get 7 rfl rfl, ?_⟩))
        refine (vright_ok ⟨3, 0, textOf l j x⟩ _).mono ?_
        rintro e W ⟨rfl, eS⟩
        replace H := H.step eS
        refine ⟨_, rfl, fun hf => absurd hf (by rw [ok_right (.inr (.inr (.inr ⟨rfl, rfl, by show (textOf l j x).size ≤ 1024; omega⟩)))]; decide), fun _ => ?_⟩
        repeat (first
          | (intro _ _ hS; replace H := H.new hS; clear hS)
          | (intro _ hS; (first | replace H := H.put 0 rfl hS | replace H := H.put 1 rfl hS | replace H := H.put 2 rfl hS | replace H := H.put 3 rfl hS | replace H := H.put 4 rfl hS | replace H := H.put 5 rfl hS | replace H := H.put 6 rfl hS | replace H := H.put 7 rfl hS); clear hS; try simp only [setA, List.setIfInBounds_toArray, List.set_cons_zero, List.set_cons_succ, Nat.zero_add, Nat.reduceAdd] at H)
          | (intro _ hS; replace H := H.step (Drew.ext hS); clear hS)
          | (first | refine ⟨⟨_, H.get 0 rfl rfl⟩, ?_⟩ | refine ⟨⟨_, H.get 1 rfl rfl⟩, ?_⟩ | refine ⟨⟨_, H.get 2 rfl rfl⟩, ?_⟩ | refine ⟨⟨_, H.get 3 rfl rfl⟩, ?_⟩ | refine ⟨⟨_, H.get 4 rfl rfl⟩, ?_⟩ | refine ⟨⟨_, H.get 5 rfl rfl⟩, ?_⟩ | refine ⟨⟨_, H.get 6 rfl rfl⟩, ?_⟩ | refine ⟨⟨_, H.get 7 rfl rfl⟩, ?_⟩)
          | (first | refine ⟨H.frz 0 rfl, ?_⟩ | refine ⟨H.frz 1 rfl, ?_⟩ | refine ⟨H.frz 2 rfl, ?_⟩ | refine ⟨H.frz 3 rfl, ?_⟩ | refine ⟨H.frz 4 rfl, ?_⟩ | refine ⟨H.frz 5 rfl, ?_⟩ | refine ⟨H.frz 6 rfl, ?_⟩ | refine ⟨H.frz 7 rfl, ?_⟩)
          | (first | refine ⟨_, H.get 0 rfl rfl, ?_⟩ | refine ⟨_, H.get 1 rfl rfl, ?_⟩ | refine ⟨_, H.get 2 rfl rfl, ?_⟩ | refine ⟨_, H.get 3 rfl rfl, ?_⟩ | refine ⟨_, H.get 4 rfl rfl, ?_⟩ | refine ⟨_, H.get 5 rfl rfl, ?_⟩ | refine ⟨_, H.get 6 rfl rfl, ?_⟩ | refine ⟨_, H.get 7 rfl rfl, ?_⟩)
          | (first | refine ⟨_, _, _, H.get 0 rfl rfl, ?_⟩ | refine ⟨_, _, _, H.get 1 rfl rfl, ?_⟩ | refine ⟨_, _, _, H.get 2 rfl rfl, ?_⟩ | refine ⟨_, _, _, H.get 3 rfl rfl, ?_⟩ | refine ⟨_, _, _, H.get 4 rfl rfl, ?_⟩ | refine ⟨_, _, _, H.get 5 rfl rfl, ?_⟩ | refine ⟨_, _, _, H.get 6 rfl rfl, ?_⟩ | refine ⟨_, _, _, H.get 7 rfl rfl, ?_⟩))
        exact ⟨by rw [e]; rfl, H.ext⟩
      · rw [if_neg hx] at hv
        rw [if_neg (by omega)]
        have e : takeVV l (q : Int) = .tuple #[nullV.agg, .int .i64 0, .int .i64 20] := by unfold takeVV; rw [hv]
        refine ⟨⟨#[]⟩, 0, 20, rfl, ?_⟩
        repeat (first
          | (intro _ _ hS; replace H := H.new hS; clear hS)
          | (intro _ hS; (first | replace H := H.put 0 rfl hS | replace H := H.put 1 rfl hS | replace H := H.put 2 rfl hS | replace H := H.put 3 rfl hS | replace H := H.put 4 rfl hS | replace H := H.put 5 rfl hS | replace H := H.put 6 rfl hS | replace H := H.put 7 rfl hS); clear hS; try simp only [setA, List.setIfInBounds_toArray, List.set_cons_zero, List.set_cons_succ, Nat.zero_add, Nat.reduceAdd] at H)
          | (intro _ hS; replace H := H.step (Drew.ext hS); clear hS)
          | (first | refine ⟨⟨_, H.get 0 rfl rfl⟩, ?_⟩ | refine ⟨⟨_, H.get 1 rfl rfl⟩, ?_⟩ | refine ⟨⟨_, H.get 2 rfl rfl⟩, ?_⟩ | refine ⟨⟨_, H.get 3 rfl rfl⟩, ?_⟩ | refine ⟨⟨_, H.get 4 rfl rfl⟩, ?_⟩ | refine ⟨⟨_, H.get 5 rfl rfl⟩, ?_⟩ | refine ⟨⟨_, H.get 6 rfl rfl⟩, ?_⟩ | refine ⟨⟨_, H.get 7 rfl rfl⟩, ?_⟩)
          | (first | refine ⟨H.frz 0 rfl, ?_⟩ | refine ⟨H.frz 1 rfl, ?_⟩ | refine ⟨H.frz 2 rfl, ?_⟩ | refine ⟨H.frz 3 rfl, ?_⟩ | refine ⟨H.frz 4 rfl, ?_⟩ | refine ⟨H.frz 5 rfl, ?_⟩ | refine ⟨H.frz 6 rfl, ?_⟩ | refine ⟨H.frz 7 rfl, ?_⟩)
          | (first | refine ⟨_, H.get 0 rfl rfl, ?_⟩ | refine ⟨_, H.get 1 rfl rfl, ?_⟩ | refine ⟨_, H.get 2 rfl rfl, ?_⟩ | refine ⟨_, H.get 3 rfl rfl, ?_⟩ | refine ⟨_, H.get 4 rfl rfl, ?_⟩ | refine ⟨_, H.get 5 rfl rfl, ?_⟩ | refine ⟨_, H.get 6 rfl rfl, ?_⟩ | refine ⟨_, H.get 7 rfl rfl, ?_⟩)
          | (first | refine ⟨_, _, _, H.get 0 rfl rfl, ?_⟩ | refine ⟨_, _, _, H.get 1 rfl rfl, ?_⟩ | refine ⟨_, _, _, H.get 2 rfl rfl, ?_⟩ | refine ⟨_, _, _, H.get 3 rfl rfl, ?_⟩ | refine ⟨_, _, _, H.get 4 rfl rfl, ?_⟩ | refine ⟨_, _, _, H.get 5 rfl rfl, ?_⟩ | refine ⟨_, _, _, H.get 6 rfl rfl, ?_⟩ | refine ⟨_, _, _, H.get 7 rfl rfl, ?_⟩))
        refine ⟨fun _ => ?_, fun hx => absurd hx (by decide)⟩
        repeat (first
          | (intro _ _ hS; replace H := H.new hS; clear hS)
          | (intro _ hS; (first | replace H := H.put 0 rfl hS | replace H := H.put 1 rfl hS | replace H := H.put 2 rfl hS | replace H := H.put 3 rfl hS | replace H := H.put 4 rfl hS | replace H := H.put 5 rfl hS | replace H := H.put 6 rfl hS | replace H := H.put 7 rfl hS); clear hS; try simp only [setA, List.setIfInBounds_toArray, List.set_cons_zero, List.set_cons_succ, Nat.zero_add, Nat.reduceAdd] at H)
          | (intro _ hS; replace H := H.step (Drew.ext hS); clear hS)
          | (first | refine ⟨⟨_, H.get 0 rfl rfl⟩, ?_⟩ | refine ⟨⟨_, H.get 1 rfl rfl⟩, ?_⟩ | refine ⟨⟨_, H.get 2 rfl rfl⟩, ?_⟩ | refine ⟨⟨_, H.get 3 rfl rfl⟩, ?_⟩ | refine ⟨⟨_, H.get 4 rfl rfl⟩, ?_⟩ | refine ⟨⟨_, H.get 5 rfl rfl⟩, ?_⟩ | refine ⟨⟨_, H.get 6 rfl rfl⟩, ?_⟩ | refine ⟨⟨_, H.get 7 rfl rfl⟩, ?_⟩)
          | (first | refine ⟨H.frz 0 rfl, ?_⟩ | refine ⟨H.frz 1 rfl, ?_⟩ | refine ⟨H.frz 2 rfl, ?_⟩ | refine ⟨H.frz 3 rfl, ?_⟩ | refine ⟨H.frz 4 rfl, ?_⟩ | refine ⟨H.frz 5 rfl, ?_⟩ | refine ⟨H.frz 6 rfl, ?_⟩ | refine ⟨H.frz 7 rfl, ?_⟩)
          | (first | refine ⟨_, H.get 0 rfl rfl, ?_⟩ | refine ⟨_, H.get 1 rfl rfl, ?_⟩ | refine ⟨_, H.get 2 rfl rfl, ?_⟩ | refine ⟨_, H.get 3 rfl rfl, ?_⟩ | refine ⟨_, H.get 4 rfl rfl, ?_⟩ | refine ⟨_, H.get 5 rfl rfl, ?_⟩ | refine ⟨_, H.get 6 rfl rfl, ?_⟩ | refine ⟨_, H.get 7 rfl rfl, ?_⟩)
          | (first | refine ⟨_, _, _, H.get 0 rfl rfl, ?_⟩ | refine ⟨_, _, _, H.get 1 rfl rfl, ?_⟩ | refine ⟨_, _, _, H.get 2 rfl rfl, ?_⟩ | refine ⟨_, _, _, H.get 3 rfl rfl, ?_⟩ | refine ⟨_, _, _, H.get 4 rfl rfl, ?_⟩ | refine ⟨_, _, _, H.get 5 rfl rfl, ?_⟩ | refine ⟨_, _, _, H.get 6 rfl rfl, ?_⟩ | refine ⟨_, _, _, H.get 7 rfl rfl, ?_⟩))
        exact ⟨by rw [e]; rfl, H.ext⟩
  · rw [if_neg (by omega), if_neg (by omega), if_neg (by omega), if_neg (by omega)] at hv
    have e : takeVV l (q : Int) = .tuple #[nullV.agg, .int .i64 0, .int .i64 20] := by unfold takeVV; rw [hv]
    repeat (first
      | (intro _ _ hS; replace H := H.new hS; clear hS)
      | (intro _ hS; (first | replace H := H.put 0 rfl hS | replace H := H.put 1 rfl hS | replace H := H.put 2 rfl hS | replace H := H.put 3 rfl hS | replace H := H.put 4 rfl hS | replace H := H.put 5 rfl hS | replace H := H.put 6 rfl hS | replace H := H.put 7 rfl hS); clear hS; try simp only [setA, List.setIfInBounds_toArray, List.set_cons_zero, List.set_cons_succ, Nat.zero_add, Nat.reduceAdd] at H)
      | (intro _ hS; replace H := H.step (Drew.ext hS); clear hS)
      | (first | refine ⟨⟨_, H.get 0 rfl rfl⟩, ?_⟩ | refine ⟨⟨_, H.get 1 rfl rfl⟩, ?_⟩ | refine ⟨⟨_, H.get 2 rfl rfl⟩, ?_⟩ | refine ⟨⟨_, H.get 3 rfl rfl⟩, ?_⟩ | refine ⟨⟨_, H.get 4 rfl rfl⟩, ?_⟩ | refine ⟨⟨_, H.get 5 rfl rfl⟩, ?_⟩ | refine ⟨⟨_, H.get 6 rfl rfl⟩, ?_⟩ | refine ⟨⟨_, H.get 7 rfl rfl⟩, ?_⟩)
      | (first | refine ⟨H.frz 0 rfl, ?_⟩ | refine ⟨H.frz 1 rfl, ?_⟩ | refine ⟨H.frz 2 rfl, ?_⟩ | refine ⟨H.frz 3 rfl, ?_⟩ | refine ⟨H.frz 4 rfl, ?_⟩ | refine ⟨H.frz 5 rfl, ?_⟩ | refine ⟨H.frz 6 rfl, ?_⟩ | refine ⟨H.frz 7 rfl, ?_⟩)
      | (first | refine ⟨_, H.get 0 rfl rfl, ?_⟩ | refine ⟨_, H.get 1 rfl rfl, ?_⟩ | refine ⟨_, H.get 2 rfl rfl, ?_⟩ | refine ⟨_, H.get 3 rfl rfl, ?_⟩ | refine ⟨_, H.get 4 rfl rfl, ?_⟩ | refine ⟨_, H.get 5 rfl rfl, ?_⟩ | refine ⟨_, H.get 6 rfl rfl, ?_⟩ | refine ⟨_, H.get 7 rfl rfl, ?_⟩)
      | (first | refine ⟨_, _, _, H.get 0 rfl rfl, ?_⟩ | refine ⟨_, _, _, H.get 1 rfl rfl, ?_⟩ | refine ⟨_, _, _, H.get 2 rfl rfl, ?_⟩ | refine ⟨_, _, _, H.get 3 rfl rfl, ?_⟩ | refine ⟨_, _, _, H.get 4 rfl rfl, ?_⟩ | refine ⟨_, _, _, H.get 5 rfl rfl, ?_⟩ | refine ⟨_, _, _, H.get 6 rfl rfl, ?_⟩ | refine ⟨_, _, _, H.get 7 rfl rfl, ?_⟩))
    refine (vright_ok ⟨(k : Int), 0, ⟨#[]⟩⟩ _).mono ?_
    rintro e W ⟨rfl, eS⟩
    replace H := H.step eS
    refine ⟨_, rfl, fun _ => ?_, fun ht => ?_⟩
    · repeat (first
        | (intro _ _ hS; replace H := H.new hS; clear hS)
        | (intro _ hS; (first | replace H := H.put 0 rfl hS | replace H := H.put 1 rfl hS | replace H := H.put 2 rfl hS | replace H := H.put 3 rfl hS | replace H := H.put 4 rfl hS | replace H := H.put 5 rfl hS | replace H := H.put 6 rfl hS | replace H := H.put 7 rfl hS); clear hS; try simp only [setA, List.setIfInBounds_toArray, List.set_cons_zero, List.set_cons_succ, Nat.zero_add, Nat.reduceAdd] at H)
        | (intro _ hS; replace H := H.step (Drew.ext hS); clear hS)
        | (first | refine ⟨⟨_, H.get 0 rfl rfl⟩, ?_⟩ | refine ⟨⟨_, H.get 1 rfl rfl⟩, ?_⟩ | refine ⟨⟨_, H.get 2 rfl rfl⟩, ?_⟩ | refine ⟨⟨_, H.get 3 rfl rfl⟩, ?_⟩ | refine ⟨⟨_, H.get 4 rfl rfl⟩, ?_⟩ | refine ⟨⟨_, H.get 5 rfl rfl⟩, ?_⟩ | refine ⟨⟨_, H.get 6 rfl rfl⟩, ?_⟩ | refine ⟨⟨_, H.get 7 rfl rfl⟩, ?_⟩)
        | (first | refine ⟨H.frz 0 rfl, ?_⟩ | refine ⟨H.frz 1 rfl, ?_⟩ | refine ⟨H.frz 2 rfl, ?_⟩ | refine ⟨H.frz 3 rfl, ?_⟩ | refine ⟨H.frz 4 rfl, ?_⟩ | refine ⟨H.frz 5 rfl, ?_⟩ | refine ⟨H.frz 6 rfl, ?_⟩ | refine ⟨H.frz 7 rfl, ?_⟩)
        | (first | refine ⟨_, H.get 0 rfl rfl, ?_⟩ | refine ⟨_, H.get 1 rfl rfl, ?_⟩ | refine ⟨_, H.get 2 rfl rfl, ?_⟩ | refine ⟨_, H.get 3 rfl rfl, ?_⟩ | refine ⟨_, H.get 4 rfl rfl, ?_⟩ | refine ⟨_, H.get 5 rfl rfl, ?_⟩ | refine ⟨_, H.get 6 rfl rfl, ?_⟩ | refine ⟨_, H.get 7 rfl rfl, ?_⟩)
        | (first | refine ⟨_, _, _, H.get 0 rfl rfl, ?_⟩ | refine ⟨_, _, _, H.get 1 rfl rfl, ?_⟩ | refine ⟨_, _, _, H.get 2 rfl rfl, ?_⟩ | refine ⟨_, _, _, H.get 3 rfl rfl, ?_⟩ | refine ⟨_, _, _, H.get 4 rfl rfl, ?_⟩ | refine ⟨_, _, _, H.get 5 rfl rfl, ?_⟩ | refine ⟨_, _, _, H.get 6 rfl rfl, ?_⟩ | refine ⟨_, _, _, H.get 7 rfl rfl, ?_⟩))
      exact ⟨by rw [e]; rfl, H.ext⟩
    · exfalso
      have hok : Val.Ok ⟨(k : Int), 0, ⟨#[]⟩⟩ := of_decide_eq_true ht
      unfold Val.Ok at hok
      dsimp only at hok
      omega
end Go.Proofs.YtiojkfckaalooaaDoor
