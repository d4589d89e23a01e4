/- What expressions come to: kinds and values. Plain Lean, no program. -/
import Derived.Test.YtdephmdfdgclpaaDoorEx0
import Derived.Test.YtdephmdfdgclpaaDoorAr2
namespace Go.Vc
open Go Go.RowKit

/-! ### One behind the other, till one has an error -/
section
variable {α : Type} {f : Ex → α × Int}
def runL (f : Ex → α × Int) : List Ex → List α × Int
  | [] => ([], 0)
  | k :: r => if (f k).2 ≠ 0 then ([], (f k).2) else if (runL f r).2 ≠ 0 then ([], (runL f r).2) else ((f k).1 :: (runL f r).1, 0)
theorem runL_snoc (l : List Ex) (k : Ex) (h : (runL f l).2 = 0) : runL f (l ++ [k]) = if (f k).2 ≠ 0 then ([], (f k).2) else ((runL f l).1 ++ [(f k).1], 0) := by
  induction l with
  | nil => simp [runL]
  | cons x r ih =>
    unfold runL at h
    split at h
    · rename_i hx; exact absurd h hx
    · rename_i hx
      split at h
      · rename_i hr; exact absurd h hr
      · rename_i hr
        have := ih (by omega)
        rw [List.cons_append, runL, if_neg hx, this, runL, if_neg hx, if_neg hr]
        split
        · rename_i hk; simp
        · simp
theorem runL_take {l : List Ex} {j : Nat} {k : Ex} (hk : l[j]? = some k) (h : (runL f (l.take j)).2 = 0) : runL f (l.take (j + 1)) = if (f k).2 ≠ 0 then ([], (f k).2) else ((runL f (l.take j)).1 ++ [(f k).1], 0) := by
  have : l.take (j + 1) = l.take j ++ [k] := by rw [List.take_add_one, hk]; rfl
  rw [this, runL_snoc _ _ h]
theorem runL_err (a b : List Ex) (h : (runL f a).2 ≠ 0) : runL f (a ++ b) = ([], (runL f a).2) := by
  induction a with
  | nil => exact absurd rfl h
  | cons x r ih =>
    rw [List.cons_append]
    unfold runL at h ⊢
    split
    · rfl
    · rename_i hx
      rw [if_neg hx] at h
      split at h
      · rename_i hr
        rw [ih hr]; simp [hr]
      · exact absurd rfl h
theorem runL_stop {l : List Ex} {j : Nat} {k : Ex} (hk : l[j]? = some k) (h : (runL f (l.take j)).2 = 0) (he : (f k).2 ≠ 0) : runL f l = ([], (f k).2) := by
  have h1 := runL_take (f := f) hk h
  rw [if_pos he] at h1
  have h2 := runL_err (f := f) (l.take (j + 1)) (l.drop (j + 1)) (by rw [h1]; exact he)
  rw [List.take_append_drop, h1] at h2
  exact h2
theorem runL_len {l : List Ex} (h : (runL f l).2 = 0) : (runL f l).1.length = l.length := by
  induction l with
  | nil => rfl
  | cons x r ih =>
    unfold runL at h ⊢
    split at h
    · rename_i hx; exact absurd h hx
    · rename_i hx
      split at h
      · rename_i hr; exact absurd h hr
      · rename_i hr
        rw [if_neg hx, if_neg hr]
        simp [ih (by omega)]
theorem runL_get {l : List Ex} (h : (runL f l).2 = 0) {i : Nat} {k : Ex} (hk : l[i]? = some k) : (f k).2 = 0 ∧ (runL f l).1[i]? = some (f k).1 := by
  induction l generalizing i with
  | nil => simp at hk
  | cons x r ih =>
    unfold runL at h ⊢
    split at h
    · rename_i hx; exact absurd h hx
    · rename_i hx
      split at h
      · rename_i hr; exact absurd h hr
      · rename_i hr
        rw [if_neg hx, if_neg hr]
        cases i with
        | zero => cases hk; exact ⟨by omega, rfl⟩
        | succ i => simpa using ih (by omega) (i := i) (by simpa using hk)
theorem runL_nil {l : List Ex} (h : (runL f l).2 ≠ 0) : (runL f l).1 = [] := by
  cases l with
  | nil => rfl
  | cons x r =>
    unfold runL at h ⊢
    split
    · rfl
    · rename_i hx
      split
      · rfl
      · rename_i hr
        rw [if_neg hx, if_neg hr] at h
        exact absurd rfl h
end

/-! ### Kinds -/
def alikeB (a b : Int) : Bool := decide (a = b) || decide (a = 0) || decide (b = 0)
def kindN (cols : List Col) (op : Int) (name : ByteArray) (v : Val) (l : List Int) : Int × Int :=
  if wantOf op ≠ 0 ∧ ¬ (∀ g ∈ l, alikeB g (wantOf op) = true) then (0, 121)
  else if op = 1 then (if findC cols name < 0 then (0, 120) else (((cols[(findC cols name).toNat]?).map Col.kind).getD 0, 0))
  else if op = 2 then (v.k, 0)
  else if (op = 9 ∨ op = 10 ∨ op = 11) ∧ alikeB (l.getD 0 0) (l.getD 1 0) = false then (0, 121)
  else (kindOf op, 0)
mutual
def kindF (cols : List Col) : Ex → Int × Int
  | .mk op name v ks => if (kindsF cols ks).2 ≠ 0 then (0, (kindsF cols ks).2) else kindN cols op name v (kindsF cols ks).1
def kindsF (cols : List Col) : List Ex → List Int × Int
  | [] => ([], 0)
  | k :: r => if (kindF cols k).2 ≠ 0 then ([], (kindF cols k).2) else if (kindsF cols r).2 ≠ 0 then ([], (kindsF cols r).2) else ((kindF cols k).1 :: (kindsF cols r).1, 0)
end
theorem kindsF_eq (cols : List Col) (l : List Ex) : kindsF cols l = runL (kindF cols) l := by
  induction l with
  | nil => simp [kindsF, runL]
  | cons k r ih => rw [kindsF, runL, ih]
theorem kindF_eq (cols : List Col) (x : Ex) : kindF cols x = if (runL (kindF cols) x.kids).2 ≠ 0 then (0, (runL (kindF cols) x.kids).2) else kindN cols x.op x.name x.v (runL (kindF cols) x.kids).1 := by
  cases x; rw [kindF, kindsF_eq]; rfl

/-! ### Values -/
def truthV (b : Bool) : Val := ⟨2, if b then 1 else 0, ⟨#[]⟩⟩
def thirdI (v : Val) : Int := if v.k = 0 then 2 else v.n
def answerV (n : Int) : Val := if n = 2 then nullV else truthV (decide (n = 1))
def andI (i j : Int) : Int := if i = 0 ∨ j = 0 then 0 else if i = 2 ∨ j = 2 then 2 else 1
def orJ (i j : Int) : Int := if i = 1 ∨ j = 1 then 1 else if i = 2 ∨ j = 2 then 2 else 0
def tabA (f : Int → Int → Int) : Array Value := ((List.range 9).map fun i => Value.int .i64 (f ((i / 3 : Nat) : Int) ((i % 3 : Nat) : Int))).toArray
theorem tabA_at (f : Int → Int → Int) {i j : Nat} (hi : i < 3) (hj : j < 3) : (tabA f)[i * 3 + j]? = some (.int .i64 (f i j)) := by
  unfold tabA
  rw [List.getElem?_toArray, List.getElem?_map, List.getElem?_range (by omega)]
  simp only [Option.map_some]
  rw [show (i * 3 + j) / 3 = i by omega, show (i * 3 + j) % 3 = j by omega]
def overF (x : Int) : Int × Int := if fitI x then (x, 0) else (0, 100)
def arithF (op a b : Int) : Int × Int :=
  if (op = 6 ∨ op = 7) ∧ b = 0 then (0, 101) else if op = 3 then overF (a + b) else if op = 4 then overF (a - b) else if op = 5 then overF (a * b) else if op = 6 then overF (a.tdiv b) else if op = 7 then (a.tmod b, 0) else (0, 0)
def pairF (op : Int) (a b : Val) : Val × Int :=
  if op = 12 then (answerV (andI (thirdI a) (thirdI b)), 0) else if op = 13 then (answerV (orJ (thirdI a) (thirdI b)), 0)
  else if a.k = 0 ∨ b.k = 0 then (nullV, 0)
  else if op = 9 then (truthV (decide (cmpV a b = 0)), 0) else if op = 10 then (truthV (decide (cmpV a b < 0)), 0) else if op = 11 then (truthV (decide (cmpV a b ≤ 0)), 0)
  else if (arithF op a.n b.n).2 ≠ 0 then (nullV, (arithF op a.n b.n).2) else (numV (arithF op a.n b.n).1, 0)
def singleF (op : Int) (v : Val) : Val × Int :=
  if op = 15 then (truthV (decide (v.k = 0)), 0) else if v.k = 0 then (v, 0) else if op = 14 then (truthV (decide (v.n = 0)), 0)
  else if op = 16 then (numV v.s.size, 0) else pairF 4 (numV 0) v
def valueN (cols : List Col) (row : List Val) (op : Int) (name : ByteArray) (v : Val) (l : List Val) : Val × Int :=
  if op = 1 then ((row[(findC cols name).toNat]?).getD nullV, 0) else if op = 2 then (v, 0) else if l.length = 1 then singleF op (l.getD 0 nullV) else pairF op (l.getD 0 nullV) (l.getD 1 nullV)
mutual
def valueF (cols : List Col) (row : List Val) : Ex → Val × Int
  | .mk op name v ks => if (valuesF cols row ks).2 ≠ 0 then (nullV, (valuesF cols row ks).2) else valueN cols row op name v (valuesF cols row ks).1
def valuesF (cols : List Col) (row : List Val) : List Ex → List Val × Int
  | [] => ([], 0)
  | k :: r => if (valueF cols row k).2 ≠ 0 then ([], (valueF cols row k).2) else if (valuesF cols row r).2 ≠ 0 then ([], (valuesF cols row r).2) else ((valueF cols row k).1 :: (valuesF cols row r).1, 0)
end
theorem valuesF_eq (cols : List Col) (row : List Val) (l : List Ex) : valuesF cols row l = runL (valueF cols row) l := by
  induction l with
  | nil => simp [valuesF, runL]
  | cons k r ih => rw [valuesF, runL, ih]
theorem valueF_eq (cols : List Col) (row : List Val) (x : Ex) : valueF cols row x = if (runL (valueF cols row) x.kids).2 ≠ 0 then (nullV, (runL (valueF cols row) x.kids).2) else valueN cols row x.op x.name x.v (runL (valueF cols row) x.kids).1 := by
  cases x; rw [valueF, valuesF_eq]; rfl

/-! ### Type and Eval -/
def typeF (cols : List Col) (x : Ex) : Int × Int := if rightC cols = false then (0, 50) else if formedB x = false then (0, 122) else kindF cols x
def evalF (cols : List Col) (row : List Val) (x : Ex) : Val × Int := if (typeF cols x).2 ≠ 0 then (nullV, (typeF cols x).2) else if fitsC cols row = false then (nullV, 2) else valueF cols row x

/-! ### Quotients -/
theorem tdiv_fit {a b : Int} (ha : fitI a) (hb : b ≠ 0) : fitI (a.tdiv b) ↔ ¬ (a = -9223372036854775808 ∧ b = -1) := by
  unfold fitI at *
  by_cases h1 : b = -1
  · subst h1
    rw [Int.tdiv_neg, Int.tdiv_one]; omega
  · have hn : (a.tdiv b).natAbs = a.natAbs / b.natAbs := Int.natAbs_tdiv a b
    have : ¬ (a = -9223372036854775808 ∧ b = -1) := fun h => h1 h.2
    simp only [this, not_false_eq_true, iff_true]
    by_cases h2 : b = 1
    · subst h2; rw [Int.tdiv_one]; exact ha
    · have hb2 : 2 ≤ b.natAbs := by omega
      have : a.natAbs / b.natAbs ≤ a.natAbs / 2 := Nat.div_le_div_left hb2 (by decide)
      omega
theorem tmod_fit {a b : Int} (hb : fitI b) (h0 : b ≠ 0) : fitI (a.tmod b) := by
  unfold fitI at *
  have : (a.tmod b).natAbs = a.natAbs % b.natAbs := Int.natAbs_tmod a b
  have h2 := Nat.mod_lt a.natAbs (y := b.natAbs) (by omega)
  omega
end Go.Vc
