/- Lists of numbers in few bytes: what the forms are, in plain Lean; integers that lie in a row. -/
import Derived.Test.YtdclhgcgpcddlaaPk4
import Derived.Test.YtdclhgcgpcddlaaLay
namespace Go.Vc
open Go Go.RowKit

/-! ### Integers in a row -/
def i64B (x : Int) : Prop := -9223372036854775808 ≤ x ∧ x ≤ 9223372036854775807
/-- A slice of signed numbers that came in. -/
structure Is (w : World) (p : Option Addr) (n c : Nat) (l : List Int) : Prop where
  len : l.length = n
  cap : n ≤ c ∧ c ≤ maxLen
  lies : At w p (vI .i64 l)
  nil : p = none → n = 0 ∧ c = 0
  fit : ∀ x ∈ l, i64B x
theorem Is.ext {w w' : World} {p : Option Addr} {n c : Nat} {l : List Int} (h : Is w p n c l) (e : Ext w w') : Is w' p n c l := ⟨h.len, h.cap, h.lies.ext e, h.nil, h.fit⟩
theorem Is.le {w : World} {p : Option Addr} {n c : Nat} {l : List Int} (h : Is w p n c l) : n ≤ maxLen := Nat.le_trans h.cap.1 h.cap.2
theorem Is.nothing (w : World) : Is w none 0 0 [] := ⟨rfl, ⟨Nat.le_refl _, Nat.zero_le _⟩, .inl rfl, fun _ => ⟨rfl, rfl⟩, by simp⟩
theorem At.getZ {w : World} {p : Option Addr} {k : IntKind} {l : List Int} (h : At w p (vI k l)) {i : Nat} {x : Int} (hi : l[i]? = some x) : ∃ b o, p = some ⟨b, o, none⟩ ∧ w.cell? ⟨b, o + i, none⟩ = some (.int k x) := by
  have hv : (vI k l)[i]? = some (.int k x) := by simp [vI, hi]
  rcases h with h | ⟨b, o, hp, hc⟩
  · rw [h] at hv; cases hv
  · exact ⟨b, o, hp, hc i _ hv⟩
/-- Numbers of our own. -/
def OutI (B : Nat) (t : TypeId) (w : World) (p : Option Addr) (n c : Nat) (l : List Int) : Prop := l.length = n ∧ (∀ x ∈ l, i64B x) ∧ Mine B t 1 w p n c (vI .i64 l)
theorem OutI.ext {B : Nat} {t : TypeId} {w w' : World} {p : Option Addr} {n c : Nat} {l : List Int} (h : OutI B t w p n c l) (e : Ext w w') : OutI B t w' p n c l := ⟨h.1, h.2.1, h.2.2.ext e⟩
theorem OutI.is {B : Nat} {t : TypeId} {w : World} {p : Option Addr} {n c : Nat} {l : List Int} (h : OutI B t w p n c l) : Is w p n c l := ⟨h.1, h.2.2.cap, h.2.2.at, h.2.2.isNil, h.2.1⟩
theorem OutI.nothing (B : Nat) (t : TypeId) (w : World) : OutI B t w none 0 0 [] := ⟨rfl, by simp, Mine.nil _ _ _ _⟩

/-! ### The forms -/
/-- A signed number's bytes. -/
def sgn (x : Int) : List UInt8 := uvar (zigN x)
def plainL (l : List Int) : List UInt8 := l.flatMap sgn
/-- How many of r are x, from its beginning on. -/
def headRun (x : Int) (r : List Int) : Nat := (r.takeWhile (· == x)).length
theorem headRun_le (x : Int) (r : List Int) : headRun x r ≤ r.length := by
  unfold headRun
  exact (List.takeWhile_sublist _).length_le
def runsW : List Int → List (Nat × Int)
  | [] => []
  | x :: r => (headRun x r + 1, x) :: runsW (r.drop (headRun x r))
termination_by l => l.length
decreasing_by simp; omega
def runB (rs : List (Nat × Int)) : List UInt8 := rs.flatMap fun r => uvar r.1 ++ sgn r.2
def stepsL (l : List Int) : List Nat := (List.range (l.length - 1)).map fun i => zigN (IntKind.i64.wrap (l.getD (i + 1) 0 - l.getD i 0))
def lowL : List Int → Int
  | [] => 0
  | x :: r => r.foldl min x
def frameL (l : List Int) : List Nat := l.map fun x => (x - lowL l).toNat

theorem runsW_nil : runsW [] = [] := by rw [runsW]
/-- A run at the beginning: m times x, then another one or none. -/
theorem headRun_eq {x : Int} {r : List Int} {m : Nat} (h : ∀ i, i < m → r[i]? = some x) (hn : ∀ y, r[m]? = some y → y ≠ x) : headRun x r = m := by
  unfold headRun
  induction m generalizing r with
  | zero =>
    cases r with
    | nil => rfl
    | cons y r =>
      have := hn y rfl
      simp [List.takeWhile_cons, this]
  | succ m ih =>
    cases r with
    | nil => have := h 0 (by omega); simp at this
    | cons y r =>
      have h0 : y = x := by have := h 0 (by omega); simpa using this
      subst h0
      rw [List.takeWhile_cons]
      simp only [beq_self_eq_true, if_true, List.length_cons]
      rw [ih (r := r) (fun i hi => by have := h (i + 1) (by omega); simpa using this) (fun z hz => hn z (by simpa using hz))]
theorem runsW_run {l : List Int} {x : Int} {f m : Nat} (h : ∀ i, i ≤ m → l[f + i]? = some x) (hn : ∀ y, l[f + m + 1]? = some y → y ≠ x) : runsW (l.drop f) = (m + 1, x) :: runsW (l.drop (f + m + 1)) := by
  obtain ⟨r, hr⟩ : ∃ r, l.drop f = x :: r := by
    have h0 := h 0 (by omega)
    rw [Nat.add_zero] at h0
    obtain ⟨hlt, hx⟩ := List.getElem?_eq_some_iff.1 h0
    exact ⟨l.drop (f + 1), by rw [List.drop_eq_getElem_cons hlt, hx]⟩
  have hg : ∀ i, r[i]? = l[f + i + 1]? := by
    intro i
    have : (l.drop f)[i + 1]? = r[i]? := by rw [hr]; rfl
    rw [← this, List.getElem?_drop]; congr 1
  have hm : headRun x r = m := headRun_eq (fun i hi => by rw [hg, Nat.add_assoc]; exact h (i + 1) (by omega)) (fun y hy => hn y (by rw [← hg]; exact hy))
  have hd : r.drop m = l.drop (f + m + 1) := by
    have : (l.drop f).drop (m + 1) = r.drop m := by rw [hr]; rfl
    rw [← this, List.drop_drop, Nat.add_assoc]
  rw [hr, runsW, hm, hd]
/-- The numbers that runs are. -/
def unrun (rs : List (Nat × Int)) : List Int := rs.flatMap fun r => List.replicate r.1 r.2
theorem takeWhile_replicate (x : Int) (r : List Int) : r = List.replicate (headRun x r) x ++ r.drop (headRun x r) := by
  unfold headRun
  induction r with
  | nil => simp
  | cons y r ih =>
    by_cases h : y = x
    · subst h
      rw [List.takeWhile_cons]
      simp only [beq_self_eq_true, if_true, List.length_cons, List.replicate_succ, List.cons_append, List.drop_succ_cons]
      rw [← ih]
    · simp [List.takeWhile_cons, h]
theorem unrun_runsW : ∀ (k : Nat) (l : List Int), l.length ≤ k → unrun (runsW l) = l
  | 0, l, h => by have := List.eq_nil_of_length_eq_zero (Nat.le_zero.1 h); subst this; rw [runsW_nil]; rfl
  | k + 1, [], _ => by rw [runsW_nil]; rfl
  | k + 1, x :: r, h => by
    rw [runsW]
    have hd := headRun_le x r
    have ih := unrun_runsW k (r.drop (headRun x r)) (by simp at h ⊢; omega)
    simp only [unrun, List.flatMap_cons, List.replicate_succ, List.cons_append] at ih ⊢
    rw [ih, ← takeWhile_replicate]
theorem runsW_pos : ∀ (k : Nat) (l : List Int), l.length ≤ k → ∀ r ∈ runsW l, 0 < r.1 ∧ r.2 ∈ l
  | 0, l, h => by have := List.eq_nil_of_length_eq_zero (Nat.le_zero.1 h); subst this; rw [runsW_nil]; simp
  | k + 1, [], _ => by rw [runsW_nil]; simp
  | k + 1, x :: r, h => by
    rw [runsW]
    intro q hq
    rcases List.mem_cons.1 hq with rfl | hq
    · exact ⟨by simp, by simp⟩
    · have := runsW_pos k (r.drop (headRun x r)) (by have := headRun_le x r; simp at h ⊢; omega) q hq
      exact ⟨this.1, List.mem_cons_of_mem _ (List.mem_of_mem_drop this.2)⟩
theorem unrun_append (a b : List (Nat × Int)) : unrun (a ++ b) = unrun a ++ unrun b := by simp [unrun]
theorem runB_append (a b : List (Nat × Int)) : runB (a ++ b) = runB a ++ runB b := by simp [runB]

theorem stepsL_length (l : List Int) : (stepsL l).length = l.length - 1 := by simp [stepsL]
theorem stepsL_get {l : List Int} {i : Nat} {x y : Int} (hx : l[i]? = some x) (hy : l[i + 1]? = some y) : (stepsL l)[i]? = some (zigN (IntKind.i64.wrap (y - x))) := by
  have h1 := (List.getElem?_eq_some_iff.1 hy).1
  unfold stepsL
  rw [List.getElem?_map, List.getElem?_range (by omega)]
  simp [List.getD_eq_getElem?_getD, hx, hy]
theorem wrap_fit (n : Int) : i64B (IntKind.i64.wrap n) := by unfold i64B; rw [IntKind.wrap_i64]; omega
theorem stepsL_lt {l : List Int} : ∀ x ∈ stepsL l, x < 18446744073709551616 := by
  intro x hx
  obtain ⟨i, _, rfl⟩ := List.mem_map.1 hx
  exact zig_lt (wrap_fit _).1 (wrap_fit _).2

theorem foldl_min_le : ∀ (l : List Int) (a : Int), (l.foldl min a ≤ a) ∧ (∀ x ∈ l, l.foldl min a ≤ x) ∧ (l.foldl min a = a ∨ l.foldl min a ∈ l)
  | [], a => by simp
  | x :: l, a => by
    obtain ⟨h1, h2, h3⟩ := foldl_min_le l (min a x)
    rw [List.foldl_cons]
    refine ⟨by omega, fun y hy => ?_, ?_⟩
    · rcases List.mem_cons.1 hy with rfl | hy
      · omega
      · exact h2 y hy
    · rcases h3 with h3 | h3
      · rcases (by omega : min a x = a ∨ min a x = x) with e | e
        · left; rw [h3, e]
        · right; rw [h3, e]; simp
      · right; exact List.mem_cons_of_mem _ h3
theorem lowL_le {l : List Int} : ∀ x ∈ l, lowL l ≤ x := by
  cases l with
  | nil => simp
  | cons a r =>
    intro x hx
    obtain ⟨h1, h2, _⟩ := foldl_min_le r a
    rcases List.mem_cons.1 hx with rfl | hx
    · exact h1
    · exact h2 x hx
theorem lowL_mem {l : List Int} (h : l ≠ []) : lowL l ∈ l := by
  cases l with
  | nil => exact absurd rfl h
  | cons a r =>
    obtain ⟨_, _, h3⟩ := foldl_min_le r a
    rcases h3 with h3 | h3
    · rw [lowL, h3]; simp
    · exact List.mem_cons_of_mem _ h3
theorem frameL_lt {l : List Int} (h : ∀ x ∈ l, i64B x) : ∀ x ∈ frameL l, x < 18446744073709551616 := by
  intro x hx
  obtain ⟨y, hy, rfl⟩ := List.mem_map.1 hx
  have h1 := h y hy
  have h2 := h (lowL l) (lowL_mem (by intro e; rw [e] at hy; cases hy))
  have h3 := lowL_le y hy
  unfold i64B at h1 h2
  omega
theorem lowL_snoc {l : List Int} {k : Nat} {x : Int} (hk : 0 < k) (hx : l[k]? = some x) : lowL (l.take (k + 1)) = min (lowL (l.take k)) x := by
  rw [take_snoc hx]
  cases l with
  | nil => cases hx
  | cons a r =>
    obtain ⟨k, rfl⟩ : ∃ j, k = j + 1 := ⟨k - 1, by omega⟩
    simp [lowL, List.foldl_append]
end Go.Vc
namespace Go.Proofs.Ytdclhgcgpcddlaa
open Go Go.Vc Go.RowKit

/-- Packed numbers with their width ahead. -/
def packedL (s : List Nat) : List UInt8 := UInt8.ofNat (widthN s) :: packB s (widthN s : Int)
/-- The bytes of a list in a form. -/
def encL (form : Nat) (l : List Int) : List UInt8 :=
  match form with
  | 0 => 0 :: plainL l
  | 1 => 1 :: runB (runsW l)
  | 2 => 2 :: (if l = [] then [] else sgn (l.getD 0 0) ++ packedL (stepsL l))
  | _ => 3 :: (if l = [] then [] else sgn (lowL l) ++ packedL (frameL l))
/-- What Encode answers. -/
def encB (form : Int) (l : List Int) : List UInt8 := if (0 ≤ form ∧ form ≤ 3) ∧ l.length ≤ 4096 then encL form.toNat l else []
def encE (form : Int) (l : List Int) : Int := if (0 ≤ form ∧ form ≤ 3) ∧ l.length ≤ 4096 then 0 else 2

theorem sgn_len {x : Int} (h : i64B x) : (sgn x).length ≤ 10 := uvar_len10 (zig_lt h.1 h.2)
theorem packOk_width {s : List Nat} (h1 : s.length ≤ 4096) (h2 : ∀ x ∈ s, x < 18446744073709551616) : packOk s (widthN s : Int) = true := by
  have : widthN s ≤ 64 := widthN_le.2 h2
  rw [packOk_iff]; omega
theorem packedL_len {s : List Nat} (h1 : s.length ≤ 4096) (h2 : ∀ x ∈ s, x < 18446744073709551616) : (packedL s).length ≤ 40000 := by
  have h : widthN s ≤ 64 := widthN_le.2 h2
  have := Nat.mul_le_mul h1 h
  simp only [packedL, packB, packOk_width h1 h2, if_true, List.length_cons, bytesOf_length, Int.toNat_natCast]
  omega
theorem plainL_len {l : List Int} (h : ∀ x ∈ l, i64B x) : (plainL l).length ≤ 10 * l.length := by
  unfold plainL
  induction l with
  | nil => simp
  | cons x r ih =>
    have h1 := sgn_len (h x (by simp))
    have := ih fun y hy => h y (by simp [hy])
    simp only [List.flatMap_cons, List.length_append, List.length_cons]; omega
end Go.Proofs.Ytdclhgcgpcddlaa
