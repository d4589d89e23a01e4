/- Texts of the proof, one behind the other. -/
import Derived.Test.YtckfedekpkgcdaaMc
import Derived.Test.YtckfedekpkgcdaaRows
import Derived.Deep.Slices
import Derived.Deep.SlicePairs
import Derived.JoinedOf
set_option linter.unusedVariables false
set_option linter.unusedSimpArgs false
/- The contracts of the document's small functions: right, number, total, gathered. -/
namespace Go.Proofs.Ytckfedekpkgcdaa
open Go Go.Vc Go.RowKit
set_option maxRecDepth 20000
attribute [local irreducible] Calls Put Drew New

theorem r14right_ok (w : World) {p : Option Addr} {n c : Nat} {r : List Val} (h : Vs w p n c r) : Calls Try.prog 33 #[.slice p n c] w fun e w' => e = .returned (.bool (rightL r)) ∧ Ext w w' := by
  apply r14right_vc
  unfold r14right_T
  have hl := h.len
  have hle : n ≤ 9223372036854775807 := h.le
  refine ⟨fun i W => ∃ k : Nat, i = (k : Int) ∧ k ≤ n ∧ rightL (r.take k) = true ∧ Ext w W, fun i _ => n - i.toNat, ⟨0, rfl, Nat.zero_le _, rfl, .rfl⟩, ?_⟩
  rintro i W ⟨k, rfl, hk, hr, hx⟩
  refine ⟨fun hlt => ?_, fun hge => ?_⟩
  · have g : r[k]? = some (r[k]'(by omega)) := List.getElem?_eq_getElem _
    generalize r[k]'(by omega) = v at g
    obtain ⟨b, o, hp, c0, c1, c2⟩ := (h.ext hx).val g
    simp only [Int.toNat_natCast]
    refine ⟨b, o, hp, by omega, by omega, _, c0, _, c1, _, c2, (rvright_ok v W).mono ?_⟩
    rintro e W2 ⟨rfl, e2⟩
    refine ⟨_, rfl, fun hf => ⟨by rw [rightL_false (List.mem_of_getElem? g) hf], hx.trans e2⟩, fun ht => ?_⟩
    rw [i64_next (by omega)]
    exact ⟨⟨k + 1, rfl, by omega, by rw [rightL_take g, hr, ht]; rfl, hx.trans e2⟩, by simp only [Int.toNat_natCast]; omega⟩
  · rw [List.take_of_length_le (by omega)] at hr
    exact ⟨by rw [hr], hx⟩

theorem r14number_ok (n : Int) (hn : i64F n) (w : World) : Calls Try.prog 43 #[.int .i64 n] w fun e w' => e = .returned (numV n).agg ∧ Ext w w' := by
  apply r14number_vc
  unfold r14number_T
  intro b1 w2 h1
  have H := (Hold.start (Ext.rfl (w := w))).new h1
  exact H.ret3 0 rfl 1 n ⟨#[]⟩ fun W' e => ⟨rfl, e⟩

/-- Column j of rows that are long enough. -/
theorem col_get {rows : List (List Val)} {i j : Nat} {r : List Val} (hi : rows[i]? = some r) : (colOf rows j)[i]? = some (r.getD j nullV) := by unfold colOf; rw [List.getElem?_map, hi]; rfl
theorem nn_take {vs : List Val} {k : Nat} {v : Val} (h : vs[k]? = some v) : nn (vs.take (k + 1)) = nn (vs.take k) ++ (if v.k = 0 then [] else [v]) := by
  rw [List.take_add_one, h, nn_append]
  by_cases hk : v.k = 0 <;> simp [nn, hk]

section
variable {w : World} {p : Option Addr} {n c j : Nat} {hs : List Sl} {rows : List (List Val)}
/-- The value in row k, column j. -/
theorem cell_at {W : World} (hR : Rws W p n c hs rows) (hw : ∀ r ∈ rows, j < r.length) {k : Nat} (hk : k < n) : ∃ (v : Val) (x : Sl) (b o b2 o2 : _), (colOf rows j)[k]? = some v ∧ p = some ⟨b, o, none⟩ ∧ W.cell? ⟨b, o + k, none⟩ = some (.slice x.p x.n x.c) ∧ x.p = some ⟨b2, o2, none⟩ ∧ j < x.n ∧
    W.cell? ⟨b2, o2 + j * 3, none⟩ = some (.int .i64 v.k) ∧ W.cell? ⟨b2, o2 + j * 3 + 1, none⟩ = some (.int .i64 v.n) ∧ W.cell? ⟨b2, o2 + j * 3 + 2, none⟩ = some (.string v.s) := by
  have hl := hR.len
  have g : rows[k]? = some (rows[k]'(by omega)) := List.getElem?_eq_getElem _
  generalize rows[k]'(by omega) = r at g
  have hj := hw r (List.mem_of_getElem? g)
  obtain ⟨x, hx, hv, b, o, hp, hc⟩ := hR.get g
  have gr : r[j]? = some (r[j]'hj) := List.getElem?_eq_getElem _
  obtain ⟨b2, o2, hp2, c0, c1, c2⟩ := hv.val gr
  refine ⟨r[j]'hj, x, b, o, b2, o2, ?_, hp, hc, hp2, by rw [← hv.len]; exact hj, c0, c1, c2⟩
  rw [col_get g, List.getD_eq_getElem?_getD, gr]; rfl

def totV (vs : List Val) : Val × Bool := if nn vs = [] then (nullV, true) else if fitB (sumN (nn vs)) then (numV (sumN (nn vs)), true) else (nullV, false)
set_option maxHeartbeats 1000000 in
theorem r14total_ok (hR : Rws w p n c hs rows) (hw : ∀ r ∈ rows, j < r.length) (hn : n ≤ 1000000) (hf : ∀ v ∈ colOf rows j, v.fit) (hk01 : ∀ v ∈ colOf rows j, v.k = 1 ∨ v.k = 0) :
    Calls Try.prog 44 #[.slice p n c, .int .i64 (j : Int)] w fun e w' => e = .returned (.tuple #[(totV (colOf rows j)).1.agg, .bool (totV (colOf rows j)).2]) ∧ Ext w w' := by
  apply r14total_vc
  unfold r14total_T
  intro b1 w2 h1
  have hl := hR.len
  have hcl : (colOf rows j).length = n := by unfold colOf; rw [List.length_map, hl]
  generalize hvs : colOf rows j = vs at hf hk01 hcl
  have H0 := (Hold.start (Ext.rfl (w := w))).new h1
  refine ⟨fun hi lo many i W => ∃ k : Nat, i = (k : Int) ∧ k ≤ n ∧ hi * 4294967296 + lo = sumN (nn (vs.take k)) ∧ -(2147483648 * (k : Int)) ≤ hi ∧ hi ≤ 2147483648 * (k : Int) ∧ 0 ≤ lo ∧ lo ≤ 4294967296 * (k : Int) ∧ many = ((nn (vs.take k)).length : Int) ∧ Hold w W [(b1, .cells #[.int .i64 0, .int .i64 0, .string ⟨#[]⟩] 42 (0, 0))] [],
    fun _ _ _ i _ => n - i.toNat, ⟨0, rfl, Nat.zero_le _, rfl, by simp, by simp, by simp, by simp, rfl, H0⟩, ?_⟩
  rintro hi lo many i W ⟨k, rfl, hk, hsum, hb1, hb2, hb3, hb4, rfl, H⟩
  have hnk : (nn (vs.take k)).length ≤ n := Nat.le_trans (nn_length _) (by rw [List.length_take]; omega)
  refine ⟨fun hlt => ?_, fun hge => ?_⟩
  · obtain ⟨v, x, b, o, b2, o2, hv, hp, hc, hp2, hjn, c0, c1, c2⟩ := cell_at (hR.ext H.ext) hw (k := k) (by omega)
    rw [hvs] at hv
    have hvf := (hf v (List.mem_of_getElem? hv)).2
    unfold i64F at hvf
    have hvk := hk01 v (List.mem_of_getElem? hv)
    have ht := nn_take hv
    simp only [Int.toNat_natCast]
    refine ⟨b, o, hp, by omega, by omega, _, _, _, hc, b2, o2, hp2, by omega, by omega, _, c0, _, c1, _, c2, ?_⟩
    repeat (first
      | (intro _ _ hS; replace H := H.new hS; clear hS)
      | (intro _ hS; (first | replace H := H.put 0 rfl hS | replace H := H.put 1 rfl hS | replace H := H.put 2 rfl hS | replace H := H.put 3 rfl hS | replace H := H.put 4 rfl hS | replace H := H.put 5 rfl hS | replace H := H.put 6 rfl hS | replace H := H.put 7 rfl hS); clear hS; try simp only [setA, List.setIfInBounds_toArray, List.set_cons_zero, List.set_cons_succ, Nat.zero_add, Nat.reduceAdd] at H)
      | (intro _ hS; replace H := H.step (Drew.ext hS); clear hS)
      | (first | refine ⟨⟨_, H.get 0 rfl rfl⟩, ?_⟩ | refine ⟨⟨_, H.get 1 rfl rfl⟩, ?_⟩ | refine ⟨⟨_, H.get 2 rfl rfl⟩, ?_⟩ | refine ⟨⟨_, H.get 3 rfl rfl⟩, ?_⟩ | refine ⟨⟨_, H.get 4 rfl rfl⟩, ?_⟩ | refine ⟨⟨_, H.get 5 rfl rfl⟩, ?_⟩ | refine ⟨⟨_, H.get 6 rfl rfl⟩, ?_⟩ | refine ⟨⟨_, H.get 7 rfl rfl⟩, ?_⟩)
      | (first | refine ⟨H.frz 0 rfl, ?_⟩ | refine ⟨H.frz 1 rfl, ?_⟩ | refine ⟨H.frz 2 rfl, ?_⟩ | refine ⟨H.frz 3 rfl, ?_⟩ | refine ⟨H.frz 4 rfl, ?_⟩ | refine ⟨H.frz 5 rfl, ?_⟩ | refine ⟨H.frz 6 rfl, ?_⟩ | refine ⟨H.frz 7 rfl, ?_⟩)
      | (first | refine ⟨_, H.get 0 rfl rfl, ?_⟩ | refine ⟨_, H.get 1 rfl rfl, ?_⟩ | refine ⟨_, H.get 2 rfl rfl, ?_⟩ | refine ⟨_, H.get 3 rfl rfl, ?_⟩ | refine ⟨_, H.get 4 rfl rfl, ?_⟩ | refine ⟨_, H.get 5 rfl rfl, ?_⟩ | refine ⟨_, H.get 6 rfl rfl, ?_⟩ | refine ⟨_, H.get 7 rfl rfl, ?_⟩)
      | (first | refine ⟨_, _, _, H.get 0 rfl rfl, ?_⟩ | refine ⟨_, _, _, H.get 1 rfl rfl, ?_⟩ | refine ⟨_, _, _, H.get 2 rfl rfl, ?_⟩ | refine ⟨_, _, _, H.get 3 rfl rfl, ?_⟩ | refine ⟨_, _, _, H.get 4 rfl rfl, ?_⟩ | refine ⟨_, _, _, H.get 5 rfl rfl, ?_⟩ | refine ⟨_, _, _, H.get 6 rfl rfl, ?_⟩ | refine ⟨_, _, _, H.get 7 rfl rfl, ?_⟩))
    refine ⟨fun hne => ?_, fun he => ?_⟩
    · rw [if_pos (hvk.resolve_left hne), List.append_nil] at ht
      rw [i64_next (by omega)]
      exact ⟨⟨k + 1, rfl, by omega, by rw [ht]; exact hsum, by omega, by omega, by omega, by omega, by rw [ht], H.tail⟩, by simp only [Int.toNat_natCast]; omega⟩
    · rw [if_neg (by omega)] at ht
      refine ⟨_, H.get 0 rfl rfl, _, H.get 0 rfl rfl, ?_⟩
      rw [i64_next (by omega), shr32_i64, shl32_i64, i64_fit (n := v.n / 4294967296 * 4294967296) (by omega) (by omega), i64_fit (n := hi + _) (by omega) (by omega), i64_fit (n := v.n - _) (by omega) (by omega), i64_fit (n := lo + _) (by omega) (by omega), i64_fit (n := ((nn (vs.take k)).length : Int) + 1) (by omega) (by omega)]
      refine ⟨⟨k + 1, rfl, by omega, ?_, by omega, by omega, by omega, by omega, ?_, H.tail⟩, by simp only [Int.toNat_natCast]; omega⟩
      · rw [ht, sumN_append, ← hsum, show sumN [v] = v.n by simp [sumN]]; omega
      · rw [ht]; simp
  · have hkn : k = n := by omega
    subst hkn
    rw [List.take_of_length_le (by omega)] at hsum hnk ⊢
    have fin : ∀ (r : Val × Bool) (v : Val) (bb : Bool), r = (v, bb) → (∃ u, W.cell? ⟨b1, 0, none⟩ = some u) ∧ W.frozen? ⟨b1, 0, none⟩ = false ∧ (∃ u, W.cell? ⟨b1, 1, none⟩ = some u) ∧ W.frozen? ⟨b1, 1, none⟩ = false ∧ (∃ u, W.cell? ⟨b1, 2, none⟩ = some u) ∧ W.frozen? ⟨b1, 2, none⟩ = false ∧
        ∀ W' : World, Put W b1 0 [.int .i64 v.k, .int .i64 v.n, .string v.s] W' → ∃ k' : Int, W'.cell? ⟨b1, 0, none⟩ = some (.int .i64 k') ∧ ∃ n' : Int, W'.cell? ⟨b1, 1, none⟩ = some (.int .i64 n') ∧ ∃ s' : ByteArray, W'.cell? ⟨b1, 2, none⟩ = some (.string s') ∧
          (Ending.returned (.tuple #[.agg #[.int .i64 k', .int .i64 n', .string s'], .bool bb]) = .returned (.tuple #[r.1.agg, .bool r.2]) ∧ Ext w W') := by
      rintro r v bb rfl
      exact H.ret3 0 rfl v.k v.n v.s (X := fun k' n' s' W' => Ending.returned (.tuple #[.agg #[.int .i64 k', .int .i64 n', .string s'], .bool bb]) = .returned (.tuple #[v.agg, .bool bb]) ∧ Ext w W') fun W' e => ⟨rfl, e⟩
    have hz : ((nn vs).length : Int) = 0 ↔ nn vs = [] := by rw [← List.length_eq_zero_iff]; omega
    rw [shr32_i64, and32_i64 hb3 (by omega), shl32_i64, i64_fit (n := hi + _) (by omega) (by omega)]
    have hfit : fitB (sumN (nn vs)) = true ↔ -2147483648 ≤ hi + lo / 4294967296 ∧ hi + lo / 4294967296 ≤ 2147483647 := by
      unfold fitB
      rw [Bool.and_eq_true, decide_eq_true_eq, decide_eq_true_eq, ← hsum]
      omega
    refine ⟨fun h0 => fin _ nullV true (by unfold totV; rw [if_pos (hz.1 h0)]), fun h0 => ⟨fun ho => fin _ nullV false ?_, fun ho => ?_⟩⟩
    · unfold totV
      rw [if_neg fun h => h0 (hz.2 h), if_neg fun h => by have := hfit.1 h; omega]
    · have e1 : IntKind.i64.wrap (IntKind.i64.wrap ((hi + lo / 4294967296) * 4294967296) + lo % 4294967296) = sumN (nn vs) := by
        rw [i64_fit (n := (hi + lo / 4294967296) * 4294967296) (by omega) (by omega), i64_fit (by omega) (by omega), ← hsum]
        omega
      rw [e1]
      exact fin _ (numV (sumN (nn vs))) true (by unfold totV; rw [if_neg fun h => h0 (hz.2 h), if_pos (hfit.2 ho)])
end
end Go.Proofs.Ytckfedekpkgcdaa

/- The contract of the document's 'gathered'. -/
namespace Go.Vc
open Go Go.RowKit
structure Bst (agg : Int) (l : List Val) (x : Val) : Prop where
  ok : x.Ok
  least : agg = 4 → Least l x
  most : agg = 5 → Most l x
theorem nullOk : nullV.Ok := .inl ⟨rfl, rfl, rfl⟩
theorem bst_nil (agg : Int) : Bst agg [] nullV := ⟨nullOk, fun _ => ⟨fun _ => rfl, fun h => absurd rfl h, by simp⟩, fun _ => ⟨fun _ => rfl, fun h => absurd rfl h, by simp⟩⟩
theorem bst_one (agg : Int) {v : Val} (h : v.Ok) : Bst agg [v] v := by
  refine ⟨h, fun _ => ⟨fun h => (by cases h), fun _ => (by simp), fun x hx => ?_⟩, fun _ => ⟨fun h => (by cases h), fun _ => (by simp), fun x hx => ?_⟩⟩
  all_goals
    rw [List.mem_singleton] at hx
    subst hx
    rw [cmpV_self]; decide
theorem bst_new {agg : Int} {l : List Val} {x v : Val} (hv : v.Ok) (h : Bst agg l x) (hc : (agg = 4 ∧ rcmpV v x < 0) ∨ (agg = 5 ∧ 0 < rcmpV v x)) : Bst agg (l ++ [v]) v := by
  rw [rcmpV_eq hv h.ok] at hc
  refine ⟨hv, fun h4 => ⟨fun h => by simp at h, fun _ => by simp, fun y hy => ?_⟩, fun h5 => ⟨fun h => by simp at h, fun _ => by simp, fun y hy => ?_⟩⟩
  · rcases List.mem_append.1 hy with hy | hy
    · exact cmpV_cmp.trans v x y (by omega) ((h.least h4).le y hy)
    · rw [List.mem_singleton] at hy; subst hy; rw [cmpV_self]; decide
  · rcases List.mem_append.1 hy with hy | hy
    · have := cmpV_cmp.anti x v
      exact cmpV_cmp.trans y x v ((h.most h5).le y hy) (by omega)
    · rw [List.mem_singleton] at hy; subst hy; rw [cmpV_self]; decide
theorem bst_old {agg : Int} {l : List Val} {x v : Val} (hv : v.Ok) (h : Bst agg l x) (hl : l ≠ []) (hc4 : agg ≠ 4 ∨ 0 ≤ rcmpV v x) (hc5 : agg ≠ 5 ∨ rcmpV v x ≤ 0) : Bst agg (l ++ [v]) x := by
  rw [rcmpV_eq hv h.ok] at hc4 hc5
  refine ⟨h.ok, fun h4 => ⟨fun h => by simp at h, fun _ => List.mem_append_left _ ((h.least h4).mem hl), fun y hy => ?_⟩, fun h5 => ⟨fun h => by simp at h, fun _ => List.mem_append_left _ ((h.most h5).mem hl), fun y hy => ?_⟩⟩
  · rcases List.mem_append.1 hy with hy | hy
    · exact (h.least h4).le y hy
    · rw [List.mem_singleton] at hy; subst hy
      have := cmpV_cmp.anti x y
      have := hc4.resolve_left fun h => h h4
      omega
  · rcases List.mem_append.1 hy with hy | hy
    · exact (h.most h5).le y hy
    · rw [List.mem_singleton] at hy; subst hy
      exact hc5.resolve_left fun h => h h5
end Go.Vc
namespace Go.Proofs.Ytckfedekpkgcdaa
open Go Go.Vc Go.RowKit
set_option maxRecDepth 20000
attribute [local irreducible] Calls Put Drew New

/-- What a column of values answers in a way. -/
def colAns (agg : Int) (vs : List Val) : Val × Bool := (((foldC vs).answer agg).1, decide (((foldC vs).answer agg).2 = 0))
section
variable {w : World} {p : Option Addr} {n c j : Nat} {hs : List Sl} {rows : List (List Val)}
set_option maxHeartbeats 2000000 in
theorem r14gathered_ok {agg : Int} (hagg : 1 ≤ agg ∧ agg ≤ 5) (hR : Rws w p n c hs rows) (hw : ∀ r ∈ rows, j < r.length) (hn : n ≤ 1000000) (hf : ∀ v ∈ colOf rows j, v.fit) (hok : ∀ v ∈ colOf rows j, v.Ok) (hk01 : agg = 3 → ∀ v ∈ colOf rows j, v.k = 1 ∨ v.k = 0) :
    Calls Try.prog 34 #[.int .i64 agg, .slice p n c, .int .i64 (j : Int)] w fun e w' => e = .returned (.tuple #[(colAns agg (colOf rows j)).1.agg, .bool (colAns agg (colOf rows j)).2]) ∧ Ext w w' := by
  apply r14gathered_vc
  unfold r14gathered_T
  intro b1 w2 h1
  have hl := hR.len
  have hcl : (colOf rows j).length = n := by unfold colOf; rw [List.length_map, hl]
  have htold := told_fold (vs := colOf rows j) (by omega) hf
  have hans := htold.answer agg
  have hRn := hR
  have htot := fun (W : World) (e : Ext w W) (h3 : agg = 3) => r14total_ok (j := j) (hR.ext e) hw hn hf (hk01 h3)
  have hcell := fun (W : World) (e : Ext w W) (k : Nat) (hk : k < n) => cell_at (j := j) (hR.ext e) hw hk
  unfold colAns
  generalize colOf rows j = vs at hf hok hk01 hcl htold hans htot hcell ⊢
  have H0 := (Hold.start (Ext.rfl (w := w))).new h1
  have fin : ∀ {W : World} {fs : List (Nat × Obj)} (i : Nat) (r v : Val) (er : Int) (bb : Bool), Hold w W fs [] → fs[i]? = some (b1, .cells #[.int .i64 0, .int .i64 0, .string ⟨#[]⟩] 42 (0, 0)) → (foldC vs).answer agg = (v, er) → decide (er = 0) = bb → r = v → (∃ u, W.cell? ⟨b1, 0, none⟩ = some u) ∧ W.frozen? ⟨b1, 0, none⟩ = false ∧ (∃ u, W.cell? ⟨b1, 1, none⟩ = some u) ∧ W.frozen? ⟨b1, 1, none⟩ = false ∧ (∃ u, W.cell? ⟨b1, 2, none⟩ = some u) ∧ W.frozen? ⟨b1, 2, none⟩ = false ∧
      ∀ W' : World, Put W b1 0 [.int .i64 r.k, .int .i64 r.n, .string r.s] W' → ∃ k' : Int, W'.cell? ⟨b1, 0, none⟩ = some (.int .i64 k') ∧ ∃ n' : Int, W'.cell? ⟨b1, 1, none⟩ = some (.int .i64 n') ∧ ∃ s' : ByteArray, W'.cell? ⟨b1, 2, none⟩ = some (.string s') ∧
        (Ending.returned (.tuple #[.agg #[.int .i64 k', .int .i64 n', .string s'], .bool bb]) = .returned (.tuple #[((foldC vs).answer agg).1.agg, .bool (decide (((foldC vs).answer agg).2 = 0))]) ∧ Ext w W') := by
    rintro W fs i r v er bb H hi ha rfl rfl
    rw [ha]
    exact H.ret3 i hi r.k r.n r.s (X := fun k' n' s' W' => Ending.returned (.tuple #[.agg #[.int .i64 k', .int .i64 n', .string s'], .bool (decide (er = 0))]) = .returned (.tuple #[r.agg, .bool (decide (er = 0))]) ∧ Ext w W') fun W' e => ⟨rfl, e⟩
  refine ⟨fun h1 => (r14number_ok _ ⟨by omega, by omega⟩ w2).mono ?_, fun h1 => ⟨fun h3 => (htot w2 H0.ext h3).mono ?_, fun h3 b35 w36 h35 => ?_⟩⟩
  · rintro e W2 ⟨rfl, e2⟩
    exact ⟨_, _, _, rfl, fin 0 (numV (n : Int)) _ 0 true (H0.step e2) rfl (by rw [hans, if_pos h1]) rfl (by rw [hcl])⟩
  · rintro e W2 ⟨rfl, e2⟩
    refine ⟨_, _, _, _, rfl, ?_⟩
    rw [if_neg h1, if_neg (by omega), if_neg (by omega), if_neg (by omega)] at hans
    refine fin 0 (totV vs).1 (totV vs).1 (if (totV vs).2 then 0 else 100) (totV vs).2 (H0.step e2) rfl ?_ ?_ rfl
    · rw [hans]
      unfold totV
      split
      · rfl
      · split <;> rfl
    · cases (totV vs).2 <;> rfl
  have H36 := H0.new h35
  refine ⟨⟨_, H36.get 0 rfl rfl⟩, H36.frz 0 rfl, ⟨_, H36.get 0 rfl rfl⟩, H36.frz 0 rfl, ⟨_, H36.get 0 rfl rfl⟩, H36.frz 0 rfl, fun w41 h41 => ?_⟩
  have H41 := H36.put 0 rfl h41
  refine ⟨fun m i W => ∃ (k : Nat) (x : Val), i = (k : Int) ∧ k ≤ n ∧ m = ((nn (vs.take k)).length : Int) ∧ Bst agg (nn (vs.take k)) x ∧ Hold w W [(b35, .cells #[.int .i64 x.k, .int .i64 x.n, .string x.s] 42 (0, 0)), (b1, .cells #[.int .i64 0, .int .i64 0, .string ⟨#[]⟩] 42 (0, 0))] [],
    fun _ i _ => n - i.toNat, ⟨0, nullV, rfl, Nat.zero_le _, rfl, bst_nil _, H41⟩, ?_⟩
  rintro m i W ⟨k, x, rfl, hk, rfl, hB, H⟩
  have hnk : (nn (vs.take k)).length ≤ n := Nat.le_trans (nn_length _) (by rw [List.length_take]; omega)
  refine ⟨fun hlt => ?_, fun hge => ?_⟩
  · obtain ⟨v, xs, b, o, b2, o2, hv, hp, hc, hp2, hjn, c0, c1, c2⟩ := hcell W H.ext k (by omega)
    have hvo := hok v (List.mem_of_getElem? hv)
    have ht := nn_take hv
    simp only [Int.toNat_natCast]
    refine ⟨b, o, hp, by omega, by omega, _, _, _, hc, b2, o2, hp2, by omega, by omega, _, c0, _, c1, _, c2, fun b60 w61 h60 => ?_⟩
    have H61 := H.new h60
    refine ⟨⟨_, H61.get 0 rfl rfl⟩, H61.frz 0 rfl, ⟨_, H61.get 0 rfl rfl⟩, H61.frz 0 rfl, ⟨_, H61.get 0 rfl rfl⟩, H61.frz 0 rfl, fun w66 h66 => ?_⟩
    have H66 : Hold w w66 [(b60, .cells #[.int .i64 v.k, .int .i64 v.n, .string v.s] 42 (0, 0)), (b35, .cells #[.int .i64 x.k, .int .i64 x.n, .string x.s] 42 (0, 0)), (b1, .cells #[.int .i64 0, .int .i64 0, .string ⟨#[]⟩] 42 (0, 0))] [] := H61.put 0 rfl h66
    refine ⟨_, H66.get 0 rfl rfl, fun hz => ?_, fun hz => ?_⟩
    · rw [if_pos hz, List.append_nil] at ht
      rw [i64_next (by omega)]
      exact ⟨⟨k + 1, x, rfl, by omega, by rw [ht], by rw [ht]; exact hB, H66.tail⟩, by simp only [Int.toNat_natCast]; omega⟩
    · rw [if_neg hz] at ht
      refine ⟨_, H66.get 0 rfl rfl, _, H66.get 0 rfl rfl, _, H66.get 0 rfl rfl, _, H66.get 1 rfl rfl, _, H66.get 1 rfl rfl, _, H66.get 1 rfl rfl, (rvcompare_ok v x w66).mono ?_⟩
      rintro e W78 ⟨rfl, e78⟩
      have H78 := H66.step e78
      have store : Bst agg (nn (vs.take k) ++ [v]) v → ∃ n82, W78.cell? ⟨b60, 0, none⟩ = some (.int .i64 n82) ∧ ∃ n83, W78.cell? ⟨b60, 1, none⟩ = some (.int .i64 n83) ∧ ∃ s84, W78.cell? ⟨b60, 2, none⟩ = some (.string s84) ∧ (∃ u85, W78.cell? ⟨b35, 0, none⟩ = some u85) ∧ W78.frozen? ⟨b35, 0, none⟩ = false ∧ (∃ u86, W78.cell? ⟨b35, 1, none⟩ = some u86) ∧ W78.frozen? ⟨b35, 1, none⟩ = false ∧ (∃ u87, W78.cell? ⟨b35, 2, none⟩ = some u87) ∧ W78.frozen? ⟨b35, 2, none⟩ = false ∧
          ∀ w' : World, Put W78 b35 0 [.int .i64 n82, .int .i64 n83, .string s84] w' → ∃ y, Bst agg (nn (vs.take k) ++ [v]) y ∧ Hold w w' [(b60, .cells #[.int .i64 v.k, .int .i64 v.n, .string v.s] 42 (0, 0)), (b35, .cells #[.int .i64 y.k, .int .i64 y.n, .string y.s] 42 (0, 0)), (b1, .cells #[.int .i64 0, .int .i64 0, .string ⟨#[]⟩] 42 (0, 0))] [] := fun hb =>
        ⟨_, H78.get 0 rfl rfl, _, H78.get 0 rfl rfl, _, H78.get 0 rfl rfl, ⟨_, H78.get 1 rfl rfl⟩, H78.frz 1 rfl, ⟨_, H78.get 1 rfl rfl⟩, H78.frz 1 rfl, ⟨_, H78.get 1 rfl rfl⟩, H78.frz 1 rfl, fun w' h' => ⟨v, hb, H78.put 1 rfl h'⟩⟩
      refine ⟨_, rfl, fun W' => ∃ y, Bst agg (nn (vs.take k) ++ [v]) y ∧ Hold w W' [(b60, .cells #[.int .i64 v.k, .int .i64 v.n, .string v.s] 42 (0, 0)), (b35, .cells #[.int .i64 y.k, .int .i64 y.n, .string y.s] 42 (0, 0)), (b1, .cells #[.int .i64 0, .int .i64 0, .string ⟨#[]⟩] 42 (0, 0))] [],
        ⟨fun h0 => store ?_, fun h0 => ⟨fun h4 => store (bst_new hvo hB (.inl h4)), fun h4 => ⟨fun h5 => store (bst_new hvo hB (.inr h5)), fun h5 => ⟨x, bst_old hvo hB ?_ h4 h5, H78⟩⟩⟩⟩, ?_⟩
      · have : nn (vs.take k) = [] := List.length_eq_zero_iff.1 (by omega)
        rw [this]
        exact bst_one _ hvo
      · intro he
        rw [he] at h0
        exact h0 rfl
      · rintro W' ⟨y, hb, H'⟩
        rw [i64_next (by omega), i64_next (by omega)]
        exact ⟨⟨k + 1, y, rfl, by omega, by rw [ht]; simp, by rw [ht]; exact hb, H'.tail⟩, by simp only [Int.toNat_natCast]; omega⟩
  · have hkn : k = n := by omega
    rw [List.take_of_length_le (by omega)] at hB hnk ⊢
    refine ⟨fun h2 => (r14number_ok _ ⟨by omega, by omega⟩ W).mono ?_, fun h2 => ?_⟩
    · rintro e W2 ⟨rfl, e2⟩
      exact ⟨_, _, _, rfl, fin 1 (numV ((nn vs).length : Int)) _ 0 true (H.step e2) rfl (by rw [hans, if_neg h1, if_pos h2]) rfl rfl⟩
    · refine ⟨_, H.get 0 rfl rfl, _, H.get 0 rfl rfl, _, H.get 0 rfl rfl, ?_⟩
      rw [if_neg h1, if_neg h2] at hans
      rcases (show agg = 4 ∨ agg = 5 by omega) with h4 | h5
      · rw [if_pos h4] at hans
        exact fin 1 x _ 0 true H rfl hans rfl (least_unique (hB.least h4) htold.least)
      · rw [if_neg (by omega), if_pos h5] at hans
        exact fin 1 x _ 0 true H rfl hans rfl (most_unique (hB.most h5) htold.most)
end
end Go.Proofs.Ytckfedekpkgcdaa

/- The contracts of the words that hold rows against one another. -/
namespace Go.Proofs.Ytckfedekpkgcdaa
open Go Go.Vc Go.RowKit
set_option maxRecDepth 20000

theorem samerow_ok (w : World) {p q : Option Addr} {n c m d : Nat} {a b : List Val} (ha : Vs w p n c a) (hb : Vs w q m d b) :
    Calls Try.prog 12 #[.slice p n c, .slice q m d] w fun e w' => e = .returned (.bool (decide (a = b))) ∧ Ext w w' := by
  apply samerow_vc
  unfold samerow_T
  have la := ha.len
  have lb := hb.len
  have hm : n ≤ 9223372036854775807 := ha.le
  refine ⟨fun h => ⟨?_, .rfl⟩, fun h => ?_⟩
  · have : a ≠ b := fun e => by subst e; omega
    simp [this]
  refine ⟨fun i w' => ∃ k : Nat, i = (k : Int) ∧ k ≤ n ∧ a.take k = b.take k ∧ Ext w w', fun i _ => n - i.toNat, ⟨0, rfl, Nat.zero_le _, by simp, .rfl⟩, ?_⟩
  rintro i w' ⟨k, rfl, hk, he, hx⟩
  refine ⟨fun hlt w9 h9 => ?_, fun hge => ⟨?_, hx⟩⟩
  · have hx9 := hx.trans h9.ext
    have ga : a[k]? = some (a[k]'(by omega)) := List.getElem?_eq_getElem _
    have gb : b[k]? = some (b[k]'(by omega)) := List.getElem?_eq_getElem _
    obtain ⟨b1, o1, hp, c0, c1, c2⟩ := (ha.ext hx9).val ga
    obtain ⟨b2, o2, hq, d0, d1, d2⟩ := (hb.ext hx9).val gb
    simp only [Int.toNat_natCast]
    refine ⟨b1, o1, hp, by omega, by omega, _, c0, _, c1, _, c2, b2, o2, hq, by omega, by omega, _, d0, _, d1, _, d2, fun hne => ⟨?_, hx9⟩, fun heq => ?_⟩
    · have : a ≠ b := fun e => by
        subst e
        rcases hne with h | h | h <;> exact h rfl
      simp [this]
    · rw [i64_next (by omega)]
      refine ⟨⟨k + 1, rfl, by omega, ?_, hx9⟩, by simp only [Int.toNat_natCast]; omega⟩
      rw [take_snoc ga, take_snoc gb, he, Val.ext'.2 heq]
  · have : k = n := by omega
    subst this
    rw [List.take_of_length_le (by omega), List.take_of_length_le (by omega)] at he
    simp [he]
end Go.Proofs.Ytckfedekpkgcdaa

/- The document's table in memory; the contracts of its New and Add. -/
namespace Go.Vc
open Go Go.RowKit
theorem hasR_iff {gs : List RG} {key : List Val} : hasR gs key = true ↔ ∃ g ∈ gs, g.key = key := by
  unfold hasR; rw [List.any_eq_true]; simp
theorem updR_other {gs : List RG} {key vals : List Val} (h : ∀ g ∈ gs, g.key ≠ key) : gs.map (RG.upd key vals) = gs := by
  have : ∀ g ∈ gs, RG.upd key vals g = g := by
    intro g hg
    unfold RG.upd
    rw [if_neg (h g hg)]
  rw [List.map_congr_left this, List.map_id']
theorem updR_split {g1 g2 : List RG} {g : RG} {vals : List Val} (h : ((g1 ++ g :: g2).map RG.key).Nodup) : (g1 ++ g :: g2).map (RG.upd g.key vals) = g1 ++ ⟨g.key, g.rows ++ [vals]⟩ :: g2 := by
  rw [List.map_append, List.map_cons, List.nodup_append] at h
  obtain ⟨_, h2, h3⟩ := h
  rw [List.nodup_cons] at h2
  rw [List.map_append, List.map_cons, updR_other fun x hx e => h3 _ (List.mem_map_of_mem hx) _ (List.mem_cons_self) e, updR_other fun x hx e => h2.1 (by rw [← e]; exact List.mem_map_of_mem hx)]
  unfold RG.upd
  rw [if_pos rfl]
theorem addR_bad {aggs : List Int} {gs : List RG} {key vals : List Val} (h : mayP aggs (gs.head?.map RG.key) key vals = false) : addR aggs gs key vals = (gs, 2) := by unfold addR; rw [h]; rfl
theorem put_second {α : Type} (a : List α) (x y z : α) (b : List α) : (a ++ (x :: y :: b)).take (a.length + 1) ++ [z] ++ (a ++ (x :: y :: b)).drop (a.length + 1 + 1) = a ++ (x :: z :: b) := by
  have e1 : (a ++ (x :: y :: b)).take (a.length + 1) = a ++ [x] := by rw [List.take_append, List.take_of_length_le (by omega), Nat.add_sub_cancel_left]; rfl
  have e2 : (a ++ (x :: y :: b)).drop (a.length + 1 + 1) = b := by rw [List.drop_append, @List.drop_eq_nil_of_le _ a _ (by omega), show a.length + 1 + 1 - a.length = 2 by omega]; rfl
  rw [e1, e2]
  simp
end Go.Vc
namespace Go.Proofs.Ytckfedekpkgcdaa
open Go Go.Vc Go.RowKit
set_option maxRecDepth 20000
attribute [local irreducible] Calls Put Drew New

theorem undGrps : Try.prog.underlying 49 = some (.slice 80) := by kernel_rfl
theorem tyGrp : tyOf Try.prog 80 = some { agg := true, ls := [.slc, .slc], zero := .agg #[.slice none 0 0, .slice none 0 0], bytes := 48, big := false, n := 2 } := by kernel_rfl

structure Rm where
  kp : Sl
  vp : Option Addr
  vc : Nat
  key : List Val
  bs : List (Sl × List Val)
def Rm.cs (x : Rm) : List Value := [.slice x.kp.p x.kp.n x.kp.c, .slice x.vp x.bs.length x.vc]
theorem Rm.cs_length (x : Rm) : x.cs.length = 2 := rfl
theorem Rm.cs_one (x : Rm) : ∀ u ∈ x.cs, u.oneCell' = true := by
  intro u hu
  simp only [Rm.cs, List.mem_cons, List.not_mem_nil, or_false] at hu
  rcases hu with rfl | rfl <;> rfl
def Rm.vals (x : Rm) : List Row := rowsR 42 29 x.vp x.vc x.bs
def Rm.rows (x : Rm) : List Row := elR 42 x.kp x.key :: x.vals
def Rm.g (x : Rm) : RG := ⟨x.key, x.bs.map (·.2)⟩
structure RT where
  r : Nat
  ap : Option Addr
  an : Nat
  ac : Nat
  lp : Option Addr
  lc : Nat
  aggs : List Int
  gs : List Rm
def rob (R : RT) : Nat × Obj := (R.r, .cells #[.slice R.ap R.an R.ac, .slice R.lp R.gs.length R.lc] 51 (0, 0))
def RT.blks (R : RT) : List (Nat × Obj) := [rob R]
def RT.head (R : RT) : Row := ⟨80, 2, R.lp, R.gs.length, R.lc, R.gs.flatMap Rm.cs⟩
def RT.rows (R : RT) : List Row := R.head :: R.gs.flatMap Rm.rows
def RT.plain (R : RT) : List RG := R.gs.map Rm.g
structure Rok (w0 : World) (R : RT) (m : Nat) : Prop where
  agg : At w0 R.ap (vI .i64 R.aggs)
  an : R.aggs.length = R.an
  a16 : R.an ≤ 16
  ways : newOk R.aggs = true
  len : R.gs.length ≤ 4096
  cnt : ∀ x ∈ R.gs, x.bs.length ≤ m
  wid : ∀ g ∈ R.plain, ∀ r ∈ g.rows, fitsL R.aggs r = true ∧ ∀ v ∈ r, v.fit
  dist : (R.plain.map RG.key).Nodup

section
variable {w0 W : World} {fs : List (Nat × Obj)} {ms : List Row} {R : RT} {m : Nat}

theorem r14new_ok {p : Option Addr} {n c : Nat} {l : List Int} (H : Hold w0 W fs ms) (h : At w0 p (vI .i64 l)) (hl : l.length = n) (hn : n < 9223372036854775807) :
    Calls Try.prog 16 #[.slice p n c] W fun e W' => (newOk l = false ∧ e = .returned (.tuple #[.pointer none, .int .i64 2]) ∧ Hold w0 W' fs ms) ∨
      (newOk l = true ∧ ∃ R : RT, e = .returned (.tuple #[.pointer (some ⟨R.r, 0, none⟩), .int .i64 0]) ∧ Hold w0 W' (R.blks ++ fs) (R.rows ++ ms) ∧ Rok w0 R 0 ∧ R.aggs = l ∧ R.gs = []) := by
  apply r14new_vc
  unfold r14new_T
  refine ⟨fun i W' => ∃ k : Nat, i = (k : Int) ∧ k ≤ n ∧ l.any badW = (l.drop k).any badW ∧ Hold w0 W' fs ms, fun i _ => n - i.toNat, ⟨0, rfl, Nat.zero_le _, rfl, H⟩, ?_⟩
  rintro i W' ⟨k, rfl, hk, ha, H'⟩
  refine ⟨fun hlt => ?_, fun hge => ?_⟩
  · obtain ⟨b, o, hp, hc⟩ := (h.ext H'.ext).getI (i := k) (by omega)
    have g : l[k]? = some l[k] := List.getElem?_eq_getElem (by omega)
    generalize l[k] = a at g hc
    have bad : badW a = true → newOk l = false := fun hb => by
      unfold newOk
      rw [ha, anyDrop g, hb]
      simp
    refine ⟨b, o, hp, by omega, by omega, _, by rw [Int.toNat_natCast]; exact hc, fun h1 => .inl ⟨bad (by unfold badW; rw [decide_eq_true h1]; rfl), rfl, H'⟩, fun h1 => ⟨b, o, hp, by omega, by omega, _, by rw [Int.toNat_natCast]; exact hc, fun h5 => .inl ⟨bad (by unfold badW; rw [decide_eq_true h5]; simp), rfl, H'⟩, fun h5 => ?_⟩⟩
    rw [i64_next (by omega)]
    refine ⟨⟨k + 1, rfl, by omega, ?_, H'⟩, by simp only [Int.toNat_natCast]; omega⟩
    rw [ha, anyDrop g]
    unfold badW
    rw [decide_eq_false (by omega), decide_eq_false (by omega)]; rfl
  · rw [List.drop_eq_nil_iff.2 (by omega)] at ha
    refine ⟨fun h16 => .inl ⟨by unfold newOk; rw [decide_eq_false (by omega)]; rfl, rfl, H'⟩, fun h16 b20 w21 h20 => .inr ?_⟩
    have hok : newOk l = true := by unfold newOk; rw [ha, decide_eq_true (by omega)]; rfl
    refine ⟨hok, ⟨b20, p, n, c, none, 0, l, []⟩, rfl, ((H'.nilRow 80 2).new h20), ?_, rfl, rfl⟩
    exact ⟨h, hl, by dsimp only; omega, hok, Nat.zero_le _, by simp, by simp [RT.plain], by simp [RT.plain]⟩

theorem R_blk (H : Hold w0 W (R.blks ++ fs) ms) : Blk W R.r 51 #[.slice R.ap R.an R.ac, .slice R.lp R.gs.length R.lc] := H.blk 0 rfl
theorem R_head (H : Hold w0 W fs ms) (hm : R.head ∈ ms) : Ls Rm.cs W R.lp R.gs.length R.lc R.gs := (H.ownM hm).ls Rm.cs_length (by decide)
theorem R_get (H : Hold w0 W fs ms) (hm : R.head ∈ ms) {i : Nat} {x : Rm} (hx : R.gs[i]? = some x) : ∃ b o, R.lp = some ⟨b, o, none⟩ ∧ W.cell? ⟨b, o + i * 2, none⟩ = some (.slice x.kp.p x.kp.n x.kp.c) ∧ W.cell? ⟨b, o + i * 2 + 1, none⟩ = some (.slice x.vp x.bs.length x.vc) := by
  obtain ⟨b, o, hp, hc⟩ := (R_head H hm).lies.things Rm.cs_length (by decide) hx
  exact ⟨b, o, hp, hc 0 _ rfl, hc 1 _ rfl⟩

/-- What the document's Add does. -/
def AddedR (w0 : World) (fs : List (Nat × Obj)) (ms : List Row) (R : RT) (m : Nat) (key vals : List Val) (e : Ending) (W' : World) : Prop :=
  ∃ R' : RT, e = .returned (.int .i64 (addR R.aggs R.plain key vals).2) ∧ Hold w0 W' (R'.blks ++ fs) (R'.rows ++ ms) ∧ Rok w0 R' (m + 1) ∧ R'.r = R.r ∧ R'.aggs = R.aggs ∧ R'.plain = (addR R.aggs R.plain key vals).1

theorem rok_new {p : Option Addr} {c : Nat} {x : Rm} {vals : List Val} (ok : Rok w0 R m) (hl : R.gs.length < 4096) (hbs : x.bs.map (·.2) = [vals]) (hno : ∀ y ∈ R.gs, y.key ≠ x.key) (hv : fitsL R.aggs vals = true ∧ ∀ v ∈ vals, v.fit) :
    Rok w0 { R with lp := p, lc := c, gs := R.gs ++ [x] } (m + 1) := by
  obtain ⟨h1, h2, h3, h4, h5, h6, h7, h8⟩ := ok
  refine ⟨h1, h2, h3, h4, by simp only [List.length_append, List.length_singleton]; omega, ?_, ?_, ?_⟩
  · intro y hy
    rcases List.mem_append.1 hy with hy | hy
    · have := h6 y hy; omega
    · rw [List.mem_singleton] at hy; subst hy
      have := congrArg List.length hbs
      simp only [List.length_map, List.length_singleton] at this
      omega
  · intro g hg
    unfold RT.plain at hg
    simp only [List.map_append, List.map_cons, List.map_nil] at hg
    rcases List.mem_append.1 hg with hg | hg
    · exact h7 g hg
    · rw [List.mem_singleton] at hg; subst hg
      intro r hr
      unfold Rm.g at hr
      rw [hbs, List.mem_singleton] at hr
      subst hr; exact hv
  · unfold RT.plain at h8 ⊢
    simp only [List.map_append, List.map_cons, List.map_nil]
    rw [List.nodup_append]
    refine ⟨h8, by simp, ?_⟩
    intro a ha b hb
    rw [List.mem_singleton] at hb
    subst hb
    obtain ⟨g, hg, rfl⟩ := List.mem_map.1 ha
    obtain ⟨y, hy, rfl⟩ := List.mem_map.1 hg
    exact hno y hy
theorem rok_upd {g1 g2 : List Rm} {x y : Rm} {vals : List Val} {own : Sl} (ok : Rok w0 R m) (hgs : R.gs = g1 ++ x :: g2) (hk : y.key = x.key) (hbs : y.bs = x.bs ++ [(own, vals)]) (hv : fitsL R.aggs vals = true ∧ ∀ v ∈ vals, v.fit) :
    Rok w0 { R with gs := g1 ++ y :: g2 } (m + 1) := by
  obtain ⟨h1, h2, h3, h4, h5, h6, h7, h8⟩ := ok
  unfold RT.plain at h7 h8
  rw [hgs] at h5 h6 h7 h8
  refine ⟨h1, h2, h3, h4, by simpa using h5, ?_, ?_, ?_⟩
  · intro z hz
    rcases List.mem_append.1 hz with hz | hz
    · have := h6 z (List.mem_append_left _ hz); omega
    · rcases List.mem_cons.1 hz with rfl | hz
      · have := h6 x (by simp)
        rw [hbs, List.length_append]
        simp only [List.length_singleton]; omega
      · have := h6 z (List.mem_append_right _ (List.mem_cons_of_mem _ hz)); omega
  · intro g hg
    unfold RT.plain at hg
    simp only [List.map_append, List.map_cons] at hg
    rcases List.mem_append.1 hg with hg | hg
    · exact h7 g (by rw [List.map_append]; exact List.mem_append_left _ hg)
    · rcases List.mem_cons.1 hg with rfl | hg
      · intro r hr
        unfold Rm.g at hr
        rw [hbs, List.map_append] at hr
        rcases List.mem_append.1 hr with hr | hr
        · exact h7 x.g (by simp) r hr
        · rw [List.map_cons, List.map_nil, List.mem_singleton] at hr
          subst hr; exact hv
      · exact h7 g (by rw [List.map_append, List.map_cons]; exact List.mem_append_right _ (List.mem_cons_of_mem _ hg))
  · unfold RT.plain
    have : (g1 ++ y :: g2).map (fun z => z.g.key) = (g1 ++ x :: g2).map (fun z => z.g.key) := by
      rw [List.map_append, List.map_append, List.map_cons, List.map_cons]
      show _ ++ y.key :: _ = _ ++ x.key :: _
      rw [hk]
    rw [List.map_map] at h8 ⊢
    exact this ▸ h8
end
end Go.Proofs.Ytckfedekpkgcdaa

/- The contract of the document's Add. -/
namespace Go.Proofs.Ytckfedekpkgcdaa
open Go Go.Vc Go.RowKit
set_option maxRecDepth 20000
attribute [local irreducible] Calls Put Drew New

section
variable {w0 W : World} {fs : List (Nat × Obj)} {ms : List Row} {R : RT} {m : Nat}
theorem rows_apart {a b : List Row} (h : Hold w0 W fs (a ++ b)) {x y : Row} (hx : x ∈ a) (hy : y ∈ b) : x.apart y := (List.pairwise_append.1 h.pw).2.2 x hx y hy
theorem mem_elR {x : Rm} (hx : x ∈ R.gs) : elR 42 x.kp x.key ∈ R.rows := List.mem_cons_of_mem _ (List.mem_flatMap.2 ⟨x, hx, by simp [Rm.rows]⟩)

/-- A new group is laid behind the others. -/
theorem r14_push {own kp' : Sl} {bl b : Nat} {key vals : List Val} {W2 : World} (HF : Hold w0 W (R.blks ++ fs) (elR 42 kp' key :: (hdR 29 (some ⟨bl, 0, none⟩) 1 1 [own] :: elR 42 own vals :: (R.rows ++ ms)))) (ok : Rok w0 R m)
    (hn : New W (.cells #[.slice kp'.p kp'.n kp'.c, .slice (some ⟨bl, 0, none⟩) 1 1] 80) b W2) (hl : R.gs.length < 4096) (hno : ∀ y ∈ R.gs, y.key ≠ key) (hv : fitsL R.aggs vals = true ∧ ∀ v ∈ vals, v.fit)
    (hadd : addR R.aggs R.plain key vals = (R.plain ++ [⟨key, [vals]⟩], 0)) :
    ∃ p n c W3, (Builtin.append_ #[49, 49] 49 #[.slice R.lp R.gs.length R.lc, .slice (some ⟨b, 0, none⟩) 1 1]).run Try.prog W2 = .ok (.slice p n c) W3 ∧
      ∃ b1 o1, (some ⟨R.r, 0, none⟩ : Option Addr) = some ⟨b1, o1, none⟩ ∧ (∃ u, W3.cell? ⟨b1, o1 + 1, none⟩ = some u) ∧ W3.frozen? ⟨b1, o1 + 1, none⟩ = false ∧ ∀ W4, Put W3 b1 (o1 + 1) [.slice p n c] W4 → AddedR w0 fs ms R m key vals (.returned (.int .i64 0)) W4 := by
  have H2 := HF.step hn.ext
  obtain ⟨p, c, W3, hrun, H3⟩ := H2.append (ty := 49) (P := Try.prog) (q := some ⟨b, 0, none⟩) (m := 1) (d' := 1) (news := [.slice kp'.p kp'.n kp'.c, .slice (some ⟨bl, 0, none⟩) 1 1]) 3 rfl undGrps tyGrp rfl (by decide) (Blk.new hn).at rfl (fun e => by cases e)
    (by intro u hu; simp only [List.mem_cons, List.not_mem_nil, or_false] at hu; rcases hu with rfl | rfl <;> rfl) (by show ((R.gs.length + 1) + (R.gs.length + 1) / 4 + 192) * 48 ≤ _; omega) (by unfold maxLen; omega)
  refine ⟨p, _, c, W3, hrun, R.r, 0, rfl, ⟨_, (H3.blk 0 rfl).cell 1⟩, H3.frz 0 rfl, fun W4 h4 => ?_⟩
  have H4 := H3.put 0 rfl h4
  refine ⟨{ R with lp := p, lc := c, gs := R.gs ++ [⟨kp', some ⟨bl, 0, none⟩, 1, key, [(own, vals)]⟩] }, by rw [hadd], H4.permA ?_ ?_, rok_new ok hl rfl hno hv, rfl, rfl, ?_⟩
  · refine perm_of_sum fun f => ?_
    simp only [RT.blks, rob, List.map_append, List.map_cons, List.map_nil, List.sum_append, List.sum_cons, List.sum_nil, List.cons_append, List.nil_append, List.set_cons_zero, setA, List.setIfInBounds_toArray, List.set_cons_succ, List.length_append, List.length_cons, List.length_nil, Nat.zero_add]
  · refine perm_of_sum fun f => ?_
    simp only [RT.rows, RT.head, Rm.rows, Rm.vals, Rm.cs, rowsR, List.flatMap_append, List.flatMap_cons, List.flatMap_nil, List.map_append, List.map_cons, List.map_nil, List.sum_append, List.sum_cons, List.sum_nil, List.cons_append, List.nil_append, List.set_cons_zero, List.set_cons_succ, List.length_append, List.length_cons, List.length_nil, List.append_nil, Nat.zero_add]
    omega
  · rw [hadd]
    unfold RT.plain
    simp [Rm.g]

set_option maxHeartbeats 4000000 in
theorem r14add_ok {kp vp : Option Addr} {kn kc vn vc : Nat} {key vals : List Val} (H : Hold w0 W (R.blks ++ fs) (R.rows ++ ms)) (ok : Rok w0 R m) (hk : Vs w0 kp kn kc key) (hv : Vs w0 vp vn vc vals) (hvf : ∀ v ∈ vals, v.fit) (hkn : kn ≤ 1048576) (hm : m < 1000000) :
    Calls Try.prog 17 #[.pointer (some ⟨R.r, 0, none⟩), .slice kp kn kc, .slice vp vn vc] W (AddedR w0 fs ms R m key vals) := by
  apply r14add_vc
  unfold r14add_T
  have kl := hk.len
  have vl := hv.len
  have h16 := ok.a16
  have han := ok.an
  refine (r14right_ok W (hk.ext H.ext)).mono ?_
  rintro e W2 ⟨rfl, e2⟩
  have H2 := H.step e2
  refine ⟨_, rfl, (r14right_ok W2 (hv.ext H2.ext)).mono ?_⟩
  rintro e W5 ⟨rfl, e5⟩
  have H5 := H2.step e5
  have bad : ∀ W', Hold w0 W' (R.blks ++ fs) (R.rows ++ ms) → mayP R.aggs (R.plain.head?.map RG.key) key vals = false → AddedR w0 fs ms R m key vals (.returned (.int .i64 2)) W' := by
    intro W' H' hm'
    have := addR_bad hm'
    exact ⟨R, by rw [this], H', { ok with cnt := fun x hx => Nat.le_succ_of_le (ok.cnt x hx) }, rfl, rfl, by rw [this]⟩
  have nofit : fitsL R.aggs vals = false → mayP R.aggs (R.plain.head?.map RG.key) key vals = false := fun h => by unfold mayP; rw [h]; simp
  refine ⟨_, rfl, fun W' => Hold w0 W' (R.blks ++ fs) (R.rows ++ ms) ∧ rightL key = true ∧ rightL vals = true ∧ vn = R.an ∧ (match R.plain.head?.map RG.key with | none => true | some k => decide (key.length = k.length)) = true, ⟨fun h => bad _ H5 ?_, ?_⟩, ?_⟩
  · rcases h with h | h
    · unfold mayP; rw [h]; rfl
    · refine nofit ?_
      rw [← Bool.not_eq_true]
      intro hf
      rw [fitsL_right hf] at h; cases h
  · rintro ⟨hb1, hb2⟩
    refine ⟨R.r, 0, rfl, _, _, _, (R_blk H5).cell 0, fun hne => bad _ H5 (nofit ?_), fun he => ⟨R.r, 0, rfl, _, _, _, (R_blk H5).cell 1, fun hpos => ?_, fun hz => ⟨H5, hb1, hb2, by omega, ?_⟩⟩⟩
    · rw [← Bool.not_eq_true]
      intro hf
      have := fitsL_len hf
      omega
    · have g0 : R.gs[0]? = some (R.gs[0]'(by omega)) := List.getElem?_eq_getElem _
      generalize R.gs[0]'(by omega) = x at g0
      obtain ⟨b, o, hp, hc, _⟩ := R_get H5 (by simp [RT.rows]) g0
      have hxl := (H5.elV (te := 42) (List.mem_append_left _ (mem_elR (List.mem_of_getElem? g0)))).len
      have hhd : R.plain.head?.map RG.key = some x.key := by
        unfold RT.plain
        cases hgs : R.gs with
        | nil => rw [hgs] at g0; cases g0
        | cons y r => rw [hgs] at g0; cases g0; rfl
      refine ⟨R.r, 0, rfl, _, _, _, (R_blk H5).cell 1, b, o, hp, by omega, by omega, _, _, _, hc, fun hne => bad _ H5 ?_, fun he2 => ⟨H5, hb1, hb2, by omega, ?_⟩⟩
      · unfold mayP
        rw [hhd]
        show (_ && decide (key.length = x.key.length)) = false
        rw [decide_eq_false (by omega)]; simp
      · rw [hhd]
        exact decide_eq_true (by omega)
    · have hg : R.gs = [] := List.length_eq_zero_iff.1 (by omega)
      unfold RT.plain
      rw [hg]; rfl
  rintro W36 ⟨H36, hrk, hrv, hvn, hhead⟩
  refine ⟨fun i W' => ∃ k : Nat, i = (k : Int) ∧ k ≤ vn ∧ Hold w0 W' (R.blks ++ fs) (R.rows ++ ms) ∧ ∀ (j : Nat) a v, j < k → R.aggs[j]? = some a → vals[j]? = some v → fitV a v = true, fun i _ => vn - i.toNat, ⟨0, rfl, Nat.zero_le _, H36, fun j a v hj => absurd hj (by omega)⟩, ?_⟩
  rintro i W' ⟨k, rfl, hkv, HK, hall⟩
  refine ⟨fun hlt => ?_, fun hge => ?_⟩
  · have g : vals[k]? = some (vals[k]'(by omega)) := List.getElem?_eq_getElem _
    have ga : R.aggs[k]? = some (R.aggs[k]'(by omega)) := List.getElem?_eq_getElem _
    obtain ⟨ab, ao, hap, hac⟩ := (ok.agg.ext HK.ext).getI (i := k) (by omega)
    generalize vals[k]'(by omega) = v at g
    generalize R.aggs[k]'(by omega) = a at ga hac
    obtain ⟨b, o, hp, c0, c1, c2⟩ := (hv.ext HK.ext).val g
    have hvr : v.right = true := decide_eq_true (rightL_ok hrv v (List.mem_of_getElem? g))
    refine ⟨fun W' => Hold w0 W' (R.blks ++ fs) (R.rows ++ ms) ∧ fitV a v = true, ⟨R.r, 0, rfl, _, _, _, (R_blk HK).cell 0, ab, ao, hap, by omega, by omega, a, by rw [Int.toNat_natCast]; exact hac, fun h3 => ⟨b, o, hp, by omega, by omega, _, by rw [Int.toNat_natCast]; exact c0, fun hk1 => ⟨b, o, hp, by omega, by omega, _, by rw [Int.toNat_natCast]; exact c0, fun hk0 => bad _ HK (nofit ?_), fun hk0 => ⟨HK, ?_⟩⟩, fun hk1 => ⟨HK, ?_⟩⟩, fun h3 => ⟨HK, ?_⟩⟩, ?_⟩
    · rw [← Bool.not_eq_true]
      intro hf
      have := fitsL_get hf ga g
      unfold fitV at this
      rw [hvr, decide_eq_true h3, decide_eq_true hk1, decide_eq_true hk0] at this
      cases this
    · unfold fitV; rw [hvr]; simp [hk0]
    · unfold fitV; rw [hvr]; simp [hk1]
    · unfold fitV; rw [hvr]; simp [h3]
    · rintro W2 ⟨H2, hf⟩
      rw [i64_next (by omega)]
      refine ⟨⟨k + 1, rfl, by omega, H2, fun j x y hj hx hy => ?_⟩, by simp only [Int.toNat_natCast]; omega⟩
      rcases Nat.lt_or_ge j k with hjk | hjk
      · exact hall j x y hjk hx hy
      · have : j = k := by omega
        subst this
        rw [ga] at hx
        rw [g] at hy
        cases hx; cases hy
        exact hf
  have hkk : k = vn := by omega
  subst hkk
  have hfit : fitsL R.aggs vals = true := fitsL_mk (by omega) fun j a v hj hv' => hall j a v (by have := (List.getElem?_eq_some_iff.1 hv').1; omega) hj hv'
  have may : mayP R.aggs (R.plain.head?.map RG.key) key vals = true := by
    unfold mayP
    rw [hrk, hfit]
    exact hhead
  refine ⟨by omega, by omega, by omega, by omega, fun b68 w69 h68 => ?_⟩
  have H69 := HK.madeRow (s := 3) (cap := k) h68 (by unfold maxLen; omega) (by rw [size_madeCells])
  obtain ⟨p71, c73, w74, hrun74, H74'⟩ := H69.append (ty := 29) (P := Try.prog) (q := vp) (m := k) (d' := vc) (news := vals.flatMap Val.cs) 0 rfl undRow tyVal rfl (by decide) (hv.ext H69.ext).lies (by rw [flatMap_length Val.cs_length, vl])
    hv.nil (flatMap_one Val.cs_one _) (by show ((0 + k) + (0 + k) / 4 + 192) * 32 ≤ _; omega) (by unfold maxLen; omega)
  rw [Nat.zero_add] at hrun74 H74'
  have H74 : Hold w0 w74 (R.blks ++ fs) (elR 42 ⟨p71, k, c73⟩ vals :: (R.rows ++ ms)) := H74'
  clear H74'
  refine ⟨p71, k, c73, w74, hrun74, fun i W' => ∃ a : Nat, i = (a : Int) ∧ a ≤ R.gs.length ∧ (∀ x ∈ R.gs.take a, x.key ≠ key) ∧ Hold w0 W' (R.blks ++ fs) (elR 42 ⟨p71, k, c73⟩ vals :: (R.rows ++ ms)), fun i _ => R.gs.length - i.toNat, ⟨0, rfl, Nat.zero_le _, by simp, H74⟩, ?_⟩
  rintro i W78 ⟨a, rfl, ha, hno, H78⟩
  have hlen := ok.len
  refine ⟨R.r, 0, rfl, _, _, _, (R_blk H78).cell 1, fun hlt => ?_, fun hge => ?_⟩
  · have g : R.gs[a]? = some (R.gs[a]'(by omega)) := List.getElem?_eq_getElem _
    have hgs : R.gs = R.gs.take a ++ (R.gs[a]'(by omega)) :: R.gs.drop (a + 1) := by
      conv => lhs; rw [← List.take_append_drop a R.gs, List.drop_eq_getElem_cons (by omega)]
    generalize R.gs[a]'(by omega) = x at g hgs
    have hx := List.mem_of_getElem? g
    obtain ⟨b, o, hp, hc, hc2⟩ := R_get H78 (List.mem_cons_of_mem _ (List.mem_append_left _ List.mem_cons_self)) g
    have hxv := H78.elV (te := 42) (List.mem_cons_of_mem _ (List.mem_append_left _ (mem_elR hx)))
    simp only [Int.toNat_natCast]
    refine ⟨R.r, 0, rfl, _, _, _, (R_blk H78).cell 1, b, o, hp, by omega, by omega, _, _, _, hc, (samerow_ok W78 hxv (hk.ext H78.ext)).mono ?_⟩
    rintro e W97 ⟨rfl, e97⟩
    have H97 := H78.step e97
    refine ⟨_, rfl, fun hs w100 h100 => ?_, fun hs => ?_⟩
    · have hxk : x.key = key := of_decide_eq_true hs
      have H100 := H97.step h100.ext
      generalize hg1 : R.gs.take a = g1 at hgs hno
      generalize hg2 : R.gs.drop (a + 1) = g2 at hgs
      have hg1l : g1.length = a := by rw [← hg1, List.length_take]; omega
      obtain ⟨bL, hlp⟩ : ∃ bL, R.lp = some ⟨bL, 0, none⟩ := by
        rcases (H100.ownM (m := R.head) (List.mem_cons_of_mem _ (List.mem_append_left _ List.mem_cons_self))).shape with ⟨h, _⟩ | ⟨bL, h, _⟩
        · have h : R.lp = none := h
          rw [h] at hp; cases hp
        · exact ⟨bL, h⟩
      have hc2' : w100.cell? ⟨bL, 0 + a * 2 + 1, none⟩ = some (.slice x.vp x.bs.length x.vc) := by
        obtain ⟨b', o', hp', _, hc'⟩ := R_get H100 (List.mem_cons_of_mem _ (List.mem_append_left _ List.mem_cons_self)) g
        rw [hlp] at hp'
        cases hp'
        exact hc'
      have HP : Hold w0 w100 (R.blks ++ fs) (elR 42 ⟨p71, k, c73⟩ vals :: (rowsR 42 29 x.vp x.vc x.bs ++ (R.head :: (g1.flatMap Rm.rows ++ elR 42 x.kp x.key :: g2.flatMap Rm.rows ++ ms)))) := by
        refine H100.permA (.refl _) ?_
        refine perm_of_sum fun f => ?_
        simp only [RT.rows, hgs, Rm.rows, Rm.vals, List.flatMap_append, List.flatMap_cons, List.map_append, List.map_cons, List.sum_append, List.sum_cons, List.cons_append]
        omega
      refine ⟨R.r, 0, rfl, _, _, _, (R_blk H100).cell 1, R.r, 0, rfl, _, _, _, (R_blk H100).cell 1, bL, 0, hlp, by omega, by omega, _, _, _, hc2', fun b117 w118 h118 => ⟨h118.ext.same, ?_⟩⟩
      have hcnt := ok.cnt x hx
      obtain ⟨p120, c122, w123, hrun, H123, hg⟩ := HP.pushR (ty := 32) undRows tyRow rfl rfl h118 (by omega)
      have H124 : Hold w0 w123 (R.blks ++ fs) (R.head :: (rowsR 42 29 p120 c122 (x.bs ++ [(⟨p71, k, c73⟩, vals)]) ++ (g1.flatMap Rm.rows ++ elR 42 x.kp x.key :: g2.flatMap Rm.rows ++ ms))) := H123.permA (.refl _) List.perm_middle
      obtain ⟨bL', hbL', hcan, hput⟩ := H124.putAt (us := [.slice p120 (x.bs.length + 1) c122]) 0 rfl (o := a * 2 + 1) (by simp only [List.length_singleton]; omega) (by simp)
      have hbb : bL' = bL := by
        have : R.lp = some ⟨bL', 0, none⟩ := hbL'
        rw [hlp] at this
        cases this; rfl
      subst hbb
      refine ⟨p120, _, c122, w123, hrun, hg.same ?_, bL', 0, hlp, by omega, by omega, ?_, ?_, fun w127 h127 => ?_⟩
      · intro b' o' hb' hmem
        have a1 : R.r ≠ b' := HP.apartM (x := rob R) (m := hdR 29 x.vp x.bs.length x.vc (x.bs.map (·.1))) (by simp [RT.blks]) (by simp [rowsR]) b' o' hb'
        have a2 := rows_apart (a := elR 42 ⟨p71, k, c73⟩ vals :: rowsR 42 29 x.vp x.vc x.bs) (b := R.head :: (g1.flatMap Rm.rows ++ elR 42 x.kp x.key :: g2.flatMap Rm.rows ++ ms)) HP (x := hdR 29 x.vp x.bs.length x.vc (x.bs.map (·.1))) (y := R.head) (by simp [rowsR]) List.mem_cons_self b' o' bL' 0 hb' hlp
        simp only [List.mem_cons, List.not_mem_nil, or_false] at hmem
        rcases hmem with h | h | h
        · exact a2 h
        · exact a1 h.symm
        · exact a1 h.symm
      · rw [Nat.zero_add]; exact (hcan 0 (by simp)).1
      · rw [Nat.zero_add]; exact (hcan 0 (by simp)).2
      · rw [Nat.zero_add] at h127
        have H127 := hput w127 h127
        have hadd : addR R.aggs R.plain key vals = (g1.map Rm.g ++ ⟨key, x.bs.map (·.2) ++ [vals]⟩ :: g2.map Rm.g, 0) := by
          unfold addR
          have hpl : R.plain = g1.map Rm.g ++ x.g :: g2.map Rm.g := by unfold RT.plain; rw [hgs]; simp
          have hd := ok.dist
          rw [if_pos may, hpl] at *
          rw [if_pos (hasR_iff.2 ⟨x.g, by simp, hxk⟩)]
          have := updR_split (vals := vals) hd
          rw [show x.g.key = key from hxk] at this
          rw [this]
          rfl
        refine ⟨{ R with gs := g1 ++ ⟨x.kp, p120, c122, x.key, x.bs ++ [(⟨p71, k, c73⟩, vals)]⟩ :: g2 }, by rw [hadd], ?_, rok_upd ok hgs rfl rfl ⟨hfit, hvf⟩, rfl, rfl, ?_⟩
        · have hsec : (R.gs.flatMap Rm.cs).take (a * 2 + 1) ++ [Value.slice p120 (x.bs.length + 1) c122] ++ (R.gs.flatMap Rm.cs).drop (a * 2 + 1 + 1) = g1.flatMap Rm.cs ++ (.slice x.kp.p x.kp.n x.kp.c :: .slice p120 (x.bs.length + 1) c122 :: g2.flatMap Rm.cs) := by
            have := put_second (g1.flatMap Rm.cs) (.slice x.kp.p x.kp.n x.kp.c) (.slice x.vp x.bs.length x.vc) (.slice p120 (x.bs.length + 1) c122) (g2.flatMap Rm.cs)
            rw [flatMap_length Rm.cs_length, hg1l] at this
            rw [← this, hgs, List.flatMap_append, List.flatMap_cons]
            rfl
          rw [show ([Value.slice p120 (x.bs.length + 1) c122] : List Value).length = 1 from rfl, hsec] at H127
          refine H127.permA ?_ ?_
          · refine perm_of_sum fun f => ?_
            simp only [RT.blks, rob, hgs, List.length_append, List.length_cons]
          · refine perm_of_sum fun f => ?_
            simp only [RT.rows, RT.head, hgs, Rm.rows, Rm.vals, Rm.cs, List.flatMap_append, List.flatMap_cons, List.map_append, List.map_cons, List.map_nil, List.sum_append, List.sum_cons, List.sum_nil, List.cons_append, List.nil_append, List.set_cons_zero, List.length_append, List.length_cons, List.length_nil, Nat.zero_add]
            omega
        · rw [hadd]
          unfold RT.plain
          simp [Rm.g, hxk]
    · have hxk : x.key ≠ key := of_decide_eq_false hs
      rw [i64_next (by omega)]
      refine ⟨⟨a + 1, rfl, by omega, ?_, H97⟩, by simp only [Int.toNat_natCast]; omega⟩
      intro y hy
      rw [List.take_add_one, g] at hy
      rcases List.mem_append.1 hy with hy | hy
      · exact hno y hy
      · have : y = x := by simpa using hy
        subst this; exact hxk
  · have haa : a = R.gs.length := by omega
    rw [List.take_of_length_le (by omega)] at hno
    have hnoR : hasR R.plain key = false := by
      rw [← Bool.not_eq_true, hasR_iff]
      rintro ⟨g, hg, e⟩
      obtain ⟨y, hy, rfl⟩ := List.mem_map.1 hg
      exact hno y hy e
    have hpll : R.plain.length = R.gs.length := by unfold RT.plain; rw [List.length_map]
    refine ⟨R.r, 0, rfl, _, _, _, (R_blk H78).cell 1, fun h4096 => ?_, fun h4096 w138 h138 => ?_⟩
    · have hadd : addR R.aggs R.plain key vals = (R.plain, 130) := by
        unfold addR
        rw [if_pos may, if_neg (by rw [hnoR]; simp), if_pos (by omega)]
      exact ⟨R, by rw [hadd], H78.subA (.refl _) ((List.Sublist.cons _ (.refl _))), { ok with cnt := fun x hx => Nat.le_succ_of_le (ok.cnt x hx) }, rfl, rfl, by rw [hadd]⟩
    have hadd : addR R.aggs R.plain key vals = (R.plain ++ [⟨key, [vals]⟩], 0) := by
      unfold addR
      rw [if_pos may, if_neg (by rw [hnoR]; simp), if_neg (by omega)]
    have H138 := H78.step h138.ext
    have rne : ∀ {W1 : World} {b1 : Nat} {gs' : List (Nat × Obj)} {t1 : TypeId} {s1 n1 c1 : Nat} {vs1 : List Value} {rs : List Row}, Hold w0 W1 (R.blks ++ gs') (⟨t1, s1, some ⟨b1, 0, none⟩, n1, c1, vs1⟩ :: rs) → ∀ b' o', (some ⟨b1, 0, none⟩ : Option Addr) = some ⟨b', o', none⟩ → b' ∉ [R.r] := by
      intro W1 b1 gs' t1 s1 n1 c1 vs1 rs HH b' o' hb' hmem
      rw [List.mem_singleton] at hmem
      subst hmem
      exact HH.apartM (x := rob R) (m := ⟨t1, s1, some ⟨b1, 0, none⟩, n1, c1, vs1⟩) (by simp [RT.blks]) List.mem_cons_self _ o' hb' rfl
    have keyAp : ∀ {W1 : World} {b1 : Nat} {rs : List Row}, Hold w0 W1 (R.blks ++ fs) (⟨42, 3, some ⟨b1, 0, none⟩, 0, kn, []⟩ :: rs) → ∃ p' c' W3, (Builtin.append_ #[29, 29] 29 #[.slice (some ⟨b1, 0, none⟩) 0 kn, .slice kp kn kc]).run Try.prog W1 = .ok (.slice p' kn c') W3 ∧ Hold w0 W3 (R.blks ++ fs) (elR 42 ⟨p', kn, c'⟩ key :: rs) ∧ Grew (some ⟨b1, 0, none⟩) W1 W3 := by
      intro W1 b1 rs HH
      obtain ⟨p', c', W3, hr, HH', hg⟩ := HH.appendG (ty := 29) (P := Try.prog) (q := kp) (m := kn) (d' := kc) (news := key.flatMap Val.cs) 0 rfl undRow tyVal rfl (by decide) (hk.ext HH.ext).lies (by rw [flatMap_length Val.cs_length, kl])
        hk.nil (flatMap_one Val.cs_one _) (by show ((0 + kn) + (0 + kn) / 4 + 192) * 32 ≤ _; omega) (by unfold maxLen; omega)
      rw [Nat.zero_add] at hr HH'
      exact ⟨p', c', W3, hr, HH', hg⟩
    refine ⟨R.r, 0, rfl, _, _, _, (R_blk H138).cell 1, ⟨by omega, by omega, by omega, by omega, fun b145 w146 h145 => ⟨h145.ext.same, ?_, fun b167 w168 h167 => ⟨h167.ext.same, ?_⟩⟩⟩, fun b186 w187 h186 => ⟨h186.ext.same, by omega, by omega, by omega, by omega, fun b189 w190 h189 => ⟨h189.ext.same, ?_⟩⟩⟩
    · have H146 := H138.madeRow (s := 3) (cap := kn) h145 (by unfold maxLen; omega) (by rw [size_madeCells])
      obtain ⟨p148, c150, w151, hrun, H151, hg⟩ := keyAp H146
      refine ⟨p148, kn, c150, w151, hrun, hg.same (rne H146), fun b152 w153 h152 => ⟨h152.ext.same, fun b155 w156 h155 => ⟨h155.ext.same, ?_⟩⟩⟩
      have H153 := H151.litRow (s := 1) (cap := 1) h152 (by unfold maxLen; omega) rfl
      exact r14_push (own := ⟨p71, k, c73⟩) (kp' := ⟨p148, kn, c150⟩) (H153.permA (.refl _) (List.Perm.swap _ _ _)) ok h155 (by omega) hno ⟨hfit, hvf⟩ hadd
    · have H146 := H138.madeRow (s := 3) (cap := kn) h145 (by unfold maxLen; omega) (by rw [size_madeCells])
      have H168 := H146.litRow (s := 1) (cap := 1) h167 (by unfold maxLen; omega) rfl
      have H168' := H168.permA (.refl _) (List.Perm.swap _ _ _)
      obtain ⟨p170, c172, w173, hrun, H173, hg⟩ := keyAp H168'
      refine ⟨p170, kn, c172, w173, hrun, hg.same (rne H168'), fun b174 w175 h174 => ⟨h174.ext.same, ?_⟩⟩
      exact r14_push (own := ⟨p71, k, c73⟩) (kp' := ⟨p170, kn, c172⟩) H173 ok h174 (by omega) hno ⟨hfit, hvf⟩ hadd
    · have H187 := H138.litRow (s := 1) (cap := 1) h186 (by unfold maxLen; omega) rfl
      have H190 := H187.madeRow (s := 3) (cap := kn) h189 (by unfold maxLen; omega) (by rw [size_madeCells])
      obtain ⟨p192, c194, w195, hrun, H195, hg⟩ := keyAp H190
      refine ⟨p192, kn, c194, w195, hrun, hg.same (rne H190), fun b196 w197 h196 => ⟨h196.ext.same, ?_⟩⟩
      exact r14_push (own := ⟨p71, k, c73⟩) (kp' := ⟨p192, kn, c194⟩) H195 ok h196 (by omega) hno ⟨hfit, hvf⟩ hadd
end
end Go.Proofs.Ytckfedekpkgcdaa

/- shown(), and the law of the nil table. -/
namespace Go.Proofs.Ytckfedekpkgcdaa
open Go Go.Vc Go.RowKit
set_option maxRecDepth 20000
attribute [local irreducible] Calls Put Drew New

section
variable {w0 W W1 : World} {fs : List (Nat × Obj)} {ms : List Row} {T : Tm}
theorem num14_ok (n : Int) (w : World) : Calls Try.prog 23 #[.int .i64 n] w fun e w' => e = .returned (numV n).agg ∧ Ext w w' := by
  apply num14_vc
  unfold num14_T
  intro b1 w2 h1
  have H := (Hold.start (Ext.rfl (w := w))).new h1
  exact H.ret3 0 rfl 1 n ⟨#[]⟩ fun W' e => ⟨rfl, e⟩

theorem lit_vs {b n : Nat} {cs : Array Value} {t : TypeId} {vals : List Val} (h : Blk W b t cs) (hcs : cs.toList = vals.flatMap Val.cs) (hl : vals.length = n) (hn : n ≤ 1000) : Vs W (some ⟨b, 0, none⟩) n n vals :=
  ⟨hl, ⟨Nat.le_refl _, by unfold maxLen; omega⟩, hcs ▸ h.at, fun e => by cases e⟩
/-- Add, of values that were just laid. -/
theorem tadd_lit {kp : Option Addr} {kn kc n b : Nat} {key vals : List Val} {cs : Array Value} {t : TypeId} (H : Hold w0 W (T.blks ++ fs) (T.rows ++ ms)) (ok : Tok T) (hn : New W (.cells cs t) b W1) (hk : Vs W kp kn kc key) (hkf : ∀ v ∈ key, v.fit) (hkn : kn ≤ 1048576)
    (hcs : cs.toList = vals.flatMap Val.cs) (hl : vals.length = n) (hn1 : n ≤ 1000) :
    Calls Try.prog 14 #[.pointer (some ⟨T.t, 0, none⟩), .slice kp kn kc, .slice (some ⟨b, 0, none⟩) n n] W1 (Added w0 fs ms T key vals) := by
  have H1 : Hold w0 W1 (T.blks ++ ((b, .cells cs t (0, 0)) :: fs)) (T.rows ++ ms) := (H.new hn).permA List.perm_middle.symm (.refl _)
  refine (tadd_ok H1 ok (hk.ext hn.ext) hkf hkn (vp := some ⟨b, 0, none⟩) (vn := n) (vc := n) (vals := vals) fun W' gs ns H' => ?_).mono ?_
  · exact lit_vs (H'.blkM (b := b) (cs := cs) (t := t) (by simp)) hcs hl hn1
  · rintro e W' ⟨T', he, H', h1, h2, h3, h4⟩
    exact ⟨T', he, H'.subA ((List.Sublist.cons _ (.refl _)).append_left _) (.refl _), h1, h2, h3, h4⟩

def sh1 : List Grp := (addP [1, 3] [] [numV 7] [nullV, numV 5]).1
def sh2 : List Grp := (addP [1, 3] sh1 [numV 8] [nullV, numV 1]).1
def sh3 : List Grp := (addP [1, 3] sh2 [numV 7] [nullV, nullV]).1
theorem sh_answer : answerP [1, 3] sh3 = ([[numV 7], [numV 8]], [[numV 2, numV 5], [numV 1, numV 1]], 0) := by decide +kernel
theorem numV_fit {n : Int} (h0 : -9223372036854775808 ≤ n) (h1 : n ≤ 9223372036854775807) : (numV n).fit := ⟨⟨(by decide : (-9223372036854775808 : Int) ≤ 1), (by decide : (1 : Int) ≤ 9223372036854775807)⟩, h0, h1⟩

set_option maxHeartbeats 2000000 in
theorem shown14_ok (w : World) : Calls Try.prog 9 #[] w fun e w' => e = .returned (.bool true) ∧ Ext w w' := by
  apply shown14_vc
  unfold shown14_T
  intro b1 w2 h1
  have H2 := (Hold.start (Ext.rfl (w := w))).new h1
  refine (gnew_ok (l := [1, 3]) H2 (Blk.new h1).at rfl (fun e => by cases e) (by decide)).mono ?_
  rintro e W5 (⟨hb, _⟩ | ⟨_, T, rfl, H5, ok, hag, hgs⟩)
  · exact absurd hb (by decide)
  have hp0 : T.plain = [] := by unfold Tm.plain; rw [hgs]; rfl
  refine ⟨_, _, rfl, fun h => ?_, fun _ => (num14_ok 7 W5).mono ?_⟩
  · rcases h with h | h
    · exact absurd rfl h
    · cases h
  rintro e W11 ⟨rfl, e11⟩
  refine ⟨_, _, _, rfl, fun b15 w16 h15 => (num14_ok 5 w16).mono ?_⟩
  rintro e W19 ⟨rfl, e19⟩
  have k1 := lit_vs (vals := [numV 7]) (n := 1) ((Blk.new h15).ext e19) rfl rfl (by decide)
  refine ⟨_, _, _, rfl, fun b23 w24 h23 => ?_⟩
  have H19 := (((H5.step e11).step h15.ext).step e19)
  refine (tadd_lit (vals := [nullV, numV 5]) H19 ok h23 k1 (by intro v hv; rw [List.mem_singleton] at hv; subst hv; exact numV_fit (by decide) (by decide)) (by decide) rfl rfl (by decide)).mono ?_
  rintro e W27 ⟨T1, rfl, H27, ok1, ht1, ha1, hp1⟩
  rw [hag] at ha1 hp1
  rw [hp0] at hp1
  refine ⟨_, rfl, (num14_ok 8 W27).mono ?_⟩
  rintro e W30 ⟨rfl, e30⟩
  refine ⟨_, _, _, rfl, fun b34 w35 h34 => (num14_ok 1 w35).mono ?_⟩
  rintro e W38 ⟨rfl, e38⟩
  have k2 := lit_vs (vals := [numV 8]) (n := 1) ((Blk.new h34).ext e38) rfl rfl (by decide)
  refine ⟨_, _, _, rfl, fun b42 w43 h42 => ?_⟩
  have H38 := (((H27.step e30).step h34.ext).step e38)
  rw [← ht1]
  refine (tadd_lit (vals := [nullV, numV 1]) H38 ok1 h42 k2 (by intro v hv; rw [List.mem_singleton] at hv; subst hv; exact numV_fit (by decide) (by decide)) (by decide) rfl rfl (by decide)).mono ?_
  rintro e W46 ⟨T2, rfl, H46, ok2, ht2, ha2, hp2⟩
  rw [ha1] at ha2 hp2
  rw [hp1] at hp2
  refine ⟨_, rfl, (num14_ok 7 W46).mono ?_⟩
  rintro e W49 ⟨rfl, e49⟩
  refine ⟨_, _, _, rfl, fun b53 w54 h53 b56 w57 h56 => ?_⟩
  have k3 := lit_vs (vals := [numV 7]) (n := 1) (Blk.new h53) rfl rfl (by decide)
  have H54 := (H46.step e49).step h53.ext
  rw [← ht2]
  refine (tadd_lit (vals := [nullV, nullV]) H54 ok2 h56 k3 (by intro v hv; rw [List.mem_singleton] at hv; subst hv; exact numV_fit (by decide) (by decide)) (by decide) rfl rfl (by decide)).mono ?_
  rintro e W60 ⟨T3, rfl, H60, ok3, ht3, ha3, hp3⟩
  rw [ha2] at ha3 hp3
  rw [hp2] at hp3
  refine ⟨_, rfl, ?_⟩
  rw [← ht3]
  refine (tanswer_ok H60 ok3).mono ?_
  rintro e W63 ⟨p, n, c, q, m, d, hs, ks, rfl, hR, hS, e63⟩
  have hans : answerP T3.aggs T3.plain = ([[numV 7], [numV 8]], [[numV 2, numV 5], [numV 1, numV 1]], 0) := by rw [ha3, hp3]; exact sh_answer
  rw [hans] at hR hS ⊢
  have hn : n = 2 := hR.len.symm
  have hm : m = 2 := hS.len.symm
  subst hn hm
  refine ⟨_, _, _, _, _, _, _, rfl, fun w71 h71 => ⟨fun _ => ?_, fun h => ?_⟩⟩
  · have H71 := (H60.step e63).step h71.ext
    have hR := hR.ext h71.ext
    have hS := hS.ext h71.ext
    obtain ⟨x, hx, hv, b, o, hp, hc⟩ := hR.get (i := 0) rfl
    obtain ⟨bb, oo, hpp, c0, c1, c2⟩ := hv.val (i := 0) rfl
    have hl := hv.len
    refine ⟨b, o, hp, by decide, by decide, _, _, _, hc, bb, oo, hpp, by decide, by rw [← hl]; decide, _, c0, _, c1, _, c2, (num14_ok 7 w71).mono ?_⟩
    rintro e W85 ⟨rfl, e85⟩
    refine ⟨_, _, _, rfl, e85.same, fun _ => ?_, fun h => ?_⟩
    · have hS := hS.ext e85
      obtain ⟨x, hx, hv, b, o, hp, hc⟩ := hS.get (i := 0) rfl
      obtain ⟨bb, oo, hpp, c0, c1, c2⟩ := hv.val (i := 0) rfl
      have hl := hv.len
      refine ⟨b, o, hp, by decide, by decide, _, _, _, hc, bb, oo, hpp, by decide, by rw [← hl]; decide, _, c0, _, c1, _, c2, (num14_ok 2 W85).mono ?_⟩
      rintro e W101 ⟨rfl, e101⟩
      refine ⟨_, _, _, rfl, e101.same, fun _ => ?_, fun h => ?_⟩
      · have hS := hS.ext e101
        obtain ⟨x, hx, hv, b, o, hp, hc⟩ := hS.get (i := 0) rfl
        obtain ⟨bb, oo, hpp, c0, c1, c2⟩ := hv.val (i := 1) rfl
        have hl := hv.len
        refine ⟨b, o, hp, by decide, by decide, _, _, _, hc, bb, oo, hpp, by decide, by rw [← hl]; decide, _, c0, _, c1, _, c2, (num14_ok 5 W101).mono ?_⟩
        rintro e W117 ⟨rfl, e117⟩
        exact ⟨_, _, _, rfl, e117.same, by simp [sEq_self], (((H71.step e85).step e101).step e117).ext⟩
      · rcases h with h | h | h <;> exact absurd rfl h
    · rcases h with h | h | h <;> exact absurd rfl h
  · rcases h with (h | h) | h <;> exact absurd rfl h

end
end Go.Proofs.Ytckfedekpkgcdaa

/- The arguments of law 14's statements, and what small ones give. -/
namespace Go.Proofs.Ytckfedekpkgcdaa
open Go Go.Vc Go.RowKit
set_option maxRecDepth 20000

theorem list_pick {α β : Type} {Q : α → β → Prop} : ∀ {hs : List α}, (∀ x ∈ hs, ∃ r, Q x r) → ∃ L : List β, L.length = hs.length ∧ ∀ (i : Nat) x r, hs[i]? = some x → L[i]? = some r → Q x r
  | [], _ => ⟨[], rfl, by simp⟩
  | x :: hs, h => by
    obtain ⟨r, hr⟩ := h x (by simp)
    obtain ⟨L, hl, hL⟩ := list_pick (hs := hs) fun y hy => h y (by simp [hy])
    refine ⟨r :: L, by simp [hl], fun i y s hy hs' => ?_⟩
    cases i with
    | zero => cases hy; cases hs'; exact hr
    | succ i => exact hL i y s (by simpa using hy) (by simpa using hs')
theorem arg_value {w : World} {cs : List Value} (h : Arg Try.prog w 42 cs) : ∃ v : Val, cs = v.cs ∧ v.fit :=
  arg_val (ti := 3) (tn := 2) (ts := 9) (by kernel_rfl) (by kernel_rfl) (by kernel_rfl) (by kernel_rfl) (by kernel_rfl) (by kernel_rfl) (by kernel_rfl) (by kernel_rfl) h
theorem arg_row {w : World} {v : Value} (h : Arg Try.prog w 29 [v]) : ∃ p n c r, v = .slice p n c ∧ Vs w p n c r ∧ r.length ≤ 4398046511104 ∧ ∀ x ∈ r, x.fit := by
  obtain ⟨p, n, c, l, rfl, hl, hf, hb⟩ := arg_ls (enc := Val.cs) (Q := Val.fit) undRow (by decide +kernel : 0 < Try.prog.cellsOf 42) (fun x hx => arg_value hx) (fun a => by rw [Val.cs_length]; kernel_rfl) h
  rw [show Try.prog.bytesOf 42 = 32 by kernel_rfl] at hb
  have := hl.cap
  exact ⟨p, n, c, l, rfl, hl, by rw [hl.len]; omega, hf⟩
theorem arg_headrow {w : World} {x : List Value} (hx : Arg Try.prog w 29 x) : ∃ a : Sl, x = a.cs ∧ ∃ r, Vs w a.p a.n a.c r ∧ ∀ v ∈ r, v.fit := by
  obtain ⟨p, n, c, css, he, _⟩ := Arg.slice undRow (by decide +kernel : 0 < Try.prog.cellsOf 42) hx
  subst he
  obtain ⟨p', n', c', r, he, h1, _, h3⟩ := arg_row hx
  cases he
  exact ⟨⟨p, n, c⟩, rfl, r, h1, h3⟩
theorem flatMap_ints (l : List Int) : l.flatMap (fun x : Int => [Value.int .i64 x]) = vI .i64 l := by
  induction l with
  | nil => rfl
  | cons x l ih => rw [List.flatMap_cons, ih]; rfl
theorem arg_ints {w : World} {v : Value} (h : Arg Try.prog w 22 [v]) : ∃ p n c l, v = .slice p n c ∧ At w p (vI .i64 l) ∧ l.length = n ∧ (p = none → n = 0 ∧ c = 0) ∧ n < 9223372036854775807 := by
  obtain ⟨p, n, c, l, rfl, hl, _, hb⟩ := arg_ls (enc := fun x : Int => [.int .i64 x]) (Q := fun _ => True) undInts (by decide +kernel : 0 < Try.prog.cellsOf 3)
    (fun x hx => by obtain ⟨n, e, _⟩ := Arg.int (k := .i64) (by kernel_rfl) hx; exact ⟨n, e, trivial⟩) (fun a => by kernel_rfl) h
  have hcap := hl.cap
  rw [show Try.prog.bytesOf 3 = 8 by kernel_rfl] at hb
  refine ⟨p, n, c, l, rfl, ?_, hl.len, hl.nil, by omega⟩
  have := hl.lies
  rwa [flatMap_ints] at this

/-! ### Pairs -/
structure Pr where
  a : Sl
  b : Sl
def Pr.cs (x : Pr) : List Value := [.slice x.a.p x.a.n x.a.c, .slice x.b.p x.b.n x.b.c]
theorem Pr.cs_length (x : Pr) : x.cs.length = 2 := rfl
theorem Pr.cs_one (x : Pr) : ∀ u ∈ x.cs, u.oneCell' = true := by
  intro u hu
  simp only [Pr.cs, List.mem_cons, List.not_mem_nil, or_false] at hu
  rcases hu with rfl | rfl <;> rfl
/-- Pairs of rows: their heads, what they hold. -/
structure Prs (w : World) (p : Option Addr) (n c : Nat) (hs : List Pr) (L : List (List Val × List Val)) : Prop where
  heads : Ls Pr.cs w p n c hs
  rows : ∀ (i : Nat) (h : Pr) r, hs[i]? = some h → L[i]? = some r → Vs w h.a.p h.a.n h.a.c r.1 ∧ Vs w h.b.p h.b.n h.b.c r.2
  len : L.length = n
section
variable {w w' : World} {p : Option Addr} {n c : Nat} {hs : List Pr} {L : List (List Val × List Val)}
theorem Prs.ext (h : Prs w p n c hs L) (e : Ext w w') : Prs w' p n c hs L := ⟨h.heads.ext e, fun i x r hx hr => ⟨(h.rows i x r hx hr).1.ext e, (h.rows i x r hx hr).2.ext e⟩, h.len⟩
theorem Prs.get (h : Prs w p n c hs L) {i : Nat} {r : List Val × List Val} (hi : L[i]? = some r) : ∃ x, hs[i]? = some x ∧ Vs w x.a.p x.a.n x.a.c r.1 ∧ Vs w x.b.p x.b.n x.b.c r.2 ∧ ∃ b o, p = some ⟨b, o, none⟩ ∧
    w.cell? ⟨b, o + i * 2, none⟩ = some (.slice x.a.p x.a.n x.a.c) ∧ w.cell? ⟨b, o + i * 2 + 1, none⟩ = some (.slice x.b.p x.b.n x.b.c) := by
  have hlt : i < hs.length := by rw [h.heads.len, ← h.len]; exact (List.getElem?_eq_some_iff.1 hi).1
  obtain ⟨b, o, hp, hc⟩ := h.heads.lies.things Pr.cs_length (by decide) (List.getElem?_eq_getElem hlt)
  obtain ⟨h1, h2⟩ := h.rows i _ _ (List.getElem?_eq_getElem hlt) hi
  exact ⟨hs[i], List.getElem?_eq_getElem hlt, h1, h2, b, o, hp, hc 0 _ rfl, hc 1 _ rfl⟩
theorem Prs.take (h : Prs w p n c hs L) {k : Nat} (hk : k ≤ n) : Prs w p k c (hs.take k) (L.take k) :=
  ⟨h.heads.take Pr.cs_length hk, fun i x r hx hr => h.rows i x r (by rw [List.getElem?_take] at hx; split at hx; exact hx; cases hx) (by rw [List.getElem?_take] at hr; split at hr; exact hr; cases hr), by rw [List.length_take, h.len]; omega⟩
end
theorem arg_pairs {w : World} {v : Value} (h : Arg Try.prog w 23 [v]) : ∃ p n c hs L, v = .slice p n c ∧ Prs w p n c hs L ∧ (∀ r ∈ L, (∀ x ∈ r.1, x.fit) ∧ ∀ x ∈ r.2, x.fit) := by
  obtain ⟨p, n, c, l, rfl, hl, hf, hb⟩ := arg_ls (enc := Pr.cs) (Q := fun x => ∃ r : List Val × List Val, (Vs w x.a.p x.a.n x.a.c r.1 ∧ ∀ v ∈ r.1, v.fit) ∧ (Vs w x.b.p x.b.n x.b.c r.2 ∧ ∀ v ∈ r.2, v.fit)) (e := 31) (by kernel_rfl) (by decide +kernel)
    (fun x hx => by
      obtain ⟨hl, hf⟩ := Arg.fields (by kernel_rfl : structOf Try.prog 31 = some [(29, 0), (29, 1)]) hx
      rw [show Try.prog.cellsOf 31 = 2 by kernel_rfl] at hl
      obtain ⟨a, b, rfl⟩ : ∃ a b, x = [a, b] := by
        match x, hl with
        | [a, b], _ => exact ⟨a, b, rfl⟩
      have f1 := hf (29, 0) (by simp)
      have f2 := hf (29, 1) (by simp)
      simp only [show Try.prog.cellsOf 29 = 1 by kernel_rfl] at f1 f2
      obtain ⟨x, e1, r, h1⟩ := arg_headrow f1
      obtain ⟨y, e2, s, h2⟩ := arg_headrow f2
      simp [Sl.cs] at e1 e2
      subst e1 e2
      exact ⟨⟨x, y⟩, rfl, (r, s), h1, h2⟩) (fun a => by rw [Pr.cs_length]; kernel_rfl) h
  obtain ⟨L, hL, hq⟩ := list_pick hf
  refine ⟨p, n, c, l, L, rfl, ⟨hl, fun i x r hx hr => ⟨(hq i x r hx hr).1.1, (hq i x r hx hr).2.1⟩, by rw [hL, hl.len]⟩, fun r hr => ?_⟩
  obtain ⟨i, hi⟩ := List.mem_iff_getElem?.1 hr
  have hlt := (List.getElem?_eq_some_iff.1 hi).1
  have := hq i _ r (List.getElem?_eq_getElem (by omega)) hi
  exact ⟨this.1.2, this.2.2⟩

/-! ### Small arguments -/
def Bulk (w : World) (t : TypeId) (cs : List Value) : Prop := ∃ (H : Type) (enc : TypeId × Value → H) (m : Nat) (d : DataW H) (ps : List MemPlace), DataW.trod enc Try.prog w 0 (fun _ => true) true m t cs = some (d, ps) ∧ Rows.uptoBulk d ≤ 1048576
theorem bulk_pos {H : Type} (x : DataW H) : 1 ≤ Rows.uptoBulk x := by
  cases x with
  | lit l => cases l <;> simp [Rows.uptoBulk]
  | nil => simp [Rows.uptoBulk]
  | ptr d => simp [Rows.uptoBulk]
  | slice elems spare => simp [Rows.uptoBulk]
  | agg parts => simp [Rows.uptoBulk]
  | iface t d => simp [Rows.uptoBulk]
  | map entries => simp [Rows.uptoBulk]
  | held h => simp [Rows.uptoBulk]
theorem bulk_len {H : Type} : ∀ l : List (DataW H), l.length ≤ Rows.uptoBulkAll l
  | [] => by simp
  | x :: r => by
    have := bulk_pos x
    have := bulk_len r
    simp only [Rows.uptoBulkAll, List.length_cons]; omega
theorem bulk_mem {H : Type} : ∀ {l : List (DataW H)} {x : DataW H}, x ∈ l → Rows.uptoBulk x ≤ Rows.uptoBulkAll l
  | y :: r, x, h => by
    simp only [Rows.uptoBulkAll]
    rcases List.mem_cons.1 h with rfl | h
    · omega
    · have := bulk_mem h; omega
theorem slice_bulk {H : Type} {enc : TypeId × Value → H} {P : Program} {W : World} {base : Nat} {spare : Nat → Bool} {held : Bool} {t e : TypeId} {p : Option Addr} {n c : Nat} {d : DataW H} {ps : List MemPlace} {m : Nat}
    (ht : P.underlying t = some (.slice e)) (h : DataW.trod enc P W base spare held m t [.slice p n c] = some (d, ps)) : n ≤ Rows.uptoBulk d := by
  rcases Go.Deep.open_slice ht h with ⟨e1, _⟩ | ⟨a, n', cap, m', k, D, Pl, e1, _, _, _, _, e2, _⟩
  · cases e1; omega
  · cases e1
    obtain ⟨rfl, _⟩ := Prod.mk.inj e2
    have := bulk_len ((List.range n).map D)
    simp only [List.length_map, List.length_range] at this
    simp only [Rows.uptoBulk]; omega
theorem Rws.small {w : World} {p : Option Addr} {n c : Nat} {hs : List Sl} {L : List (List Val)} (hR : Rws w p n c hs L) (hB : Bulk w 32 [.slice p n c]) : ∀ r ∈ L, r.length ≤ 1048576 := by
  intro r hr
  obtain ⟨i, hi⟩ := List.mem_iff_getElem?.1 hr
  have hin : i < n := by rw [← hR.len]; exact (List.getElem?_eq_some_iff.1 hi).1
  obtain ⟨x, hx, hv, b, o, hp, hc⟩ := hR.get hi
  obtain ⟨H, enc, m, d, ps, ht, hb⟩ := hB
  rcases Go.Deep.open_slice1 undRows (by kernel_rfl) ht with ⟨e1, _⟩ | ⟨a, len, cap, m', k, V, D, Pl, e1, _, _, _, hm, e2, hall⟩
  · cases e1; omega
  · cases e1
    obtain ⟨rfl, _⟩ := Prod.mk.inj e2
    cases hp
    simp only [if_true] at hm
    obtain ⟨c1, t1⟩ := hall i (by omega)
    rw [Addr.add_lit, hc] at c1
    rw [← Option.some.inj c1] at t1
    have h1 := slice_bulk undRow t1
    have h2 := bulk_mem (l := (List.range n).map D) (x := D i) (List.mem_map.2 ⟨i, by simpa using hin, rfl⟩)
    simp only [Rows.uptoBulk] at hb
    have := hv.len
    omega
theorem Prs.small {w : World} {p : Option Addr} {n c : Nat} {hs : List Pr} {L : List (List Val × List Val)} (hR : Prs w p n c hs L) (hB : Bulk w 23 [.slice p n c]) : ∀ r ∈ L, r.1.length ≤ 1048576 ∧ r.2.length ≤ 1048576 := by
  intro r hr
  obtain ⟨i, hi⟩ := List.mem_iff_getElem?.1 hr
  have hin : i < n := by rw [← hR.len]; exact (List.getElem?_eq_some_iff.1 hi).1
  obtain ⟨x, hx, hv, hv2, b, o, hp, hc, hc2⟩ := hR.get hi
  obtain ⟨H, enc, m, d, ps, ht, hb⟩ := hB
  obtain ⟨f0, f1, hst, o0, o1, t0, t1⟩ : ∃ f0 f1 : Field, Try.prog.underlying 31 = some (.struct #[f0, f1]) ∧ f0.offset = 0 ∧ f1.offset = 1 ∧ f0.type = 29 ∧ f1.type = 29 := by
    have h : structOf Try.prog 31 = some [(29, 0), (29, 1)] := by kernel_rfl
    unfold structOf at h
    split at h
    · rename_i fs hfs
      have h := Option.some.inj h
      obtain ⟨l⟩ := fs
      match l, h with
      | [f0, f1], h =>
        simp only [List.map_cons, List.map_nil, List.cons.injEq, Prod.mk.injEq, and_true] at h
        exact ⟨f0, f1, hfs, h.1.2, h.2.2, h.1.1, h.2.1⟩
    · cases h
  rcases Go.Deep.open_slice_pairs (e := 31) (by kernel_rfl) hst (by kernel_rfl) o0 o1 (by rw [t0]; kernel_rfl) (by rw [t1]; kernel_rfl) ht with ⟨e1, _⟩ | ⟨a, len, cap, m', k, V0, V1, D0, D1, P0, P1, e1, _, _, _, hm, e2, hall⟩
  · cases e1; omega
  · cases e1
    obtain ⟨rfl, _⟩ := Prod.mk.inj e2
    cases hp
    simp only [if_true] at hm
    obtain ⟨c1, c2, d1, d2⟩ := hall i (by omega)
    rw [Addr.add_lit] at c1 c2
    rw [hc] at c1
    rw [← Nat.add_assoc, hc2] at c2
    rw [t0, ← Option.some.inj c1] at d1
    rw [t1, ← Option.some.inj c2] at d2
    have h1 := slice_bulk undRow d1
    have h2 := slice_bulk undRow d2
    have h3 := bulk_mem (l := (List.range n).map fun i => DataW.agg [D0 i, D1 i]) (x := .agg [D0 i, D1 i]) (List.mem_map.2 ⟨i, by simpa using hin, rfl⟩)
    simp only [Rows.uptoBulk, Rows.uptoBulkAll] at hb h3
    have := hv.len
    have := hv2.len
    omega

end Go.Proofs.Ytckfedekpkgcdaa

/- The contracts of the words that hold rows against one another. -/
namespace Go.Proofs.Ytckfedekpkgcdaa
open Go Go.Vc Go.RowKit
set_option maxRecDepth 20000

theorem samerows_ok (w : World) {p q : Option Addr} {n c m d : Nat} {hs ks : List Sl} {a b : List (List Val)} (ha : Rws w p n c hs a) (hb : Rws w q m d ks b) :
    Calls Try.prog 20 #[.slice p n c, .slice q m d] w fun e w' => e = .returned (.bool (decide (a = b))) ∧ Ext w w' := by
  apply samerows_vc
  unfold samerows_T
  have la := ha.len
  have lb := hb.len
  have hm : n ≤ 9223372036854775807 := ha.le
  refine ⟨fun h => ⟨?_, .rfl⟩, fun h => ?_⟩
  · have : a ≠ b := fun e => by subst e; omega
    simp [this]
  refine ⟨fun i w' => ∃ k : Nat, i = (k : Int) ∧ k ≤ n ∧ a.take k = b.take k ∧ Ext w w', fun i _ => n - i.toNat, ⟨0, rfl, Nat.zero_le _, by simp, .rfl⟩, ?_⟩
  rintro i w' ⟨k, rfl, hk, he, hx⟩
  refine ⟨fun hlt w9 h9 => ?_, fun hge => ⟨?_, hx⟩⟩
  · have hx9 := hx.trans h9.ext
    have ga : a[k]? = some (a[k]'(by omega)) := List.getElem?_eq_getElem _
    have gb : b[k]? = some (b[k]'(by omega)) := List.getElem?_eq_getElem _
    obtain ⟨x, hx1, hx2, b1, o1, hp, c0⟩ := (ha.ext hx9).get ga
    obtain ⟨y, hy1, hy2, b2, o2, hq, d0⟩ := (hb.ext hx9).get gb
    simp only [Int.toNat_natCast]
    refine ⟨b1, o1, hp, by omega, by omega, _, _, _, c0, b2, o2, hq, by omega, by omega, _, _, _, d0, (samerow_ok w9 hx2 hy2).mono ?_⟩
    rintro e w22 ⟨rfl, e22⟩
    have hx22 := hx9.trans e22
    refine ⟨_, rfl, fun hf => ⟨?_, hx22⟩, fun ht => ?_⟩
    · have : a ≠ b := fun e => by subst e; simp at hf
      simp [this]
    · rw [i64_next (by omega)]
      refine ⟨⟨k + 1, rfl, by omega, ?_, hx22⟩, by simp only [Int.toNat_natCast]; omega⟩
      rw [take_snoc ga, take_snoc gb, he, of_decide_eq_true ht]
  · have : k = n := by omega
    subst this
    rw [List.take_of_length_le (by omega), List.take_of_length_le (by omega)] at he
    simp [he]
end Go.Proofs.Ytckfedekpkgcdaa

/- The contract of the document's Answer; the law that both tables do the same. -/
namespace Go.Proofs.Ytckfedekpkgcdaa
open Go Go.Vc Go.RowKit
set_option maxRecDepth 20000
attribute [local irreducible] Calls Put Drew New

section
variable {w0 W : World} {fs : List (Nat × Obj)} {ms : List Row} {R : RT} {m : Nat}
set_option maxHeartbeats 4000000 in
theorem r14answer_ok (H : Hold w0 W (R.blks ++ fs) (R.rows ++ ms)) (ok : Rok w0 R m) (hm : m ≤ 1000000) :
    Calls Try.prog 19 #[.pointer (some ⟨R.r, 0, none⟩)] W (Answered W (answerP R.aggs (R.plain.map (RG.img R.an)))) := by
  apply r14answer_vc
  unfold r14answer_T
  have hlen := ok.len
  have han := ok.an
  have h16 := ok.a16
  have hways := ok.ways
  have bad : ∀ W', Ext W W' → (∃ x ∈ R.gs, ok1 R.aggs (x.g.img R.an).cols = false) → Answered W (answerP R.aggs (R.plain.map (RG.img R.an))) (.returned (.tuple #[.slice none 0 0, .slice none 0 0, .int .i64 100])) W' := by
    rintro W' e ⟨x, hx, hb⟩
    have : answerP R.aggs (R.plain.map (RG.img R.an)) = ([], [], 100) := by
      unfold answerP
      rw [if_neg]
      rw [Bool.not_eq_true, List.all_eq_false]
      exact ⟨x.g.img R.an, List.mem_map_of_mem (List.mem_map_of_mem hx), by simp [hb]⟩
    rw [this]
    exact ⟨_, _, _, _, _, _, _, _, rfl, .nothing _, .nothing _, e⟩
  refine ⟨fun p n c q m d i W' => ∃ (k : Nat) (ds : List (Sl × List Val)), i = (k : Int) ∧ k ≤ R.gs.length ∧ n = k ∧ m = ds.length ∧ ds.map (·.2) = (R.gs.take k).map (fun x => vals1 R.aggs (x.g.img R.an).cols) ∧ (∀ x ∈ R.gs.take k, ok1 R.aggs (x.g.img R.an).cols = true) ∧
    Hold W W' [] (hdR 29 p k c ((R.gs.take k).map Rm.kp) :: (rowsR 42 29 q d ds ++ [])), fun _ _ _ _ _ _ i _ => R.gs.length - i.toNat, ⟨0, [], rfl, Nat.zero_le _, rfl, rfl, rfl, by simp, ((Hold.start .rfl).nilR _ _).nilRow _ _⟩, ?_⟩
  rintro p n c q m d i W' ⟨k, ds, rfl, hk, rfl, rfl, hds, hok, HK⟩
  have hdl : ds.length = n := by have := congrArg List.length hds; simp only [List.length_map, List.length_take] at this; omega
  have hR := (R_blk H).ext HK.ext
  refine ⟨R.r, 0, rfl, _, _, _, hR.cell 1, fun hlt => ?_, fun hge => ?_⟩
  · have g : R.gs[n]? = some (R.gs[n]'(by omega)) := List.getElem?_eq_getElem _
    generalize R.gs[n]'(by omega) = x at g
    have hx := List.mem_of_getElem? g
    obtain ⟨b, o, hp, hc, hc2⟩ := R_get H (List.mem_append_left _ List.mem_cons_self) g
    have hxk := H.elV (te := 42) (List.mem_append_left _ (mem_elR hx))
    have hxr : Rws W x.vp x.bs.length x.vc (x.bs.map (·.1)) (x.bs.map (·.2)) := H.rws (te := 42) (th := 29) fun y hy => List.mem_append_left _ (List.mem_cons_of_mem _ (List.mem_flatMap.2 ⟨x, hx, List.mem_cons_of_mem _ hy⟩))
    have hwid := ok.wid x.g (List.mem_map_of_mem hx)
    have hcnt := ok.cnt x hx
    have hrl : ∀ r ∈ x.bs.map (·.2), r.length = R.an := fun r hr => by rw [fitsL_len (hwid r hr).1, han]
    have hcols : (x.g.img R.an).cols = (List.range R.an).map fun j => foldC (colOf (x.bs.map (·.2)) j) := img_cols hrl
    have hcl : (x.g.img R.an).cols.length = R.an := by rw [hcols]; simp
    refine ⟨fun p n c j W2 => ∃ a : Nat, j = (a : Int) ∧ a ≤ R.an ∧ n = a ∧ ok1 (R.aggs.take a) ((x.g.img R.an).cols.take a) = true ∧ Hold W W2 [] (⟨42, 3, p, n, c, (vals1 (R.aggs.take a) ((x.g.img R.an).cols.take a)).flatMap Val.cs⟩ :: (hdR 29 _ _ _ ((R.gs.take _).map Rm.kp) :: (rowsR 42 29 _ _ ds ++ []))), fun _ _ _ j _ => R.an - j.toNat,
      ⟨0, rfl, Nat.zero_le _, rfl, rfl, HK.nilRow _ _⟩, ?_⟩
    rintro p3 n3 c3 j W2 ⟨a, rfl, ha, rfl, hoka, H2⟩
    have hR2 := (R_blk H).ext H2.ext
    refine ⟨R.r, 0, rfl, _, _, _, hR2.cell 0, fun hlt2 w37 h37 => ?_, fun hge2 => ?_⟩
    · have H37 := H2.step h37.ext
      have hR37 := hR2.ext h37.ext
      have ga : R.aggs[n3]? = some (R.aggs[n3]'(by omega)) := List.getElem?_eq_getElem _
      have gc : (x.g.img R.an).cols[n3]? = some (foldC (colOf (x.bs.map (·.2)) n3)) := by rw [hcols, List.getElem?_map, List.getElem?_range (by omega)]; rfl
      obtain ⟨ab, ao, hap, hac⟩ := ((ok.agg.ext H.ext).ext H37.ext).getI (i := n3) (by omega)
      generalize R.aggs[n3]'(by omega) = ag at ga hac
      have hag : 1 ≤ ag ∧ ag ≤ 5 := by
        have := hways
        unfold newOk at this
        rw [Bool.and_eq_true] at this
        have h2 : R.aggs.any badW = false := by simpa using this.2
        have h3 := List.any_eq_false.1 h2 ag (List.mem_of_getElem? ga)
        unfold badW at h3
        simp at h3
        omega
      simp only [Int.toNat_natCast]
      have hfitV : ∀ v ∈ colOf (x.bs.map (·.2)) n3, fitV ag v = true ∧ v.fit := by
        intro v hv
        obtain ⟨r, hr, rfl⟩ := List.mem_map.1 hv
        have hrn : r[n3]? = some (r[n3]'(by rw [hrl r hr]; omega)) := List.getElem?_eq_getElem _
        have e : r.getD n3 nullV = r[n3]'(by rw [hrl r hr]; omega) := by rw [List.getD_eq_getElem?_getD, hrn]; rfl
        rw [e]
        exact ⟨fitsL_get (hwid r hr).1 ga hrn, (hwid r hr).2 _ (List.getElem_mem _)⟩
      have call : ∀ W3, Ext W W3 → Calls Try.prog 34 #[.int .i64 ag, .slice x.vp x.bs.length x.vc, .int .i64 (n3 : Int)] W3 fun e W4 => e = .returned (.tuple #[(colAns ag (colOf (x.bs.map (·.2)) n3)).1.agg, .bool (colAns ag (colOf (x.bs.map (·.2)) n3)).2]) ∧ Ext W3 W4 := by
        intro W3 e3
        refine r14gathered_ok hag (hxr.ext e3) (fun r hr => by rw [hrl r hr]; omega) (by omega) (fun v hv => (hfitV v hv).2) (fun v hv => ?_) (fun h3 v hv => ?_)
        · have := (hfitV v hv).1
          unfold fitV at this
          rw [Bool.and_eq_true] at this
          exact of_decide_eq_true this.1
        · have := (hfitV v hv).1
          unfold fitV at this
          rw [Bool.and_eq_true] at this
          have h2 := this.2
          by_cases h1 : v.k = 1
          · exact .inl h1
          · by_cases h0 : v.k = 0
            · exact .inr h0
            · simp [h3, h1, h0] at h2
      generalize hcol : foldC (colOf (x.bs.map (·.2)) n3) = col at gc
      have hca : colAns ag (colOf (x.bs.map (·.2)) n3) = ((col.answer ag).1, decide ((col.answer ag).2 = 0)) := by unfold colAns; rw [hcol]
      rw [hca] at call
      have fin : ∀ (b60 : Nat) (W6 : World), Hold W W6 [(b60, .cells #[.int .i64 (col.answer ag).1.k, .int .i64 (col.answer ag).1.n, .string (col.answer ag).1.s] 42 (0, 0))] (⟨42, 3, p3, n3, c3, (vals1 (R.aggs.take n3) ((x.g.img R.an).cols.take n3)).flatMap Val.cs⟩ :: (hdR 29 p n c ((R.gs.take n).map Rm.kp) :: (rowsR 42 29 q d ds ++ []))) → (col.answer ag).2 = 0 →
          ∀ (b73 : Nat) (w74 : World), New W6 (.cells #[.int .i64 (col.answer ag).1.k, .int .i64 (col.answer ag).1.n, .string (col.answer ag).1.s] 42) b73 w74 → ∃ p76 n77 c78 w79, (Builtin.append_ #[29, 29] 29 #[.slice p3 n3 c3, .slice (some ⟨b73, 0, none⟩) 1 1]).run Try.prog w74 = .ok (.slice p76 n77 c78) w79 ∧
            (∃ a : Nat, IntKind.i64.wrap ((n3 : Int) + 1) = (a : Int) ∧ a ≤ R.an ∧ n77 = a ∧ ok1 (R.aggs.take a) ((x.g.img R.an).cols.take a) = true ∧ Hold W w79 [] (⟨42, 3, p76, n77, c78, (vals1 (R.aggs.take a) ((x.g.img R.an).cols.take a)).flatMap Val.cs⟩ :: (hdR 29 p n c ((R.gs.take n).map Rm.kp) :: (rowsR 42 29 q d ds ++ [])))) ∧
            R.an - (IntKind.i64.wrap ((n3 : Int) + 1)).toNat < R.an - (n3 : Int).toNat := by
        intro b60 W6 H6 h0 b73 w74 h74
        have H74 := H6.new h74
        obtain ⟨p76, c78, w79, hrun, H79⟩ := H74.append (ty := 29) (P := Try.prog) (s := 3) (q := some ⟨b73, 0, none⟩) (m := 1) (d' := 1) (news := (col.answer ag).1.cs) 0 rfl undRow tyVal rfl (by decide) (Blk.new h74).at rfl (fun e => by cases e)
          (Val.cs_one _) (by show ((n3 + 1) + (n3 + 1) / 4 + 192) * 32 ≤ _; omega) (by unfold maxLen; omega)
        refine ⟨p76, _, c78, w79, hrun, ?_, ?_⟩
        · refine ⟨n3 + 1, i64_next (by omega), by omega, rfl, ?_, ?_⟩
          · unfold ok1 at hoka ⊢
            rw [zip_take gc ga, List.all_append, hoka]
            simp [h0]
          · unfold vals1
            rw [zip_take gc ga, List.flatMap_append, List.flatMap_cons, List.flatMap_nil, List.append_nil]
            exact H79.subA (List.nil_sublist _) (.refl _)
        · rw [i64_next (by omega)]
          simp only [Int.toNat_natCast]; omega
      have over : ∀ W6, Ext W W6 → decide ((col.answer ag).2 = 0) = false → Answered W (answerP R.aggs (R.plain.map (RG.img R.an))) (.returned (.tuple #[.slice none 0 0, .slice none 0 0, .int .i64 100])) W6 := by
        intro W6 e6 hne
        exact bad W6 e6 ⟨x, hx, ok1_bad gc ga (of_decide_eq_false hne)⟩
      refine ⟨R.r, 0, rfl, _, _, _, hR37.cell 0, ab, ao, hap, by omega, by omega, ag, hac, R.r, 0, rfl, _, _, _, hR37.cell 1, b, o, hp, by omega, by omega, _, _, _, cell_ext hc2 H37.ext, (call w37 H37.ext).mono ?_, fun b80 w81 h81 => ?_⟩
      · rintro e W4 ⟨rfl, e4⟩
        have H4 := H37.step e4
        refine ⟨_, _, _, _, rfl, fun b60 w61 h61 => ⟨h61.ext.same, ?_⟩⟩
        have H61 := H4.new h61
        refine ⟨⟨_, H61.get 0 rfl rfl⟩, H61.frz 0 rfl, ⟨_, H61.get 0 rfl rfl⟩, H61.frz 0 rfl, ⟨_, H61.get 0 rfl rfl⟩, H61.frz 0 rfl, fun w66 h66 => ?_⟩
        have H66 := H61.put 0 rfl h66
        exact ⟨fun hne => over _ H66.ext hne, fun he => ⟨_, H66.get 0 rfl rfl, _, H66.get 0 rfl rfl, _, H66.get 0 rfl rfl, fin b60 w66 H66 (of_decide_eq_true he)⟩⟩
      · have H81 := H37.new h81
        refine ⟨h81.ext.same, (call w81 H81.ext).mono ?_⟩
        rintro e W4 ⟨rfl, e4⟩
        have H4 := H81.step e4
        refine ⟨_, _, _, _, rfl, ⟨_, H4.get 0 rfl rfl⟩, H4.frz 0 rfl, ⟨_, H4.get 0 rfl rfl⟩, H4.frz 0 rfl, ⟨_, H4.get 0 rfl rfl⟩, H4.frz 0 rfl, fun w66 h66 => ?_⟩
        have H66 := H4.put 0 rfl h66
        exact ⟨fun hne => over _ H66.ext hne, fun he => ⟨_, H66.get 0 rfl rfl, _, H66.get 0 rfl rfl, _, H66.get 0 rfl rfl, fin b80 w66 H66 (of_decide_eq_true he)⟩⟩
    · have haa : n3 = R.an := by omega
      rw [List.take_of_length_le (by omega), List.take_of_length_le (by omega)] at hoka H2
      simp only [Int.toNat_natCast]
      refine ⟨R.r, 0, rfl, _, _, _, hR2.cell 1, b, o, hp, by omega, by omega, _, _, _, cell_ext hc H2.ext, fun b115 w116 h115 => ?_⟩
      have H116 := H2.step h115.ext
      obtain ⟨p5, c5, w121, hrun, H121⟩ := H116.append (ty := 32) (P := Try.prog) (s := 1) (q := some ⟨b115, 0, none⟩) (m := 1) (d' := 1) (news := x.kp.cs) 1 rfl undRows tyRow rfl (by decide) (Blk.new h115).at rfl (fun e => by cases e)
        (Sl.cs_one _) (by show ((n + 1) + (n + 1) / 4 + 192) * 24 ≤ _; omega) (by unfold maxLen; omega)
      refine ⟨p5, _, c5, w121, hrun, fun b122 w123 h122 => ?_⟩
      have Ho : Hold W w121 [] (elR 42 ⟨p3, n3, c3⟩ (vals1 R.aggs (x.g.img R.an).cols) :: (rowsR 42 29 q d ds ++ (hdR 29 p5 (n + 1) c5 ((R.gs.take n).map Rm.kp ++ [x.kp]) :: []))) := by
        refine H121.permA (.refl _) ?_
        refine perm_of_sum fun f => ?_
        simp only [elR, hdR, List.flatMap_append, List.flatMap_cons, List.flatMap_nil, List.append_nil, List.set_cons_zero, List.set_cons_succ, List.map_append, List.map_cons, List.map_nil, List.sum_append, List.sum_cons, List.sum_nil]
        omega
      obtain ⟨p6, c6, w130, hrun6, H130, _⟩ := Ho.pushR (ty := 32) undRows tyRow rfl rfl h122 (by omega)
      refine ⟨p6, _, c6, w130, hrun6, ?_⟩
      rw [i64_next (by omega)]
      have htk : R.gs.take (n + 1) = R.gs.take n ++ [x] := by rw [List.take_add_one, g]; rfl
      refine ⟨⟨n + 1, ds ++ [(⟨p3, n3, c3⟩, vals1 R.aggs (x.g.img R.an).cols)], rfl, by omega, rfl, by simp, ?_, ?_, ?_⟩, by simp only [Int.toNat_natCast]; omega⟩
      · rw [htk, List.map_append, List.map_append, hds]; rfl
      · intro y hy
        rw [htk] at hy
        rcases List.mem_append.1 hy with hy | hy
        · exact hok y hy
        · rw [List.mem_singleton] at hy; subst hy; exact hoka
      · refine H130.permA (.refl _) ?_
        refine perm_of_sum fun f => ?_
        simp only [htk, List.map_append, List.map_cons, List.map_nil, List.sum_append, List.sum_cons, List.sum_nil]
        omega
  · have hkk : n = R.gs.length := by omega
    rw [List.take_of_length_le (by omega)] at hds hok HK
    have : answerP R.aggs (R.plain.map (RG.img R.an)) = (R.gs.map Rm.key, ds.map (·.2), 0) := by
      unfold answerP RT.plain
      rw [if_pos, hds]
      · simp only [List.map_map]; rfl
      · rw [List.all_eq_true]
        intro g hg
        obtain ⟨y, hy, rfl⟩ := List.mem_map.1 hg
        obtain ⟨x, hx, rfl⟩ := List.mem_map.1 hy
        exact hok x hx
    rw [this]
    have hkeys : Rws W' p n c (R.gs.map Rm.kp) (R.gs.map Rm.key) := by
      refine ⟨(HK.ownM (m := hdR 29 p n c (R.gs.map Rm.kp)) List.mem_cons_self).ls Sl.cs_length (by decide), fun i h r hh hr => ?_, by rw [List.length_map]; omega⟩
      rw [List.getElem?_map] at hh hr
      cases hb : R.gs[i]? with
      | none => rw [hb] at hh; cases hh
      | some y =>
        rw [hb] at hh hr
        cases hh; cases hr
        exact (H.elV (te := 42) (List.mem_append_left _ (mem_elR (List.mem_of_getElem? hb)))).ext HK.ext
    exact ⟨_, _, _, _, _, _, _, _, rfl, hkeys, HK.rws (te := 42) (th := 29) fun m hm => by simp [hm], HK.ext⟩
end
end Go.Proofs.Ytckfedekpkgcdaa

/- The law that a table takes rows, and answers, just as the document says. -/
namespace Go.Proofs.Ytckfedekpkgcdaa
open Go Go.Vc Go.RowKit
set_option maxRecDepth 20000
attribute [local irreducible] Calls Put Drew New

theorem same_old {w a b wr : World} {l : List Nat} (ha : Ext w a) (hb : Ext w b) (hl : ∀ k ∈ l, k < w.heap.size) : SameTo (some l) wr a b := fun k hk _ => (hb.block k (hl k hk)).trans (ha.block k (hl k hk)).symm

set_option maxHeartbeats 2000000 in
theorem gathers_ok (w : World) {ap p : Option Addr} {an ac rn c : Nat} {l : List Int} {hs : List Pr} {L : List (List Val × List Val)} (hA : At w ap (vI .i64 l)) (hl : l.length = an) (hz : ap = none → an = 0 ∧ ac = 0) (han : an < 9223372036854775807)
    (hv : Prs w p rn c hs L) (hf : ∀ r ∈ L, (∀ x ∈ r.1, x.fit) ∧ ∀ x ∈ r.2, x.fit) (hsz : ∀ r ∈ L, r.1.length ≤ 1048576 ∧ r.2.length ≤ 1048576) :
    Calls Try.prog 5 #[.slice ap an ac, .slice p rn c] w fun e w' => e = .returned (.bool true) ∧ Ext w w' := by
  apply law14Gathers_vc
  unfold law14Gathers_T
  refine (shown14_ok w).mono ?_
  rintro e w2 ⟨rfl, e2⟩
  refine ⟨_, rfl, (gnew_ok (Hold.start e2) (hA.ext e2) hl hz han).mono ?_⟩
  rintro e w5 (⟨hno, rfl, H5⟩ | ⟨hyes, T0, rfl, H5, okT, haT, hgT⟩)
  · refine ⟨_, _, rfl, (r14new_ok H5 hA hl han).mono ?_⟩
    rintro e w9 (⟨_, rfl, H9⟩ | ⟨hy, _⟩)
    · exact ⟨_, _, rfl, fun _ => ⟨rfl, H9.ext⟩, fun h => absurd h.1 (by decide)⟩
    · rw [hno] at hy; cases hy
  refine ⟨_, _, rfl, (r14new_ok H5 hA hl han).mono ?_⟩
  rintro e w9 (⟨hn, _⟩ | ⟨_, R0, rfl, H9, okR, haR, hgR⟩)
  · rw [hyes] at hn; cases hn
  have hLl := hv.len
  refine ⟨_, _, rfl, fun h => by (rcases h with h | h <;> exact absurd rfl h), fun _ => ⟨fun i W => ∃ (k : Nat) (T : Tm) (R : RT), i = (k : Int) ∧ k ≤ rn ∧ k ≤ 500 ∧ Hold w W (T.blks ++ (R.blks ++ [])) (T.rows ++ (R.rows ++ [])) ∧ Tok T ∧ T.t = T0.t ∧ T.aggs = l ∧ Rok w R k ∧ R.r = R0.r ∧ R.aggs = l ∧ T.plain = R.plain.map (RG.img l.length),
    fun i _ => 500 - i.toNat, ⟨0, T0, R0, rfl, Nat.zero_le _, Nat.zero_le _, ?_, okT, rfl, haT, okR, rfl, haR, ?_⟩, ?_⟩⟩
  · refine H9.permA ?_ ?_
    · refine perm_of_sum fun f => ?_
      simp only [List.map_append, List.map_nil, List.sum_append, List.sum_nil]; omega
    · refine perm_of_sum fun f => ?_
      simp only [List.map_append, List.map_nil, List.sum_append, List.sum_nil]; omega
  · unfold Tm.plain RT.plain
    rw [hgT, hgR]; rfl
  rintro i W ⟨k, T, R, rfl, hk, hk2, H, okT, htT, haT, okR, hrR, haR, hpl⟩
  have toR : ∀ {W : World} {T : Tm} {R : RT}, Hold w W (T.blks ++ (R.blks ++ [])) (T.rows ++ (R.rows ++ [])) → Hold w W (R.blks ++ (T.blks ++ [])) (R.rows ++ (T.rows ++ [])) := fun H => H.permA
    (by refine perm_of_sum fun f => ?_; simp only [List.map_append, List.map_nil, List.sum_append, List.sum_nil]; omega) (by refine perm_of_sum fun f => ?_; simp only [List.map_append, List.map_nil, List.sum_append, List.sum_nil]; omega)
  have toT : ∀ {W : World} {T : Tm} {R : RT}, Hold w W (R.blks ++ (T.blks ++ [])) (R.rows ++ (T.rows ++ [])) → Hold w W (T.blks ++ (R.blks ++ [])) (T.rows ++ (R.rows ++ [])) := fun H => H.permA
    (by refine perm_of_sum fun f => ?_; simp only [List.map_append, List.map_nil, List.sum_append, List.sum_nil]; omega) (by refine perm_of_sum fun f => ?_; simp only [List.map_append, List.map_nil, List.sum_append, List.sum_nil]; omega)
  refine ⟨fun hlt w20 h20 => ?_, fun hge => ?_⟩
  · have g : L[k]? = some (L[k]'(by omega)) := List.getElem?_eq_getElem _
    generalize L[k]'(by omega) = r at g
    have hrm := List.mem_of_getElem? g
    have H20 := H.step h20.ext
    obtain ⟨x, hx, hxa, hxb, b, o, hp, hc, hc2⟩ := hv.get g
    have hblt : b < w.heap.size := cell_lt hc
    have hc' := cell_ext hc H20.ext
    have hc2' := cell_ext hc2 H20.ext
    have hxl := hxa.len
    have hsr := hsz r hrm
    simp only [Int.toNat_natCast]
    refine ⟨b, o, hp, by omega, by omega, _, _, _, hc', b, o, hp, by omega, by omega, _, _, _, hc2', b, o, hp, by omega, by omega, _, _, _, hc', b, o, hp, by omega, by omega, _, _, _, hc2', ?_⟩
    refine (htT ▸ tadd_ok H20 okT (hxa.ext H20.ext) (hf r hrm).1 (by omega) (Keeps.old (X := fun W => Vs W x.b.p x.b.n x.b.c r.2) fun W e => hxb.ext e)).mono ?_
    rintro e W43 ⟨T', rfl, H43, okT', htT', haT', hpT'⟩
    refine ⟨_, rfl, same_old H20.ext H43.ext (by simp [hblt]), ?_⟩
    refine (hrR ▸ r14add_ok (toR H43) okR hxa hxb (hf r hrm).2 (by omega) (by omega)).mono ?_
    rintro e W46 ⟨R', rfl, H46', okR', hrR', haR', hpR'⟩
    have H46 := toT H46'
    rw [haT] at haT' hpT'
    rw [haR] at haR' hpR'
    have hsim := sim l R.plain r.1 r.2
    rw [← hpl] at hsim
    rw [haT, haR]
    have e2 : (addP l T.plain r.1 r.2).2 = (addR l R.plain r.1 r.2).2 := by rw [hsim]
    have e1 : T'.plain = R'.plain.map (RG.img l.length) := by rw [hpT', hpR', hsim]
    have hRB := R_blk (toR H46)
    rw [hrR', hrR] at hRB
    refine ⟨_, rfl, fun hne => absurd e2 hne, fun _ => ⟨R0.r, 0, rfl, _, _, _, hRB.cell 1, ((htT'.trans htT) ▸ tgroups_ok H46).mono ?_⟩⟩
    · rintro e W56 ⟨rfl, rfl⟩
      have hgl : T'.gs.length = R'.gs.length := by
        have := congrArg List.length e1
        unfold Tm.plain RT.plain at this
        simpa using this
      refine ⟨_, rfl, Ext.rfl.same, fun hne => absurd (by rw [hgl]) hne, fun _ => ?_⟩
      rw [i64_next (by omega)]
      exact ⟨⟨k + 1, T', R', rfl, by omega, by omega, H46, okT', htT'.trans htT, haT', okR', hrR'.trans hrR, haR', e1⟩, by simp only [Int.toNat_natCast]; omega⟩
  · refine (htT ▸ tanswer_ok H okT).mono ?_
    rintro e w62 ⟨q, qn, d, q2, m2, d2, ks, ls, rfl, hR, hS, e62⟩
    refine ⟨_, _, _, _, _, _, _, rfl, (hrR ▸ r14answer_ok (toR (H.step e62)) okR (by omega)).mono ?_⟩
    rintro e w71 ⟨u, un, ud, u2, um, ud2, ks2, ls2, rfl, hR2, hS2, e71⟩
    have hRan : R.an = l.length := by rw [← okR.an, haR]
    rw [haT, hpl] at hR hS ⊢
    rw [haR, hRan] at hR2 hS2 ⊢
    have E71 := (H.ext.trans e62).trans e71
    refine ⟨_, _, _, _, _, _, _, rfl, fun _ => (samerows_ok w71 (hR.ext e71) hR2).mono ?_, fun h => ?_⟩
    · rintro e w81 ⟨rfl, e81⟩
      refine ⟨_, rfl, fun _ => (samerows_ok w81 ((hS.ext e71).ext e81) (hS2.ext e81)).mono ?_, fun h => absurd rfl (of_decide_eq_false h)⟩
      rintro e w85 ⟨rfl, e85⟩
      exact ⟨_, rfl, by rw [decide_eq_true rfl], (E71.trans e81).trans e85⟩
    · rcases h with h | h
      · cases h
      · exact absurd rfl h
theorem gathers_walk (W : World) (v0 v1 : Value) (a0 : Arg Try.prog W 22 [v0]) (a1 : Arg Try.prog W 23 [v1]) (b1 : ∀ p n c, v1 = .slice p n c → Bulk W 23 [.slice p n c]) :
    Calls Try.prog 5 #[v0, v1] W fun e w' => e = .returned (.bool true) ∧ Ext W w' := by
  obtain ⟨ap, an, ac, l, rfl, hA, hl, hz, han⟩ := arg_ints a0
  obtain ⟨p, n, c, hs, L, rfl, hv, hf⟩ := arg_pairs a1
  exact gathers_ok W hA hl hz han hv hf (Prs.small hv (b1 p n c rfl))
end Go.Proofs.Ytckfedekpkgcdaa

/- Three closed facts of the seat's program, asked once: they want much memory. -/
namespace Go.Proofs.Ytckfedekpkgcdaa
set_option maxRecDepth 100000 in
theorem Try.entersB : (Try.prog.mayEnter && (false == Try.prog.liftsFinal) && (Try.prog.make == some .cut)) = true := by kernel_rfl
theorem Try.enters : Try.prog.mayEnter = true ∧ Try.prog.liftsFinal = false ∧ Try.prog.make = some .cut := by
  have h := Try.entersB
  simp only [Bool.and_eq_true, beq_iff_eq] at h
  exact ⟨h.1.1, h.1.2.symm, h.2⟩
end Go.Proofs.Ytckfedekpkgcdaa
