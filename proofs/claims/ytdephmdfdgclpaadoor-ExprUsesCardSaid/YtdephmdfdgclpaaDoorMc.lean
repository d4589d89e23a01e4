/- Texts of the proof, one behind the other. -/
import Derived.Test.YtdephmdfdgclpaaDoorMb
import Derived.Lib.SlicesCompact
set_option linter.unusedVariables false
set_option linter.unusedSimpArgs false
/- An expression that has a kind has a value of that kind, or null, or one of two errors. Plain Lean, no program. -/
namespace Go.Vc
open Go Go.RowKit

theorem self_node (x : Ex) : x ∈ nodesT x := by cases x; unfold nodesT; exact List.mem_cons_self
theorem nodesTs_mem : ∀ {l : List Ex} {i : Nat} {k y : Ex}, l[i]? = some k → y ∈ nodesT k → y ∈ nodesTs l
  | [], i, k, y, h, _ => by simp at h
  | x :: r, i, k, y, h, hy => by
    unfold nodesTs
    cases i with
    | zero => cases h; exact List.mem_append_left _ hy
    | succ i => exact List.mem_append_right _ (nodesTs_mem (i := i) (by simpa using h) hy)
theorem kid_node {x k y : Ex} {i : Nat} (h : x.kids[i]? = some k) (hy : y ∈ nodesT k) : y ∈ nodesT x := by
  cases x; unfold nodesT; exact List.mem_cons_of_mem _ (nodesTs_mem h hy)
theorem kid_depth {x k : Ex} {i : Nat} (h : x.kids[i]? = some k) : depthT k + 1 ≤ depthT x := by
  have := depthTs_get h
  obtain ⟨o, n, v, ks⟩ := x
  have e : depthT (.mk o n v ks) = 1 + depthTs ks := by rw [depthT]
  simp only [Ex.kids] at this
  omega

/-- A value of kind k (or null), or an error. -/
def GoodV (k : Int) (v : Val) : Prop := v.Ok ∧ fitI v.n ∧ (v.k = 0 ∨ v.k = k)
def Good (k : Int) (q : Val × Int) : Prop := (q.2 = 0 ∧ GoodV k q.1) ∨ ((q.2 = 100 ∨ q.2 = 101) ∧ q.1 = nullV)
theorem null_ok : nullV.Ok := .inl ⟨rfl, rfl, rfl⟩
theorem GoodV.null (k : Int) : GoodV k nullV := ⟨null_ok, by unfold fitI nullV; decide, .inl rfl⟩
theorem GoodV.truth (b : Bool) : GoodV 2 (truthV b) := by
  refine ⟨.inr (.inr (.inl ⟨rfl, ?_, rfl⟩)), ?_, .inr rfl⟩
  · cases b
    · exact .inl rfl
    · exact .inr rfl
  · cases b <;> (unfold fitI truthV; decide)
theorem GoodV.num {n : Int} (h : fitI n) : GoodV 1 (numV n) := ⟨.inr (.inl ⟨rfl, rfl⟩), h, .inr rfl⟩
theorem GoodV.answer (n : Int) : GoodV 2 (answerV n) := by
  unfold answerV
  split
  · exact .null 2
  · exact .truth _
theorem GoodV.trio {v : Val} (h : GoodV 2 v) : 0 ≤ thirdI v ∧ thirdI v < 3 := by
  obtain ⟨ho, _, hk⟩ := h
  unfold thirdI
  unfold Val.Ok at ho
  split
  · omega
  · rcases ho with ho | ho | ho | ho <;> omega
theorem overF_spec (x : Int) : ((overF x).2 = 0 ∧ fitI (overF x).1) ∨ (overF x).2 = 100 := by
  unfold overF
  split
  · exact .inl ⟨rfl, ‹_›⟩
  · exact .inr rfl
theorem arithF_spec (op a b : Int) (hb : fitI b) : ((arithF op a b).2 = 0 ∧ fitI (arithF op a b).1) ∨ (arithF op a b).2 = 100 ∨ (arithF op a b).2 = 101 := by
  have z : fitI 0 := by unfold fitI; decide
  unfold arithF
  split
  · exact .inr (.inr rfl)
  · rename_i h0
    split
    · rcases overF_spec (a + b) with h | h
      · exact .inl h
      · exact .inr (.inl h)
    · split
      · rcases overF_spec (a - b) with h | h
        · exact .inl h
        · exact .inr (.inl h)
      · split
        · rcases overF_spec (a * b) with h | h
          · exact .inl h
          · exact .inr (.inl h)
        · split
          · rcases overF_spec (a.tdiv b) with h | h
            · exact .inl h
            · exact .inr (.inl h)
          · split
            · exact .inl ⟨rfl, tmod_fit hb (by omega)⟩
            · exact .inl ⟨rfl, z⟩
theorem pairF_arith {op : Int} (h12 : op ≠ 12) (h13 : op ≠ 13) (h9 : op ≠ 9) (h10 : op ≠ 10) (h11 : op ≠ 11) (a b : Val) (hb : fitI b.n) : Good 1 (pairF op a b) := by
  unfold pairF
  rw [if_neg h12, if_neg h13]
  by_cases hz : a.k = 0 ∨ b.k = 0
  · rw [if_pos hz]; exact .inl ⟨rfl, .null 1⟩
  · rw [if_neg hz, if_neg h9, if_neg h10, if_neg h11]
    split
    · rename_i he
      rcases arithF_spec op a.n b.n hb with h | h
      · exact absurd h.1 he
      · exact .inr ⟨h, rfl⟩
    · rename_i he
      rcases arithF_spec op a.n b.n hb with h | h
      · exact .inl ⟨rfl, .num h.2⟩
      · exfalso; omega

theorem alike_want {g w : Int} (h : alikeB g w = true) (hw : w ≠ 0) : g = w ∨ g = 0 := by
  unfold alikeB at h
  simp only [Bool.or_eq_true, decide_eq_true_eq] at h
  omega
/-- One node, its kids being reckoned. -/
theorem node_good {cols : List Col} {row : List Val} {op : Int} {name : ByteArray} {v : Val} {l : List Int} {vl : List Val} (hm : (vl.length : Int) = manyOf op) (hl : l.length = vl.length) (hv : v.Ok) (hvn : fitI v.n)
    (hrel : ∀ (i : Nat) g u, l[i]? = some g → vl[i]? = some u → GoodV g u) (hk : (kindN cols op name v l).2 = 0) (hf : fitsL cols row = true) (hr : ∀ u ∈ row, fitI u.n) :
    Good (kindN cols op name v l).1 (valueN cols row op name v vl) ∧ (op = 12 ∨ op = 13 → (∀ u ∈ vl, GoodV 2 u)) ∧ (op = 1 → 0 ≤ findC cols name ∧ findC cols name < (row.length : Int)) := by
  have hop := many_range (op := op) (by omega)
  have hrel' : ∀ u ∈ vl, wantOf op ≠ 0 → GoodV (wantOf op) u := by
    intro u hu hw
    obtain ⟨i, hi⟩ := List.mem_iff_getElem?.1 hu
    have hi' : i < l.length := by rw [hl]; exact (List.getElem?_eq_some_iff.1 hi).1
    obtain ⟨h1, h2, h3⟩ := hrel i l[i] u (List.getElem?_eq_getElem hi') hi
    refine ⟨h1, h2, ?_⟩
    unfold kindN at hk
    split at hk
    · exact absurd hk (by decide)
    · rename_i hal
      have := Decidable.not_not.1 fun hn => hal ⟨hw, hn⟩
      rcases alike_want (this l[i] (List.getElem_mem hi')) hw with h | h <;> omega
  have hwant : ¬ (wantOf op ≠ 0 ∧ ¬ (∀ g ∈ l, alikeB g (wantOf op) = true)) := by
    intro h
    unfold kindN at hk
    rw [if_pos h] at hk
    cases hk
  unfold kindN at hk ⊢
  rw [if_neg hwant] at hk ⊢
  unfold valueN
  by_cases h1 : op = 1
  · rw [if_pos h1] at hk ⊢
    rw [if_pos h1]
    split at hk
    · exact absurd hk (by decide)
    · rename_i hge
      rw [if_neg hge]
      obtain ⟨c, hc, hn⟩ := findC_get (l := cols) (s := name) (by omega)
      have hrange := findC_range cols name
      have hlen := fitsL_length hf
      have hu : row[(findC cols name).toNat]? = some (row[(findC cols name).toNat]'(by omega)) := List.getElem?_eq_getElem _
      generalize row[(findC cols name).toNat]'(by omega) = u at hu
      have hfit := fitsL_get hf hc hu
      unfold valFits at hfit
      simp only [Bool.and_eq_true, Bool.or_eq_true, decide_eq_true_eq] at hfit
      refine ⟨.inl ⟨rfl, ?_⟩, fun h => by omega, fun _ => by omega⟩
      rw [hc, hu]
      exact ⟨of_decide_eq_true hfit.1, hr u (List.mem_of_getElem? hu), by rcases hfit.2 with h | h <;> simp [h]⟩
  rw [if_neg h1] at hk ⊢
  rw [if_neg h1]
  by_cases h2 : op = 2
  · rw [if_pos h2] at hk ⊢
    rw [if_pos h2]
    exact ⟨.inl ⟨rfl, hv, hvn, .inr rfl⟩, fun h => by omega, fun h => absurd h h1⟩
  rw [if_neg h2] at hk ⊢
  rw [if_neg h2]
  split at hk
  · exact absurd hk (by decide)
  rename_i h9
  rw [if_neg h9]
  have h2nd : op = 12 ∨ op = 13 → ∀ u ∈ vl, GoodV 2 u := by
    intro h u hu
    have hw : wantOf op = 2 := by unfold wantOf; rw [if_neg (by omega), if_pos (by omega)]
    have := hrel' u hu (by omega)
    rwa [hw] at this
  refine ⟨?_, h2nd, fun h => absurd h h1⟩
  by_cases hone : vl.length = 1
  · rw [if_pos hone]
    obtain ⟨a, rfl⟩ := List.length_eq_one_iff.1 hone
    have hm1 : op = 8 ∨ op = 14 ∨ op = 15 ∨ op = 16 := by
      unfold manyOf at hm
      simp only [List.length_cons, List.length_nil] at hm
      split at hm
      · omega
      · split at hm
        · assumption
        · split at hm <;> omega
    show Good (kindOf op) (singleF op a)
    have ga := hrel' a (by simp)
    obtain ⟨ga1, ga2, _⟩ := hrel 0 (l[0]'(by rw [hl]; simp)) a (List.getElem?_eq_getElem _) rfl
    unfold singleF
    by_cases h15 : op = 15
    · rw [if_pos h15]
      have : kindOf op = 2 := by unfold kindOf; rw [if_neg (by omega), if_pos (by omega)]
      rw [this]; exact .inl ⟨rfl, .truth _⟩
    rw [if_neg h15]
    by_cases hz : a.k = 0
    · rw [if_pos hz]; exact .inl ⟨rfl, ga1, ga2, .inl hz⟩
    rw [if_neg hz]
    by_cases h14 : op = 14
    · rw [if_pos h14]
      have : kindOf op = 2 := by unfold kindOf; rw [if_neg (by omega), if_pos (by omega)]
      rw [this]; exact .inl ⟨rfl, .truth _⟩
    rw [if_neg h14]
    have hk1 : kindOf op = 1 := by unfold kindOf; rw [if_pos (by omega)]
    rw [hk1]
    by_cases h16 : op = 16
    · rw [if_pos h16]
      have hw : wantOf op = 3 := by unfold wantOf; rw [if_neg (by omega), if_neg (by omega), if_pos h16]
      have := ga (by omega)
      rw [hw] at this
      obtain ⟨ho, _, hk3⟩ := this
      refine .inl ⟨rfl, .num ?_⟩
      unfold Val.Ok at ho
      unfold fitI
      rcases ho with ho | ho | ho | ho <;> omega
    · rw [if_neg h16]
      exact pairF_arith (by decide) (by decide) (by decide) (by decide) (by decide) _ _ ga2
  · rw [if_neg hone]
    have hm2 : (3 ≤ op ∧ op ≤ 7) ∨ (9 ≤ op ∧ op ≤ 13) := by
      unfold manyOf at hm
      split at hm
      · omega
      · split at hm
        · exfalso; omega
        · split at hm <;> omega
    have htwo : vl.length = 2 := by
      unfold manyOf at hm
      rw [if_neg (by omega), if_neg (by omega), if_pos (by omega)] at hm
      omega
    match vl, htwo with
    | [a, b], _ =>
      show Good (kindOf op) (pairF op a b)
      obtain ⟨b1, b2, _⟩ := hrel 1 (l[1]'(by rw [hl]; simp)) b (List.getElem?_eq_getElem _) rfl
      rcases hm2 with h | h
      · have hk1 : kindOf op = 1 := by unfold kindOf; rw [if_pos (by omega)]
        rw [hk1]
        exact pairF_arith (by omega) (by omega) (by omega) (by omega) (by omega) _ _ b2
      · have hk2 : kindOf op = 2 := by unfold kindOf; rw [if_neg (by omega), if_pos (by omega)]
        rw [hk2]
        unfold pairF
        split
        · exact .inl ⟨rfl, .answer _⟩
        · split
          · exact .inl ⟨rfl, .answer _⟩
          · split
            · exact .inl ⟨rfl, .null 2⟩
            · split
              · exact .inl ⟨rfl, .truth _⟩
              · split
                · exact .inl ⟨rfl, .truth _⟩
                · split
                  · exact .inl ⟨rfl, .truth _⟩
                  · exfalso; omega

/-- The kinds and the values of the kids. -/
theorem kids_kinds {cols : List Col} {x : Ex} (h : (kindF cols x).2 = 0) : (runL (kindF cols) x.kids).2 = 0 ∧ kindF cols x = kindN cols x.op x.name x.v (runL (kindF cols) x.kids).1 := by
  rw [kindF_eq] at h ⊢
  split at h
  · rename_i hn; exact absurd h hn
  · rename_i hn
    exact ⟨by omega, by rw [if_neg hn]⟩
theorem typed {cols : List Col} {row : List Val} (hf : fitsL cols row = true) (hr : ∀ u ∈ row, fitI u.n) : ∀ (N : Nat) (x : Ex), depthT x ≤ N → (∀ y ∈ nodesT x, NodeOk y ∧ fitI y.v.n) → (kindF cols x).2 = 0 → Good (kindF cols x).1 (valueF cols row x) := by
  intro N
  induction N with
  | zero => intro x hd; cases x; unfold depthT at hd; omega
  | succ N ih =>
    intro x hd hn hk
    obtain ⟨hk1, hk2⟩ := kids_kinds hk
    have hkid : ∀ (i : Nat) k, x.kids[i]? = some k → Good (kindF cols k).1 (valueF cols row k) := fun i k hi =>
      ih k (by have := kid_depth hi; omega) (fun y hy => hn y (kid_node hi hy)) (runL_get hk1 hi).1
    rw [valueF_eq]
    split
    · rename_i he
      -- some kid has an error
      have : (runL (valueF cols row) x.kids).2 = 100 ∨ (runL (valueF cols row) x.kids).2 = 101 := by
        have key : ∀ l : List Ex, (∀ k ∈ l, (valueF cols row k).2 = 0 ∨ (valueF cols row k).2 = 100 ∨ (valueF cols row k).2 = 101) → (runL (valueF cols row) l).2 = 0 ∨ (runL (valueF cols row) l).2 = 100 ∨ (runL (valueF cols row) l).2 = 101 := by
          intro l
          induction l with
          | nil => intro _; exact .inl rfl
          | cons k r ih2 =>
            intro h
            have h1 := h k (by simp)
            have h2 := ih2 fun q hq => h q (by simp [hq])
            unfold runL
            split
            · rename_i hne; rcases h1 with h1 | h1
              · exact absurd h1 hne
              · exact .inr h1
            · split
              · rename_i hne; rcases h2 with h2 | h2
                · exact absurd h2 hne
                · exact .inr h2
              · exact .inl rfl
        rcases key x.kids (fun k hk => by
          obtain ⟨i, hi⟩ := List.mem_iff_getElem?.1 hk
          rcases hkid i k hi with h | h
          · exact .inl h.1
          · exact .inr h.1) with h | h
        · exact absurd h he
        · exact h
      exact .inr ⟨this, rfl⟩
    · rename_i he
      have hv1 : (runL (valueF cols row) x.kids).2 = 0 := by omega
      obtain ⟨hno, hnf⟩ := hn x (self_node x)
      rw [hk2]
      have hlv := runL_len hv1
      have hlk := runL_len hk1
      refine (node_good (by rw [hlv]; exact hno.1) (by omega) hno.2.2.2 hnf (fun i g u hg hu => ?_) (by rw [← hk2]; exact hk) hf hr).1
      have hi : i < x.kids.length := by rw [← hlk]; exact (List.getElem?_eq_some_iff.1 hg).1
      have hki : x.kids[i]? = some x.kids[i] := List.getElem?_eq_getElem hi
      have e1 := runL_get hk1 hki
      have e2 := runL_get hv1 hki
      rw [hg] at e1
      rw [hu] at e2
      have := hkid i _ hki
      cases e1.2
      cases e2.2
      rcases this with h | h
      · exact h.2
      · have := e2.1; omega
end Go.Vc

/- What the laws on expressions say of kinds and values. Plain Lean, no program. -/
namespace Go.Vc
open Go Go.RowKit

def mk1 (op : Int) (a : Ex) : Ex := .mk op ⟨#[]⟩ nullV [a]
def mk2 (op : Int) (a b : Ex) : Ex := .mk op ⟨#[]⟩ nullV [a, b]
def F2 (a b : Ex) : Prop := (∀ y ∈ nodesT a, NodeOk y) ∧ (∀ y ∈ nodesT b, NodeOk y) ∧ depthT a ≤ 39 ∧ depthT b ≤ 39 ∧ (nodesT a).length + (nodesT b).length ≤ 399
def F1 (a : Ex) : Prop := (∀ y ∈ nodesT a, NodeOk y) ∧ depthT a ≤ 39 ∧ (nodesT a).length ≤ 399
theorem F2.symm {a b : Ex} (h : F2 a b) : F2 b a := ⟨h.2.1, h.1, h.2.2.2.1, h.2.2.1, by have := h.2.2.2.2; omega⟩
section
variable {cols : List Col} {row : List Val} {op : Int} {a b x : Ex}
/-- An expression has a value over a row just if all is well; else it has an error, and no value. -/
def Well (cols : List Col) (row : List Val) (x : Ex) : Prop := rightC cols = true ∧ formedB x = true ∧ (kindF cols x).2 = 0 ∧ fitsL cols row = true ∧ (valueF cols row x).2 = 0
def FitX (x : Ex) : Prop := ∀ y ∈ nodesT x, fitI y.v.n
def FitR (row : List Val) : Prop := ∀ u ∈ row, fitI u.n
end

section
variable {cols : List Col} {row : List Val} {op : Int} {a b x : Ex} {name : ByteArray} {v : Val} {g h : Int}
theorem FitX.mk2 (ha : FitX a) (hb : FitX b) : FitX (mk2 op a b) := by
  intro y hy
  unfold Go.Vc.mk2 at hy
  rw [nodesT, nodesTs, nodesTs, nodesTs] at hy
  simp only [List.mem_cons, List.mem_append, List.not_mem_nil, or_false] at hy
  rcases hy with rfl | hy | hy
  · show fitI 0; unfold fitI; decide
  · exact ha y hy
  · exact hb y hy
theorem FitX.mk1 (ha : FitX a) : FitX (mk1 op a) := by
  intro y hy
  unfold Go.Vc.mk1 at hy
  rw [nodesT, nodesTs, nodesTs] at hy
  simp only [List.mem_cons, List.mem_append, List.not_mem_nil, or_false] at hy
  rcases hy with rfl | hy
  · show fitI 0; unfold fitI; decide
  · exact ha y hy

/-- Both sides are well. -/
def Sides (cols : List Col) (row : List Val) (a b : Ex) : Prop := rightC cols = true ∧ F2 a b ∧ (kindF cols a).2 = 0 ∧ (kindF cols b).2 = 0 ∧ fitsL cols row = true ∧ (valueF cols row a).2 = 0 ∧ (valueF cols row b).2 = 0
theorem Sides.symm (h : Sides cols row a b) : Sides cols row b a := ⟨h.1, h.2.1.symm, h.2.2.2.1, h.2.2.1, h.2.2.2.2.1, h.2.2.2.2.2.2, h.2.2.2.2.2.1⟩
end

/-! ### The laws -/
section
variable {cols : List Col} {row : List Val} {a b x : Ex}
end
end Go.Vc

/- The names that an expression uses; expressions that are alike. Plain Lean, no program. -/
namespace Go.Vc
open Go Go.RowKit

/-! ### Texts as lists of bytes -/
theorem sLt_lt {a b : ByteArray} : sLt a b = true ↔ tB a < tB b := by
  unfold sLt
  rw [ba_toList, ba_toList]
  generalize tB a = x
  generalize tB b = y
  induction x generalizing y with
  | nil => cases y <;> simp [Op.bytesLess]
  | cons p x ih =>
    cases y with
    | nil => simp [Op.bytesLess]
    | cons q y =>
      unfold Op.bytesLess
      rw [List.cons_lt_cons_iff, ← ih]
      simp
def leB2 (x y : List UInt8) : Bool := decide (x ≤ y)
theorem leB2_trans : ∀ a b c : List UInt8, leB2 a b = true → leB2 b c = true → leB2 a c = true := fun a b c h1 h2 => by simp only [leB2, decide_eq_true_eq] at *; exact List.le_trans h1 h2
theorem leB2_total : ∀ a b : List UInt8, (leB2 a b || leB2 b a) = true := fun a b => by simp only [leB2, Bool.or_eq_true, decide_eq_true_eq]; exact List.le_total a b
theorem lt_of_le_ne {a b : List UInt8} (h : a ≤ b) (hne : a ≠ b) : a < b := by
  rcases List.le_iff_lt_or_eq.1 h with h | h
  · exact h
  · exact absurd h hne

/-- Two rising lists of the same things. -/
theorem rising_ext : ∀ {l m : List (List UInt8)}, l.Pairwise (· < ·) → m.Pairwise (· < ·) → (∀ a, a ∈ l ↔ a ∈ m) → l = m
  | [], [], _, _, _ => rfl
  | [], y :: m, _, _, h => by have := (h y).2 (by simp); cases this
  | x :: l, [], _, _, h => by have := (h x).1 (by simp); cases this
  | x :: l, y :: m, hl, hm, h => by
    rw [List.pairwise_cons] at hl hm
    have hxy : x = y := by
      have h1 := (h x).1 (by simp)
      have h2 := (h y).2 (by simp)
      rcases List.mem_cons.1 h1 with h1 | h1
      · exact h1
      · rcases List.mem_cons.1 h2 with h2 | h2
        · exact h2.symm
        · exact absurd (hl.1 y h2) (List.lt_asymm (hm.1 x h1))
    subst hxy
    congr 1
    refine rising_ext hl.2 hm.2 fun a => ⟨fun ha => ?_, fun ha => ?_⟩
    · rcases List.mem_cons.1 ((h a).1 (by simp [ha])) with e | e
      · subst e; exact absurd (hl.1 a ha) (List.lt_irrefl a)
      · exact e
    · rcases List.mem_cons.1 ((h a).2 (by simp [ha])) with e | e
      · subst e; exact absurd (hm.1 a ha) (List.lt_irrefl a)
      · exact e

/-! ### Runs of equals, taken together -/
theorem compact_spec {zs : List (List UInt8)} (hs : zs.Pairwise (· ≤ ·)) : (Lib.compact zs).Pairwise (· < ·) ∧ ∀ a, a ∈ Lib.compact zs ↔ a ∈ zs := by
  have key : ∀ m, m ≤ zs.length → (Lib.compactUpTo zs.toArray m).Pairwise (· < ·) ∧ (∀ a, a ∈ Lib.compactUpTo zs.toArray m ↔ a ∈ zs.take m) := by
    intro m
    induction m with
    | zero => intro _; simp [Lib.compactUpTo]
    | succ m ih =>
      intro hm
      obtain ⟨h1, h2⟩ := ih (by omega)
      rw [Lib.compactUpTo_succ]
      have hz : ∀ j (hj : j < zs.length), zs.toArray[j]! = zs[j] := fun j hj => by simp [hj]
      have ht : zs.take (m + 1) = zs.take m ++ [zs[m]'(by omega)] := by rw [List.take_add_one, List.getElem?_eq_getElem (by omega)]; rfl
      by_cases hk : Lib.keeps zs.toArray m = true
      · rw [if_pos hk, hz m (by omega)]
        refine ⟨?_, fun a => ?_⟩
        · rw [List.pairwise_append]
          refine ⟨h1, by simp, fun a ha b hb => ?_⟩
          rw [List.mem_singleton] at hb
          subst hb
          rw [h2] at ha
          unfold Lib.keeps at hk
          rw [decide_eq_true_eq] at hk
          rcases hk with rfl | hk
          · simp at ha
          · have hm0 : 0 < m := by
              rcases Nat.eq_zero_or_pos m with rfl | h
              · simp at ha
              · exact h
            rw [hz m (by omega), hz (m - 1) (by omega)] at hk
            obtain ⟨i, hi, rfl⟩ := List.getElem_of_mem ha
            rw [List.length_take] at hi
            rw [List.getElem_take]
            have hp := List.pairwise_iff_getElem.1 hs
            have hlast : zs[m - 1]'(by omega) < zs[m]'(by omega) := lt_of_le_ne (hp (m - 1) m (by omega) (by omega) (by omega)) fun e => hk e.symm
            rcases Nat.lt_or_ge i (m - 1) with hlt | hge
            · exact List.lt_of_le_of_lt (hp i (m - 1) (by omega) (by omega) hlt) hlast
            · have : i = m - 1 := by omega
              subst this; exact hlast
        · rw [ht, List.mem_append, List.mem_append, h2]
      · rw [if_neg hk, List.append_nil]
        refine ⟨h1, fun a => ?_⟩
        rw [h2, ht, List.mem_append, List.mem_singleton]
        refine ⟨.inl, fun h => ?_⟩
        rcases h with h | rfl
        · exact h
        · unfold Lib.keeps at hk
          rw [decide_eq_true_eq] at hk
          have hm0 : m ≠ 0 := fun e => hk (.inl e)
          have he : zs.toArray[m]! = zs.toArray[m - 1]! := Classical.byContradiction fun h => hk (.inr h)
          rw [hz m (by omega), hz (m - 1) (by omega)] at he
          rw [he]
          exact List.mem_take_iff_getElem.2 ⟨m - 1, by omega, rfl⟩
  have := key zs.length (Nat.le_refl _)
  rwa [List.take_length] at this

/-! ### Names -/
def namesT (x : Ex) : List ByteArray := ((nodesT x).filter fun y => decide (y.op = 1)).map Ex.name
/-- A name among rising ones. -/
def insN (s : ByteArray) : List ByteArray → List ByteArray
  | [] => [s]
  | y :: r => if sLt y s then y :: insN s r else if y = s then y :: r else s :: y :: r
def usesN (l : List ByteArray) (out : List ByteArray) : List ByteArray := l.foldl (fun out s => insN s out) out
def usesR (x : Ex) : List ByteArray := usesN (namesT x) []
/-- As the program has them. -/
def usesP (x : Ex) : List (List UInt8) := Lib.compact (((namesT x).map tB).mergeSort leB2)
def Rising (l : List ByteArray) : Prop := (l.map tB).Pairwise (· < ·)
theorem insN_mem {s a : ByteArray} : ∀ {l : List ByteArray}, a ∈ insN s l ↔ a = s ∨ a ∈ l
  | [] => by simp [insN]
  | y :: r => by
    unfold insN
    split
    · rw [List.mem_cons, insN_mem, List.mem_cons]
      constructor
      · rintro (h | h | h)
        · exact .inr (.inl h)
        · exact .inl h
        · exact .inr (.inr h)
      · rintro (h | h | h)
        · exact .inr (.inl h)
        · exact .inl h
        · exact .inr (.inr h)
    · split
      · rename_i h; subst h; simp
      · simp
theorem not_lt_lt {a b : List UInt8} (h : ¬ a < b) (hne : a ≠ b) : b < a := lt_of_le_ne (List.not_lt.1 h) fun e => hne e.symm
theorem insN_rising {s : ByteArray} : ∀ {l : List ByteArray}, Rising l → Rising (insN s l)
  | [], _ => by simp [Rising, insN]
  | y :: r, h => by
    unfold Rising at h ⊢
    rw [List.map_cons, List.pairwise_cons] at h
    unfold insN
    split
    · rename_i hlt
      rw [List.map_cons, List.pairwise_cons]
      refine ⟨fun b hb => ?_, insN_rising h.2⟩
      obtain ⟨c, hc, rfl⟩ := List.mem_map.1 hb
      rcases insN_mem.1 hc with rfl | hc
      · exact sLt_lt.1 hlt
      · exact h.1 _ (List.mem_map.2 ⟨c, hc, rfl⟩)
    · rename_i hlt
      split
      · rw [List.map_cons, List.pairwise_cons]; exact h
      · rename_i hne
        have hsy : tB s < tB y := not_lt_lt (fun h => hlt (sLt_lt.2 h)) fun e => hne (tB_inj.1 e)
        rw [List.map_cons, List.pairwise_cons, List.map_cons, List.pairwise_cons]
        refine ⟨fun b hb => ?_, h⟩
        rcases List.mem_cons.1 hb with rfl | hb
        · exact hsy
        · exact List.lt_trans hsy (h.1 b hb)
theorem usesN_spec : ∀ {l out : List ByteArray}, Rising out → Rising (usesN l out) ∧ ∀ a, a ∈ usesN l out ↔ a ∈ l ∨ a ∈ out
  | [], out, h => ⟨h, fun a => by simp [usesN]⟩
  | s :: l, out, h => by
    obtain ⟨h1, h2⟩ := usesN_spec (l := l) (insN_rising (s := s) h)
    refine ⟨h1, fun a => ?_⟩
    have := h2 a
    rw [insN_mem] at this
    change a ∈ usesN l (insN s out) ↔ _
    rw [this, List.mem_cons]
    constructor
    · rintro (h | h | h)
      · exact .inl (.inr h)
      · exact .inl (.inl h)
      · exact .inr h
    · rintro ((h | h) | h)
      · exact .inr (.inl h)
      · exact .inl h
      · exact .inr (.inr h)
theorem usesR_rising (x : Ex) : Rising (usesR x) := (usesN_spec (by simp [Rising])).1
theorem usesR_mem {x : Ex} {a : ByteArray} : a ∈ usesR x ↔ a ∈ namesT x := by
  have := (usesN_spec (l := namesT x) (out := []) (by simp [Rising])).2 a
  unfold usesR
  rw [this]; simp
theorem uses_same (x : Ex) : (usesR x).map tB = usesP x := by
  have hs : (((namesT x).map tB).mergeSort leB2).Pairwise (· ≤ ·) := by
    have := List.pairwise_mergeSort (le := leB2) leB2_trans leB2_total ((namesT x).map tB)
    exact this.imp fun h => by simpa [leB2] using h
  obtain ⟨c1, c2⟩ := compact_spec hs
  refine rising_ext (usesR_rising x) c1 fun a => ?_
  unfold usesP
  rw [c2, List.mem_mergeSort, List.mem_map, List.mem_map]
  constructor
  · rintro ⟨b, hb, rfl⟩; exact ⟨b, usesR_mem.1 hb, rfl⟩
  · rintro ⟨b, hb, rfl⟩; exact ⟨b, usesR_mem.2 hb, rfl⟩
theorem usesN_append (a b out : List ByteArray) : usesN (a ++ b) out = usesN b (usesN a out) := by unfold usesN; rw [List.foldl_append]

/-! ### Alike -/
mutual
def alikeX : Ex → Ex → Bool
  | .mk o n v ks, .mk o' n' v' ks' => decide (o = o') && (decide (n = n') && (decide (v = v') && alikeXs ks ks'))
def alikeXs : List Ex → List Ex → Bool
  | [], [] => true
  | x :: xs, y :: ys => alikeX x y && alikeXs xs ys
  | [], _ :: _ => false
  | _ :: _, [] => false
end
theorem alikeX_eq (a b : Ex) : alikeX a b = (decide (a.op = b.op) && (decide (a.name = b.name) && (decide (a.v = b.v) && alikeXs a.kids b.kids))) := by
  cases a; cases b; rw [alikeX]; rfl
theorem alikeXs_len : ∀ {xs ys : List Ex}, alikeXs xs ys = true → xs.length = ys.length
  | [], [], _ => rfl
  | [], _ :: _, h => by simp [alikeXs] at h
  | _ :: _, [], h => by simp [alikeXs] at h
  | x :: xs, y :: ys, h => by
    unfold alikeXs at h
    rw [Bool.and_eq_true] at h
    simp [alikeXs_len h.2]
theorem alikeXs_iff : ∀ {xs ys : List Ex}, alikeXs xs ys = true ↔ xs.length = ys.length ∧ ∀ (i : Nat) x y, xs[i]? = some x → ys[i]? = some y → alikeX x y = true
  | [], [] => by simp [alikeXs]
  | [], _ :: _ => by simp [alikeXs]
  | _ :: _, [] => by simp [alikeXs]
  | x :: xs, y :: ys => by
    unfold alikeXs
    rw [Bool.and_eq_true, alikeXs_iff]
    constructor
    · rintro ⟨h1, h2, h3⟩
      refine ⟨by simp [h2], fun i a b ha hb => ?_⟩
      cases i with
      | zero => cases ha; cases hb; exact h1
      | succ i => exact h3 i a b (by simpa using ha) (by simpa using hb)
    · rintro ⟨h1, h2⟩
      exact ⟨h2 0 x y rfl rfl, by simpa using h1, fun i a b ha hb => h2 (i + 1) a b (by simpa using ha) (by simpa using hb)⟩
end Go.Vc

/- What an expression does not use makes no difference to its value. Plain Lean, no program. -/
namespace Go.Vc
open Go Go.RowKit

section
variable {cols : List Col} {row other m : List Val} {x : Ex}
/-- What is named is taken out of the first row. -/
def mixF (cols : List Col) (row : List Val) : List ByteArray → List Val → List Val
  | [], m => m
  | s :: r, m => mixF cols row r (m.set (findC cols s).toNat ((row[(findC cols s).toNat]?).getD nullV))
mutual
theorem valueF_congr {m : List Val} : ∀ (x : Ex), (∀ y ∈ nodesT x, y.op = 1 → m[(findC cols y.name).toNat]? = row[(findC cols y.name).toNat]?) → valueF cols m x = valueF cols row x
  | .mk op name v ks, h => by
    have hk := valuesF_congr ks fun y hy => h y (by unfold nodesT; exact List.mem_cons_of_mem _ hy)
    rw [valueF, valueF, hk]
    unfold valueN
    by_cases ho : op = 1
    · have := h (.mk op name v ks) (by unfold nodesT; exact List.mem_cons_self) ho
      rw [if_pos ho, if_pos ho, show m[(findC cols name).toNat]? = row[(findC cols name).toNat]? from this]
    · rw [if_neg ho, if_neg ho]
theorem valuesF_congr {m : List Val} : ∀ (xs : List Ex), (∀ y ∈ nodesTs xs, y.op = 1 → m[(findC cols y.name).toNat]? = row[(findC cols y.name).toNat]?) → valuesF cols m xs = valuesF cols row xs
  | [], _ => rfl
  | k :: r, h => by
    have h1 := valueF_congr k fun y hy => h y (by unfold nodesTs; exact List.mem_append_left _ hy)
    have h2 := valuesF_congr r fun y hy => h y (by unfold nodesTs; exact List.mem_append_right _ hy)
    rw [valuesF, valuesF, h1, h2]
end
mutual
theorem found_of : ∀ (x : Ex), (kindF cols x).2 = 0 → ∀ y ∈ nodesT x, y.op = 1 → 0 ≤ findC cols y.name
  | .mk op name v ks, h, y, hy, ho => by
    rw [kindF] at h
    split at h
    · rename_i hne; exact absurd h hne
    · rename_i hks
      unfold nodesT at hy
      rcases List.mem_cons.1 hy with rfl | hy
      · unfold kindN at h
        have ho' : op = 1 := ho
        have hw : wantOf op = 0 := by rw [ho']; rfl
        rw [hw, if_neg (by simp), if_pos ho'] at h
        split at h
        · exact absurd h (by decide)
        · rename_i hge; exact Int.not_lt.1 hge
      · exact founds_of ks (by omega) y hy ho
theorem founds_of : ∀ (xs : List Ex), (kindsF cols xs).2 = 0 → ∀ y ∈ nodesTs xs, y.op = 1 → 0 ≤ findC cols y.name
  | [], _, y, hy, _ => by unfold nodesTs at hy; cases hy
  | k :: r, h, y, hy, ho => by
    rw [kindsF] at h
    split at h
    · rename_i hne; exact absurd h hne
    · rename_i hk
      split at h
      · rename_i hne; exact absurd h hne
      · rename_i hr
        unfold nodesTs at hy
        rcases List.mem_append.1 hy with hy | hy
        · exact found_of k (by omega) y hy ho
        · exact founds_of r (by omega) y hy ho
end
def namesTs (l : List Ex) : List ByteArray := ((nodesTs l).filter fun y => decide (y.op = 1)).map Ex.name
theorem names_eq (x : Ex) : namesT x = (if x.op = 1 then [x.name] else []) ++ namesTs x.kids := by
  cases x with
  | mk op name v ks =>
    unfold namesT namesTs nodesT
    rw [List.filter_cons]
    simp only [Ex.op, Ex.name, Ex.kids]
    by_cases h : op = 1 <;> simp [h, Ex.name]
theorem nodesTs_append : ∀ (a b : List Ex), nodesTs (a ++ b) = nodesTs a ++ nodesTs b
  | [], b => by simp [nodesTs]
  | x :: a, b => by rw [List.cons_append, nodesTs, nodesTs, nodesTs_append, List.append_assoc]
theorem namesTs_take {l : List Ex} {j : Nat} {k : Ex} (h : l[j]? = some k) : namesTs (l.take (j + 1)) = namesTs (l.take j) ++ namesT k := by
  unfold namesTs namesT
  rw [List.take_add_one, h, nodesTs_append]
  simp [nodesTs]
theorem insN_split {s : ByteArray} : ∀ {k : Nat} {l : List ByteArray}, k ≤ l.length → (∀ y ∈ l.take k, sLt y s = true) → (∀ y, l[k]? = some y → sLt y s = false) → insN s l = if l[k]? = some s then l else l.take k ++ [s] ++ l.drop k
  | 0, [], _, _, _ => by simp [insN]
  | 0, y :: r, _, _, h => by
    have := h y rfl
    unfold insN
    rw [if_neg (by simp [this])]
    by_cases e : y = s
    · simp [e]
    · rw [if_neg e, if_neg (by simpa using e)]; simp
  | k + 1, [], h, _, _ => by simp at h
  | k + 1, y :: r, hk, h1, h2 => by
    have := h1 y (by simp)
    unfold insN
    rw [if_pos this, insN_split (k := k) (l := r) (by simpa using hk) (fun z hz => h1 z (by simp [hz])) (fun z hz => h2 z (by simpa using hz))]
    simp only [List.getElem?_cons_succ, List.take_succ_cons, List.drop_succ_cons]
    split <;> simp
end
end Go.Vc

/- The verification conditions of the functions, evaluated: printed by program. -/
namespace Go.Proofs.YtdephmdfdgclpaaDoor
open Go Go.Vc
set_option maxRecDepth 20000

set_option maxRecDepth 100000 in
def many_T (op : Int) (w : World) (R : Ending → World → Prop) : Prop :=
  (op = 1 → (op = 1 → R (.returned (.int .i64 0)) w) ∧ (op ≠ 1 → (op = 8 → (op = 8 → R (.returned (.int .i64 1)) w) ∧ (op ≠ 8 → (op = 3 → (op = 3 → R (.returned (.int .i64 2)) w) ∧ (op ≠ 3 → R (.returned (.int .i64 (-1))) w)) ∧ (op ≠ 3 → (op = 4 → (op = 4 → R (.returned (.int .i64 2)) w) ∧ (op ≠ 4 → R (.returned (.int .i64 (-1))) w)) ∧ (op ≠ 4 → (op = 5 → (op = 5 → R (.returned (.int .i64 2)) w) ∧ (op ≠ 5 → R (.returned (.int .i64 (-1))) w)) ∧ (op ≠ 5 → (op = 6 → (op = 6 → R (.returned (.int .i64 2)) w) ∧ (op ≠ 6 → R (.returned (.int .i64 (-1))) w)) ∧ (op ≠ 6 → (op = 7 → (op = 7 → R (.returned (.int .i64 2)) w) ∧ (op ≠ 7 → R (.returned (.int .i64 (-1))) w)) ∧ (op ≠ 7 → (op = 9 → (op = 9 → R (.returned (.int .i64 2)) w) ∧ (op ≠ 9 → R (.returned (.int .i64 (-1))) w)) ∧ (op ≠ 9 → (op = 10 → (op = 10 → R (.returned (.int .i64 2)) w) ∧ (op ≠ 10 → R (.returned (.int .i64 (-1))) w)) ∧ (op ≠ 10 → (op = 11 → (op = 11 → R (.returned (.int .i64 2)) w) ∧ (op ≠ 11 → R (.returned (.int .i64 (-1))) w)) ∧ (op ≠ 11 → (op = 12 → (op = 12 → R (.returned (.int .i64 2)) w) ∧ (op ≠ 12 → R (.returned (.int .i64 (-1))) w)) ∧ (op ≠ 12 → (op = 13 → R (.returned (.int .i64 2)) w) ∧ (op ≠ 13 → R (.returned (.int .i64 (-1))) w)))))))))))) ∧ (op ≠ 8 → (op = 14 → (op = 14 → R (.returned (.int .i64 1)) w) ∧ (op ≠ 14 → (op = 3 → (op = 3 → R (.returned (.int .i64 2)) w) ∧ (op ≠ 3 → R (.returned (.int .i64 (-1))) w)) ∧ (op ≠ 3 → (op = 4 → (op = 4 → R (.returned (.int .i64 2)) w) ∧ (op ≠ 4 → R (.returned (.int .i64 (-1))) w)) ∧ (op ≠ 4 → (op = 5 → (op = 5 → R (.returned (.int .i64 2)) w) ∧ (op ≠ 5 → R (.returned (.int .i64 (-1))) w)) ∧ (op ≠ 5 → (op = 6 → (op = 6 → R (.returned (.int .i64 2)) w) ∧ (op ≠ 6 → R (.returned (.int .i64 (-1))) w)) ∧ (op ≠ 6 → (op = 7 → (op = 7 → R (.returned (.int .i64 2)) w) ∧ (op ≠ 7 → R (.returned (.int .i64 (-1))) w)) ∧ (op ≠ 7 → (op = 9 → (op = 9 → R (.returned (.int .i64 2)) w) ∧ (op ≠ 9 → R (.returned (.int .i64 (-1))) w)) ∧ (op ≠ 9 → (op = 10 → (op = 10 → R (.returned (.int .i64 2)) w) ∧ (op ≠ 10 → R (.returned (.int .i64 (-1))) w)) ∧ (op ≠ 10 → (op = 11 → (op = 11 → R (.returned (.int .i64 2)) w) ∧ (op ≠ 11 → R (.returned (.int .i64 (-1))) w)) ∧ (op ≠ 11 → (op = 12 → (op = 12 → R (.returned (.int .i64 2)) w) ∧ (op ≠ 12 → R (.returned (.int .i64 (-1))) w)) ∧ (op ≠ 12 → (op = 13 → R (.returned (.int .i64 2)) w) ∧ (op ≠ 13 → R (.returned (.int .i64 (-1))) w)))))))))))) ∧ (op ≠ 14 → (op = 15 → (op = 15 → R (.returned (.int .i64 1)) w) ∧ (op ≠ 15 → (op = 3 → (op = 3 → R (.returned (.int .i64 2)) w) ∧ (op ≠ 3 → R (.returned (.int .i64 (-1))) w)) ∧ (op ≠ 3 → (op = 4 → (op = 4 → R (.returned (.int .i64 2)) w) ∧ (op ≠ 4 → R (.returned (.int .i64 (-1))) w)) ∧ (op ≠ 4 → (op = 5 → (op = 5 → R (.returned (.int .i64 2)) w) ∧ (op ≠ 5 → R (.returned (.int .i64 (-1))) w)) ∧ (op ≠ 5 → (op = 6 → (op = 6 → R (.returned (.int .i64 2)) w) ∧ (op ≠ 6 → R (.returned (.int .i64 (-1))) w)) ∧ (op ≠ 6 → (op = 7 → (op = 7 → R (.returned (.int .i64 2)) w) ∧ (op ≠ 7 → R (.returned (.int .i64 (-1))) w)) ∧ (op ≠ 7 → (op = 9 → (op = 9 → R (.returned (.int .i64 2)) w) ∧ (op ≠ 9 → R (.returned (.int .i64 (-1))) w)) ∧ (op ≠ 9 → (op = 10 → (op = 10 → R (.returned (.int .i64 2)) w) ∧ (op ≠ 10 → R (.returned (.int .i64 (-1))) w)) ∧ (op ≠ 10 → (op = 11 → (op = 11 → R (.returned (.int .i64 2)) w) ∧ (op ≠ 11 → R (.returned (.int .i64 (-1))) w)) ∧ (op ≠ 11 → (op = 12 → (op = 12 → R (.returned (.int .i64 2)) w) ∧ (op ≠ 12 → R (.returned (.int .i64 (-1))) w)) ∧ (op ≠ 12 → (op = 13 → R (.returned (.int .i64 2)) w) ∧ (op ≠ 13 → R (.returned (.int .i64 (-1))) w)))))))))))) ∧ (op ≠ 15 → (op = 16 → R (.returned (.int .i64 1)) w) ∧ (op ≠ 16 → (op = 3 → (op = 3 → R (.returned (.int .i64 2)) w) ∧ (op ≠ 3 → R (.returned (.int .i64 (-1))) w)) ∧ (op ≠ 3 → (op = 4 → (op = 4 → R (.returned (.int .i64 2)) w) ∧ (op ≠ 4 → R (.returned (.int .i64 (-1))) w)) ∧ (op ≠ 4 → (op = 5 → (op = 5 → R (.returned (.int .i64 2)) w) ∧ (op ≠ 5 → R (.returned (.int .i64 (-1))) w)) ∧ (op ≠ 5 → (op = 6 → (op = 6 → R (.returned (.int .i64 2)) w) ∧ (op ≠ 6 → R (.returned (.int .i64 (-1))) w)) ∧ (op ≠ 6 → (op = 7 → (op = 7 → R (.returned (.int .i64 2)) w) ∧ (op ≠ 7 → R (.returned (.int .i64 (-1))) w)) ∧ (op ≠ 7 → (op = 9 → (op = 9 → R (.returned (.int .i64 2)) w) ∧ (op ≠ 9 → R (.returned (.int .i64 (-1))) w)) ∧ (op ≠ 9 → (op = 10 → (op = 10 → R (.returned (.int .i64 2)) w) ∧ (op ≠ 10 → R (.returned (.int .i64 (-1))) w)) ∧ (op ≠ 10 → (op = 11 → (op = 11 → R (.returned (.int .i64 2)) w) ∧ (op ≠ 11 → R (.returned (.int .i64 (-1))) w)) ∧ (op ≠ 11 → (op = 12 → (op = 12 → R (.returned (.int .i64 2)) w) ∧ (op ≠ 12 → R (.returned (.int .i64 (-1))) w)) ∧ (op ≠ 12 → (op = 13 → R (.returned (.int .i64 2)) w) ∧ (op ≠ 13 → R (.returned (.int .i64 (-1))) w)))))))))))))))) ∧ (op ≠ 1 → (op = 2 → R (.returned (.int .i64 0)) w) ∧ (op ≠ 2 → (op = 8 → (op = 8 → R (.returned (.int .i64 1)) w) ∧ (op ≠ 8 → (op = 3 → (op = 3 → R (.returned (.int .i64 2)) w) ∧ (op ≠ 3 → R (.returned (.int .i64 (-1))) w)) ∧ (op ≠ 3 → (op = 4 → (op = 4 → R (.returned (.int .i64 2)) w) ∧ (op ≠ 4 → R (.returned (.int .i64 (-1))) w)) ∧ (op ≠ 4 → (op = 5 → (op = 5 → R (.returned (.int .i64 2)) w) ∧ (op ≠ 5 → R (.returned (.int .i64 (-1))) w)) ∧ (op ≠ 5 → (op = 6 → (op = 6 → R (.returned (.int .i64 2)) w) ∧ (op ≠ 6 → R (.returned (.int .i64 (-1))) w)) ∧ (op ≠ 6 → (op = 7 → (op = 7 → R (.returned (.int .i64 2)) w) ∧ (op ≠ 7 → R (.returned (.int .i64 (-1))) w)) ∧ (op ≠ 7 → (op = 9 → (op = 9 → R (.returned (.int .i64 2)) w) ∧ (op ≠ 9 → R (.returned (.int .i64 (-1))) w)) ∧ (op ≠ 9 → (op = 10 → (op = 10 → R (.returned (.int .i64 2)) w) ∧ (op ≠ 10 → R (.returned (.int .i64 (-1))) w)) ∧ (op ≠ 10 → (op = 11 → (op = 11 → R (.returned (.int .i64 2)) w) ∧ (op ≠ 11 → R (.returned (.int .i64 (-1))) w)) ∧ (op ≠ 11 → (op = 12 → (op = 12 → R (.returned (.int .i64 2)) w) ∧ (op ≠ 12 → R (.returned (.int .i64 (-1))) w)) ∧ (op ≠ 12 → (op = 13 → R (.returned (.int .i64 2)) w) ∧ (op ≠ 13 → R (.returned (.int .i64 (-1))) w)))))))))))) ∧ (op ≠ 8 → (op = 14 → (op = 14 → R (.returned (.int .i64 1)) w) ∧ (op ≠ 14 → (op = 3 → (op = 3 → R (.returned (.int .i64 2)) w) ∧ (op ≠ 3 → R (.returned (.int .i64 (-1))) w)) ∧ (op ≠ 3 → (op = 4 → (op = 4 → R (.returned (.int .i64 2)) w) ∧ (op ≠ 4 → R (.returned (.int .i64 (-1))) w)) ∧ (op ≠ 4 → (op = 5 → (op = 5 → R (.returned (.int .i64 2)) w) ∧ (op ≠ 5 → R (.returned (.int .i64 (-1))) w)) ∧ (op ≠ 5 → (op = 6 → (op = 6 → R (.returned (.int .i64 2)) w) ∧ (op ≠ 6 → R (.returned (.int .i64 (-1))) w)) ∧ (op ≠ 6 → (op = 7 → (op = 7 → R (.returned (.int .i64 2)) w) ∧ (op ≠ 7 → R (.returned (.int .i64 (-1))) w)) ∧ (op ≠ 7 → (op = 9 → (op = 9 → R (.returned (.int .i64 2)) w) ∧ (op ≠ 9 → R (.returned (.int .i64 (-1))) w)) ∧ (op ≠ 9 → (op = 10 → (op = 10 → R (.returned (.int .i64 2)) w) ∧ (op ≠ 10 → R (.returned (.int .i64 (-1))) w)) ∧ (op ≠ 10 → (op = 11 → (op = 11 → R (.returned (.int .i64 2)) w) ∧ (op ≠ 11 → R (.returned (.int .i64 (-1))) w)) ∧ (op ≠ 11 → (op = 12 → (op = 12 → R (.returned (.int .i64 2)) w) ∧ (op ≠ 12 → R (.returned (.int .i64 (-1))) w)) ∧ (op ≠ 12 → (op = 13 → R (.returned (.int .i64 2)) w) ∧ (op ≠ 13 → R (.returned (.int .i64 (-1))) w)))))))))))) ∧ (op ≠ 14 → (op = 15 → (op = 15 → R (.returned (.int .i64 1)) w) ∧ (op ≠ 15 → (op = 3 → (op = 3 → R (.returned (.int .i64 2)) w) ∧ (op ≠ 3 → R (.returned (.int .i64 (-1))) w)) ∧ (op ≠ 3 → (op = 4 → (op = 4 → R (.returned (.int .i64 2)) w) ∧ (op ≠ 4 → R (.returned (.int .i64 (-1))) w)) ∧ (op ≠ 4 → (op = 5 → (op = 5 → R (.returned (.int .i64 2)) w) ∧ (op ≠ 5 → R (.returned (.int .i64 (-1))) w)) ∧ (op ≠ 5 → (op = 6 → (op = 6 → R (.returned (.int .i64 2)) w) ∧ (op ≠ 6 → R (.returned (.int .i64 (-1))) w)) ∧ (op ≠ 6 → (op = 7 → (op = 7 → R (.returned (.int .i64 2)) w) ∧ (op ≠ 7 → R (.returned (.int .i64 (-1))) w)) ∧ (op ≠ 7 → (op = 9 → (op = 9 → R (.returned (.int .i64 2)) w) ∧ (op ≠ 9 → R (.returned (.int .i64 (-1))) w)) ∧ (op ≠ 9 → (op = 10 → (op = 10 → R (.returned (.int .i64 2)) w) ∧ (op ≠ 10 → R (.returned (.int .i64 (-1))) w)) ∧ (op ≠ 10 → (op = 11 → (op = 11 → R (.returned (.int .i64 2)) w) ∧ (op ≠ 11 → R (.returned (.int .i64 (-1))) w)) ∧ (op ≠ 11 → (op = 12 → (op = 12 → R (.returned (.int .i64 2)) w) ∧ (op ≠ 12 → R (.returned (.int .i64 (-1))) w)) ∧ (op ≠ 12 → (op = 13 → R (.returned (.int .i64 2)) w) ∧ (op ≠ 13 → R (.returned (.int .i64 (-1))) w)))))))))))) ∧ (op ≠ 15 → (op = 16 → R (.returned (.int .i64 1)) w) ∧ (op ≠ 16 → (op = 3 → (op = 3 → R (.returned (.int .i64 2)) w) ∧ (op ≠ 3 → R (.returned (.int .i64 (-1))) w)) ∧ (op ≠ 3 → (op = 4 → (op = 4 → R (.returned (.int .i64 2)) w) ∧ (op ≠ 4 → R (.returned (.int .i64 (-1))) w)) ∧ (op ≠ 4 → (op = 5 → (op = 5 → R (.returned (.int .i64 2)) w) ∧ (op ≠ 5 → R (.returned (.int .i64 (-1))) w)) ∧ (op ≠ 5 → (op = 6 → (op = 6 → R (.returned (.int .i64 2)) w) ∧ (op ≠ 6 → R (.returned (.int .i64 (-1))) w)) ∧ (op ≠ 6 → (op = 7 → (op = 7 → R (.returned (.int .i64 2)) w) ∧ (op ≠ 7 → R (.returned (.int .i64 (-1))) w)) ∧ (op ≠ 7 → (op = 9 → (op = 9 → R (.returned (.int .i64 2)) w) ∧ (op ≠ 9 → R (.returned (.int .i64 (-1))) w)) ∧ (op ≠ 9 → (op = 10 → (op = 10 → R (.returned (.int .i64 2)) w) ∧ (op ≠ 10 → R (.returned (.int .i64 (-1))) w)) ∧ (op ≠ 10 → (op = 11 → (op = 11 → R (.returned (.int .i64 2)) w) ∧ (op ≠ 11 → R (.returned (.int .i64 (-1))) w)) ∧ (op ≠ 11 → (op = 12 → (op = 12 → R (.returned (.int .i64 2)) w) ∧ (op ≠ 12 → R (.returned (.int .i64 (-1))) w)) ∧ (op ≠ 12 → (op = 13 → R (.returned (.int .i64 2)) w) ∧ (op ≠ 13 → R (.returned (.int .i64 (-1))) w))))))))))))))))

set_option maxRecDepth 100000 in
theorem many_eq (op : Int) (w : World) (R : Ending → World → Prop) : many_T op w R = vcFn Tryd.prog [] [] Tryd.f81 [.int .i64 op] w R := by kernel_rfl

set_option maxRecDepth 100000 in
theorem many_vc (op : Int) (w : World) (R : Ending → World → Prop) (hvc : many_T op w R) : Calls Tryd.prog 81 #[.int .i64 op] w R :=
  calls_of_vc (args := [.int .i64 op]) [] [] Tryd.mixed Tryd.func81 (cast (many_eq _ w R) hvc)

set_option maxRecDepth 100000 in
def rformed_T (x0 : Int) (x1 : ByteArray) (x2 : Int) (x3 : Int) (x4 : ByteArray) (x5_p : Option Addr) (x5_n : Nat) (x5_c : Nat) (depth : Int) (left : Int) (w : World) (R : Ending → World → Prop) : Prop :=
  ∀ b1 w'2, New w (Obj.cells #[.int .i64 x0, .string x1, .int .i64 x2, .int .i64 x3, .string x4, .slice x5_p x5_n x5_c] 29) b1
 w'2 → ∃ n4, w'2.cell? ⟨b1, 2, none⟩ = some (.int .i64 n4) ∧ ∃ n5, w'2.cell? ⟨b1, 3, none⟩ = some (.int .i64 n5) ∧ ∃ s6, w'2.cell? ⟨b1, 4, none⟩ = some (.string s6) ∧ Calls Tryd.prog 30 #[.agg #[.int .i64 n4, .int .i64 n5, .string s6]] w'2 fun e7 w8 ↦
 ∃ b9, e7 = .returned (.bool b9) ∧ ∀ w'10, Drew w8 w'10 → (depth < 1 ∨ left < 1 → SameTo none w'10 w'10 w'10 ∧ R (.returned (.int .i64 (-1))) w'10) ∧ (1 ≤ depth ∧ 1 ≤ left → ∃ p14 n15 c16, w'10.cell? ⟨b1, 5, none⟩ = some (.slice p14 n15 c16) ∧ ∃ n17, w'10.cell? ⟨b1, 0, none⟩ = some (.int .i64 n17) ∧ Calls Tryd.prog 81 #[.int .i64 n17] w'10 fun e18 w19 ↦
 ∃ n20, e18 = .returned (.int .i64 n20) ∧ SameTo none w'10 w'10 w19 ∧ ((↑n15 : Int) ≠ n20 ∨ b9 = false → R (.returned (.int .i64 (-1))) w19) ∧ ((↑n15 : Int) = n20 ∧ b9 = true → ∃ n23, w19.cell? ⟨b1, 0, none⟩ = some (.int .i64 n23) ∧ (n23 ≠ 1 → ∃ s25, w19.cell? ⟨b1, 1, none⟩ = some (.string s25) ∧ (s25 ≠ ByteArray.mk #[] → R (.returned (.int .i64 (-1))) w19) ∧ (s25 = ByteArray.mk #[] → ∃ n28, w19.cell? ⟨b1, 0, none⟩ = some (.int .i64 n28) ∧ (n28 ≠ 2 → ∃ n30, w19.cell? ⟨b1, 2, none⟩ = some (.int .i64 n30) ∧ ∃ n31, w19.cell? ⟨b1, 3, none⟩ = some (.int .i64 n31) ∧ ∃ s32, w19.cell? ⟨b1, 4, none⟩ = some (.string s32) ∧ (n30 ≠ 0 ∨ n31 ≠ 0 ∨ s32 ≠ ByteArray.mk #[] → R (.returned (.int .i64 (-1))) w19) ∧ (n30 = 0 ∧ n31 = 0 ∧ s32 = ByteArray.mk #[] → ∃ (I35 : Int → Int → World → Prop), ∃ (M36 : Int → Int → World → Nat), I35 (IntKind.i64.wrap (left - 1)) 0 w19 ∧ ∀ (n37 n38 : Int) (w'39 : World), I35 n37 n38 w'39 → ∃ p41 n42 c43, w'39.cell? ⟨b1, 5, none⟩ = some (.slice p41 n42 c43) ∧ (n38 < (↑n42 : Int) ∧ 0 ≤ n37 → ∃ p45 n46 c47, w'39.cell? ⟨b1, 5, none⟩ = some (.slice p45 n46 c47) ∧ ∃ b48, ∃ o49, p45 = some ⟨b48, o49, none⟩ ∧ 0 ≤ n38 ∧ n38 < (↑n46 : Int) ∧ ∃ n50, w'39.cell? ⟨b48, (o49 + n38.toNat * 6), none⟩ = some (.int .i64 n50) ∧ ∃ s51, w'39.cell? ⟨b48, (o49 + n38.toNat * 6 + 1), none⟩ = some (.string s51) ∧ ∃ n52, w'39.cell? ⟨b48, (o49 + n38.toNat * 6 + 2), none⟩ = some (.int .i64 n52) ∧ ∃ n53, w'39.cell? ⟨b48, (o49 + n38.toNat * 6 + 3), none⟩ = some (.int .i64 n53) ∧ ∃ s54, w'39.cell? ⟨b48, (o49 + n38.toNat * 6 + 4), none⟩ = some (.string s54) ∧ ∃ p55 n56 c57, w'39.cell? ⟨b48, (o49 + n38.toNat * 6 + 5), none⟩ = some (.slice p55 n56 c57) ∧ Calls Tryd.prog 53
 #[.agg #[.int .i64 n50, .string s51, .int .i64 n52, .int .i64 n53, .string s54, .slice p55 n56 c57], .int .i64 (IntKind.i64.wrap (depth - 1)), .int .i64 n37]
 w'39 fun e58 w59 ↦
 ∃ n60, e58 = .returned (.int .i64 n60) ∧ I35 n60 (IntKind.i64.wrap (n38 + 1)) w59 ∧ M36 n60 (IntKind.i64.wrap (n38 + 1)) w59 < M36 n37 n38 w'39) ∧ ((↑n42 : Int) ≤ n38 ∨ n37 < 0 → R (.returned (.int .i64 n37)) w'39))) ∧ (n28 = 2 → ∃ (I63 : Int → Int → World → Prop), ∃ (M64 : Int → Int → World → Nat), I63 (IntKind.i64.wrap (left - 1)) 0 w19 ∧ ∀ (n65 n66 : Int) (w'67 : World), I63 n65 n66 w'67 → ∃ p69 n70 c71, w'67.cell? ⟨b1, 5, none⟩ = some (.slice p69 n70 c71) ∧ (n66 < (↑n70 : Int) ∧ 0 ≤ n65 → ∃ p73 n74 c75, w'67.cell? ⟨b1, 5, none⟩ = some (.slice p73 n74 c75) ∧ ∃ b76, ∃ o77, p73 = some ⟨b76, o77, none⟩ ∧ 0 ≤ n66 ∧ n66 < (↑n74 : Int) ∧ ∃ n78, w'67.cell? ⟨b76, (o77 + n66.toNat * 6), none⟩ = some (.int .i64 n78) ∧ ∃ s79, w'67.cell? ⟨b76, (o77 + n66.toNat * 6 + 1), none⟩ = some (.string s79) ∧ ∃ n80, w'67.cell? ⟨b76, (o77 + n66.toNat * 6 + 2), none⟩ = some (.int .i64 n80) ∧ ∃ n81, w'67.cell? ⟨b76, (o77 + n66.toNat * 6 + 3), none⟩ = some (.int .i64 n81) ∧ ∃ s82, w'67.cell? ⟨b76, (o77 + n66.toNat * 6 + 4), none⟩ = some (.string s82) ∧ ∃ p83 n84 c85, w'67.cell? ⟨b76, (o77 + n66.toNat * 6 + 5), none⟩ = some (.slice p83 n84 c85) ∧ Calls Tryd.prog 53
 #[.agg #[.int .i64 n78, .string s79, .int .i64 n80, .int .i64 n81, .string s82, .slice p83 n84 c85], .int .i64 (IntKind.i64.wrap (depth - 1)), .int .i64 n65]
 w'67 fun e86 w87 ↦
 ∃ n88, e86 = .returned (.int .i64 n88) ∧ I63 n88 (IntKind.i64.wrap (n66 + 1)) w87 ∧ M64 n88 (IntKind.i64.wrap (n66 + 1)) w87 < M64 n65 n66 w'67) ∧ ((↑n70 : Int) ≤ n66 ∨ n65 < 0 → R (.returned (.int .i64 n65)) w'67)))) ∧ (n23 = 1 → ∃ n91, w19.cell? ⟨b1, 0, none⟩ = some (.int .i64 n91) ∧ (n91 ≠ 2 → ∃ n93, w19.cell? ⟨b1, 2, none⟩ = some (.int .i64 n93) ∧ ∃ n94, w19.cell? ⟨b1, 3, none⟩ = some (.int .i64 n94) ∧ ∃ s95, w19.cell? ⟨b1, 4, none⟩ = some (.string s95) ∧ (n93 ≠ 0 ∨ n94 ≠ 0 ∨ s95 ≠ ByteArray.mk #[] → R (.returned (.int .i64 (-1))) w19) ∧ (n93 = 0 ∧ n94 = 0 ∧ s95 = ByteArray.mk #[] → ∃ (I98 : Int → Int → World → Prop), ∃ (M99 : Int → Int → World → Nat), I98 (IntKind.i64.wrap (left - 1)) 0 w19 ∧ ∀ (n100 n101 : Int) (w'102 : World), I98 n100 n101 w'102 → ∃ p104 n105 c106, w'102.cell? ⟨b1, 5, none⟩ = some (.slice p104 n105 c106) ∧ (n101 < (↑n105 : Int) ∧ 0 ≤ n100 → ∃ p108 n109 c110, w'102.cell? ⟨b1, 5, none⟩ = some (.slice p108 n109 c110) ∧ ∃ b111, ∃ o112, p108 = some ⟨b111, o112, none⟩ ∧ 0 ≤ n101 ∧ n101 < (↑n109 : Int) ∧ ∃ n113, w'102.cell? ⟨b111, (o112 + n101.toNat * 6), none⟩ = some (.int .i64 n113) ∧ ∃ s114, w'102.cell? ⟨b111, (o112 + n101.toNat * 6 + 1), none⟩ = some (.string s114) ∧ ∃ n115, w'102.cell? ⟨b111, (o112 + n101.toNat * 6 + 2), none⟩ = some (.int .i64 n115) ∧ ∃ n116, w'102.cell? ⟨b111, (o112 + n101.toNat * 6 + 3), none⟩ = some (.int .i64 n116) ∧ ∃ s117, w'102.cell? ⟨b111, (o112 + n101.toNat * 6 + 4), none⟩ = some (.string s117) ∧ ∃ p118 n119 c120, w'102.cell? ⟨b111, (o112 + n101.toNat * 6 + 5), none⟩ = some (.slice p118 n119 c120) ∧ Calls Tryd.prog 53
 #[.agg #[.int .i64 n113, .string s114, .int .i64 n115, .int .i64 n116, .string s117, .slice p118 n119 c120], .int .i64 (IntKind.i64.wrap (depth - 1)), .int .i64 n100]
 w'102 fun e121 w122 ↦
 ∃ n123, e121 = .returned (.int .i64 n123) ∧ I98 n123 (IntKind.i64.wrap (n101 + 1)) w122 ∧ M99 n123 (IntKind.i64.wrap (n101 + 1)) w122 < M99 n100 n101 w'102) ∧ ((↑n105 : Int) ≤ n101 ∨ n100 < 0 → R (.returned (.int .i64 n100)) w'102))) ∧ (n91 = 2 → ∃ (I126 : Int → Int → World → Prop), ∃ (M127 : Int → Int → World → Nat), I126 (IntKind.i64.wrap (left - 1)) 0 w19 ∧ ∀ (n128 n129 : Int) (w'130 : World), I126 n128 n129 w'130 → ∃ p132 n133 c134, w'130.cell? ⟨b1, 5, none⟩ = some (.slice p132 n133 c134) ∧ (n129 < (↑n133 : Int) ∧ 0 ≤ n128 → ∃ p136 n137 c138, w'130.cell? ⟨b1, 5, none⟩ = some (.slice p136 n137 c138) ∧ ∃ b139, ∃ o140, p136 = some ⟨b139, o140, none⟩ ∧ 0 ≤ n129 ∧ n129 < (↑n137 : Int) ∧ ∃ n141, w'130.cell? ⟨b139, (o140 + n129.toNat * 6), none⟩ = some (.int .i64 n141) ∧ ∃ s142, w'130.cell? ⟨b139, (o140 + n129.toNat * 6 + 1), none⟩ = some (.string s142) ∧ ∃ n143, w'130.cell? ⟨b139, (o140 + n129.toNat * 6 + 2), none⟩ = some (.int .i64 n143) ∧ ∃ n144, w'130.cell? ⟨b139, (o140 + n129.toNat * 6 + 3), none⟩ = some (.int .i64 n144) ∧ ∃ s145, w'130.cell? ⟨b139, (o140 + n129.toNat * 6 + 4), none⟩ = some (.string s145) ∧ ∃ p146 n147 c148, w'130.cell? ⟨b139, (o140 + n129.toNat * 6 + 5), none⟩ = some (.slice p146 n147 c148) ∧ Calls Tryd.prog 53
 #[.agg #[.int .i64 n141, .string s142, .int .i64 n143, .int .i64 n144, .string s145, .slice p146 n147 c148], .int .i64 (IntKind.i64.wrap (depth - 1)), .int .i64 n128]
 w'130 fun e149 w150 ↦
 ∃ n151, e149 = .returned (.int .i64 n151) ∧ I126 n151 (IntKind.i64.wrap (n129 + 1)) w150 ∧ M127 n151 (IntKind.i64.wrap (n129 + 1)) w150 < M127 n128 n129 w'130) ∧ ((↑n133 : Int) ≤ n129 ∨ n128 < 0 → R (.returned (.int .i64 n128)) w'130)))))

set_option maxRecDepth 100000 in
theorem rformed_eq (x0 : Int) (x1 : ByteArray) (x2 : Int) (x3 : Int) (x4 : ByteArray) (x5_p : Option Addr) (x5_n : Nat) (x5_c : Nat) (depth : Int) (left : Int) (w : World) (R : Ending → World → Prop) : rformed_T x0 x1 x2 x3 x4 x5_p x5_n x5_c depth left w R = vcFn Tryd.prog [] [(2, [2, 4, 6, 8, 10, 12, 14, 16, 18, 20, 22, 24, 27, 28, 30, 32, 34, 36, 38, 40, 42, 44, 46, 48, 50, 52, 54, 56, 58, 60, 62, 64, 66, 68, 70, 72, 74, 76, 78, 80, 0])] Tryd.f53 [Value.agg
 #[.int .i64 x0, .string x1, .int .i64 x2, .int .i64 x3, .string x4, .slice x5_p x5_n x5_c], .int .i64 depth, .int .i64 left] w R := by kernel_rfl

set_option maxRecDepth 100000 in
theorem rformed_vc (x0 : Int) (x1 : ByteArray) (x2 : Int) (x3 : Int) (x4 : ByteArray) (x5_p : Option Addr) (x5_n : Nat) (x5_c : Nat) (depth : Int) (left : Int) (w : World) (R : Ending → World → Prop) (hvc : rformed_T x0 x1 x2 x3 x4 x5_p x5_n x5_c depth left w R) : Calls Tryd.prog 53 #[Value.agg
 #[.int .i64 x0, .string x1, .int .i64 x2, .int .i64 x3, .string x4, .slice x5_p x5_n x5_c], .int .i64 depth, .int .i64 left] w R :=
  calls_of_vc (args := [Value.agg
 #[.int .i64 x0, .string x1, .int .i64 x2, .int .i64 x3, .string x4, .slice x5_p x5_n x5_c], .int .i64 depth, .int .i64 left]) [] [(2, [2, 4, 6, 8, 10, 12, 14, 16, 18, 20, 22, 24, 27, 28, 30, 32, 34, 36, 38, 40, 42, 44, 46, 48, 50, 52, 54, 56, 58, 60, 62, 64, 66, 68, 70, 72, 74, 76, 78, 80, 0])] Tryd.mixed Tryd.func53 (cast (rformed_eq _ _ _ _ _ _ _ _ _ _ w R) hvc)

set_option maxRecDepth 100000 in
def rFormed_T (x0 : Int) (x1 : ByteArray) (x2 : Int) (x3 : Int) (x4 : ByteArray) (x5_p : Option Addr) (x5_n : Nat) (x5_c : Nat) (w : World) (R : Ending → World → Prop) : Prop :=
  ∀ b1 w'2, New w (Obj.cells #[.int .i64 x0, .string x1, .int .i64 x2, .int .i64 x3, .string x4, .slice x5_p x5_n x5_c] 29) b1
 w'2 → ∃ n4, w'2.cell? ⟨b1, 0, none⟩ = some (.int .i64 n4) ∧ ∃ s5, w'2.cell? ⟨b1, 1, none⟩ = some (.string s5) ∧ ∃ n6, w'2.cell? ⟨b1, 2, none⟩ = some (.int .i64 n6) ∧ ∃ n7, w'2.cell? ⟨b1, 3, none⟩ = some (.int .i64 n7) ∧ ∃ s8, w'2.cell? ⟨b1, 4, none⟩ = some (.string s8) ∧ ∃ p9 n10 c11, w'2.cell? ⟨b1, 5, none⟩ = some (.slice p9 n10 c11) ∧ Calls Tryd.prog 53
 #[.agg #[.int .i64 n4, .string s5, .int .i64 n6, .int .i64 n7, .string s8, .slice p9 n10 c11], .int .i64 40, .int .i64 400]
 w'2 fun e12 w13 ↦ ∃ n14, e12 = .returned (.int .i64 n14) ∧ R (.returned (.bool (decide (0 ≤ n14)))) w13

set_option maxRecDepth 100000 in
theorem rFormed_eq (x0 : Int) (x1 : ByteArray) (x2 : Int) (x3 : Int) (x4 : ByteArray) (x5_p : Option Addr) (x5_n : Nat) (x5_c : Nat) (w : World) (R : Ending → World → Prop) : rFormed_T x0 x1 x2 x3 x4 x5_p x5_n x5_c w R = vcFn Tryd.prog [] [] Tryd.f36 [Value.agg
 #[.int .i64 x0, .string x1, .int .i64 x2, .int .i64 x3, .string x4, .slice x5_p x5_n x5_c]] w R := by kernel_rfl

set_option maxRecDepth 100000 in
theorem rFormed_vc (x0 : Int) (x1 : ByteArray) (x2 : Int) (x3 : Int) (x4 : ByteArray) (x5_p : Option Addr) (x5_n : Nat) (x5_c : Nat) (w : World) (R : Ending → World → Prop) (hvc : rFormed_T x0 x1 x2 x3 x4 x5_p x5_n x5_c w R) : Calls Tryd.prog 36 #[Value.agg
 #[.int .i64 x0, .string x1, .int .i64 x2, .int .i64 x3, .string x4, .slice x5_p x5_n x5_c]] w R :=
  calls_of_vc (args := [Value.agg
 #[.int .i64 x0, .string x1, .int .i64 x2, .int .i64 x3, .string x4, .slice x5_p x5_n x5_c]]) [] [] Tryd.mixed Tryd.func36 (cast (rFormed_eq _ _ _ _ _ _ _ _ w R) hvc)

end Go.Proofs.YtdephmdfdgclpaaDoor

/- The verification conditions of the functions, evaluated: printed by program. -/
namespace Go.Proofs.YtdephmdfdgclpaaDoor
open Go Go.Vc
set_option maxRecDepth 20000

set_option maxRecDepth 100000 in
def nodes_T (x0 : Int) (x1 : ByteArray) (x2 : Int) (x3 : Int) (x4 : ByteArray) (x5_p : Option Addr) (x5_n : Nat) (x5_c : Nat) (depth : Int) (w : World) (R : Ending → World → Prop) : Prop :=
  ∀ b1 w'2, New w (Obj.cells #[.int .i64 x0, .string x1, .int .i64 x2, .int .i64 x3, .string x4, .slice x5_p x5_n x5_c] 29) b1
 w'2 → ∀ b4 w'5, New w'2 (Obj.cells #[.int .i64 depth] 3) b4 w'5 → R (.returned (.func (Fn.func 47) #[] #[.pointer (some ⟨b4, 0, none⟩), .pointer (some ⟨b1, 0, none⟩)])) w'5

set_option maxRecDepth 100000 in
theorem nodes_eq (x0 : Int) (x1 : ByteArray) (x2 : Int) (x3 : Int) (x4 : ByteArray) (x5_p : Option Addr) (x5_n : Nat) (x5_c : Nat) (depth : Int) (w : World) (R : Ending → World → Prop) : nodes_T x0 x1 x2 x3 x4 x5_p x5_n x5_c depth w R = vcFn Tryd.prog [] [] Tryd.f31 [Value.agg
 #[.int .i64 x0, .string x1, .int .i64 x2, .int .i64 x3, .string x4, .slice x5_p x5_n x5_c], .int .i64 depth] w R := by kernel_rfl

set_option maxRecDepth 100000 in
theorem nodes_vc (x0 : Int) (x1 : ByteArray) (x2 : Int) (x3 : Int) (x4 : ByteArray) (x5_p : Option Addr) (x5_n : Nat) (x5_c : Nat) (depth : Int) (w : World) (R : Ending → World → Prop) (hvc : nodes_T x0 x1 x2 x3 x4 x5_p x5_n x5_c depth w R) : Calls Tryd.prog 31 #[Value.agg
 #[.int .i64 x0, .string x1, .int .i64 x2, .int .i64 x3, .string x4, .slice x5_p x5_n x5_c], .int .i64 depth] w R :=
  calls_of_vc (args := [Value.agg
 #[.int .i64 x0, .string x1, .int .i64 x2, .int .i64 x3, .string x4, .slice x5_p x5_n x5_c], .int .i64 depth]) [] [] Tryd.mixed Tryd.func31 (cast (nodes_eq _ _ _ _ _ _ _ _ _ w R) hvc)

set_option maxRecDepth 100000 in
def nodes1_T (l0 : Nat) (fv0 : Nat) (fv1 : Nat) (w : World) (R : Ending → World → Prop) : Prop :=
  ∀ b1 w'2, New w (Obj.cells #[.func (Fn.yield l0) #[] #[]] 68) b1 w'2 → ∃ v4, w'2.cell? ⟨b1, 0, none⟩ = some v4 ∧ ∃ n5, w'2.cell? ⟨fv0, 0, none⟩ = some (.int .i64 n5) ∧ ∃ n6, w'2.cell? ⟨fv1, 0, none⟩ = some (.int .i64 n6) ∧ ∃ s7, w'2.cell? ⟨fv1, 1, none⟩ = some (.string s7) ∧ ∃ n8, w'2.cell? ⟨fv1, 2, none⟩ = some (.int .i64 n8) ∧ ∃ n9, w'2.cell? ⟨fv1, 3, none⟩ = some (.int .i64 n9) ∧ ∃ s10, w'2.cell? ⟨fv1, 4, none⟩ = some (.string s10) ∧ ∃ p11 n12 c13, w'2.cell? ⟨fv1, 5, none⟩ = some (.slice p11 n12 c13) ∧ ∃ l14, v4 = .func (Fn.yield l14) #[] #[] ∧ Yield Tryd.prog l14
 #[.int .i64 n5, .agg #[.int .i64 n6, .string s7, .int .i64 n8, .int .i64 n9, .string s10, .slice p11 n12 c13]]
 w'2 fun (b15 : Bool) (w16 : World) ↦
 (b15 = false → R (.returned (.tuple #[])) w16) ∧ (b15 = true → ∃ n19, w16.cell? ⟨fv0, 0, none⟩ = some (.int .i64 n19) ∧ (40 < n19 → R (.returned (.tuple #[])) w16) ∧ (n19 ≤ 40 → ∃ p22 n23 c24, w16.cell? ⟨fv1, 5, none⟩ = some (.slice p22 n23 c24) ∧ ∃ (I25 : Int → World → Prop), ∃ (M26 : Int → World → Nat), ∃ B27, I25 0 w16 ∧ Vc.Open B27 [] w16 ∧ ∀ (n28 : Int) (w'29 : World), I25 n28 w'29 → ∀ (ds'31 : List Nat), Vc.Open B27 ds'31 w'29 → (n28 < (↑n23 : Int) → ∃ b34, ∃ o35, p22 = some ⟨b34, o35, none⟩ ∧ 0 ≤ n28 ∧ n28 < (↑n23 : Int) ∧ ∃ n36, w'29.cell? ⟨b34, (o35 + n28.toNat * 6), none⟩ = some (.int .i64 n36) ∧ ∃ s37, w'29.cell? ⟨b34, (o35 + n28.toNat * 6 + 1), none⟩ = some (.string s37) ∧ ∃ n38, w'29.cell? ⟨b34, (o35 + n28.toNat * 6 + 2), none⟩ = some (.int .i64 n38) ∧ ∃ n39, w'29.cell? ⟨b34, (o35 + n28.toNat * 6 + 3), none⟩ = some (.int .i64 n39) ∧ ∃ s40, w'29.cell? ⟨b34, (o35 + n28.toNat * 6 + 4), none⟩ = some (.string s40) ∧ ∃ p41 n42 c43, w'29.cell? ⟨b34, (o35 + n28.toNat * 6 + 5), none⟩ = some (.slice p41 n42 c43) ∧ ∀ b44 w'45, New w'29
 (Obj.cells
 #[.int .i64 0, .string ⟨#[]⟩, .int .i64 0, .int .i64 0, .string ⟨#[]⟩, .slice none 0 0] 29)
 b44 w'45 → (∃ u47, w'45.cell? ⟨b44, 0, none⟩ = some u47) ∧ w'45.frozen? ⟨b44, 0, none⟩ = false ∧ (∃ u48, w'45.cell? ⟨b44, 1, none⟩ = some u48) ∧ w'45.frozen? ⟨b44, 1, none⟩ = false ∧ (∃ u49, w'45.cell? ⟨b44, 2, none⟩ = some u49) ∧ w'45.frozen? ⟨b44, 2, none⟩ = false ∧ (∃ u50, w'45.cell? ⟨b44, 3, none⟩ = some u50) ∧ w'45.frozen? ⟨b44, 3, none⟩ = false ∧ (∃ u51, w'45.cell? ⟨b44, 4, none⟩ = some u51) ∧ w'45.frozen? ⟨b44, 4, none⟩ = false ∧ (∃ u52, w'45.cell? ⟨b44, 5, none⟩ = some u52) ∧ w'45.frozen? ⟨b44, 5, none⟩ = false ∧ ∀ w'53, Put w'45 b44 0 [.int .i64 n36, .string s37, .int .i64 n38, .int .i64 n39, .string s40, .slice p41 n42 c43] w'53 → ∃ n55, w'53.cell? ⟨b44, 0, none⟩ = some (.int .i64 n55) ∧ ∃ s56, w'53.cell? ⟨b44, 1, none⟩ = some (.string s56) ∧ ∃ n57, w'53.cell? ⟨b44, 2, none⟩ = some (.int .i64 n57) ∧ ∃ n58, w'53.cell? ⟨b44, 3, none⟩ = some (.int .i64 n58) ∧ ∃ s59, w'53.cell? ⟨b44, 4, none⟩ = some (.string s59) ∧ ∃ p60 n61 c62, w'53.cell? ⟨b44, 5, none⟩ = some (.slice p60 n61 c62) ∧ ∃ n63, w'53.cell? ⟨fv0, 0, none⟩ = some (.int .i64 n63) ∧ Calls Tryd.prog 31
 #[.agg #[.int .i64 n55, .string s56, .int .i64 n57, .int .i64 n58, .string s59, .slice p60 n61 c62], .int .i64 (IntKind.i64.wrap (n63 + 1))]
 w'53 fun e64 w65 ↦
 ∃ v66, e64 = .returned v66 ∧ ∃ (g67 : FuncId), ∃ (lb68 : Array Value), v66 = .func (Fn.func g67) #[] lb68 ∧ enterable Tryd.prog g67 = true ∧ ∀ (r69 : Nat → Loop) (d70 l71 : Nat) (w172 : World), Began w65 r69 d70 l71 w172 → (∀ (n74 n75 : Int) (s76 : ByteArray) (n77 n78 : Int) (s79 : ByteArray) (p80 : Option Addr) (n81 c82 : Nat) (W83 : World) (R84 : Bool → World → Prop), Rec r69 l71 0 W83 → (∀ b86 w'87, New W83
 (Obj.cells
 #[.int .i64 0, .string ⟨#[]⟩, .int .i64 0, .int .i64 0, .string ⟨#[]⟩, .slice none 0 0] 29)
 b86 w'87 → (∃ u89, w'87.cell? ⟨b86, 0, none⟩ = some u89) ∧ w'87.frozen? ⟨b86, 0, none⟩ = false ∧ (∃ u90, w'87.cell? ⟨b86, 1, none⟩ = some u90) ∧ w'87.frozen? ⟨b86, 1, none⟩ = false ∧ (∃ u91, w'87.cell? ⟨b86, 2, none⟩ = some u91) ∧ w'87.frozen? ⟨b86, 2, none⟩ = false ∧ (∃ u92, w'87.cell? ⟨b86, 3, none⟩ = some u92) ∧ w'87.frozen? ⟨b86, 3, none⟩ = false ∧ (∃ u93, w'87.cell? ⟨b86, 4, none⟩ = some u93) ∧ w'87.frozen? ⟨b86, 4, none⟩ = false ∧ (∃ u94, w'87.cell? ⟨b86, 5, none⟩ = some u94) ∧ w'87.frozen? ⟨b86, 5, none⟩ = false ∧ ∀ w'95, Put w'87 b86 0 [.int .i64 n75, .string s76, .int .i64 n77, .int .i64 n78, .string s79, .slice p80 n81 c82] w'95 → Rec r69 l71 0 w'95 ∧ ∀ (Wb97 : World), Wb97 = turn r69 l71 1 w'95 → ∃ v99, Wb97.cell? ⟨b1, 0, none⟩ = some v99 ∧ ∃ n100, Wb97.cell? ⟨b86, 0, none⟩ = some (.int .i64 n100) ∧ ∃ s101, Wb97.cell? ⟨b86, 1, none⟩ = some (.string s101) ∧ ∃ n102, Wb97.cell? ⟨b86, 2, none⟩ = some (.int .i64 n102) ∧ ∃ n103, Wb97.cell? ⟨b86, 3, none⟩ = some (.int .i64 n103) ∧ ∃ s104, Wb97.cell? ⟨b86, 4, none⟩ = some (.string s104) ∧ ∃ p105 n106 c107, Wb97.cell? ⟨b86, 5, none⟩ = some (.slice p105 n106 c107) ∧ ∃ l108, v99 = .func (Fn.yield l108) #[] #[] ∧ Yield Tryd.prog l108
 #[.int .i64 n74, .agg #[.int .i64 n100, .string s101, .int .i64 n102, .int .i64 n103, .string s104, .slice p105 n106 c107]]
 Wb97 fun (b109 : Bool) (w110 : World) ↦
 (b109 = false → Rec r69 l71 1 w110 ∧ R84 false (turn r69 l71 3 w110)) ∧ (b109 = true → Rec r69 l71 1 w110 ∧ R84 true (turn r69 l71 0 w110))) → Yield Tryd.prog l71
 #[.int .i64 n74, .agg #[.int .i64 n75, .string s76, .int .i64 n77, .int .i64 n78, .string s79, .slice p80 n81 c82]]
 W83 fun (b114 : Bool) (w115 : World) ↦ R84 b114 w115) → Calls Tryd.prog g67 (.func (Fn.yield l71) #[] #[] :: lb68.1).toArray w172 fun e117 w118 ↦
 (∃ v119, e117 = .returned v119) ∧ (Rec r69 l71 0 w118 ∧ Vc.Open B27 (d70 :: ds'31) (turn r69 l71 2 w118) ∧ I25 (IntKind.i64.wrap (n28 + 1)) (turn r69 l71 2 w118) ∧ M26 (IntKind.i64.wrap (n28 + 1)) (turn r69 l71 2 w118) < M26 n28 w'29 ∨
 (Rec r69 l71 3 w118 ∧ (turn r69 l71 4 w118).heap[d70]? = some (Obj.deferred (some [])) ∧ unD ds'31 ((turn r69 l71 4 w118).putObj d70 (Obj.deferred none)) fun (w122 : World) ↦ R (.returned (.tuple #[])) w122) ∨
 False)) ∧ ((↑n23 : Int) ≤ n28 → unD ds'31 w'29 fun (w124 : World) ↦ R (.returned (.tuple #[])) w124)))

set_option maxRecDepth 100000 in
theorem nodes1_eq (l0 : Nat) (fv0 : Nat) (fv1 : Nat) (w : World) (R : Ending → World → Prop) : nodes1_T l0 fv0 fv1 w R = vcFn Tryd.prog [] [] Tryd.f47 [.func (Fn.yield l0) #[] #[], .pointer (some ⟨fv0, 0, none⟩), .pointer (some ⟨fv1, 0, none⟩)] w R := by kernel_rfl

set_option maxRecDepth 100000 in
theorem nodes1_vc (l0 : Nat) (fv0 : Nat) (fv1 : Nat) (w : World) (R : Ending → World → Prop) (hvc : nodes1_T l0 fv0 fv1 w R) : Calls Tryd.prog 47 #[.func (Fn.yield l0) #[] #[], .pointer (some ⟨fv0, 0, none⟩), .pointer (some ⟨fv1, 0, none⟩)] w R :=
  calls_of_vc (args := [.func (Fn.yield l0) #[] #[], .pointer (some ⟨fv0, 0, none⟩), .pointer (some ⟨fv1, 0, none⟩)]) [] [] Tryd.mixed Tryd.func47 (cast (nodes1_eq _ _ _ w R) hvc)

set_option maxRecDepth 100000 in
def xformed_T (x0 : Int) (x1 : ByteArray) (x2 : Int) (x3 : Int) (x4 : ByteArray) (x5_p : Option Addr) (x5_n : Nat) (x5_c : Nat) (w : World) (R : Ending → World → Prop) : Prop :=
  ∀ b1 w'2, New w (Obj.cells #[.int .i64 x0, .string x1, .int .i64 x2, .int .i64 x3, .string x4, .slice x5_p x5_n x5_c] 29) b1
 w'2 → ∀ b4 w'5, New w'2 (Obj.cells #[.bool false] 4) b4 w'5 → ∀ b7 w'8, New w'5 (Obj.cells #[.int .i64 0] 3) b7 w'8 → (∃ u10, w'8.cell? ⟨b7, 0, none⟩ = some u10) ∧ w'8.frozen? ⟨b7, 0, none⟩ = false ∧ ∀ w'11, Put w'8 b7 0 [.int .i64 0] w'11 → ∃ n13, w'11.cell? ⟨b1, 0, none⟩ = some (.int .i64 n13) ∧ ∃ s14, w'11.cell? ⟨b1, 1, none⟩ = some (.string s14) ∧ ∃ n15, w'11.cell? ⟨b1, 2, none⟩ = some (.int .i64 n15) ∧ ∃ n16, w'11.cell? ⟨b1, 3, none⟩ = some (.int .i64 n16) ∧ ∃ s17, w'11.cell? ⟨b1, 4, none⟩ = some (.string s17) ∧ ∃ p18 n19 c20, w'11.cell? ⟨b1, 5, none⟩ = some (.slice p18 n19 c20) ∧ Calls Tryd.prog 31
 #[.agg #[.int .i64 n13, .string s14, .int .i64 n15, .int .i64 n16, .string s17, .slice p18 n19 c20], .int .i64 1]
 w'11 fun e21 w22 ↦
 ∃ v23, e21 = .returned v23 ∧ ∃ (g24 : FuncId), ∃ (lb25 : Array Value), v23 = .func (Fn.func g24) #[] lb25 ∧ enterable Tryd.prog g24 = true ∧ ∀ (r26 : Nat → Loop) (d27 l28 : Nat) (w129 : World), Began w22 r26 d27 l28 w129 → (∀ (n31 n32 : Int) (s33 : ByteArray) (n34 n35 : Int) (s36 : ByteArray) (p37 : Option Addr) (n38 c39 : Nat) (W40 : World) (R41 : Bool → World → Prop), Rec r26 l28 0 W40 → (∀ b43 w'44, New W40
 (Obj.cells
 #[.int .i64 0, .string ⟨#[]⟩, .int .i64 0, .int .i64 0, .string ⟨#[]⟩, .slice none 0 0] 29)
 b43 w'44 → (∃ u46, w'44.cell? ⟨b43, 0, none⟩ = some u46) ∧ w'44.frozen? ⟨b43, 0, none⟩ = false ∧ (∃ u47, w'44.cell? ⟨b43, 1, none⟩ = some u47) ∧ w'44.frozen? ⟨b43, 1, none⟩ = false ∧ (∃ u48, w'44.cell? ⟨b43, 2, none⟩ = some u48) ∧ w'44.frozen? ⟨b43, 2, none⟩ = false ∧ (∃ u49, w'44.cell? ⟨b43, 3, none⟩ = some u49) ∧ w'44.frozen? ⟨b43, 3, none⟩ = false ∧ (∃ u50, w'44.cell? ⟨b43, 4, none⟩ = some u50) ∧ w'44.frozen? ⟨b43, 4, none⟩ = false ∧ (∃ u51, w'44.cell? ⟨b43, 5, none⟩ = some u51) ∧ w'44.frozen? ⟨b43, 5, none⟩ = false ∧ ∀ w'52, Put w'44 b43 0 [.int .i64 n32, .string s33, .int .i64 n34, .int .i64 n35, .string s36, .slice p37 n38 c39] w'52 → Rec r26 l28 0 w'52 ∧ ∀ (Wb54 : World), Wb54 = turn r26 l28 1 w'52 → ∃ n56, Wb54.cell? ⟨b7, 0, none⟩ = some (.int .i64 n56) ∧ (∃ u57, Wb54.cell? ⟨b7, 0, none⟩ = some u57) ∧ Wb54.frozen? ⟨b7, 0, none⟩ = false ∧ ∀ w'58, Put Wb54 b7 0 [.int .i64 (IntKind.i64.wrap (n56 + 1))] w'58 → ∀ w'60, Drew w'58 w'60 → (40 < n31 → (∃ u63, w'60.cell? ⟨b4, 0, none⟩ = some u63) ∧ w'60.frozen? ⟨b4, 0, none⟩ = false ∧ ∀ w'64, Put w'60 b4 0 [.bool false] w'64 → Rec r26 l28 1 w'64 ∧ R41 false (turn r26 l28 3 w'64)) ∧ (n31 ≤ 40 → ∃ n67, w'60.cell? ⟨b7, 0, none⟩ = some (.int .i64 n67) ∧ (400 < n67 → (∃ u69, w'60.cell? ⟨b4, 0, none⟩ = some u69) ∧ w'60.frozen? ⟨b4, 0, none⟩ = false ∧ ∀ w'70, Put w'60 b4 0 [.bool false] w'70 → Rec r26 l28 1 w'70 ∧ R41 false (turn r26 l28 3 w'70)) ∧ (n67 ≤ 400 → ∃ n73, w'60.cell? ⟨b43, 0, none⟩ = some (.int .i64 n73) ∧ (n73 < 1 → (∃ u75, w'60.cell? ⟨b4, 0, none⟩ = some u75) ∧ w'60.frozen? ⟨b4, 0, none⟩ = false ∧ ∀ w'76, Put w'60 b4 0 [.bool false] w'76 → Rec r26 l28 1 w'76 ∧ R41 false (turn r26 l28 3 w'76)) ∧ (1 ≤ n73 → ∃ n79, w'60.cell? ⟨b43, 0, none⟩ = some (.int .i64 n79) ∧ (17 ≤ n79 → (∃ u81, w'60.cell? ⟨b4, 0, none⟩ = some u81) ∧ w'60.frozen? ⟨b4, 0, none⟩ = false ∧ ∀ w'82, Put w'60 b4 0 [.bool false] w'82 → Rec r26 l28 1 w'82 ∧ R41 false (turn r26 l28 3 w'82)) ∧ (n79 < 17 → ∃ p85 n86 c87, w'60.cell? ⟨b43, 5, none⟩ = some (.slice p85 n86 c87) ∧ ∃ n88, w'60.cell? ⟨b43, 0, none⟩ = some (.int .i64 n88) ∧ 0 ≤ n88 ∧ n88 < 17 ∧ ∃ n89, w'60.cell? ⟨0, (0 + n88.toNat * 3), none⟩ = some (.int .i64 n89) ∧ ((↑n86 : Int) ≠ n89 → (∃ u91, w'60.cell? ⟨b4, 0, none⟩ = some u91) ∧ w'60.frozen? ⟨b4, 0, none⟩ = false ∧ ∀ w'92, Put w'60 b4 0 [.bool false] w'92 → Rec r26 l28 1 w'92 ∧ R41 false (turn r26 l28 3 w'92)) ∧ ((↑n86 : Int) = n89 → ∃ n95, w'60.cell? ⟨b43, 0, none⟩ = some (.int .i64 n95) ∧ (n95 ≠ 1 → ∃ s97, w'60.cell? ⟨b43, 1, none⟩ = some (.string s97) ∧ (s97 ≠ ByteArray.mk #[] → (∃ u99, w'60.cell? ⟨b4, 0, none⟩ = some u99) ∧ w'60.frozen? ⟨b4, 0, none⟩ = false ∧ ∀ w'100, Put w'60 b4 0 [.bool false] w'100 → Rec r26 l28 1 w'100 ∧ R41 false (turn r26 l28 3 w'100)) ∧ (s97 = ByteArray.mk #[] → ∃ n103, w'60.cell? ⟨b43, 0, none⟩ = some (.int .i64 n103) ∧ (n103 ≠ 2 → ∃ n105, w'60.cell? ⟨b43, 2, none⟩ = some (.int .i64 n105) ∧ ∃ n106, w'60.cell? ⟨b43, 3, none⟩ = some (.int .i64 n106) ∧ ∃ s107, w'60.cell? ⟨b43, 4, none⟩ = some (.string s107) ∧ (n105 ≠ 0 ∨ n106 ≠ 0 ∨ s107 ≠ ByteArray.mk #[] → (∃ u109, w'60.cell? ⟨b4, 0, none⟩ = some u109) ∧ w'60.frozen? ⟨b4, 0, none⟩ = false ∧ ∀ w'110, Put w'60 b4 0 [.bool false] w'110 → Rec r26 l28 1 w'110 ∧ R41 false (turn r26 l28 3 w'110)) ∧ (n105 = 0 ∧ n106 = 0 ∧ s107 = ByteArray.mk #[] → ∃ n113, w'60.cell? ⟨b43, 2, none⟩ = some (.int .i64 n113) ∧ ∃ n114, w'60.cell? ⟨b43, 3, none⟩ = some (.int .i64 n114) ∧ ∃ s115, w'60.cell? ⟨b43, 4, none⟩ = some (.string s115) ∧ Calls Tryd.prog 43 #[.agg #[.int .i64 n113, .int .i64 n114, .string s115]] w'60 fun e116 w117 ↦
 ∃ b118, e116 = .returned (.bool b118) ∧ (b118 = false → (∃ u120, w117.cell? ⟨b4, 0, none⟩ = some u120) ∧ w117.frozen? ⟨b4, 0, none⟩ = false ∧ ∀ w'121, Put w117 b4 0 [.bool false] w'121 → Rec r26 l28 1 w'121 ∧ R41 false (turn r26 l28 3 w'121)) ∧ (b118 = true → Rec r26 l28 1 w117 ∧ R41 true (turn r26 l28 0 w117)))) ∧ (n103 = 2 → ∃ n125, w'60.cell? ⟨b43, 2, none⟩ = some (.int .i64 n125) ∧ ∃ n126, w'60.cell? ⟨b43, 3, none⟩ = some (.int .i64 n126) ∧ ∃ s127, w'60.cell? ⟨b43, 4, none⟩ = some (.string s127) ∧ Calls Tryd.prog 43 #[.agg #[.int .i64 n125, .int .i64 n126, .string s127]] w'60 fun e128 w129 ↦
 ∃ b130, e128 = .returned (.bool b130) ∧ (b130 = false → (∃ u132, w129.cell? ⟨b4, 0, none⟩ = some u132) ∧ w129.frozen? ⟨b4, 0, none⟩ = false ∧ ∀ w'133, Put w129 b4 0 [.bool false] w'133 → Rec r26 l28 1 w'133 ∧ R41 false (turn r26 l28 3 w'133)) ∧ (b130 = true → Rec r26 l28 1 w129 ∧ R41 true (turn r26 l28 0 w129))))) ∧ (n95 = 1 → ∃ n137, w'60.cell? ⟨b43, 0, none⟩ = some (.int .i64 n137) ∧ (n137 ≠ 2 → ∃ n139, w'60.cell? ⟨b43, 2, none⟩ = some (.int .i64 n139) ∧ ∃ n140, w'60.cell? ⟨b43, 3, none⟩ = some (.int .i64 n140) ∧ ∃ s141, w'60.cell? ⟨b43, 4, none⟩ = some (.string s141) ∧ (n139 ≠ 0 ∨ n140 ≠ 0 ∨ s141 ≠ ByteArray.mk #[] → (∃ u143, w'60.cell? ⟨b4, 0, none⟩ = some u143) ∧ w'60.frozen? ⟨b4, 0, none⟩ = false ∧ ∀ w'144, Put w'60 b4 0 [.bool false] w'144 → Rec r26 l28 1 w'144 ∧ R41 false (turn r26 l28 3 w'144)) ∧ (n139 = 0 ∧ n140 = 0 ∧ s141 = ByteArray.mk #[] → ∃ n147, w'60.cell? ⟨b43, 2, none⟩ = some (.int .i64 n147) ∧ ∃ n148, w'60.cell? ⟨b43, 3, none⟩ = some (.int .i64 n148) ∧ ∃ s149, w'60.cell? ⟨b43, 4, none⟩ = some (.string s149) ∧ Calls Tryd.prog 43 #[.agg #[.int .i64 n147, .int .i64 n148, .string s149]] w'60 fun e150 w151 ↦
 ∃ b152, e150 = .returned (.bool b152) ∧ (b152 = false → (∃ u154, w151.cell? ⟨b4, 0, none⟩ = some u154) ∧ w151.frozen? ⟨b4, 0, none⟩ = false ∧ ∀ w'155, Put w151 b4 0 [.bool false] w'155 → Rec r26 l28 1 w'155 ∧ R41 false (turn r26 l28 3 w'155)) ∧ (b152 = true → Rec r26 l28 1 w151 ∧ R41 true (turn r26 l28 0 w151)))) ∧ (n137 = 2 → ∃ n159, w'60.cell? ⟨b43, 2, none⟩ = some (.int .i64 n159) ∧ ∃ n160, w'60.cell? ⟨b43, 3, none⟩ = some (.int .i64 n160) ∧ ∃ s161, w'60.cell? ⟨b43, 4, none⟩ = some (.string s161) ∧ Calls Tryd.prog 43 #[.agg #[.int .i64 n159, .int .i64 n160, .string s161]] w'60 fun e162 w163 ↦
 ∃ b164, e162 = .returned (.bool b164) ∧ (b164 = false → (∃ u166, w163.cell? ⟨b4, 0, none⟩ = some u166) ∧ w163.frozen? ⟨b4, 0, none⟩ = false ∧ ∀ w'167, Put w163 b4 0 [.bool false] w'167 → Rec r26 l28 1 w'167 ∧ R41 false (turn r26 l28 3 w'167)) ∧ (b164 = true → Rec r26 l28 1 w163 ∧ R41 true (turn r26 l28 0 w163)))))))))) → Yield Tryd.prog l28
 #[.int .i64 n31, .agg #[.int .i64 n32, .string s33, .int .i64 n34, .int .i64 n35, .string s36, .slice p37 n38 c39]]
 W40 fun (b171 : Bool) (w172 : World) ↦ R41 b171 w172) → Calls Tryd.prog g24 (.func (Fn.yield l28) #[] #[] :: lb25.1).toArray w129 fun e174 w175 ↦
 (∃ v176, e174 = .returned v176) ∧ ((Rec r26 l28 0 w175 ∧ (∃ u177, (turn r26 l28 2 w175).cell? ⟨b4, 0, none⟩ = some u177) ∧ (turn r26 l28 2 w175).frozen? ⟨b4, 0, none⟩ = false ∧ ∀ w'178, Put (turn r26 l28 2 w175) b4 0 [.bool true] w'178 → w'178.heap[d27]? = some (Obj.deferred (some [])) ∧ ∃ b182, (w'178.putObj d27 (Obj.deferred none)).cell? ⟨b4, 0, none⟩ = some (.bool b182) ∧ R (.returned (.bool b182)) (w'178.putObj d27 (Obj.deferred none))) ∨
 (Rec r26 l28 3 w175 ∧ (turn r26 l28 4 w175).heap[d27]? = some (Obj.deferred (some [])) ∧ ∃ b185, ((turn r26 l28 4 w175).putObj d27 (Obj.deferred none)).cell? ⟨b4, 0, none⟩ = some (.bool b185) ∧ R (.returned (.bool b185)) ((turn r26 l28 4 w175).putObj d27 (Obj.deferred none))) ∨
 False)

set_option maxRecDepth 100000 in
theorem xformed_eq (x0 : Int) (x1 : ByteArray) (x2 : Int) (x3 : Int) (x4 : ByteArray) (x5_p : Option Addr) (x5_n : Nat) (x5_c : Nat) (w : World) (R : Ending → World → Prop) : xformed_T x0 x1 x2 x3 x4 x5_p x5_n x5_c w R = vcFn Tryd.prog [] [(6, [2, 4, 6, 8, 10, 12, 14, 16, 18, 20, 22, 24, 26, 28, 30, 32, 34, 36, 38, 40, 42, 44, 46, 48, 50, 52, 54, 0])] Tryd.f27 [Value.agg
 #[.int .i64 x0, .string x1, .int .i64 x2, .int .i64 x3, .string x4, .slice x5_p x5_n x5_c]] w R := by kernel_rfl

set_option maxRecDepth 100000 in
theorem xformed_vc (x0 : Int) (x1 : ByteArray) (x2 : Int) (x3 : Int) (x4 : ByteArray) (x5_p : Option Addr) (x5_n : Nat) (x5_c : Nat) (w : World) (R : Ending → World → Prop) (hvc : xformed_T x0 x1 x2 x3 x4 x5_p x5_n x5_c w R) : Calls Tryd.prog 27 #[Value.agg
 #[.int .i64 x0, .string x1, .int .i64 x2, .int .i64 x3, .string x4, .slice x5_p x5_n x5_c]] w R :=
  calls_of_vc (args := [Value.agg
 #[.int .i64 x0, .string x1, .int .i64 x2, .int .i64 x3, .string x4, .slice x5_p x5_n x5_c]]) [] [(6, [2, 4, 6, 8, 10, 12, 14, 16, 18, 20, 22, 24, 26, 28, 30, 32, 34, 36, 38, 40, 42, 44, 46, 48, 50, 52, 54, 0])] Tryd.mixed Tryd.func27 (cast (xformed_eq _ _ _ _ _ _ _ _ w R) hvc)

set_option maxRecDepth 100000 in
def alike_T (a : Int) (b : Int) (w : World) (R : Ending → World → Prop) : Prop :=
  R (.returned (.bool (decide (a = b) || decide (a = 0) || decide (b = 0)))) w

set_option maxRecDepth 100000 in
theorem alike_eq (a : Int) (b : Int) (w : World) (R : Ending → World → Prop) : alike_T a b w R = vcFn Tryd.prog [] [] Tryd.f44 [.int .i64 a, .int .i64 b] w R := by kernel_rfl

set_option maxRecDepth 100000 in
theorem alike_vc (a : Int) (b : Int) (w : World) (R : Ending → World → Prop) (hvc : alike_T a b w R) : Calls Tryd.prog 44 #[.int .i64 a, .int .i64 b] w R :=
  calls_of_vc (args := [.int .i64 a, .int .i64 b]) [] [] Tryd.mixed Tryd.func44 (cast (alike_eq _ _ w R) hvc)

set_option maxRecDepth 100000 in
def xkind_T (cols_p : Option Addr) (cols_n : Nat) (cols_c : Nat) (x0 : Int) (x1 : ByteArray) (x2 : Int) (x3 : Int) (x4 : ByteArray) (x5_p : Option Addr) (x5_n : Nat) (x5_c : Nat) (w : World) (R : Ending → World → Prop) : Prop :=
  ∀ b1 w'2, New w (Obj.cells #[.int .i64 x0, .string x1, .int .i64 x2, .int .i64 x3, .string x4, .slice x5_p x5_n x5_c] 29) b1
 w'2 → ∃ n4, w'2.cell? ⟨b1, 0, none⟩ = some (.int .i64 n4) ∧ 0 ≤ n4 ∧ n4 < 17 ∧ ∃ n5, w'2.cell? ⟨0, (0 + n4.toNat * 3), none⟩ = some (.int .i64 n5) ∧ ∃ n6, w'2.cell? ⟨0, (0 + n4.toNat * 3 + 1), none⟩ = some (.int .i64 n6) ∧ ∃ n7, w'2.cell? ⟨0, (0 + n4.toNat * 3 + 2), none⟩ = some (.int .i64 n7) ∧ ∀ b8 w'9, New w'2 (Obj.cells #[.int .i64 0, .int .i64 0, .int .i64 0] 64) b8 w'9 → (∃ u11, w'9.cell? ⟨b8, 0, none⟩ = some u11) ∧ w'9.frozen? ⟨b8, 0, none⟩ = false ∧ (∃ u12, w'9.cell? ⟨b8, 1, none⟩ = some u12) ∧ w'9.frozen? ⟨b8, 1, none⟩ = false ∧ (∃ u13, w'9.cell? ⟨b8, 2, none⟩ = some u13) ∧ w'9.frozen? ⟨b8, 2, none⟩ = false ∧ ∀ w'14, Put w'9 b8 0 [.int .i64 n5, .int .i64 n6, .int .i64 n7] w'14 → ∀ b16 w'17, New w'14 (Obj.cells #[.int .i64 0, .int .i64 0] 66) b16 w'17 → ∃ p19 n20 c21, w'17.cell? ⟨b1, 5, none⟩ = some (.slice p19 n20 c21) ∧ ∃ (I22 : Int → World → Prop), ∃ (M23 : Int → World → Nat), I22 0 w'17 ∧ ∀ (n24 : Int) (w'25 : World), I22 n24 w'25 → (n24 < (↑n20 : Int) → ∃ b28, ∃ o29, p19 = some ⟨b28, o29, none⟩ ∧ 0 ≤ n24 ∧ n24 < (↑n20 : Int) ∧ ∃ n30, w'25.cell? ⟨b28, (o29 + n24.toNat * 6), none⟩ = some (.int .i64 n30) ∧ ∃ s31, w'25.cell? ⟨b28, (o29 + n24.toNat * 6 + 1), none⟩ = some (.string s31) ∧ ∃ n32, w'25.cell? ⟨b28, (o29 + n24.toNat * 6 + 2), none⟩ = some (.int .i64 n32) ∧ ∃ n33, w'25.cell? ⟨b28, (o29 + n24.toNat * 6 + 3), none⟩ = some (.int .i64 n33) ∧ ∃ s34, w'25.cell? ⟨b28, (o29 + n24.toNat * 6 + 4), none⟩ = some (.string s34) ∧ ∃ p35 n36 c37, w'25.cell? ⟨b28, (o29 + n24.toNat * 6 + 5), none⟩ = some (.slice p35 n36 c37) ∧ ∀ b38 w'39, New w'25
 (Obj.cells
 #[.int .i64 0, .string ⟨#[]⟩, .int .i64 0, .int .i64 0, .string ⟨#[]⟩, .slice none 0 0] 29)
 b38 w'39 → (∃ u41, w'39.cell? ⟨b38, 0, none⟩ = some u41) ∧ w'39.frozen? ⟨b38, 0, none⟩ = false ∧ (∃ u42, w'39.cell? ⟨b38, 1, none⟩ = some u42) ∧ w'39.frozen? ⟨b38, 1, none⟩ = false ∧ (∃ u43, w'39.cell? ⟨b38, 2, none⟩ = some u43) ∧ w'39.frozen? ⟨b38, 2, none⟩ = false ∧ (∃ u44, w'39.cell? ⟨b38, 3, none⟩ = some u44) ∧ w'39.frozen? ⟨b38, 3, none⟩ = false ∧ (∃ u45, w'39.cell? ⟨b38, 4, none⟩ = some u45) ∧ w'39.frozen? ⟨b38, 4, none⟩ = false ∧ (∃ u46, w'39.cell? ⟨b38, 5, none⟩ = some u46) ∧ w'39.frozen? ⟨b38, 5, none⟩ = false ∧ ∀ w'47, Put w'39 b38 0 [.int .i64 n30, .string s31, .int .i64 n32, .int .i64 n33, .string s34, .slice p35 n36 c37] w'47 → ∃ n49, w'47.cell? ⟨b38, 0, none⟩ = some (.int .i64 n49) ∧ ∃ s50, w'47.cell? ⟨b38, 1, none⟩ = some (.string s50) ∧ ∃ n51, w'47.cell? ⟨b38, 2, none⟩ = some (.int .i64 n51) ∧ ∃ n52, w'47.cell? ⟨b38, 3, none⟩ = some (.int .i64 n52) ∧ ∃ s53, w'47.cell? ⟨b38, 4, none⟩ = some (.string s53) ∧ ∃ p54 n55 c56, w'47.cell? ⟨b38, 5, none⟩ = some (.slice p54 n55 c56) ∧ Calls Tryd.prog 28
 #[.slice cols_p cols_n cols_c, .agg #[.int .i64 n49, .string s50, .int .i64 n51, .int .i64 n52, .string s53, .slice p54 n55 c56]]
 w'47 fun e57 w58 ↦
 ∃ n59, ∃ n60, e57 = .returned (.tuple #[.int .i64 n59, .int .i64 n60]) ∧ (n60 ≠ 0 → R (.returned (.tuple #[.int .i64 0, .int .i64 n60])) w58) ∧ (n60 = 0 → 0 ≤ n24 ∧ n24 < 2 ∧ (∃ u63, w58.cell? ⟨b16, (0 + n24.toNat), none⟩ = some u63) ∧ w58.frozen? ⟨b16, (0 + n24.toNat), none⟩ = false ∧ ∀ w'64, Put w58 b16 (0 + n24.toNat) [.int .i64 n59] w'64 → I22 (IntKind.i64.wrap (n24 + 1)) w'64 ∧ M23 (IntKind.i64.wrap (n24 + 1)) w'64 < M23 n24 w'25)) ∧ ((↑n20 : Int) ≤ n24 → ∃ p67 n68 c69, w'25.cell? ⟨b1, 5, none⟩ = some (.slice p67 n68 c69) ∧ ∃ (I70 : Int → World → Prop), ∃ (M71 : Int → World → Nat), I70 0 w'25 ∧ ∀ (n72 : Int) (w'73 : World), I70 n72 w'73 → (n72 < (↑n68 : Int) → ∀ w'76, Drew w'73 w'76 → ∃ n78, w'76.cell? ⟨b8, 1, none⟩ = some (.int .i64 n78) ∧ (n78 ≠ 0 → 0 ≤ n72 ∧ n72 < 2 ∧ ∃ n80, w'76.cell? ⟨b16, (0 + n72.toNat), none⟩ = some (.int .i64 n80) ∧ ∃ n81, w'76.cell? ⟨b8, 1, none⟩ = some (.int .i64 n81) ∧ Calls Tryd.prog 44 #[.int .i64 n80, .int .i64 n81] w'76 fun e82 w83 ↦
 ∃ b84, e82 = .returned (.bool b84) ∧ (b84 = false → R (.returned (.tuple #[.int .i64 0, .int .i64 121])) w83) ∧ (b84 = true → I70 (IntKind.i64.wrap (n72 + 1)) w83 ∧ M71 (IntKind.i64.wrap (n72 + 1)) w83 < M71 n72 w'73)) ∧ (n78 = 0 → I70 (IntKind.i64.wrap (n72 + 1)) w'76 ∧ M71 (IntKind.i64.wrap (n72 + 1)) w'76 < M71 n72 w'73)) ∧ ((↑n68 : Int) ≤ n72 → ∃ n89, w'73.cell? ⟨b1, 0, none⟩ = some (.int .i64 n89) ∧ (n89 = 1 → ∃ s91, w'73.cell? ⟨b1, 1, none⟩ = some (.string s91) ∧ Calls Tryd.prog 45 #[.slice cols_p cols_n cols_c, .string s91] w'73 fun e92 w93 ↦
 ∃ n94, e92 = .returned (.int .i64 n94) ∧ (n94 < 0 → R (.returned (.tuple #[.int .i64 0, .int .i64 120])) w93) ∧ (0 ≤ n94 → ∃ b97, ∃ o98, cols_p = some ⟨b97, o98, none⟩ ∧ 0 ≤ n94 ∧ n94 < (↑cols_n : Int) ∧ ∃ n99, w93.cell? ⟨b97, (o98 + n94.toNat * 3 + 1), none⟩ = some (.int .i64 n99) ∧ R (.returned (.tuple #[.int .i64 n99, .int .i64 0])) w93)) ∧ (n89 ≠ 1 → (n89 = 2 → ∃ n102, w'73.cell? ⟨b1, 2, none⟩ = some (.int .i64 n102) ∧ R (.returned (.tuple #[.int .i64 n102, .int .i64 0])) w'73) ∧ (n89 ≠ 2 → (n89 = 9 → (n89 = 9 → (0 : Int) ≤ 0 ∧ (0 : Int) < 2 ∧ ∃ n106, w'73.cell? ⟨b16, 0, none⟩ = some (.int .i64 n106) ∧ (0 : Int) ≤ 1 ∧ (1 : Int) < 2 ∧ ∃ n107, w'73.cell? ⟨b16, 1, none⟩ = some (.int .i64 n107) ∧ Calls Tryd.prog 44 #[.int .i64 n106, .int .i64 n107] w'73 fun e108 w109 ↦
 ∃ b110, e108 = .returned (.bool b110) ∧ (b110 = false → R (.returned (.tuple #[.int .i64 0, .int .i64 121])) w109) ∧ (b110 = true → ∃ n113, w109.cell? ⟨b8, 2, none⟩ = some (.int .i64 n113) ∧ R (.returned (.tuple #[.int .i64 n113, .int .i64 0])) w109)) ∧ (n89 ≠ 9 → ∃ n115, w'73.cell? ⟨b8, 2, none⟩ = some (.int .i64 n115) ∧ R (.returned (.tuple #[.int .i64 n115, .int .i64 0])) w'73)) ∧ (n89 ≠ 9 → (n89 = 10 → (n89 = 10 → (0 : Int) ≤ 0 ∧ (0 : Int) < 2 ∧ ∃ n119, w'73.cell? ⟨b16, 0, none⟩ = some (.int .i64 n119) ∧ (0 : Int) ≤ 1 ∧ (1 : Int) < 2 ∧ ∃ n120, w'73.cell? ⟨b16, 1, none⟩ = some (.int .i64 n120) ∧ Calls Tryd.prog 44 #[.int .i64 n119, .int .i64 n120] w'73 fun e121 w122 ↦
 ∃ b123, e121 = .returned (.bool b123) ∧ (b123 = false → R (.returned (.tuple #[.int .i64 0, .int .i64 121])) w122) ∧ (b123 = true → ∃ n126, w122.cell? ⟨b8, 2, none⟩ = some (.int .i64 n126) ∧ R (.returned (.tuple #[.int .i64 n126, .int .i64 0])) w122)) ∧ (n89 ≠ 10 → ∃ n128, w'73.cell? ⟨b8, 2, none⟩ = some (.int .i64 n128) ∧ R (.returned (.tuple #[.int .i64 n128, .int .i64 0])) w'73)) ∧ (n89 ≠ 10 → (n89 = 11 → (0 : Int) ≤ 0 ∧ (0 : Int) < 2 ∧ ∃ n131, w'73.cell? ⟨b16, 0, none⟩ = some (.int .i64 n131) ∧ (0 : Int) ≤ 1 ∧ (1 : Int) < 2 ∧ ∃ n132, w'73.cell? ⟨b16, 1, none⟩ = some (.int .i64 n132) ∧ Calls Tryd.prog 44 #[.int .i64 n131, .int .i64 n132] w'73 fun e133 w134 ↦
 ∃ b135, e133 = .returned (.bool b135) ∧ (b135 = false → R (.returned (.tuple #[.int .i64 0, .int .i64 121])) w134) ∧ (b135 = true → ∃ n138, w134.cell? ⟨b8, 2, none⟩ = some (.int .i64 n138) ∧ R (.returned (.tuple #[.int .i64 n138, .int .i64 0])) w134)) ∧ (n89 ≠ 11 → ∃ n140, w'73.cell? ⟨b8, 2, none⟩ = some (.int .i64 n140) ∧ R (.returned (.tuple #[.int .i64 n140, .int .i64 0])) w'73)))))))

set_option maxRecDepth 100000 in
theorem xkind_eq (cols_p : Option Addr) (cols_n : Nat) (cols_c : Nat) (x0 : Int) (x1 : ByteArray) (x2 : Int) (x3 : Int) (x4 : ByteArray) (x5_p : Option Addr) (x5_n : Nat) (x5_c : Nat) (w : World) (R : Ending → World → Prop) : xkind_T cols_p cols_n cols_c x0 x1 x2 x3 x4 x5_p x5_n x5_c w R = vcFn Tryd.prog [] [(14, [2, 4, 6, 8, 10, 12, 14, 16, 18, 20, 22, 24, 0])] Tryd.f28 [.slice cols_p cols_n cols_c, Value.agg
 #[.int .i64 x0, .string x1, .int .i64 x2, .int .i64 x3, .string x4, .slice x5_p x5_n x5_c]] w R := by kernel_rfl

set_option maxRecDepth 100000 in
theorem xkind_vc (cols_p : Option Addr) (cols_n : Nat) (cols_c : Nat) (x0 : Int) (x1 : ByteArray) (x2 : Int) (x3 : Int) (x4 : ByteArray) (x5_p : Option Addr) (x5_n : Nat) (x5_c : Nat) (w : World) (R : Ending → World → Prop) (hvc : xkind_T cols_p cols_n cols_c x0 x1 x2 x3 x4 x5_p x5_n x5_c w R) : Calls Tryd.prog 28 #[.slice cols_p cols_n cols_c, Value.agg
 #[.int .i64 x0, .string x1, .int .i64 x2, .int .i64 x3, .string x4, .slice x5_p x5_n x5_c]] w R :=
  calls_of_vc (args := [.slice cols_p cols_n cols_c, Value.agg
 #[.int .i64 x0, .string x1, .int .i64 x2, .int .i64 x3, .string x4, .slice x5_p x5_n x5_c]]) [] [(14, [2, 4, 6, 8, 10, 12, 14, 16, 18, 20, 22, 24, 0])] Tryd.mixed Tryd.func28 (cast (xkind_eq _ _ _ _ _ _ _ _ _ _ _ w R) hvc)

set_option maxRecDepth 100000 in
def xtype_T (cols_p : Option Addr) (cols_n : Nat) (cols_c : Nat) (x0 : Int) (x1 : ByteArray) (x2 : Int) (x3 : Int) (x4 : ByteArray) (x5_p : Option Addr) (x5_n : Nat) (x5_c : Nat) (w : World) (R : Ending → World → Prop) : Prop :=
  ∀ b1 w'2, New w (Obj.cells #[.int .i64 x0, .string x1, .int .i64 x2, .int .i64 x3, .string x4, .slice x5_p x5_n x5_c] 29) b1
 w'2 → Calls Tryd.prog 26 #[.slice cols_p cols_n cols_c] w'2 fun e4 w5 ↦
 ∃ b6, e4 = .returned (.bool b6) ∧ (b6 = false → R (.returned (.tuple #[.int .i64 0, .int .i64 50])) w5) ∧ (b6 = true → ∃ n9, w5.cell? ⟨b1, 0, none⟩ = some (.int .i64 n9) ∧ ∃ s10, w5.cell? ⟨b1, 1, none⟩ = some (.string s10) ∧ ∃ n11, w5.cell? ⟨b1, 2, none⟩ = some (.int .i64 n11) ∧ ∃ n12, w5.cell? ⟨b1, 3, none⟩ = some (.int .i64 n12) ∧ ∃ s13, w5.cell? ⟨b1, 4, none⟩ = some (.string s13) ∧ ∃ p14 n15 c16, w5.cell? ⟨b1, 5, none⟩ = some (.slice p14 n15 c16) ∧ Calls Tryd.prog 27
 #[.agg #[.int .i64 n9, .string s10, .int .i64 n11, .int .i64 n12, .string s13, .slice p14 n15 c16]] w5
 fun e17 w18 ↦
 ∃ b19, e17 = .returned (.bool b19) ∧ (b19 = false → R (.returned (.tuple #[.int .i64 0, .int .i64 122])) w18) ∧ (b19 = true → ∃ n22, w18.cell? ⟨b1, 0, none⟩ = some (.int .i64 n22) ∧ ∃ s23, w18.cell? ⟨b1, 1, none⟩ = some (.string s23) ∧ ∃ n24, w18.cell? ⟨b1, 2, none⟩ = some (.int .i64 n24) ∧ ∃ n25, w18.cell? ⟨b1, 3, none⟩ = some (.int .i64 n25) ∧ ∃ s26, w18.cell? ⟨b1, 4, none⟩ = some (.string s26) ∧ ∃ p27 n28 c29, w18.cell? ⟨b1, 5, none⟩ = some (.slice p27 n28 c29) ∧ Calls Tryd.prog 28
 #[.slice cols_p cols_n cols_c, .agg #[.int .i64 n22, .string s23, .int .i64 n24, .int .i64 n25, .string s26, .slice p27 n28 c29]]
 w18 fun e30 w31 ↦
 ∃ n32, ∃ n33, e30 = .returned (.tuple #[.int .i64 n32, .int .i64 n33]) ∧ R (.returned (.tuple #[.int .i64 n32, .int .i64 n33])) w31))

set_option maxRecDepth 100000 in
theorem xtype_eq (cols_p : Option Addr) (cols_n : Nat) (cols_c : Nat) (x0 : Int) (x1 : ByteArray) (x2 : Int) (x3 : Int) (x4 : ByteArray) (x5_p : Option Addr) (x5_n : Nat) (x5_c : Nat) (w : World) (R : Ending → World → Prop) : xtype_T cols_p cols_n cols_c x0 x1 x2 x3 x4 x5_p x5_n x5_c w R = vcFn Tryd.prog [] [] Tryd.f12 [.slice cols_p cols_n cols_c, Value.agg
 #[.int .i64 x0, .string x1, .int .i64 x2, .int .i64 x3, .string x4, .slice x5_p x5_n x5_c]] w R := by kernel_rfl

set_option maxRecDepth 100000 in
theorem xtype_vc (cols_p : Option Addr) (cols_n : Nat) (cols_c : Nat) (x0 : Int) (x1 : ByteArray) (x2 : Int) (x3 : Int) (x4 : ByteArray) (x5_p : Option Addr) (x5_n : Nat) (x5_c : Nat) (w : World) (R : Ending → World → Prop) (hvc : xtype_T cols_p cols_n cols_c x0 x1 x2 x3 x4 x5_p x5_n x5_c w R) : Calls Tryd.prog 12 #[.slice cols_p cols_n cols_c, Value.agg
 #[.int .i64 x0, .string x1, .int .i64 x2, .int .i64 x3, .string x4, .slice x5_p x5_n x5_c]] w R :=
  calls_of_vc (args := [.slice cols_p cols_n cols_c, Value.agg
 #[.int .i64 x0, .string x1, .int .i64 x2, .int .i64 x3, .string x4, .slice x5_p x5_n x5_c]]) [] [] Tryd.mixed Tryd.func12 (cast (xtype_eq _ _ _ _ _ _ _ _ _ _ _ w R) hvc)

set_option maxRecDepth 100000 in
def xtruth_T (b : Bool) (w : World) (R : Ending → World → Prop) : Prop :=
  ∀ b1 w'2, New w (Obj.cells #[.int .i64 0, .int .i64 0, .string ⟨#[]⟩] 26) b1 w'2 → (b = true → (∃ u5, w'2.cell? ⟨b1, 0, none⟩ = some u5) ∧ w'2.frozen? ⟨b1, 0, none⟩ = false ∧ (∃ u6, w'2.cell? ⟨b1, 1, none⟩ = some u6) ∧ w'2.frozen? ⟨b1, 1, none⟩ = false ∧ (∃ u7, w'2.cell? ⟨b1, 2, none⟩ = some u7) ∧ w'2.frozen? ⟨b1, 2, none⟩ = false ∧ ∀ w'8, Put w'2 b1 0 [.int .i64 2, .int .i64 1, .string ⟨#[]⟩] w'8 → ∃ n10, w'8.cell? ⟨b1, 0, none⟩ = some (.int .i64 n10) ∧ ∃ n11, w'8.cell? ⟨b1, 1, none⟩ = some (.int .i64 n11) ∧ ∃ s12, w'8.cell? ⟨b1, 2, none⟩ = some (.string s12) ∧ R (.returned (.agg #[.int .i64 n10, .int .i64 n11, .string s12])) w'8) ∧ (b = false → (∃ u14, w'2.cell? ⟨b1, 0, none⟩ = some u14) ∧ w'2.frozen? ⟨b1, 0, none⟩ = false ∧ (∃ u15, w'2.cell? ⟨b1, 1, none⟩ = some u15) ∧ w'2.frozen? ⟨b1, 1, none⟩ = false ∧ (∃ u16, w'2.cell? ⟨b1, 2, none⟩ = some u16) ∧ w'2.frozen? ⟨b1, 2, none⟩ = false ∧ ∀ w'17, Put w'2 b1 0 [.int .i64 2, .int .i64 0, .string ⟨#[]⟩] w'17 → ∃ n19, w'17.cell? ⟨b1, 0, none⟩ = some (.int .i64 n19) ∧ ∃ n20, w'17.cell? ⟨b1, 1, none⟩ = some (.int .i64 n20) ∧ ∃ s21, w'17.cell? ⟨b1, 2, none⟩ = some (.string s21) ∧ R (.returned (.agg #[.int .i64 n19, .int .i64 n20, .string s21])) w'17)

set_option maxRecDepth 100000 in
theorem xtruth_eq (b : Bool) (w : World) (R : Ending → World → Prop) : xtruth_T b w R = vcFn Tryd.prog [] [] Tryd.f76 [.bool b] w R := by kernel_rfl

set_option maxRecDepth 100000 in
theorem xtruth_vc (b : Bool) (w : World) (R : Ending → World → Prop) (hvc : xtruth_T b w R) : Calls Tryd.prog 76 #[.bool b] w R :=
  calls_of_vc (args := [.bool b]) [] [] Tryd.mixed Tryd.func76 (cast (xtruth_eq _ w R) hvc)

set_option maxRecDepth 100000 in
def times_T (a : Int) (b : Int) (w : World) (R : Ending → World → Prop) : Prop :=
  Calls Tryd.prog 115 #[.int .i64 a] w fun e1 w2 ↦
 ∃ n3, e1 = .returned (.int .u64 n3) ∧ Calls Tryd.prog 115 #[.int .i64 b] w2 fun e4 w5 ↦
 ∃ n6, e4 = .returned (.int .u64 n6) ∧ Calls Tryd.prog 116 #[.int .u64 n3, .int .u64 n6] w5 fun e7 w8 ↦
 ∃ n9, ∃ n10, e7 = .returned (.tuple #[.int .u64 n9, .int .u64 n10]) ∧ (n9 ≠ 0 → R (.returned (.tuple #[.int .i64 0, .bool false])) w8) ∧ (n9 = 0 → (decide (a < 0) ≠ decide (b < 0) → R (.returned (.tuple #[.int .i64 (IntKind.i64.wrap (0 - IntKind.i64.wrap n10)), .bool (decide (n10 ≤ 9223372036854775808))])) w8) ∧ (decide (a < 0) = decide (b < 0) → R (.returned (.tuple #[.int .i64 (IntKind.i64.wrap n10), .bool (decide (n10 < 9223372036854775808))])) w8))

set_option maxRecDepth 100000 in
theorem times_eq (a : Int) (b : Int) (w : World) (R : Ending → World → Prop) : times_T a b w R = vcFn Tryd.prog [] [] Tryd.f104 [.int .i64 a, .int .i64 b] w R := by kernel_rfl

set_option maxRecDepth 100000 in
theorem times_vc (a : Int) (b : Int) (w : World) (R : Ending → World → Prop) (hvc : times_T a b w R) : Calls Tryd.prog 104 #[.int .i64 a, .int .i64 b] w R :=
  calls_of_vc (args := [.int .i64 a, .int .i64 b]) [] [] Tryd.mixed Tryd.func104 (cast (times_eq _ _ w R) hvc)

set_option maxRecDepth 100000 in
def times1_T (n : Int) (w : World) (R : Ending → World → Prop) : Prop :=
  (n < 0 → R (.returned (.int .u64 (IntKind.u64.wrap (0 - IntKind.u64.wrap n)))) w) ∧ (0 ≤ n → R (.returned (.int .u64 (IntKind.u64.wrap n))) w)

set_option maxRecDepth 100000 in
theorem times1_eq (n : Int) (w : World) (R : Ending → World → Prop) : times1_T n w R = vcFn Tryd.prog [] [] Tryd.f115 [.int .i64 n] w R := by kernel_rfl

set_option maxRecDepth 100000 in
theorem times1_vc (n : Int) (w : World) (R : Ending → World → Prop) (hvc : times1_T n w R) : Calls Tryd.prog 115 #[.int .i64 n] w R :=
  calls_of_vc (args := [.int .i64 n]) [] [] Tryd.mixed Tryd.func115 (cast (times1_eq _ w R) hvc)

set_option maxRecDepth 100000 in
def mul64_T (x : Int) (y : Int) (w : World) (R : Ending → World → Prop) : Prop :=
  R
 (.returned
 (Value.tuple
 #[Value.int IntKind.u64
 (IntKind.u64.wrap
 (IntKind.u64.wrap
 (IntKind.u64.wrap (shrI IntKind.u64 x 32 * shrI IntKind.u64 y 32) +
 shrI IntKind.u64
 (IntKind.u64.wrap
 (IntKind.u64.wrap (shrI IntKind.u64 x 32 * bits BinOp.and IntKind.u64 y 4294967295) +
 shrI IntKind.u64 (IntKind.u64.wrap (bits BinOp.and IntKind.u64 x 4294967295 * bits BinOp.and IntKind.u64 y 4294967295)) 32))
 32) +
 shrI IntKind.u64
 (IntKind.u64.wrap
 (bits BinOp.and IntKind.u64
 (IntKind.u64.wrap
 (IntKind.u64.wrap (shrI IntKind.u64 x 32 * bits BinOp.and IntKind.u64 y 4294967295) +
 shrI IntKind.u64 (IntKind.u64.wrap (bits BinOp.and IntKind.u64 x 4294967295 * bits BinOp.and IntKind.u64 y 4294967295)) 32))
 4294967295 +
 IntKind.u64.wrap (bits BinOp.and IntKind.u64 x 4294967295 * shrI IntKind.u64 y 32)))
 32)), .int .u64 (IntKind.u64.wrap (x * y))]))
 w

set_option maxRecDepth 100000 in
theorem mul64_eq (x : Int) (y : Int) (w : World) (R : Ending → World → Prop) : mul64_T x y w R = vcFn Tryd.prog [] [] Tryd.f116 [.int .u64 x, .int .u64 y] w R := by kernel_rfl

set_option maxRecDepth 100000 in
theorem mul64_vc (x : Int) (y : Int) (w : World) (R : Ending → World → Prop) (hvc : mul64_T x y w R) : Calls Tryd.prog 116 #[.int .u64 x, .int .u64 y] w R :=
  calls_of_vc (args := [.int .u64 x, .int .u64 y]) [] [] Tryd.mixed Tryd.func116 (cast (mul64_eq _ _ w R) hvc)

set_option maxRecDepth 100000 in
def xarith_T (op : Int) (a : Int) (b : Int) (w : World) (R : Ending → World → Prop) : Prop :=
  ((op = 6 ∨ op = 7) ∧ b = 0 → R (.returned (.tuple #[.int .i64 0, .int .i64 101])) w) ∧ (op ≠ 6 ∧ op ≠ 7 ∨ b ≠ 0 → (op = 3 → (bits BinOp.and IntKind.i64 (bits BinOp.xor IntKind.i64 a (IntKind.i64.wrap (a + b))) (bits BinOp.xor IntKind.i64 b (IntKind.i64.wrap (a + b))) < 0 → R (.returned (.tuple #[.int .i64 0, .int .i64 100])) w) ∧ (0 ≤ bits BinOp.and IntKind.i64 (bits BinOp.xor IntKind.i64 a (IntKind.i64.wrap (a + b))) (bits BinOp.xor IntKind.i64 b (IntKind.i64.wrap (a + b))) → R (.returned (.tuple #[.int .i64 (IntKind.i64.wrap (a + b)), .int .i64 0])) w)) ∧ (op ≠ 3 → (op = 4 → (bits BinOp.and IntKind.i64 (bits BinOp.xor IntKind.i64 a b) (bits BinOp.xor IntKind.i64 a (IntKind.i64.wrap (a - b))) < 0 → R (.returned (.tuple #[.int .i64 0, .int .i64 100])) w) ∧ (0 ≤ bits BinOp.and IntKind.i64 (bits BinOp.xor IntKind.i64 a b) (bits BinOp.xor IntKind.i64 a (IntKind.i64.wrap (a - b))) → R (.returned (.tuple #[.int .i64 (IntKind.i64.wrap (a - b)), .int .i64 0])) w)) ∧ (op ≠ 4 → (op = 5 → Calls Tryd.prog 104 #[.int .i64 a, .int .i64 b] w fun e12 w13 ↦
 ∃ n14, ∃ b15, e12 = .returned (.tuple #[.int .i64 n14, .bool b15]) ∧ (b15 = false → R (.returned (.tuple #[.int .i64 0, .int .i64 100])) w13) ∧ (b15 = true → R (.returned (.tuple #[.int .i64 n14, .int .i64 0])) w13)) ∧ (op ≠ 5 → (op = 6 → b ≠ 0 ∧ (a = -9223372036854775808 ∧ b = -1 → R (.returned (.tuple #[.int .i64 0, .int .i64 100])) w) ∧ (a ≠ -9223372036854775808 ∨ b ≠ -1 → R (.returned (.tuple #[.int .i64 (quoI IntKind.i64 a b), .int .i64 0])) w)) ∧ (op ≠ 6 → (op = 7 → b ≠ 0 ∧ R (.returned (.tuple #[.int .i64 (remI a b), .int .i64 0])) w) ∧ (op ≠ 7 → R (.returned (.tuple #[.int .i64 0, .int .i64 0])) w))))))

set_option maxRecDepth 100000 in
theorem xarith_eq (op : Int) (a : Int) (b : Int) (w : World) (R : Ending → World → Prop) : xarith_T op a b w R = vcFn Tryd.prog [] [] Tryd.f80 [.int .i64 op, .int .i64 a, .int .i64 b] w R := by kernel_rfl

set_option maxRecDepth 100000 in
theorem xarith_vc (op : Int) (a : Int) (b : Int) (w : World) (R : Ending → World → Prop) (hvc : xarith_T op a b w R) : Calls Tryd.prog 80 #[.int .i64 op, .int .i64 a, .int .i64 b] w R :=
  calls_of_vc (args := [.int .i64 op, .int .i64 a, .int .i64 b]) [] [] Tryd.mixed Tryd.func80 (cast (xarith_eq _ _ _ w R) hvc)

set_option maxRecDepth 100000 in
def third_T (v0 : Int) (v1 : Int) (v2 : ByteArray) (w : World) (R : Ending → World → Prop) : Prop :=
  ∀ b1 w'2, New w (Obj.cells #[.int .i64 v0, .int .i64 v1, .string v2] 26) b1 w'2 → ∃ n4, w'2.cell? ⟨b1, 0, none⟩ = some (.int .i64 n4) ∧ (n4 = 0 → R (.returned (.int .i64 2)) w'2) ∧ (n4 ≠ 0 → ∃ n7, w'2.cell? ⟨b1, 1, none⟩ = some (.int .i64 n7) ∧ R (.returned (.int .i64 n7)) w'2)

set_option maxRecDepth 100000 in
theorem third_eq (v0 : Int) (v1 : Int) (v2 : ByteArray) (w : World) (R : Ending → World → Prop) : third_T v0 v1 v2 w R = vcFn Tryd.prog [] [] Tryd.f78 [.agg #[.int .i64 v0, .int .i64 v1, .string v2]] w R := by kernel_rfl

set_option maxRecDepth 100000 in
theorem third_vc (v0 : Int) (v1 : Int) (v2 : ByteArray) (w : World) (R : Ending → World → Prop) (hvc : third_T v0 v1 v2 w R) : Calls Tryd.prog 78 #[.agg #[.int .i64 v0, .int .i64 v1, .string v2]] w R :=
  calls_of_vc (args := [.agg #[.int .i64 v0, .int .i64 v1, .string v2]]) [] [] Tryd.mixed Tryd.func78 (cast (third_eq _ _ _ w R) hvc)

set_option maxRecDepth 100000 in
def answer_T (n : Int) (w : World) (R : Ending → World → Prop) : Prop :=
  ∀ b1 w'2, New w (Obj.cells #[.int .i64 0, .int .i64 0, .string ⟨#[]⟩] 26) b1 w'2 → (n = 2 → (∃ u5, w'2.cell? ⟨b1, 0, none⟩ = some u5) ∧ w'2.frozen? ⟨b1, 0, none⟩ = false ∧ (∃ u6, w'2.cell? ⟨b1, 1, none⟩ = some u6) ∧ w'2.frozen? ⟨b1, 1, none⟩ = false ∧ (∃ u7, w'2.cell? ⟨b1, 2, none⟩ = some u7) ∧ w'2.frozen? ⟨b1, 2, none⟩ = false ∧ ∀ w'8, Put w'2 b1 0 [.int .i64 0, .int .i64 0, .string ⟨#[]⟩] w'8 → ∃ n10, w'8.cell? ⟨b1, 0, none⟩ = some (.int .i64 n10) ∧ ∃ n11, w'8.cell? ⟨b1, 1, none⟩ = some (.int .i64 n11) ∧ ∃ s12, w'8.cell? ⟨b1, 2, none⟩ = some (.string s12) ∧ R (.returned (.agg #[.int .i64 n10, .int .i64 n11, .string s12])) w'8) ∧ (n ≠ 2 → Calls Tryd.prog 76 #[.bool (decide (n = 1))] w'2 fun e14 w15 ↦
 ∃ n16, ∃ n17, ∃ s18, e14 = .returned (.agg #[.int .i64 n16, .int .i64 n17, .string s18]) ∧ (∃ u19, w15.cell? ⟨b1, 0, none⟩ = some u19) ∧ w15.frozen? ⟨b1, 0, none⟩ = false ∧ (∃ u20, w15.cell? ⟨b1, 1, none⟩ = some u20) ∧ w15.frozen? ⟨b1, 1, none⟩ = false ∧ (∃ u21, w15.cell? ⟨b1, 2, none⟩ = some u21) ∧ w15.frozen? ⟨b1, 2, none⟩ = false ∧ ∀ w'22, Put w15 b1 0 [.int .i64 n16, .int .i64 n17, .string s18] w'22 → ∃ n24, w'22.cell? ⟨b1, 0, none⟩ = some (.int .i64 n24) ∧ ∃ n25, w'22.cell? ⟨b1, 1, none⟩ = some (.int .i64 n25) ∧ ∃ s26, w'22.cell? ⟨b1, 2, none⟩ = some (.string s26) ∧ R (.returned (.agg #[.int .i64 n24, .int .i64 n25, .string s26])) w'22)

set_option maxRecDepth 100000 in
theorem answer_eq (n : Int) (w : World) (R : Ending → World → Prop) : answer_T n w R = vcFn Tryd.prog [] [] Tryd.f77 [.int .i64 n] w R := by kernel_rfl

set_option maxRecDepth 100000 in
theorem answer_vc (n : Int) (w : World) (R : Ending → World → Prop) (hvc : answer_T n w R) : Calls Tryd.prog 77 #[.int .i64 n] w R :=
  calls_of_vc (args := [.int .i64 n]) [] [] Tryd.mixed Tryd.func77 (cast (answer_eq _ w R) hvc)

set_option maxRecDepth 100000 in
def xpair_T (op : Int) (a0 : Int) (a1 : Int) (a2 : ByteArray) (b0 : Int) (b1 : Int) (b2 : ByteArray) (w : World) (R : Ending → World → Prop) : Prop :=
  ∀ b1_1 w'2, New w (Obj.cells #[.int .i64 a0, .int .i64 a1, .string a2] 26) b1_1 w'2 → ∀ b4 w'5, New w'2 (Obj.cells #[.int .i64 b0, .int .i64 b1, .string b2] 26) b4 w'5 → ∀ b7 w'8, New w'5 (Obj.cells #[.int .i64 0, .int .i64 0, .string ⟨#[]⟩] 26) b7 w'8 → (op = 12 → ∀ w'11, Drew w'8 w'11 → ∃ n13, w'11.cell? ⟨b1_1, 0, none⟩ = some (.int .i64 n13) ∧ ∃ n14, w'11.cell? ⟨b1_1, 1, none⟩ = some (.int .i64 n14) ∧ ∃ s15, w'11.cell? ⟨b1_1, 2, none⟩ = some (.string s15) ∧ ∃ n16, w'11.cell? ⟨b4, 0, none⟩ = some (.int .i64 n16) ∧ ∃ n17, w'11.cell? ⟨b4, 1, none⟩ = some (.int .i64 n17) ∧ ∃ s18, w'11.cell? ⟨b4, 2, none⟩ = some (.string s18) ∧ Calls Tryd.prog 78 #[.agg #[.int .i64 n13, .int .i64 n14, .string s15]] w'11 fun e19 w20 ↦
 ∃ n21, e19 = .returned (.int .i64 n21) ∧ SameTo (some [b4, b1_1]) w'11 w'11 w20 ∧ 0 ≤ n21 ∧ n21 < 3 ∧ Calls Tryd.prog 78 #[.agg #[.int .i64 n16, .int .i64 n17, .string s18]] w20 fun e22 w23 ↦
 ∃ n24, e22 = .returned (.int .i64 n24) ∧ 0 ≤ n24 ∧ n24 < 3 ∧ ∃ n25, w23.cell? ⟨1, (0 + n21.toNat * 3 + n24.toNat), none⟩ = some (.int .i64 n25) ∧ Calls Tryd.prog 77 #[.int .i64 n25] w23 fun e26 w27 ↦
 ∃ n28, ∃ n29, ∃ s30, e26 = .returned (.agg #[.int .i64 n28, .int .i64 n29, .string s30]) ∧ (∃ u31, w27.cell? ⟨b7, 0, none⟩ = some u31) ∧ w27.frozen? ⟨b7, 0, none⟩ = false ∧ (∃ u32, w27.cell? ⟨b7, 1, none⟩ = some u32) ∧ w27.frozen? ⟨b7, 1, none⟩ = false ∧ (∃ u33, w27.cell? ⟨b7, 2, none⟩ = some u33) ∧ w27.frozen? ⟨b7, 2, none⟩ = false ∧ ∀ w'34, Put w27 b7 0 [.int .i64 n28, .int .i64 n29, .string s30] w'34 → ∃ n36, w'34.cell? ⟨b7, 0, none⟩ = some (.int .i64 n36) ∧ ∃ n37, w'34.cell? ⟨b7, 1, none⟩ = some (.int .i64 n37) ∧ ∃ s38, w'34.cell? ⟨b7, 2, none⟩ = some (.string s38) ∧ R (.returned (.tuple #[.agg #[.int .i64 n36, .int .i64 n37, .string s38], .int .i64 0])) w'34) ∧ (op ≠ 12 → (op = 13 → ∀ w'41, Drew w'8 w'41 → ∃ n43, w'41.cell? ⟨b1_1, 0, none⟩ = some (.int .i64 n43) ∧ ∃ n44, w'41.cell? ⟨b1_1, 1, none⟩ = some (.int .i64 n44) ∧ ∃ s45, w'41.cell? ⟨b1_1, 2, none⟩ = some (.string s45) ∧ ∃ n46, w'41.cell? ⟨b4, 0, none⟩ = some (.int .i64 n46) ∧ ∃ n47, w'41.cell? ⟨b4, 1, none⟩ = some (.int .i64 n47) ∧ ∃ s48, w'41.cell? ⟨b4, 2, none⟩ = some (.string s48) ∧ Calls Tryd.prog 78 #[.agg #[.int .i64 n43, .int .i64 n44, .string s45]] w'41 fun e49 w50 ↦
 ∃ n51, e49 = .returned (.int .i64 n51) ∧ SameTo (some [b4, b1_1]) w'41 w'41 w50 ∧ 0 ≤ n51 ∧ n51 < 3 ∧ Calls Tryd.prog 78 #[.agg #[.int .i64 n46, .int .i64 n47, .string s48]] w50 fun e52 w53 ↦
 ∃ n54, e52 = .returned (.int .i64 n54) ∧ 0 ≤ n54 ∧ n54 < 3 ∧ ∃ n55, w53.cell? ⟨2, (0 + n51.toNat * 3 + n54.toNat), none⟩ = some (.int .i64 n55) ∧ Calls Tryd.prog 77 #[.int .i64 n55] w53 fun e56 w57 ↦
 ∃ n58, ∃ n59, ∃ s60, e56 = .returned (.agg #[.int .i64 n58, .int .i64 n59, .string s60]) ∧ (∃ u61, w57.cell? ⟨b7, 0, none⟩ = some u61) ∧ w57.frozen? ⟨b7, 0, none⟩ = false ∧ (∃ u62, w57.cell? ⟨b7, 1, none⟩ = some u62) ∧ w57.frozen? ⟨b7, 1, none⟩ = false ∧ (∃ u63, w57.cell? ⟨b7, 2, none⟩ = some u63) ∧ w57.frozen? ⟨b7, 2, none⟩ = false ∧ ∀ w'64, Put w57 b7 0 [.int .i64 n58, .int .i64 n59, .string s60] w'64 → ∃ n66, w'64.cell? ⟨b7, 0, none⟩ = some (.int .i64 n66) ∧ ∃ n67, w'64.cell? ⟨b7, 1, none⟩ = some (.int .i64 n67) ∧ ∃ s68, w'64.cell? ⟨b7, 2, none⟩ = some (.string s68) ∧ R (.returned (.tuple #[.agg #[.int .i64 n66, .int .i64 n67, .string s68], .int .i64 0])) w'64) ∧ (op ≠ 13 → ∃ n70, w'8.cell? ⟨b1_1, 0, none⟩ = some (.int .i64 n70) ∧ (n70 = 0 → (∃ u72, w'8.cell? ⟨b7, 0, none⟩ = some u72) ∧ w'8.frozen? ⟨b7, 0, none⟩ = false ∧ (∃ u73, w'8.cell? ⟨b7, 1, none⟩ = some u73) ∧ w'8.frozen? ⟨b7, 1, none⟩ = false ∧ (∃ u74, w'8.cell? ⟨b7, 2, none⟩ = some u74) ∧ w'8.frozen? ⟨b7, 2, none⟩ = false ∧ ∀ w'75, Put w'8 b7 0 [.int .i64 0, .int .i64 0, .string ⟨#[]⟩] w'75 → ∃ n77, w'75.cell? ⟨b7, 0, none⟩ = some (.int .i64 n77) ∧ ∃ n78, w'75.cell? ⟨b7, 1, none⟩ = some (.int .i64 n78) ∧ ∃ s79, w'75.cell? ⟨b7, 2, none⟩ = some (.string s79) ∧ R (.returned (.tuple #[.agg #[.int .i64 n77, .int .i64 n78, .string s79], .int .i64 0])) w'75) ∧ (n70 ≠ 0 → ∃ n81, w'8.cell? ⟨b4, 0, none⟩ = some (.int .i64 n81) ∧ (n81 = 0 → (∃ u83, w'8.cell? ⟨b7, 0, none⟩ = some u83) ∧ w'8.frozen? ⟨b7, 0, none⟩ = false ∧ (∃ u84, w'8.cell? ⟨b7, 1, none⟩ = some u84) ∧ w'8.frozen? ⟨b7, 1, none⟩ = false ∧ (∃ u85, w'8.cell? ⟨b7, 2, none⟩ = some u85) ∧ w'8.frozen? ⟨b7, 2, none⟩ = false ∧ ∀ w'86, Put w'8 b7 0 [.int .i64 0, .int .i64 0, .string ⟨#[]⟩] w'86 → ∃ n88, w'86.cell? ⟨b7, 0, none⟩ = some (.int .i64 n88) ∧ ∃ n89, w'86.cell? ⟨b7, 1, none⟩ = some (.int .i64 n89) ∧ ∃ s90, w'86.cell? ⟨b7, 2, none⟩ = some (.string s90) ∧ R (.returned (.tuple #[.agg #[.int .i64 n88, .int .i64 n89, .string s90], .int .i64 0])) w'86) ∧ (n81 ≠ 0 → ∃ n92, w'8.cell? ⟨b1_1, 0, none⟩ = some (.int .i64 n92) ∧ ∃ n93, w'8.cell? ⟨b1_1, 1, none⟩ = some (.int .i64 n93) ∧ ∃ s94, w'8.cell? ⟨b1_1, 2, none⟩ = some (.string s94) ∧ ∃ n95, w'8.cell? ⟨b4, 0, none⟩ = some (.int .i64 n95) ∧ ∃ n96, w'8.cell? ⟨b4, 1, none⟩ = some (.int .i64 n96) ∧ ∃ s97, w'8.cell? ⟨b4, 2, none⟩ = some (.string s97) ∧ Calls Tryd.prog 79
 #[.agg #[.int .i64 n92, .int .i64 n93, .string s94], .agg #[.int .i64 n95, .int .i64 n96, .string s97]]
 w'8 fun e98 w99 ↦
 ∃ n100, e98 = .returned (.int .i64 n100) ∧ (op = 9 → Calls Tryd.prog 76 #[.bool (decide (n100 = 0))] w99 fun e102 w103 ↦
 ∃ n104, ∃ n105, ∃ s106, e102 = .returned (.agg #[.int .i64 n104, .int .i64 n105, .string s106]) ∧ (∃ u107, w103.cell? ⟨b7, 0, none⟩ = some u107) ∧ w103.frozen? ⟨b7, 0, none⟩ = false ∧ (∃ u108, w103.cell? ⟨b7, 1, none⟩ = some u108) ∧ w103.frozen? ⟨b7, 1, none⟩ = false ∧ (∃ u109, w103.cell? ⟨b7, 2, none⟩ = some u109) ∧ w103.frozen? ⟨b7, 2, none⟩ = false ∧ ∀ w'110, Put w103 b7 0 [.int .i64 n104, .int .i64 n105, .string s106] w'110 → ∃ n112, w'110.cell? ⟨b7, 0, none⟩ = some (.int .i64 n112) ∧ ∃ n113, w'110.cell? ⟨b7, 1, none⟩ = some (.int .i64 n113) ∧ ∃ s114, w'110.cell? ⟨b7, 2, none⟩ = some (.string s114) ∧ R (.returned (.tuple #[.agg #[.int .i64 n112, .int .i64 n113, .string s114], .int .i64 0])) w'110) ∧ (op ≠ 9 → (op = 10 → Calls Tryd.prog 76 #[.bool (decide (n100 < 0))] w99 fun e117 w118 ↦
 ∃ n119, ∃ n120, ∃ s121, e117 = .returned (.agg #[.int .i64 n119, .int .i64 n120, .string s121]) ∧ (∃ u122, w118.cell? ⟨b7, 0, none⟩ = some u122) ∧ w118.frozen? ⟨b7, 0, none⟩ = false ∧ (∃ u123, w118.cell? ⟨b7, 1, none⟩ = some u123) ∧ w118.frozen? ⟨b7, 1, none⟩ = false ∧ (∃ u124, w118.cell? ⟨b7, 2, none⟩ = some u124) ∧ w118.frozen? ⟨b7, 2, none⟩ = false ∧ ∀ w'125, Put w118 b7 0 [.int .i64 n119, .int .i64 n120, .string s121] w'125 → ∃ n127, w'125.cell? ⟨b7, 0, none⟩ = some (.int .i64 n127) ∧ ∃ n128, w'125.cell? ⟨b7, 1, none⟩ = some (.int .i64 n128) ∧ ∃ s129, w'125.cell? ⟨b7, 2, none⟩ = some (.string s129) ∧ R (.returned (.tuple #[.agg #[.int .i64 n127, .int .i64 n128, .string s129], .int .i64 0])) w'125) ∧ (op ≠ 10 → (op = 11 → Calls Tryd.prog 76 #[.bool (decide (n100 ≤ 0))] w99 fun e132 w133 ↦
 ∃ n134, ∃ n135, ∃ s136, e132 = .returned (.agg #[.int .i64 n134, .int .i64 n135, .string s136]) ∧ (∃ u137, w133.cell? ⟨b7, 0, none⟩ = some u137) ∧ w133.frozen? ⟨b7, 0, none⟩ = false ∧ (∃ u138, w133.cell? ⟨b7, 1, none⟩ = some u138) ∧ w133.frozen? ⟨b7, 1, none⟩ = false ∧ (∃ u139, w133.cell? ⟨b7, 2, none⟩ = some u139) ∧ w133.frozen? ⟨b7, 2, none⟩ = false ∧ ∀ w'140, Put w133 b7 0 [.int .i64 n134, .int .i64 n135, .string s136] w'140 → ∃ n142, w'140.cell? ⟨b7, 0, none⟩ = some (.int .i64 n142) ∧ ∃ n143, w'140.cell? ⟨b7, 1, none⟩ = some (.int .i64 n143) ∧ ∃ s144, w'140.cell? ⟨b7, 2, none⟩ = some (.string s144) ∧ R (.returned (.tuple #[.agg #[.int .i64 n142, .int .i64 n143, .string s144], .int .i64 0])) w'140) ∧ (op ≠ 11 → ∃ n146, w99.cell? ⟨b1_1, 1, none⟩ = some (.int .i64 n146) ∧ ∃ n147, w99.cell? ⟨b4, 1, none⟩ = some (.int .i64 n147) ∧ Calls Tryd.prog 80 #[.int .i64 op, .int .i64 n146, .int .i64 n147] w99 fun e148 w149 ↦
 ∃ n150, ∃ n151, e148 = .returned (.tuple #[.int .i64 n150, .int .i64 n151]) ∧ (n151 ≠ 0 → (∃ u153, w149.cell? ⟨b7, 0, none⟩ = some u153) ∧ w149.frozen? ⟨b7, 0, none⟩ = false ∧ (∃ u154, w149.cell? ⟨b7, 1, none⟩ = some u154) ∧ w149.frozen? ⟨b7, 1, none⟩ = false ∧ (∃ u155, w149.cell? ⟨b7, 2, none⟩ = some u155) ∧ w149.frozen? ⟨b7, 2, none⟩ = false ∧ ∀ w'156, Put w149 b7 0 [.int .i64 0, .int .i64 0, .string ⟨#[]⟩] w'156 → ∃ n158, w'156.cell? ⟨b7, 0, none⟩ = some (.int .i64 n158) ∧ ∃ n159, w'156.cell? ⟨b7, 1, none⟩ = some (.int .i64 n159) ∧ ∃ s160, w'156.cell? ⟨b7, 2, none⟩ = some (.string s160) ∧ R (.returned (.tuple #[.agg #[.int .i64 n158, .int .i64 n159, .string s160], .int .i64 n151])) w'156) ∧ (n151 = 0 → (∃ u162, w149.cell? ⟨b7, 0, none⟩ = some u162) ∧ w149.frozen? ⟨b7, 0, none⟩ = false ∧ (∃ u163, w149.cell? ⟨b7, 1, none⟩ = some u163) ∧ w149.frozen? ⟨b7, 1, none⟩ = false ∧ (∃ u164, w149.cell? ⟨b7, 2, none⟩ = some u164) ∧ w149.frozen? ⟨b7, 2, none⟩ = false ∧ ∀ w'165, Put w149 b7 0 [.int .i64 1, .int .i64 n150, .string ⟨#[]⟩] w'165 → ∃ n167, w'165.cell? ⟨b7, 0, none⟩ = some (.int .i64 n167) ∧ ∃ n168, w'165.cell? ⟨b7, 1, none⟩ = some (.int .i64 n168) ∧ ∃ s169, w'165.cell? ⟨b7, 2, none⟩ = some (.string s169) ∧ R (.returned (.tuple #[.agg #[.int .i64 n167, .int .i64 n168, .string s169], .int .i64 0])) w'165))))))))

set_option maxRecDepth 100000 in
theorem xpair_eq (op : Int) (a0 : Int) (a1 : Int) (a2 : ByteArray) (b0 : Int) (b1 : Int) (b2 : ByteArray) (w : World) (R : Ending → World → Prop) : xpair_T op a0 a1 a2 b0 b1 b2 w R = vcFn Tryd.prog [] [(2, [2, 6, 5, 10, 8, 12, 14, 16, 18, 20, 0]), (4, [2, 6, 5, 10, 8, 12, 14, 16, 18, 20, 0])] Tryd.f52 [.int .i64 op, .agg #[.int .i64 a0, .int .i64 a1, .string a2], .agg #[.int .i64 b0, .int .i64 b1, .string b2]] w R := by kernel_rfl

set_option maxRecDepth 100000 in
theorem xpair_vc (op : Int) (a0 : Int) (a1 : Int) (a2 : ByteArray) (b0 : Int) (b1 : Int) (b2 : ByteArray) (w : World) (R : Ending → World → Prop) (hvc : xpair_T op a0 a1 a2 b0 b1 b2 w R) : Calls Tryd.prog 52 #[.int .i64 op, .agg #[.int .i64 a0, .int .i64 a1, .string a2], .agg #[.int .i64 b0, .int .i64 b1, .string b2]] w R :=
  calls_of_vc (args := [.int .i64 op, .agg #[.int .i64 a0, .int .i64 a1, .string a2], .agg #[.int .i64 b0, .int .i64 b1, .string b2]]) [] [(2, [2, 6, 5, 10, 8, 12, 14, 16, 18, 20, 0]), (4, [2, 6, 5, 10, 8, 12, 14, 16, 18, 20, 0])] Tryd.mixed Tryd.func52 (cast (xpair_eq _ _ _ _ _ _ _ w R) hvc)

set_option maxRecDepth 100000 in
def xsingle_T (op : Int) (v0 : Int) (v1 : Int) (v2 : ByteArray) (w : World) (R : Ending → World → Prop) : Prop :=
  ∀ b1 w'2, New w (Obj.cells #[.int .i64 v0, .int .i64 v1, .string v2] 26) b1 w'2 → ∀ b4 w'5, New w'2 (Obj.cells #[.int .i64 0, .int .i64 0, .string ⟨#[]⟩] 26) b4 w'5 → (op = 15 → ∃ n8, w'5.cell? ⟨b1, 0, none⟩ = some (.int .i64 n8) ∧ Calls Tryd.prog 76 #[.bool (decide (n8 = 0))] w'5 fun e9 w10 ↦
 ∃ n11, ∃ n12, ∃ s13, e9 = .returned (.agg #[.int .i64 n11, .int .i64 n12, .string s13]) ∧ (∃ u14, w10.cell? ⟨b4, 0, none⟩ = some u14) ∧ w10.frozen? ⟨b4, 0, none⟩ = false ∧ (∃ u15, w10.cell? ⟨b4, 1, none⟩ = some u15) ∧ w10.frozen? ⟨b4, 1, none⟩ = false ∧ (∃ u16, w10.cell? ⟨b4, 2, none⟩ = some u16) ∧ w10.frozen? ⟨b4, 2, none⟩ = false ∧ ∀ w'17, Put w10 b4 0 [.int .i64 n11, .int .i64 n12, .string s13] w'17 → ∃ n19, w'17.cell? ⟨b4, 0, none⟩ = some (.int .i64 n19) ∧ ∃ n20, w'17.cell? ⟨b4, 1, none⟩ = some (.int .i64 n20) ∧ ∃ s21, w'17.cell? ⟨b4, 2, none⟩ = some (.string s21) ∧ R (.returned (.tuple #[.agg #[.int .i64 n19, .int .i64 n20, .string s21], .int .i64 0])) w'17) ∧ (op ≠ 15 → ∃ n23, w'5.cell? ⟨b1, 0, none⟩ = some (.int .i64 n23) ∧ (n23 = 0 → ∃ n25, w'5.cell? ⟨b1, 0, none⟩ = some (.int .i64 n25) ∧ ∃ n26, w'5.cell? ⟨b1, 1, none⟩ = some (.int .i64 n26) ∧ ∃ s27, w'5.cell? ⟨b1, 2, none⟩ = some (.string s27) ∧ (∃ u28, w'5.cell? ⟨b4, 0, none⟩ = some u28) ∧ w'5.frozen? ⟨b4, 0, none⟩ = false ∧ (∃ u29, w'5.cell? ⟨b4, 1, none⟩ = some u29) ∧ w'5.frozen? ⟨b4, 1, none⟩ = false ∧ (∃ u30, w'5.cell? ⟨b4, 2, none⟩ = some u30) ∧ w'5.frozen? ⟨b4, 2, none⟩ = false ∧ ∀ w'31, Put w'5 b4 0 [.int .i64 n25, .int .i64 n26, .string s27] w'31 → ∃ n33, w'31.cell? ⟨b4, 0, none⟩ = some (.int .i64 n33) ∧ ∃ n34, w'31.cell? ⟨b4, 1, none⟩ = some (.int .i64 n34) ∧ ∃ s35, w'31.cell? ⟨b4, 2, none⟩ = some (.string s35) ∧ R (.returned (.tuple #[.agg #[.int .i64 n33, .int .i64 n34, .string s35], .int .i64 0])) w'31) ∧ (n23 ≠ 0 → (op = 14 → ∃ n38, w'5.cell? ⟨b1, 1, none⟩ = some (.int .i64 n38) ∧ Calls Tryd.prog 76 #[.bool (decide (n38 = 0))] w'5 fun e39 w40 ↦
 ∃ n41, ∃ n42, ∃ s43, e39 = .returned (.agg #[.int .i64 n41, .int .i64 n42, .string s43]) ∧ (∃ u44, w40.cell? ⟨b4, 0, none⟩ = some u44) ∧ w40.frozen? ⟨b4, 0, none⟩ = false ∧ (∃ u45, w40.cell? ⟨b4, 1, none⟩ = some u45) ∧ w40.frozen? ⟨b4, 1, none⟩ = false ∧ (∃ u46, w40.cell? ⟨b4, 2, none⟩ = some u46) ∧ w40.frozen? ⟨b4, 2, none⟩ = false ∧ ∀ w'47, Put w40 b4 0 [.int .i64 n41, .int .i64 n42, .string s43] w'47 → ∃ n49, w'47.cell? ⟨b4, 0, none⟩ = some (.int .i64 n49) ∧ ∃ n50, w'47.cell? ⟨b4, 1, none⟩ = some (.int .i64 n50) ∧ ∃ s51, w'47.cell? ⟨b4, 2, none⟩ = some (.string s51) ∧ R (.returned (.tuple #[.agg #[.int .i64 n49, .int .i64 n50, .string s51], .int .i64 0])) w'47) ∧ (op ≠ 14 → (op = 16 → ∃ s54, w'5.cell? ⟨b1, 2, none⟩ = some (.string s54) ∧ (∃ u55, w'5.cell? ⟨b4, 0, none⟩ = some u55) ∧ w'5.frozen? ⟨b4, 0, none⟩ = false ∧ (∃ u56, w'5.cell? ⟨b4, 1, none⟩ = some u56) ∧ w'5.frozen? ⟨b4, 1, none⟩ = false ∧ (∃ u57, w'5.cell? ⟨b4, 2, none⟩ = some u57) ∧ w'5.frozen? ⟨b4, 2, none⟩ = false ∧ ∀ w'58, Put w'5 b4 0 [.int .i64 1, .int .i64 (↑s54.size : Int), .string ⟨#[]⟩] w'58 → ∃ n60, w'58.cell? ⟨b4, 0, none⟩ = some (.int .i64 n60) ∧ ∃ n61, w'58.cell? ⟨b4, 1, none⟩ = some (.int .i64 n61) ∧ ∃ s62, w'58.cell? ⟨b4, 2, none⟩ = some (.string s62) ∧ R (.returned (.tuple #[.agg #[.int .i64 n60, .int .i64 n61, .string s62], .int .i64 0])) w'58) ∧ (op ≠ 16 → ∃ n64, w'5.cell? ⟨b1, 0, none⟩ = some (.int .i64 n64) ∧ ∃ n65, w'5.cell? ⟨b1, 1, none⟩ = some (.int .i64 n65) ∧ ∃ s66, w'5.cell? ⟨b1, 2, none⟩ = some (.string s66) ∧ Calls Tryd.prog 52
 #[.int .i64 4, .agg #[.int .i64 1, .int .i64 0, .string ⟨#[]⟩], .agg #[.int .i64 n64, .int .i64 n65, .string s66]]
 w'5 fun e67 w68 ↦
 ∃ n69, ∃ n70, ∃ s71, ∃ n72, e67 = .returned (.tuple #[.agg #[.int .i64 n69, .int .i64 n70, .string s71], .int .i64 n72]) ∧ (∃ u73, w68.cell? ⟨b4, 0, none⟩ = some u73) ∧ w68.frozen? ⟨b4, 0, none⟩ = false ∧ (∃ u74, w68.cell? ⟨b4, 1, none⟩ = some u74) ∧ w68.frozen? ⟨b4, 1, none⟩ = false ∧ (∃ u75, w68.cell? ⟨b4, 2, none⟩ = some u75) ∧ w68.frozen? ⟨b4, 2, none⟩ = false ∧ ∀ w'76, Put w68 b4 0 [.int .i64 n69, .int .i64 n70, .string s71] w'76 → ∃ n78, w'76.cell? ⟨b4, 0, none⟩ = some (.int .i64 n78) ∧ ∃ n79, w'76.cell? ⟨b4, 1, none⟩ = some (.int .i64 n79) ∧ ∃ s80, w'76.cell? ⟨b4, 2, none⟩ = some (.string s80) ∧ R (.returned (.tuple #[.agg #[.int .i64 n78, .int .i64 n79, .string s80], .int .i64 n72])) w'76))))

set_option maxRecDepth 100000 in
theorem xsingle_eq (op : Int) (v0 : Int) (v1 : Int) (v2 : ByteArray) (w : World) (R : Ending → World → Prop) : xsingle_T op v0 v1 v2 w R = vcFn Tryd.prog [] [] Tryd.f51 [.int .i64 op, .agg #[.int .i64 v0, .int .i64 v1, .string v2]] w R := by kernel_rfl

set_option maxRecDepth 100000 in
theorem xsingle_vc (op : Int) (v0 : Int) (v1 : Int) (v2 : ByteArray) (w : World) (R : Ending → World → Prop) (hvc : xsingle_T op v0 v1 v2 w R) : Calls Tryd.prog 51 #[.int .i64 op, .agg #[.int .i64 v0, .int .i64 v1, .string v2]] w R :=
  calls_of_vc (args := [.int .i64 op, .agg #[.int .i64 v0, .int .i64 v1, .string v2]]) [] [] Tryd.mixed Tryd.func51 (cast (xsingle_eq _ _ _ _ w R) hvc)

set_option maxRecDepth 100000 in
def xeval_T (cols_p : Option Addr) (cols_n : Nat) (cols_c : Nat) (row_p : Option Addr) (row_n : Nat) (row_c : Nat) (x0 : Int) (x1 : ByteArray) (x2 : Int) (x3 : Int) (x4 : ByteArray) (x5_p : Option Addr) (x5_n : Nat) (x5_c : Nat) (w : World) (R : Ending → World → Prop) : Prop :=
  ∀ b1 w'2, New w (Obj.cells #[.int .i64 x0, .string x1, .int .i64 x2, .int .i64 x3, .string x4, .slice x5_p x5_n x5_c] 29) b1
 w'2 → ∀ b4 w'5, New w'2 (Obj.cells #[.int .i64 0, .int .i64 0, .string ⟨#[]⟩] 26) b4 w'5 → ∀ b7 w'8, New w'5
 (Obj.cells
 #[.int .i64 0, .int .i64 0, .string ⟨#[]⟩, .int .i64 0, .int .i64 0, .string ⟨#[]⟩]
 72)
 b7 w'8 → ∃ p10 n11 c12, w'8.cell? ⟨b1, 5, none⟩ = some (.slice p10 n11 c12) ∧ ∃ (I13 : Int → World → Prop), ∃ (M14 : Int → World → Nat), I13 0 w'8 ∧ ∀ (n15 : Int) (w'16 : World), I13 n15 w'16 → (n15 < (↑n11 : Int) → ∃ b19, ∃ o20, p10 = some ⟨b19, o20, none⟩ ∧ 0 ≤ n15 ∧ n15 < (↑n11 : Int) ∧ ∃ n21, w'16.cell? ⟨b19, (o20 + n15.toNat * 6), none⟩ = some (.int .i64 n21) ∧ ∃ s22, w'16.cell? ⟨b19, (o20 + n15.toNat * 6 + 1), none⟩ = some (.string s22) ∧ ∃ n23, w'16.cell? ⟨b19, (o20 + n15.toNat * 6 + 2), none⟩ = some (.int .i64 n23) ∧ ∃ n24, w'16.cell? ⟨b19, (o20 + n15.toNat * 6 + 3), none⟩ = some (.int .i64 n24) ∧ ∃ s25, w'16.cell? ⟨b19, (o20 + n15.toNat * 6 + 4), none⟩ = some (.string s25) ∧ ∃ p26 n27 c28, w'16.cell? ⟨b19, (o20 + n15.toNat * 6 + 5), none⟩ = some (.slice p26 n27 c28) ∧ ∀ b29 w'30, New w'16
 (Obj.cells
 #[.int .i64 0, .string ⟨#[]⟩, .int .i64 0, .int .i64 0, .string ⟨#[]⟩, .slice none 0 0] 29)
 b29 w'30 → (∃ u32, w'30.cell? ⟨b29, 0, none⟩ = some u32) ∧ w'30.frozen? ⟨b29, 0, none⟩ = false ∧ (∃ u33, w'30.cell? ⟨b29, 1, none⟩ = some u33) ∧ w'30.frozen? ⟨b29, 1, none⟩ = false ∧ (∃ u34, w'30.cell? ⟨b29, 2, none⟩ = some u34) ∧ w'30.frozen? ⟨b29, 2, none⟩ = false ∧ (∃ u35, w'30.cell? ⟨b29, 3, none⟩ = some u35) ∧ w'30.frozen? ⟨b29, 3, none⟩ = false ∧ (∃ u36, w'30.cell? ⟨b29, 4, none⟩ = some u36) ∧ w'30.frozen? ⟨b29, 4, none⟩ = false ∧ (∃ u37, w'30.cell? ⟨b29, 5, none⟩ = some u37) ∧ w'30.frozen? ⟨b29, 5, none⟩ = false ∧ ∀ w'38, Put w'30 b29 0 [.int .i64 n21, .string s22, .int .i64 n23, .int .i64 n24, .string s25, .slice p26 n27 c28] w'38 → ∃ n40, w'38.cell? ⟨b29, 0, none⟩ = some (.int .i64 n40) ∧ ∃ s41, w'38.cell? ⟨b29, 1, none⟩ = some (.string s41) ∧ ∃ n42, w'38.cell? ⟨b29, 2, none⟩ = some (.int .i64 n42) ∧ ∃ n43, w'38.cell? ⟨b29, 3, none⟩ = some (.int .i64 n43) ∧ ∃ s44, w'38.cell? ⟨b29, 4, none⟩ = some (.string s44) ∧ ∃ p45 n46 c47, w'38.cell? ⟨b29, 5, none⟩ = some (.slice p45 n46 c47) ∧ Calls Tryd.prog 35
 #[.slice cols_p cols_n cols_c, .slice row_p row_n row_c, .agg #[.int .i64 n40, .string s41, .int .i64 n42, .int .i64 n43, .string s44, .slice p45 n46 c47]]
 w'38 fun e48 w49 ↦
 ∃ n50, ∃ n51, ∃ s52, ∃ n53, e48 = .returned (.tuple #[.agg #[.int .i64 n50, .int .i64 n51, .string s52], .int .i64 n53]) ∧ ∀ b54 w'55, New w49 (Obj.cells #[.int .i64 0, .int .i64 0, .string ⟨#[]⟩] 26) b54 w'55 → (∃ u57, w'55.cell? ⟨b54, 0, none⟩ = some u57) ∧ w'55.frozen? ⟨b54, 0, none⟩ = false ∧ (∃ u58, w'55.cell? ⟨b54, 1, none⟩ = some u58) ∧ w'55.frozen? ⟨b54, 1, none⟩ = false ∧ (∃ u59, w'55.cell? ⟨b54, 2, none⟩ = some u59) ∧ w'55.frozen? ⟨b54, 2, none⟩ = false ∧ ∀ w'60, Put w'55 b54 0 [.int .i64 n50, .int .i64 n51, .string s52] w'60 → (n53 ≠ 0 → (∃ u63, w'60.cell? ⟨b4, 0, none⟩ = some u63) ∧ w'60.frozen? ⟨b4, 0, none⟩ = false ∧ (∃ u64, w'60.cell? ⟨b4, 1, none⟩ = some u64) ∧ w'60.frozen? ⟨b4, 1, none⟩ = false ∧ (∃ u65, w'60.cell? ⟨b4, 2, none⟩ = some u65) ∧ w'60.frozen? ⟨b4, 2, none⟩ = false ∧ ∀ w'66, Put w'60 b4 0 [.int .i64 0, .int .i64 0, .string ⟨#[]⟩] w'66 → ∃ n68, w'66.cell? ⟨b4, 0, none⟩ = some (.int .i64 n68) ∧ ∃ n69, w'66.cell? ⟨b4, 1, none⟩ = some (.int .i64 n69) ∧ ∃ s70, w'66.cell? ⟨b4, 2, none⟩ = some (.string s70) ∧ R (.returned (.tuple #[.agg #[.int .i64 n68, .int .i64 n69, .string s70], .int .i64 n53])) w'66) ∧ (n53 = 0 → ∃ n72, w'60.cell? ⟨b54, 0, none⟩ = some (.int .i64 n72) ∧ ∃ n73, w'60.cell? ⟨b54, 1, none⟩ = some (.int .i64 n73) ∧ ∃ s74, w'60.cell? ⟨b54, 2, none⟩ = some (.string s74) ∧ 0 ≤ n15 ∧ n15 < 2 ∧ (∃ u75, w'60.cell? ⟨b7, (0 + n15.toNat * 3), none⟩ = some u75) ∧ w'60.frozen? ⟨b7, (0 + n15.toNat * 3), none⟩ = false ∧ (∃ u76, w'60.cell? ⟨b7, (0 + n15.toNat * 3 + 1), none⟩ = some u76) ∧ w'60.frozen? ⟨b7, (0 + n15.toNat * 3 + 1), none⟩ = false ∧ (∃ u77, w'60.cell? ⟨b7, (0 + n15.toNat * 3 + 2), none⟩ = some u77) ∧ w'60.frozen? ⟨b7, (0 + n15.toNat * 3 + 2), none⟩ = false ∧ ∀ w'78, Put w'60 b7 (0 + n15.toNat * 3) [.int .i64 n72, .int .i64 n73, .string s74] w'78 → I13 (IntKind.i64.wrap (n15 + 1)) w'78 ∧ M14 (IntKind.i64.wrap (n15 + 1)) w'78 < M14 n15 w'16)) ∧ ((↑n11 : Int) ≤ n15 → ∃ n81, w'16.cell? ⟨b1, 0, none⟩ = some (.int .i64 n81) ∧ (n81 = 1 → ∃ s83, w'16.cell? ⟨b1, 1, none⟩ = some (.string s83) ∧ Calls Tryd.prog 45 #[.slice cols_p cols_n cols_c, .string s83] w'16 fun e84 w85 ↦
 ∃ n86, e84 = .returned (.int .i64 n86) ∧ ∃ b87, ∃ o88, row_p = some ⟨b87, o88, none⟩ ∧ 0 ≤ n86 ∧ n86 < (↑row_n : Int) ∧ ∃ n89, w85.cell? ⟨b87, (o88 + n86.toNat * 3), none⟩ = some (.int .i64 n89) ∧ ∃ n90, w85.cell? ⟨b87, (o88 + n86.toNat * 3 + 1), none⟩ = some (.int .i64 n90) ∧ ∃ s91, w85.cell? ⟨b87, (o88 + n86.toNat * 3 + 2), none⟩ = some (.string s91) ∧ (∃ u92, w85.cell? ⟨b4, 0, none⟩ = some u92) ∧ w85.frozen? ⟨b4, 0, none⟩ = false ∧ (∃ u93, w85.cell? ⟨b4, 1, none⟩ = some u93) ∧ w85.frozen? ⟨b4, 1, none⟩ = false ∧ (∃ u94, w85.cell? ⟨b4, 2, none⟩ = some u94) ∧ w85.frozen? ⟨b4, 2, none⟩ = false ∧ ∀ w'95, Put w85 b4 0 [.int .i64 n89, .int .i64 n90, .string s91] w'95 → ∃ n97, w'95.cell? ⟨b4, 0, none⟩ = some (.int .i64 n97) ∧ ∃ n98, w'95.cell? ⟨b4, 1, none⟩ = some (.int .i64 n98) ∧ ∃ s99, w'95.cell? ⟨b4, 2, none⟩ = some (.string s99) ∧ R (.returned (.tuple #[.agg #[.int .i64 n97, .int .i64 n98, .string s99], .int .i64 0])) w'95) ∧ (n81 ≠ 1 → ∃ n101, w'16.cell? ⟨b1, 0, none⟩ = some (.int .i64 n101) ∧ (n101 = 2 → ∃ n103, w'16.cell? ⟨b1, 2, none⟩ = some (.int .i64 n103) ∧ ∃ n104, w'16.cell? ⟨b1, 3, none⟩ = some (.int .i64 n104) ∧ ∃ s105, w'16.cell? ⟨b1, 4, none⟩ = some (.string s105) ∧ (∃ u106, w'16.cell? ⟨b4, 0, none⟩ = some u106) ∧ w'16.frozen? ⟨b4, 0, none⟩ = false ∧ (∃ u107, w'16.cell? ⟨b4, 1, none⟩ = some u107) ∧ w'16.frozen? ⟨b4, 1, none⟩ = false ∧ (∃ u108, w'16.cell? ⟨b4, 2, none⟩ = some u108) ∧ w'16.frozen? ⟨b4, 2, none⟩ = false ∧ ∀ w'109, Put w'16 b4 0 [.int .i64 n103, .int .i64 n104, .string s105] w'109 → ∃ n111, w'109.cell? ⟨b4, 0, none⟩ = some (.int .i64 n111) ∧ ∃ n112, w'109.cell? ⟨b4, 1, none⟩ = some (.int .i64 n112) ∧ ∃ s113, w'109.cell? ⟨b4, 2, none⟩ = some (.string s113) ∧ R (.returned (.tuple #[.agg #[.int .i64 n111, .int .i64 n112, .string s113], .int .i64 0])) w'109) ∧ (n101 ≠ 2 → ∃ p115 n116 c117, w'16.cell? ⟨b1, 5, none⟩ = some (.slice p115 n116 c117) ∧ ((↑n116 : Int) = 1 → ∃ n119, w'16.cell? ⟨b1, 0, none⟩ = some (.int .i64 n119) ∧ (0 : Int) ≤ 0 ∧ (0 : Int) < 2 ∧ ∃ n120, w'16.cell? ⟨b7, 0, none⟩ = some (.int .i64 n120) ∧ ∃ n121, w'16.cell? ⟨b7, 1, none⟩ = some (.int .i64 n121) ∧ ∃ s122, w'16.cell? ⟨b7, 2, none⟩ = some (.string s122) ∧ Calls Tryd.prog 51 #[.int .i64 n119, .agg #[.int .i64 n120, .int .i64 n121, .string s122]] w'16
 fun e123 w124 ↦
 ∃ n125, ∃ n126, ∃ s127, ∃ n128, e123 = .returned (.tuple #[.agg #[.int .i64 n125, .int .i64 n126, .string s127], .int .i64 n128]) ∧ (∃ u129, w124.cell? ⟨b4, 0, none⟩ = some u129) ∧ w124.frozen? ⟨b4, 0, none⟩ = false ∧ (∃ u130, w124.cell? ⟨b4, 1, none⟩ = some u130) ∧ w124.frozen? ⟨b4, 1, none⟩ = false ∧ (∃ u131, w124.cell? ⟨b4, 2, none⟩ = some u131) ∧ w124.frozen? ⟨b4, 2, none⟩ = false ∧ ∀ w'132, Put w124 b4 0 [.int .i64 n125, .int .i64 n126, .string s127] w'132 → ∃ n134, w'132.cell? ⟨b4, 0, none⟩ = some (.int .i64 n134) ∧ ∃ n135, w'132.cell? ⟨b4, 1, none⟩ = some (.int .i64 n135) ∧ ∃ s136, w'132.cell? ⟨b4, 2, none⟩ = some (.string s136) ∧ R (.returned (.tuple #[.agg #[.int .i64 n134, .int .i64 n135, .string s136], .int .i64 n128])) w'132) ∧ ((↑n116 : Int) ≠ 1 → ∃ n138, w'16.cell? ⟨b1, 0, none⟩ = some (.int .i64 n138) ∧ (0 : Int) ≤ 0 ∧ (0 : Int) < 2 ∧ ∃ n139, w'16.cell? ⟨b7, 0, none⟩ = some (.int .i64 n139) ∧ ∃ n140, w'16.cell? ⟨b7, 1, none⟩ = some (.int .i64 n140) ∧ ∃ s141, w'16.cell? ⟨b7, 2, none⟩ = some (.string s141) ∧ (0 : Int) ≤ 1 ∧ (1 : Int) < 2 ∧ ∃ n142, w'16.cell? ⟨b7, 3, none⟩ = some (.int .i64 n142) ∧ ∃ n143, w'16.cell? ⟨b7, 4, none⟩ = some (.int .i64 n143) ∧ ∃ s144, w'16.cell? ⟨b7, 5, none⟩ = some (.string s144) ∧ Calls Tryd.prog 52
 #[.int .i64 n138, .agg #[.int .i64 n139, .int .i64 n140, .string s141], .agg #[.int .i64 n142, .int .i64 n143, .string s144]]
 w'16 fun e145 w146 ↦
 ∃ n147, ∃ n148, ∃ s149, ∃ n150, e145 = .returned (.tuple #[.agg #[.int .i64 n147, .int .i64 n148, .string s149], .int .i64 n150]) ∧ (∃ u151, w146.cell? ⟨b4, 0, none⟩ = some u151) ∧ w146.frozen? ⟨b4, 0, none⟩ = false ∧ (∃ u152, w146.cell? ⟨b4, 1, none⟩ = some u152) ∧ w146.frozen? ⟨b4, 1, none⟩ = false ∧ (∃ u153, w146.cell? ⟨b4, 2, none⟩ = some u153) ∧ w146.frozen? ⟨b4, 2, none⟩ = false ∧ ∀ w'154, Put w146 b4 0 [.int .i64 n147, .int .i64 n148, .string s149] w'154 → ∃ n156, w'154.cell? ⟨b4, 0, none⟩ = some (.int .i64 n156) ∧ ∃ n157, w'154.cell? ⟨b4, 1, none⟩ = some (.int .i64 n157) ∧ ∃ s158, w'154.cell? ⟨b4, 2, none⟩ = some (.string s158) ∧ R (.returned (.tuple #[.agg #[.int .i64 n156, .int .i64 n157, .string s158], .int .i64 n150])) w'154))))

set_option maxRecDepth 100000 in
theorem xeval_eq (cols_p : Option Addr) (cols_n : Nat) (cols_c : Nat) (row_p : Option Addr) (row_n : Nat) (row_c : Nat) (x0 : Int) (x1 : ByteArray) (x2 : Int) (x3 : Int) (x4 : ByteArray) (x5_p : Option Addr) (x5_n : Nat) (x5_c : Nat) (w : World) (R : Ending → World → Prop) : xeval_T cols_p cols_n cols_c row_p row_n row_c x0 x1 x2 x3 x4 x5_p x5_n x5_c w R = vcFn Tryd.prog [] [] Tryd.f35 [.slice cols_p cols_n cols_c, .slice row_p row_n row_c, Value.agg
 #[.int .i64 x0, .string x1, .int .i64 x2, .int .i64 x3, .string x4, .slice x5_p x5_n x5_c]] w R := by kernel_rfl

set_option maxRecDepth 100000 in
theorem xeval_vc (cols_p : Option Addr) (cols_n : Nat) (cols_c : Nat) (row_p : Option Addr) (row_n : Nat) (row_c : Nat) (x0 : Int) (x1 : ByteArray) (x2 : Int) (x3 : Int) (x4 : ByteArray) (x5_p : Option Addr) (x5_n : Nat) (x5_c : Nat) (w : World) (R : Ending → World → Prop) (hvc : xeval_T cols_p cols_n cols_c row_p row_n row_c x0 x1 x2 x3 x4 x5_p x5_n x5_c w R) : Calls Tryd.prog 35 #[.slice cols_p cols_n cols_c, .slice row_p row_n row_c, Value.agg
 #[.int .i64 x0, .string x1, .int .i64 x2, .int .i64 x3, .string x4, .slice x5_p x5_n x5_c]] w R :=
  calls_of_vc (args := [.slice cols_p cols_n cols_c, .slice row_p row_n row_c, Value.agg
 #[.int .i64 x0, .string x1, .int .i64 x2, .int .i64 x3, .string x4, .slice x5_p x5_n x5_c]]) [] [] Tryd.mixed Tryd.func35 (cast (xeval_eq _ _ _ _ _ _ _ _ _ _ _ _ _ _ w R) hvc)

set_option maxRecDepth 100000 in
def xEval_T (cols_p : Option Addr) (cols_n : Nat) (cols_c : Nat) (row_p : Option Addr) (row_n : Nat) (row_c : Nat) (x0 : Int) (x1 : ByteArray) (x2 : Int) (x3 : Int) (x4 : ByteArray) (x5_p : Option Addr) (x5_n : Nat) (x5_c : Nat) (w : World) (R : Ending → World → Prop) : Prop :=
  ∀ b1 w'2, New w (Obj.cells #[.int .i64 x0, .string x1, .int .i64 x2, .int .i64 x3, .string x4, .slice x5_p x5_n x5_c] 29) b1
 w'2 → ∀ b4 w'5, New w'2 (Obj.cells #[.int .i64 0, .int .i64 0, .string ⟨#[]⟩] 26) b4 w'5 → ∃ n7, w'5.cell? ⟨b1, 0, none⟩ = some (.int .i64 n7) ∧ ∃ s8, w'5.cell? ⟨b1, 1, none⟩ = some (.string s8) ∧ ∃ n9, w'5.cell? ⟨b1, 2, none⟩ = some (.int .i64 n9) ∧ ∃ n10, w'5.cell? ⟨b1, 3, none⟩ = some (.int .i64 n10) ∧ ∃ s11, w'5.cell? ⟨b1, 4, none⟩ = some (.string s11) ∧ ∃ p12 n13 c14, w'5.cell? ⟨b1, 5, none⟩ = some (.slice p12 n13 c14) ∧ Calls Tryd.prog 12
 #[.slice cols_p cols_n cols_c, .agg #[.int .i64 n7, .string s8, .int .i64 n9, .int .i64 n10, .string s11, .slice p12 n13 c14]]
 w'5 fun e15 w16 ↦
 ∃ n17, ∃ n18, e15 = .returned (.tuple #[.int .i64 n17, .int .i64 n18]) ∧ (n18 ≠ 0 → (∃ u20, w16.cell? ⟨b4, 0, none⟩ = some u20) ∧ w16.frozen? ⟨b4, 0, none⟩ = false ∧ (∃ u21, w16.cell? ⟨b4, 1, none⟩ = some u21) ∧ w16.frozen? ⟨b4, 1, none⟩ = false ∧ (∃ u22, w16.cell? ⟨b4, 2, none⟩ = some u22) ∧ w16.frozen? ⟨b4, 2, none⟩ = false ∧ ∀ w'23, Put w16 b4 0 [.int .i64 0, .int .i64 0, .string ⟨#[]⟩] w'23 → ∃ n25, w'23.cell? ⟨b4, 0, none⟩ = some (.int .i64 n25) ∧ ∃ n26, w'23.cell? ⟨b4, 1, none⟩ = some (.int .i64 n26) ∧ ∃ s27, w'23.cell? ⟨b4, 2, none⟩ = some (.string s27) ∧ R (.returned (.tuple #[.agg #[.int .i64 n25, .int .i64 n26, .string s27], .int .i64 n18])) w'23) ∧ (n18 = 0 → Calls Tryd.prog 34 #[.slice cols_p cols_n cols_c, .slice row_p row_n row_c] w16 fun e29 w30 ↦
 ∃ b31, e29 = .returned (.bool b31) ∧ (b31 = false → (∃ u33, w30.cell? ⟨b4, 0, none⟩ = some u33) ∧ w30.frozen? ⟨b4, 0, none⟩ = false ∧ (∃ u34, w30.cell? ⟨b4, 1, none⟩ = some u34) ∧ w30.frozen? ⟨b4, 1, none⟩ = false ∧ (∃ u35, w30.cell? ⟨b4, 2, none⟩ = some u35) ∧ w30.frozen? ⟨b4, 2, none⟩ = false ∧ ∀ w'36, Put w30 b4 0 [.int .i64 0, .int .i64 0, .string ⟨#[]⟩] w'36 → ∃ n38, w'36.cell? ⟨b4, 0, none⟩ = some (.int .i64 n38) ∧ ∃ n39, w'36.cell? ⟨b4, 1, none⟩ = some (.int .i64 n39) ∧ ∃ s40, w'36.cell? ⟨b4, 2, none⟩ = some (.string s40) ∧ R (.returned (.tuple #[.agg #[.int .i64 n38, .int .i64 n39, .string s40], .int .i64 2])) w'36) ∧ (b31 = true → ∃ n42, w30.cell? ⟨b1, 0, none⟩ = some (.int .i64 n42) ∧ ∃ s43, w30.cell? ⟨b1, 1, none⟩ = some (.string s43) ∧ ∃ n44, w30.cell? ⟨b1, 2, none⟩ = some (.int .i64 n44) ∧ ∃ n45, w30.cell? ⟨b1, 3, none⟩ = some (.int .i64 n45) ∧ ∃ s46, w30.cell? ⟨b1, 4, none⟩ = some (.string s46) ∧ ∃ p47 n48 c49, w30.cell? ⟨b1, 5, none⟩ = some (.slice p47 n48 c49) ∧ Calls Tryd.prog 35
 #[.slice cols_p cols_n cols_c, .slice row_p row_n row_c, .agg #[.int .i64 n42, .string s43, .int .i64 n44, .int .i64 n45, .string s46, .slice p47 n48 c49]]
 w30 fun e50 w51 ↦
 ∃ n52, ∃ n53, ∃ s54, ∃ n55, e50 = .returned (.tuple #[.agg #[.int .i64 n52, .int .i64 n53, .string s54], .int .i64 n55]) ∧ (∃ u56, w51.cell? ⟨b4, 0, none⟩ = some u56) ∧ w51.frozen? ⟨b4, 0, none⟩ = false ∧ (∃ u57, w51.cell? ⟨b4, 1, none⟩ = some u57) ∧ w51.frozen? ⟨b4, 1, none⟩ = false ∧ (∃ u58, w51.cell? ⟨b4, 2, none⟩ = some u58) ∧ w51.frozen? ⟨b4, 2, none⟩ = false ∧ ∀ w'59, Put w51 b4 0 [.int .i64 n52, .int .i64 n53, .string s54] w'59 → ∃ n61, w'59.cell? ⟨b4, 0, none⟩ = some (.int .i64 n61) ∧ ∃ n62, w'59.cell? ⟨b4, 1, none⟩ = some (.int .i64 n62) ∧ ∃ s63, w'59.cell? ⟨b4, 2, none⟩ = some (.string s63) ∧ R (.returned (.tuple #[.agg #[.int .i64 n61, .int .i64 n62, .string s63], .int .i64 n55])) w'59))

set_option maxRecDepth 100000 in
theorem xEval_eq (cols_p : Option Addr) (cols_n : Nat) (cols_c : Nat) (row_p : Option Addr) (row_n : Nat) (row_c : Nat) (x0 : Int) (x1 : ByteArray) (x2 : Int) (x3 : Int) (x4 : ByteArray) (x5_p : Option Addr) (x5_n : Nat) (x5_c : Nat) (w : World) (R : Ending → World → Prop) : xEval_T cols_p cols_n cols_c row_p row_n row_c x0 x1 x2 x3 x4 x5_p x5_n x5_c w R = vcFn Tryd.prog [] [] Tryd.f16 [.slice cols_p cols_n cols_c, .slice row_p row_n row_c, Value.agg
 #[.int .i64 x0, .string x1, .int .i64 x2, .int .i64 x3, .string x4, .slice x5_p x5_n x5_c]] w R := by kernel_rfl

set_option maxRecDepth 100000 in
theorem xEval_vc (cols_p : Option Addr) (cols_n : Nat) (cols_c : Nat) (row_p : Option Addr) (row_n : Nat) (row_c : Nat) (x0 : Int) (x1 : ByteArray) (x2 : Int) (x3 : Int) (x4 : ByteArray) (x5_p : Option Addr) (x5_n : Nat) (x5_c : Nat) (w : World) (R : Ending → World → Prop) (hvc : xEval_T cols_p cols_n cols_c row_p row_n row_c x0 x1 x2 x3 x4 x5_p x5_n x5_c w R) : Calls Tryd.prog 16 #[.slice cols_p cols_n cols_c, .slice row_p row_n row_c, Value.agg
 #[.int .i64 x0, .string x1, .int .i64 x2, .int .i64 x3, .string x4, .slice x5_p x5_n x5_c]] w R :=
  calls_of_vc (args := [.slice cols_p cols_n cols_c, .slice row_p row_n row_c, Value.agg
 #[.int .i64 x0, .string x1, .int .i64 x2, .int .i64 x3, .string x4, .slice x5_p x5_n x5_c]]) [] [] Tryd.mixed Tryd.func16 (cast (xEval_eq _ _ _ _ _ _ _ _ _ _ _ _ _ _ w R) hvc)


end Go.Proofs.YtdephmdfdgclpaaDoor

/- The frame, its blocks in any order; blocks for deferred calls that are not known one by one. -/
namespace Go.Vc
open Go Go.RowKit

section
variable {w0 W W' : World} {fs fs' gs : List (Nat × Obj)} {B d : Nat} {ds : List Nat} {ms : List Row}

theorem Hold.mem (h : Hold w0 W fs ms) {x : Nat × Obj} (hx : x ∈ fs) : W.heap[x.1]? = some x.2 := by
  obtain ⟨i, hi⟩ := List.mem_iff_getElem?.1 hx
  exact h.holds i x hi
theorem Hold.ltM (h : Hold w0 W fs ms) {x : Nat × Obj} (hx : x ∈ fs) : x.1 < W.heap.size := (Array.getElem?_eq_some_iff.1 (h.mem hx)).1
theorem Hold.blkM {b : Nat} {cs : Array Value} {t : TypeId} (h : Hold w0 W fs ms) (hx : (b, Obj.cells cs t (0, 0)) ∈ fs) : Blk W b t cs := h.mem hx
theorem Hold.nodup (h : Hold w0 W fs ms) : (fs.map (·.1)).Nodup := by
  rw [List.Nodup, List.pairwise_iff_getElem]
  intro i j hi hj hij
  simp only [List.getElem_map]
  simp only [List.length_map] at hi hj
  exact h.keys i j _ _ (List.getElem?_eq_getElem hi) (List.getElem?_eq_getElem hj) (by omega)
theorem Hold.make (e : Ext w0 W) (h : ∀ x ∈ fs, w0.heap.size ≤ x.1 ∧ W.heap[x.1]? = some x.2) (hn : (fs.map (·.1)).Nodup) : Hold w0 W fs [] := by
  refine ⟨e, fun x hx => (h x hx).1, fun i x hx => (h x (List.mem_of_getElem? hx)).2, fun i j x y hx hy hij => ?_, by simp, by simp, by simp⟩
  rw [List.Nodup, List.pairwise_iff_getElem] at hn
  obtain ⟨hi, rfl⟩ := List.getElem?_eq_some_iff.1 hx
  obtain ⟨hj, rfl⟩ := List.getElem?_eq_some_iff.1 hy
  rcases Nat.lt_or_ge i j with hlt | hge
  · have := hn i j (by simpa) (by simpa) hlt
    rwa [List.getElem_map, List.getElem_map] at this
  · have := hn j i (by simpa) (by simpa) (by omega)
    rw [List.getElem_map, List.getElem_map] at this
    exact this.symm
theorem Hold.perm (h : Hold w0 W fs []) (hp : fs.Perm fs') : Hold w0 W fs' [] :=
  Hold.make h.ext (fun x hx => ⟨h.ge x (hp.mem_iff.2 hx), h.mem (hp.mem_iff.2 hx)⟩) ((hp.map _).nodup_iff.1 h.nodup)
theorem Hold.sub (h : Hold w0 W fs []) (hp : fs'.Sublist fs) : Hold w0 W fs' [] :=
  Hold.make h.ext (fun x hx => ⟨h.ge x (hp.subset hx), h.mem (hp.subset hx)⟩) (h.nodup.sublist (hp.map _))
theorem Hold.swap {a b c : List (Nat × Obj)} (h : Hold w0 W ((a ++ b) ++ c) []) : Hold w0 W (b ++ (a ++ c)) [] := by
  rw [← List.append_assoc]
  exact h.perm (List.perm_append_comm.append_right c)
theorem Hold.left {a b : List (Nat × Obj)} (h : Hold w0 W (a ++ b) []) : Hold w0 W a [] := h.sub (List.sublist_append_left _ _)
theorem Hold.right {a b : List (Nat × Obj)} (h : Hold w0 W (a ++ b) []) : Hold w0 W b [] := h.sub (List.sublist_append_right _ _)
theorem Hold.but {b : Nat} (h : Hold w0 W fs []) (e : But b W W') (hb : w0.heap.size ≤ b) (hf : ∀ x ∈ fs, x.1 ≠ b) : Hold w0 W' fs [] :=
  Hold.make (h.ext.below.but e hb h.size) (fun x hx => ⟨h.ge x hx, (e.block _ (h.ltM hx) (hf x hx)).trans (h.mem hx)⟩) h.nodup

/-- Open blocks as held ones. -/
def dfs (ds : List Nat) : List (Nat × Obj) := ds.map fun d => (d, .deferred (some []))
theorem Hold.addOpen (h : Hold w0 W fs []) (ho : Go.Vc.Open B ds W) (hB : w0.heap.size ≤ B) (hf : ∀ x ∈ fs, x.1 < B ∨ x.2 ≠ .deferred (some [])) : Hold w0 W (dfs ds ++ fs) [] := by
  refine Hold.make h.ext (fun x hx => ?_) ?_
  · rcases List.mem_append.1 hx with hx | hx
    · obtain ⟨d, hd, rfl⟩ := List.mem_map.1 hx
      obtain ⟨h1, h2⟩ := ho.2 d hd
      exact ⟨Nat.le_trans hB h1, h2⟩
    · exact ⟨h.ge x hx, h.mem hx⟩
  · rw [List.map_append, List.nodup_append]
    refine ⟨?_, h.nodup, ?_⟩
    · have : (dfs ds).map (·.1) = ds := by unfold dfs; rw [List.map_map]; exact List.map_id _
      rw [this]; exact ho.1
    · intro a ha b hb
      obtain ⟨x, hx, rfl⟩ := List.mem_map.1 ha
      obtain ⟨d, hd, rfl⟩ := List.mem_map.1 hx
      obtain ⟨y, hy, rfl⟩ := List.mem_map.1 hb
      intro e
      simp only at e
      obtain ⟨h1, h2⟩ := ho.2 d hd
      rcases hf y hy with hlt | hne
      · omega
      · have := h.mem hy
        rw [← e, h2] at this
        exact hne (Option.some.inj this).symm
theorem Hold.opened (h : Hold w0 W (dfs ds ++ fs) []) (hB : ∀ d ∈ ds, B ≤ d) : Go.Vc.Open B ds W := by
  constructor
  · have := h.left.nodup
    have e : (dfs ds).map (·.1) = ds := by unfold dfs; rw [List.map_map]; exact List.map_id _
    rwa [e] at this
  · intro d hd
    exact ⟨hB d hd, h.mem (x := (d, .deferred (some []))) (List.mem_append_left _ (List.mem_map.2 ⟨d, hd, rfl⟩))⟩
/-- The open blocks are taken: what is held below them is as it was. -/
theorem unD_hold {F : World → Prop} (hB : w0.heap.size ≤ B) (hf : ∀ x ∈ fs, x.1 < B ∨ x.2 ≠ .deferred (some [])) (hF : ∀ W', Hold w0 W' fs [] → F W') : ∀ (ds : List Nat) (W : World), Go.Vc.Open B ds W → Hold w0 W fs [] → unD ds W F := by
  intro ds
  induction ds with
  | nil => intro W _ h; exact hF W h
  | cons d r ih =>
    intro W ho h
    obtain ⟨h1, h2⟩ := ho.2 d (by simp)
    have hn := List.nodup_cons.1 ho.1
    refine ⟨h2, ih _ ⟨hn.2, fun x hx => ?_⟩ (h.but shut_but.1 (by omega) fun x hx e => ?_)⟩
    · obtain ⟨k1, k2⟩ := ho.2 x (by simp [hx])
      refine ⟨k1, (shut_but.1.block x (Array.getElem?_eq_some_iff.1 k2).1 fun e => ?_).trans k2⟩
      subst e; exact hn.1 hx
    · rcases hf x hx with hlt | hne
      · omega
      · have := h.mem hx
        rw [e, h2] at this
        exact hne (Option.some.inj this).symm
end

theorem Blk.c6 {w : World} {b : Nat} {t : TypeId} {x y z u v q : Value} (h : Blk w b t #[x, y, z, u, v, q]) : w.cell? ⟨b, 0, none⟩ = some x ∧ w.cell? ⟨b, 1, none⟩ = some y ∧ w.cell? ⟨b, 2, none⟩ = some z ∧
    w.cell? ⟨b, 3, none⟩ = some u ∧ w.cell? ⟨b, 4, none⟩ = some v ∧ w.cell? ⟨b, 5, none⟩ = some q := by
  refine ⟨?_, ?_, ?_, ?_, ?_, ?_⟩ <;> (rw [h.cell]; rfl)
/-- A block of six cells can be written. -/
theorem Blk.w6 {w : World} {b : Nat} {t : TypeId} {x y z u v q : Value} (h : Blk w b t #[x, y, z, u, v, q]) {X : Prop} (hX : X) : (∃ u, w.cell? ⟨b, 0, none⟩ = some u) ∧ w.frozen? ⟨b, 0, none⟩ = false ∧ (∃ u, w.cell? ⟨b, 1, none⟩ = some u) ∧ w.frozen? ⟨b, 1, none⟩ = false ∧
    (∃ u, w.cell? ⟨b, 2, none⟩ = some u) ∧ w.frozen? ⟨b, 2, none⟩ = false ∧ (∃ u, w.cell? ⟨b, 3, none⟩ = some u) ∧ w.frozen? ⟨b, 3, none⟩ = false ∧ (∃ u, w.cell? ⟨b, 4, none⟩ = some u) ∧ w.frozen? ⟨b, 4, none⟩ = false ∧
    (∃ u, w.cell? ⟨b, 5, none⟩ = some u) ∧ w.frozen? ⟨b, 5, none⟩ = false ∧ X := by
  obtain ⟨a0, a1, a2, a3, a4, a5⟩ := h.c6
  exact ⟨⟨_, a0⟩, h.frozen _, ⟨_, a1⟩, h.frozen _, ⟨_, a2⟩, h.frozen _, ⟨_, a3⟩, h.frozen _, ⟨_, a4⟩, h.frozen _, ⟨_, a5⟩, h.frozen _, hX⟩
end Go.Vc
namespace Go.Vc
open Go Go.RowKit
/-- A value of three cells is written into a variable and read out of it. -/
theorem Hold.ret3 {w0 W : World} {fs : List (Nat × Obj)} {ms : List Row} {b : Nat} {t : TypeId} {x y z : Value} {X : Int → Int → ByteArray → World → Prop} (H : Hold w0 W fs ms) (i : Nat) (hi : fs[i]? = some (b, .cells #[x, y, z] t (0, 0))) (k n : Int) (s : ByteArray)
    (hX : ∀ W', Ext w0 W' → X k n s W') : (∃ u, W.cell? ⟨b, 0, none⟩ = some u) ∧ W.frozen? ⟨b, 0, none⟩ = false ∧ (∃ u, W.cell? ⟨b, 1, none⟩ = some u) ∧ W.frozen? ⟨b, 1, none⟩ = false ∧ (∃ u, W.cell? ⟨b, 2, none⟩ = some u) ∧ W.frozen? ⟨b, 2, none⟩ = false ∧
    ∀ W' : World, Put W b 0 [.int .i64 k, .int .i64 n, .string s] W' → ∃ k' : Int, W'.cell? ⟨b, 0, none⟩ = some (.int .i64 k') ∧ ∃ n' : Int, W'.cell? ⟨b, 1, none⟩ = some (.int .i64 n') ∧ ∃ s' : ByteArray, W'.cell? ⟨b, 2, none⟩ = some (.string s') ∧ X k' n' s' W' := by
  have B := H.blk i hi
  have c0 : W.cell? ⟨b, 0, none⟩ = some x := by rw [B.cell]; rfl
  have c1 : W.cell? ⟨b, 1, none⟩ = some y := by rw [B.cell]; rfl
  have c2 : W.cell? ⟨b, 2, none⟩ = some z := by rw [B.cell]; rfl
  refine ⟨⟨_, c0⟩, B.frozen _, ⟨_, c1⟩, B.frozen _, ⟨_, c2⟩, B.frozen _, fun W' h => ?_⟩
  have H' := H.put i hi h
  have B' : Blk W' b t #[.int .i64 k, .int .i64 n, .string s] := B.put h
  exact ⟨k, by rw [B'.cell]; rfl, n, by rw [B'.cell]; rfl, s, by rw [B'.cell]; rfl, hX W' H'.ext⟩
end Go.Vc

/- The verification conditions of the functions, evaluated: printed by program. -/
namespace Go.Proofs.YtdephmdfdgclpaaDoor
open Go Go.Vc
set_option maxRecDepth 20000

set_option maxRecDepth 100000 in
def vright_T (v0 : Int) (v1 : Int) (v2 : ByteArray) (w : World) (R : Ending → World → Prop) : Prop :=
  ∀ b1 w'2, New w (Obj.cells #[.int .i64 v0, .int .i64 v1, .string v2] 26) b1 w'2 → ∃ n4, w'2.cell? ⟨b1, 0, none⟩ = some (.int .i64 n4) ∧ ∀ b5 w'6, New w'2 (Obj.cells #[.int .i64 0, .int .i64 0, .string ⟨#[]⟩] 26) b5 w'6 → (∃ u8, w'6.cell? ⟨b5, 0, none⟩ = some u8) ∧ w'6.frozen? ⟨b5, 0, none⟩ = false ∧ (∃ u9, w'6.cell? ⟨b5, 1, none⟩ = some u9) ∧ w'6.frozen? ⟨b5, 1, none⟩ = false ∧ (∃ u10, w'6.cell? ⟨b5, 2, none⟩ = some u10) ∧ w'6.frozen? ⟨b5, 2, none⟩ = false ∧ ∀ w'11, Put w'6 b5 0 [.int .i64 n4, .int .i64 0, .string ⟨#[]⟩] w'11 → ∃ n13, w'11.cell? ⟨b1, 0, none⟩ = some (.int .i64 n13) ∧ (n13 = 0 → ∃ n15, w'11.cell? ⟨b1, 0, none⟩ = some (.int .i64 n15) ∧ (0 ≤ n15 → ∃ n17, w'11.cell? ⟨b1, 0, none⟩ = some (.int .i64 n17) ∧ (n17 < 4 → ∃ n19, w'11.cell? ⟨b1, 0, none⟩ = some (.int .i64 n19) ∧ ∃ n20, w'11.cell? ⟨b1, 1, none⟩ = some (.int .i64 n20) ∧ ∃ s21, w'11.cell? ⟨b1, 2, none⟩ = some (.string s21) ∧ ∃ n22, w'11.cell? ⟨b5, 0, none⟩ = some (.int .i64 n22) ∧ ∃ n23, w'11.cell? ⟨b5, 1, none⟩ = some (.int .i64 n23) ∧ ∃ s24, w'11.cell? ⟨b5, 2, none⟩ = some (.string s24) ∧ (n19 = n22 ∧ n20 = n23 ∧ s21 = s24 → ∃ s26, w'11.cell? ⟨b1, 2, none⟩ = some (.string s26) ∧ R (.returned (.bool (decide ((↑s26.size : Int) ≤ 1024)))) w'11) ∧ (n19 ≠ n22 ∨ n20 ≠ n23 ∨ s21 ≠ s24 → R (.returned (.bool false)) w'11)) ∧ (4 ≤ n17 → R (.returned (.bool false)) w'11)) ∧ (n15 < 0 → R (.returned (.bool false)) w'11)) ∧ (n13 ≠ 0 → (n13 = 1 → ∃ n32, w'11.cell? ⟨b1, 1, none⟩ = some (.int .i64 n32) ∧ (∃ u33, w'11.cell? ⟨b5, 1, none⟩ = some u33) ∧ w'11.frozen? ⟨b5, 1, none⟩ = false ∧ ∀ w'34, Put w'11 b5 1 [.int .i64 n32] w'34 → ∃ n36, w'34.cell? ⟨b1, 0, none⟩ = some (.int .i64 n36) ∧ (0 ≤ n36 → ∃ n38, w'34.cell? ⟨b1, 0, none⟩ = some (.int .i64 n38) ∧ (n38 < 4 → ∃ n40, w'34.cell? ⟨b1, 0, none⟩ = some (.int .i64 n40) ∧ ∃ n41, w'34.cell? ⟨b1, 1, none⟩ = some (.int .i64 n41) ∧ ∃ s42, w'34.cell? ⟨b1, 2, none⟩ = some (.string s42) ∧ ∃ n43, w'34.cell? ⟨b5, 0, none⟩ = some (.int .i64 n43) ∧ ∃ n44, w'34.cell? ⟨b5, 1, none⟩ = some (.int .i64 n44) ∧ ∃ s45, w'34.cell? ⟨b5, 2, none⟩ = some (.string s45) ∧ (n40 = n43 ∧ n41 = n44 ∧ s42 = s45 → ∃ s47, w'34.cell? ⟨b1, 2, none⟩ = some (.string s47) ∧ R (.returned (.bool (decide ((↑s47.size : Int) ≤ 1024)))) w'34) ∧ (n40 ≠ n43 ∨ n41 ≠ n44 ∨ s42 ≠ s45 → R (.returned (.bool false)) w'34)) ∧ (4 ≤ n38 → R (.returned (.bool false)) w'34)) ∧ (n36 < 0 → R (.returned (.bool false)) w'34)) ∧ (n13 ≠ 1 → (n13 = 2 → ∃ n53, w'11.cell? ⟨b1, 1, none⟩ = some (.int .i64 n53) ∧ (∃ u54, w'11.cell? ⟨b5, 1, none⟩ = some u54) ∧ w'11.frozen? ⟨b5, 1, none⟩ = false ∧ ∀ w'55, Put w'11 b5 1 [.int .i64 (bits BinOp.and IntKind.i64 n53 1)] w'55 → ∃ n57, w'55.cell? ⟨b1, 0, none⟩ = some (.int .i64 n57) ∧ (0 ≤ n57 → ∃ n59, w'55.cell? ⟨b1, 0, none⟩ = some (.int .i64 n59) ∧ (n59 < 4 → ∃ n61, w'55.cell? ⟨b1, 0, none⟩ = some (.int .i64 n61) ∧ ∃ n62, w'55.cell? ⟨b1, 1, none⟩ = some (.int .i64 n62) ∧ ∃ s63, w'55.cell? ⟨b1, 2, none⟩ = some (.string s63) ∧ ∃ n64, w'55.cell? ⟨b5, 0, none⟩ = some (.int .i64 n64) ∧ ∃ n65, w'55.cell? ⟨b5, 1, none⟩ = some (.int .i64 n65) ∧ ∃ s66, w'55.cell? ⟨b5, 2, none⟩ = some (.string s66) ∧ (n61 = n64 ∧ n62 = n65 ∧ s63 = s66 → ∃ s68, w'55.cell? ⟨b1, 2, none⟩ = some (.string s68) ∧ R (.returned (.bool (decide ((↑s68.size : Int) ≤ 1024)))) w'55) ∧ (n61 ≠ n64 ∨ n62 ≠ n65 ∨ s63 ≠ s66 → R (.returned (.bool false)) w'55)) ∧ (4 ≤ n59 → R (.returned (.bool false)) w'55)) ∧ (n57 < 0 → R (.returned (.bool false)) w'55)) ∧ (n13 ≠ 2 → (n13 = 3 → ∃ s74, w'11.cell? ⟨b1, 2, none⟩ = some (.string s74) ∧ (∃ u75, w'11.cell? ⟨b5, 2, none⟩ = some u75) ∧ w'11.frozen? ⟨b5, 2, none⟩ = false ∧ ∀ w'76, Put w'11 b5 2 [.string s74] w'76 → ∃ n78, w'76.cell? ⟨b1, 0, none⟩ = some (.int .i64 n78) ∧ (0 ≤ n78 → ∃ n80, w'76.cell? ⟨b1, 0, none⟩ = some (.int .i64 n80) ∧ (n80 < 4 → ∃ n82, w'76.cell? ⟨b1, 0, none⟩ = some (.int .i64 n82) ∧ ∃ n83, w'76.cell? ⟨b1, 1, none⟩ = some (.int .i64 n83) ∧ ∃ s84, w'76.cell? ⟨b1, 2, none⟩ = some (.string s84) ∧ ∃ n85, w'76.cell? ⟨b5, 0, none⟩ = some (.int .i64 n85) ∧ ∃ n86, w'76.cell? ⟨b5, 1, none⟩ = some (.int .i64 n86) ∧ ∃ s87, w'76.cell? ⟨b5, 2, none⟩ = some (.string s87) ∧ (n82 = n85 ∧ n83 = n86 ∧ s84 = s87 → ∃ s89, w'76.cell? ⟨b1, 2, none⟩ = some (.string s89) ∧ R (.returned (.bool (decide ((↑s89.size : Int) ≤ 1024)))) w'76) ∧ (n82 ≠ n85 ∨ n83 ≠ n86 ∨ s84 ≠ s87 → R (.returned (.bool false)) w'76)) ∧ (4 ≤ n80 → R (.returned (.bool false)) w'76)) ∧ (n78 < 0 → R (.returned (.bool false)) w'76)) ∧ (n13 ≠ 3 → ∃ n94, w'11.cell? ⟨b1, 0, none⟩ = some (.int .i64 n94) ∧ (0 ≤ n94 → ∃ n96, w'11.cell? ⟨b1, 0, none⟩ = some (.int .i64 n96) ∧ (n96 < 4 → ∃ n98, w'11.cell? ⟨b1, 0, none⟩ = some (.int .i64 n98) ∧ ∃ n99, w'11.cell? ⟨b1, 1, none⟩ = some (.int .i64 n99) ∧ ∃ s100, w'11.cell? ⟨b1, 2, none⟩ = some (.string s100) ∧ ∃ n101, w'11.cell? ⟨b5, 0, none⟩ = some (.int .i64 n101) ∧ ∃ n102, w'11.cell? ⟨b5, 1, none⟩ = some (.int .i64 n102) ∧ ∃ s103, w'11.cell? ⟨b5, 2, none⟩ = some (.string s103) ∧ (n98 = n101 ∧ n99 = n102 ∧ s100 = s103 → ∃ s105, w'11.cell? ⟨b1, 2, none⟩ = some (.string s105) ∧ R (.returned (.bool (decide ((↑s105.size : Int) ≤ 1024)))) w'11) ∧ (n98 ≠ n101 ∨ n99 ≠ n102 ∨ s100 ≠ s103 → R (.returned (.bool false)) w'11)) ∧ (4 ≤ n96 → R (.returned (.bool false)) w'11)) ∧ (n94 < 0 → R (.returned (.bool false)) w'11)))))

set_option maxRecDepth 100000 in
theorem vright_eq (v0 : Int) (v1 : Int) (v2 : ByteArray) (w : World) (R : Ending → World → Prop) : vright_T v0 v1 v2 w R = vcFn Tryd.prog [] [] Tryd.f43 [.agg #[.int .i64 v0, .int .i64 v1, .string v2]] w R := by kernel_rfl

set_option maxRecDepth 100000 in
theorem vright_vc (v0 : Int) (v1 : Int) (v2 : ByteArray) (w : World) (R : Ending → World → Prop) (hvc : vright_T v0 v1 v2 w R) : Calls Tryd.prog 43 #[.agg #[.int .i64 v0, .int .i64 v1, .string v2]] w R :=
  calls_of_vc (args := [.agg #[.int .i64 v0, .int .i64 v1, .string v2]]) [] [] Tryd.mixed Tryd.func43 (cast (vright_eq _ _ _ w R) hvc)

set_option maxRecDepth 100000 in
def vcompare_T (a0 : Int) (a1 : Int) (a2 : ByteArray) (b0 : Int) (b1 : Int) (b2 : ByteArray) (w : World) (R : Ending → World → Prop) : Prop :=
  ∀ b1_1 w'2, New w (Obj.cells #[.int .i64 a0, .int .i64 a1, .string a2] 26) b1_1 w'2 → ∀ b4 w'5, New w'2 (Obj.cells #[.int .i64 b0, .int .i64 b1, .string b2] 26) b4 w'5 → ∀ w'7, Drew w'5 w'7 → ∃ n9, w'7.cell? ⟨b1_1, 0, none⟩ = some (.int .i64 n9) ∧ ∃ n10, w'7.cell? ⟨b4, 0, none⟩ = some (.int .i64 n10) ∧ ∃ n11, w'7.cell? ⟨b1_1, 1, none⟩ = some (.int .i64 n11) ∧ ∃ n12, w'7.cell? ⟨b4, 1, none⟩ = some (.int .i64 n12) ∧ ∃ s13, w'7.cell? ⟨b1_1, 2, none⟩ = some (.string s13) ∧ ∃ s14, w'7.cell? ⟨b4, 2, none⟩ = some (.string s14) ∧ Calls Tryd.prog 101 #[.int .i64 n9, .int .i64 n10] w'7 fun e15 w16 ↦
 ∃ n17, e15 = .returned (.int .i64 n17) ∧ SameTo (some [b4, b1_1, b4, b1_1, b4, b1_1]) w'7 w'7 w16 ∧ Calls Tryd.prog 102 #[.int .i64 n11, .int .i64 n12] w16 fun e18 w19 ↦
 ∃ n20, e18 = .returned (.int .i64 n20) ∧ SameTo (some [b4, b1_1, b4, b1_1, b4, b1_1]) w'7 w16 w19 ∧ Calls Tryd.prog 103 #[.string s13, .string s14] w19 fun e21 w22 ↦
 ∃ n23, e21 = .returned (.int .i64 n23) ∧ ∀ b24 w'25, New w22 (Obj.cells #[.int .i64 n17, .int .i64 n20, .int .i64 n23] 3) b24 w'25 → Calls Tryd.prog 100 #[.slice (some ⟨b24, 0, none⟩) 3 3] w'25 fun e27 w28 ↦
 ∃ n29, e27 = .returned (.int .i64 n29) ∧ R (.returned (.int .i64 n29)) w28

set_option maxRecDepth 100000 in
theorem vcompare_eq (a0 : Int) (a1 : Int) (a2 : ByteArray) (b0 : Int) (b1 : Int) (b2 : ByteArray) (w : World) (R : Ending → World → Prop) : vcompare_T a0 a1 a2 b0 b1 b2 w R = vcFn Tryd.prog [] [(1, [2, 4, 6, 8, 12, 14, 16, 18, 22, 24, 26, 28, 11, 21, 30, 32, 34, 36, 0])] Tryd.f79 [.agg #[.int .i64 a0, .int .i64 a1, .string a2], .agg #[.int .i64 b0, .int .i64 b1, .string b2]] w R := by kernel_rfl

set_option maxRecDepth 100000 in
theorem vcompare_vc (a0 : Int) (a1 : Int) (a2 : ByteArray) (b0 : Int) (b1 : Int) (b2 : ByteArray) (w : World) (R : Ending → World → Prop) (hvc : vcompare_T a0 a1 a2 b0 b1 b2 w R) : Calls Tryd.prog 79 #[.agg #[.int .i64 a0, .int .i64 a1, .string a2], .agg #[.int .i64 b0, .int .i64 b1, .string b2]] w R :=
  calls_of_vc (args := [.agg #[.int .i64 a0, .int .i64 a1, .string a2], .agg #[.int .i64 b0, .int .i64 b1, .string b2]]) [] [(1, [2, 4, 6, 8, 12, 14, 16, 18, 22, 24, 26, 28, 11, 21, 30, 32, 34, 36, 0])] Tryd.mixed Tryd.func79 (cast (vcompare_eq _ _ _ _ _ _ w R) hvc)

set_option maxRecDepth 100000 in
def rvright_T (v0 : Int) (v1 : Int) (v2 : ByteArray) (w : World) (R : Ending → World → Prop) : Prop :=
  ∀ b1 w'2, New w (Obj.cells #[.int .i64 v0, .int .i64 v1, .string v2] 26) b1 w'2 → ∃ n4, w'2.cell? ⟨b1, 0, none⟩ = some (.int .i64 n4) ∧ (n4 = 0 → ∃ n6, w'2.cell? ⟨b1, 1, none⟩ = some (.int .i64 n6) ∧ (n6 = 0 → ∃ s8, w'2.cell? ⟨b1, 2, none⟩ = some (.string s8) ∧ R (.returned (.bool (sEq s8 ⟨#[]⟩))) w'2) ∧ (n6 ≠ 0 → R (.returned (.bool false)) w'2)) ∧ (n4 ≠ 0 → (n4 = 1 → ∃ s12, w'2.cell? ⟨b1, 2, none⟩ = some (.string s12) ∧ R (.returned (.bool (sEq s12 ⟨#[]⟩))) w'2) ∧ (n4 ≠ 1 → (n4 = 2 → ∃ n15, w'2.cell? ⟨b1, 1, none⟩ = some (.int .i64 n15) ∧ (n15 = 0 → ∃ s17, w'2.cell? ⟨b1, 2, none⟩ = some (.string s17) ∧ R (.returned (.bool (sEq s17 ⟨#[]⟩))) w'2) ∧ (n15 ≠ 0 → ∃ n19, w'2.cell? ⟨b1, 1, none⟩ = some (.int .i64 n19) ∧ (n19 = 1 → ∃ s21, w'2.cell? ⟨b1, 2, none⟩ = some (.string s21) ∧ R (.returned (.bool (sEq s21 ⟨#[]⟩))) w'2) ∧ (n19 ≠ 1 → R (.returned (.bool false)) w'2))) ∧ (n4 ≠ 2 → (n4 = 3 → ∃ n25, w'2.cell? ⟨b1, 1, none⟩ = some (.int .i64 n25) ∧ (n25 = 0 → ∃ s27, w'2.cell? ⟨b1, 2, none⟩ = some (.string s27) ∧ R (.returned (.bool (decide ((↑s27.size : Int) ≤ 1024)))) w'2) ∧ (n25 ≠ 0 → R (.returned (.bool false)) w'2)) ∧ (n4 ≠ 3 → R (.returned (.bool false)) w'2))))

set_option maxRecDepth 100000 in
theorem rvright_eq (v0 : Int) (v1 : Int) (v2 : ByteArray) (w : World) (R : Ending → World → Prop) : rvright_T v0 v1 v2 w R = vcFn Tryd.prog [] [] Tryd.f30 [.agg #[.int .i64 v0, .int .i64 v1, .string v2]] w R := by kernel_rfl

set_option maxRecDepth 100000 in
theorem rvright_vc (v0 : Int) (v1 : Int) (v2 : ByteArray) (w : World) (R : Ending → World → Prop) (hvc : rvright_T v0 v1 v2 w R) : Calls Tryd.prog 30 #[.agg #[.int .i64 v0, .int .i64 v1, .string v2]] w R :=
  calls_of_vc (args := [.agg #[.int .i64 v0, .int .i64 v1, .string v2]]) [] [] Tryd.mixed Tryd.func30 (cast (rvright_eq _ _ _ w R) hvc)

set_option maxRecDepth 100000 in
def cmpor_T (vals_p : Option Addr) (vals_n : Nat) (vals_c : Nat) (w : World) (R : Ending → World → Prop) : Prop :=
  ∃ (I1 : Int → World → Prop), ∃ (M2 : Int → World → Nat), I1 0 w ∧ ∀ (n3 : Int) (w'4 : World), I1 n3 w'4 → (n3 < (↑vals_n : Int) → ∃ b7, ∃ o8, vals_p = some ⟨b7, o8, none⟩ ∧ 0 ≤ n3 ∧ n3 < (↑vals_n : Int) ∧ ∃ n9, w'4.cell? ⟨b7, (o8 + n3.toNat), none⟩ = some (.int .i64 n9) ∧ (n9 ≠ 0 → R (.returned (.int .i64 n9)) w'4) ∧ (n9 = 0 → I1 (IntKind.i64.wrap (n3 + 1)) w'4 ∧ M2 (IntKind.i64.wrap (n3 + 1)) w'4 < M2 n3 w'4)) ∧ ((↑vals_n : Int) ≤ n3 → R (.returned (.int .i64 0)) w'4)

set_option maxRecDepth 100000 in
theorem cmpor_eq (vals_p : Option Addr) (vals_n : Nat) (vals_c : Nat) (w : World) (R : Ending → World → Prop) : cmpor_T vals_p vals_n vals_c w R = vcFn Tryd.prog [] [] Tryd.f100 [.slice vals_p vals_n vals_c] w R := by kernel_rfl

set_option maxRecDepth 100000 in
theorem cmpor_vc (vals_p : Option Addr) (vals_n : Nat) (vals_c : Nat) (w : World) (R : Ending → World → Prop) (hvc : cmpor_T vals_p vals_n vals_c w R) : Calls Tryd.prog 100 #[.slice vals_p vals_n vals_c] w R :=
  calls_of_vc (args := [.slice vals_p vals_n vals_c]) [] [] Tryd.mixed Tryd.func100 (cast (cmpor_eq _ _ _ w R) hvc)

set_option maxRecDepth 100000 in
def cmpint_T (x : Int) (y : Int) (w : World) (R : Ending → World → Prop) : Prop :=
  Calls Tryd.prog 112 #[.int .i64 x] w fun e1 w2 ↦
 ∃ b3, e1 = .returned (.bool b3) ∧ Calls Tryd.prog 112 #[.int .i64 y] w2 fun e4 w5 ↦
 ∃ b6, e4 = .returned (.bool b6) ∧ (b3 = true → (b6 = true → R (.returned (.int .i64 0)) w5) ∧ (b6 = false → R (.returned (.int .i64 (-1))) w5)) ∧ (b3 = false → (b6 = true → R (.returned (.int .i64 1)) w5) ∧ (b6 = false → (x < y → R (.returned (.int .i64 (-1))) w5) ∧ (y ≤ x → (y < x → R (.returned (.int .i64 1)) w5) ∧ (x ≤ y → R (.returned (.int .i64 0)) w5))))

set_option maxRecDepth 100000 in
theorem cmpint_eq (x : Int) (y : Int) (w : World) (R : Ending → World → Prop) : cmpint_T x y w R = vcFn Tryd.prog [] [] Tryd.f101 [.int .i64 x, .int .i64 y] w R := by kernel_rfl

set_option maxRecDepth 100000 in
theorem cmpint_vc (x : Int) (y : Int) (w : World) (R : Ending → World → Prop) (hvc : cmpint_T x y w R) : Calls Tryd.prog 101 #[.int .i64 x, .int .i64 y] w R :=
  calls_of_vc (args := [.int .i64 x, .int .i64 y]) [] [] Tryd.mixed Tryd.func101 (cast (cmpint_eq _ _ w R) hvc)

set_option maxRecDepth 100000 in
def cmpint64_T (x : Int) (y : Int) (w : World) (R : Ending → World → Prop) : Prop :=
  Calls Tryd.prog 113 #[.int .i64 x] w fun e1 w2 ↦
 ∃ b3, e1 = .returned (.bool b3) ∧ Calls Tryd.prog 113 #[.int .i64 y] w2 fun e4 w5 ↦
 ∃ b6, e4 = .returned (.bool b6) ∧ (b3 = true → (b6 = true → R (.returned (.int .i64 0)) w5) ∧ (b6 = false → R (.returned (.int .i64 (-1))) w5)) ∧ (b3 = false → (b6 = true → R (.returned (.int .i64 1)) w5) ∧ (b6 = false → (x < y → R (.returned (.int .i64 (-1))) w5) ∧ (y ≤ x → (y < x → R (.returned (.int .i64 1)) w5) ∧ (x ≤ y → R (.returned (.int .i64 0)) w5))))

set_option maxRecDepth 100000 in
theorem cmpint64_eq (x : Int) (y : Int) (w : World) (R : Ending → World → Prop) : cmpint64_T x y w R = vcFn Tryd.prog [] [] Tryd.f102 [.int .i64 x, .int .i64 y] w R := by kernel_rfl

set_option maxRecDepth 100000 in
theorem cmpint64_vc (x : Int) (y : Int) (w : World) (R : Ending → World → Prop) (hvc : cmpint64_T x y w R) : Calls Tryd.prog 102 #[.int .i64 x, .int .i64 y] w R :=
  calls_of_vc (args := [.int .i64 x, .int .i64 y]) [] [] Tryd.mixed Tryd.func102 (cast (cmpint64_eq _ _ w R) hvc)

set_option maxRecDepth 100000 in
def isnani_T (x : Int) (w : World) (R : Ending → World → Prop) : Prop :=
  R (.returned (.bool !decide (x = x))) w

set_option maxRecDepth 100000 in
theorem isnani_eq (x : Int) (w : World) (R : Ending → World → Prop) : isnani_T x w R = vcFn Tryd.prog [] [] Tryd.f112 [.int .i64 x] w R := by kernel_rfl

set_option maxRecDepth 100000 in
theorem isnani_vc (x : Int) (w : World) (R : Ending → World → Prop) (hvc : isnani_T x w R) : Calls Tryd.prog 112 #[.int .i64 x] w R :=
  calls_of_vc (args := [.int .i64 x]) [] [] Tryd.mixed Tryd.func112 (cast (isnani_eq _ w R) hvc)

set_option maxRecDepth 100000 in
def isnani64_T (x : Int) (w : World) (R : Ending → World → Prop) : Prop :=
  R (.returned (.bool !decide (x = x))) w

set_option maxRecDepth 100000 in
theorem isnani64_eq (x : Int) (w : World) (R : Ending → World → Prop) : isnani64_T x w R = vcFn Tryd.prog [] [] Tryd.f113 [.int .i64 x] w R := by kernel_rfl

set_option maxRecDepth 100000 in
theorem isnani64_vc (x : Int) (w : World) (R : Ending → World → Prop) (hvc : isnani64_T x w R) : Calls Tryd.prog 113 #[.int .i64 x] w R :=
  calls_of_vc (args := [.int .i64 x]) [] [] Tryd.mixed Tryd.func113 (cast (isnani64_eq _ w R) hvc)

set_option maxRecDepth 100000 in
def strcmp_T (a : ByteArray) (b : ByteArray) (w : World) (R : Ending → World → Prop) : Prop :=
  Calls Tryd.prog 114 #[.string a, .string b] w fun e1 w2 ↦
 ∃ n3, e1 = .returned (.int .i64 n3) ∧ R (.returned (.int .i64 n3)) w2

set_option maxRecDepth 100000 in
theorem strcmp_eq (a : ByteArray) (b : ByteArray) (w : World) (R : Ending → World → Prop) : strcmp_T a b w R = vcFn Tryd.prog [] [] Tryd.f103 [.string a, .string b] w R := by kernel_rfl

set_option maxRecDepth 100000 in
theorem strcmp_vc (a : ByteArray) (b : ByteArray) (w : World) (R : Ending → World → Prop) (hvc : strcmp_T a b w R) : Calls Tryd.prog 103 #[.string a, .string b] w R :=
  calls_of_vc (args := [.string a, .string b]) [] [] Tryd.mixed Tryd.func103 (cast (strcmp_eq _ _ w R) hvc)

set_option maxRecDepth 100000 in
def strcmp0_T (a : ByteArray) (b : ByteArray) (w : World) (R : Ending → World → Prop) : Prop :=
  ∃ n1, ∃ (w'2 : World), Sem.run Tryd.prog (callFunc 120 #[.string a, .string b]) w = Result.ok (Next.value (.int .i64 n1)) w'2 ∧ R (.returned (.int .i64 n1)) w'2

set_option maxRecDepth 100000 in
theorem strcmp0_eq (a : ByteArray) (b : ByteArray) (w : World) (R : Ending → World → Prop) : strcmp0_T a b w R = vcFn Tryd.prog [] [] Tryd.f114 [.string a, .string b] w R := by kernel_rfl

set_option maxRecDepth 100000 in
theorem strcmp0_vc (a : ByteArray) (b : ByteArray) (w : World) (R : Ending → World → Prop) (hvc : strcmp0_T a b w R) : Calls Tryd.prog 114 #[.string a, .string b] w R :=
  calls_of_vc (args := [.string a, .string b]) [] [] Tryd.mixed Tryd.func114 (cast (strcmp0_eq _ _ w R) hvc)


end Go.Proofs.YtdephmdfdgclpaaDoor

/- The contracts of package value, of the document's answer for it, and of the words that hold rows against one another. -/
namespace Go.Proofs.YtdephmdfdgclpaaDoor
open Go Go.Vc Go.RowKit
set_option maxRecDepth 20000

theorem strcmp0_ok (a b : ByteArray) (w : World) : Calls Tryd.prog 114 #[.string a, .string b] w fun e w' => e = .returned (.int .i64 (cmpS a b)) ∧ w' = w := by
  apply strcmp0_vc
  unfold strcmp0_T
  refine ⟨_, _, ?_, rfl, rfl⟩
  rw [run_callFunc_extern Tryd.func120 (by kernel_rfl) (by kernel_rfl) (by kernel_rfl) (e := Extern.BytealgCompare.compare) (by kernel_rfl), Lib.run_compareString]
  rfl
theorem strcmp_ok (a b : ByteArray) (w : World) : Calls Tryd.prog 103 #[.string a, .string b] w fun e w' => e = .returned (.int .i64 (cmpS a b)) ∧ Ext w w' := by
  apply strcmp_vc
  unfold strcmp_T
  refine (strcmp0_ok a b w).mono ?_
  rintro e w' ⟨rfl, rfl⟩
  exact ⟨_, rfl, rfl, .rfl⟩
theorem isnani_ok (x : Int) (w : World) : Calls Tryd.prog 112 #[.int .i64 x] w fun e w' => e = .returned (.bool false) ∧ Ext w w' := by
  apply isnani_vc
  unfold isnani_T
  exact ⟨by simp, .rfl⟩
theorem isnani64_ok (x : Int) (w : World) : Calls Tryd.prog 113 #[.int .i64 x] w fun e w' => e = .returned (.bool false) ∧ Ext w w' := by
  apply isnani64_vc
  unfold isnani64_T
  exact ⟨by simp, .rfl⟩
theorem cmpint_ok (x y : Int) (w : World) : Calls Tryd.prog 101 #[.int .i64 x, .int .i64 y] w fun e w' => e = .returned (.int .i64 (cmpI x y)) ∧ Ext w w' := by
  apply cmpint_vc
  unfold cmpint_T
  refine (isnani_ok x w).mono ?_
  rintro e w1 ⟨rfl, e1⟩
  refine ⟨_, rfl, (isnani_ok y w1).mono ?_⟩
  rintro e w2 ⟨rfl, e2⟩
  have e12 := e1.trans e2
  refine ⟨_, rfl, ⟨fun h => (by cases h), fun _ => ⟨fun h => (by cases h), fun _ => ⟨fun h => ⟨?_, e12⟩, fun h => ⟨fun h' => ⟨?_, e12⟩, fun h' => ⟨?_, e12⟩⟩⟩⟩⟩⟩
  · unfold cmpI; rw [if_pos h]
  · unfold cmpI; rw [if_neg (by omega), if_pos h']
  · unfold cmpI; rw [if_neg (by omega), if_neg (by omega)]
theorem cmpint64_ok (x y : Int) (w : World) : Calls Tryd.prog 102 #[.int .i64 x, .int .i64 y] w fun e w' => e = .returned (.int .i64 (cmpI x y)) ∧ Ext w w' := by
  apply cmpint64_vc
  unfold cmpint64_T
  refine (isnani64_ok x w).mono ?_
  rintro e w1 ⟨rfl, e1⟩
  refine ⟨_, rfl, (isnani64_ok y w1).mono ?_⟩
  rintro e w2 ⟨rfl, e2⟩
  have e12 := e1.trans e2
  refine ⟨_, rfl, ⟨fun h => (by cases h), fun _ => ⟨fun h => (by cases h), fun _ => ⟨fun h => ⟨?_, e12⟩, fun h => ⟨fun h' => ⟨?_, e12⟩, fun h' => ⟨?_, e12⟩⟩⟩⟩⟩⟩
  · unfold cmpI; rw [if_pos h]
  · unfold cmpI; rw [if_neg (by omega), if_pos h']
  · unfold cmpI; rw [if_neg (by omega), if_neg (by omega)]

/-- The first of the numbers that is not 0. -/
def orI : List Int → Int
  | [] => 0
  | x :: l => if x ≠ 0 then x else orI l
theorem orI_drop {l : List Int} {k : Nat} {x : Int} (h : l[k]? = some x) : orI (l.drop k) = if x ≠ 0 then x else orI (l.drop (k + 1)) := by
  obtain ⟨hk, rfl⟩ := List.getElem?_eq_some_iff.1 h
  rw [List.drop_eq_getElem_cons hk, orI]
theorem cmpor_ok (w : World) {p : Option Addr} {n c : Nat} {l : List Int} (hl : l.length = n) (hn : n < 9223372036854775807) (h : At w p (vI .i64 l)) : Calls Tryd.prog 100 #[.slice p n c] w fun e w' => e = .returned (.int .i64 (orI l)) ∧ Ext w w' := by
  apply cmpor_vc
  unfold cmpor_T
  refine ⟨fun i w' => ∃ k : Nat, i = (k : Int) ∧ k ≤ n ∧ orI (l.drop k) = orI l ∧ Ext w w', fun i _ => n - i.toNat, ⟨0, rfl, Nat.zero_le _, rfl, .rfl⟩, ?_⟩
  rintro i w' ⟨k, rfl, hk, ho, hx⟩
  refine ⟨fun hlt => ?_, fun hge => ⟨?_, hx⟩⟩
  · obtain ⟨b, o, hp, hc⟩ := (h.ext hx).getI (i := k) (by omega)
    have hd := orI_drop (l := l) (k := k) (List.getElem?_eq_getElem (by omega))
    refine ⟨b, o, hp, by omega, by omega, _, by rw [Int.toNat_natCast]; exact hc, fun hne => ⟨?_, hx⟩, fun he => ?_⟩
    · rw [← ho, hd, if_pos hne]
    · rw [i64_next (by omega)]
      refine ⟨⟨k + 1, rfl, by omega, ?_, hx⟩, by simp only [Int.toNat_natCast]; omega⟩
      rw [← ho, hd, if_neg (by simpa using he)]
  · rw [← ho, List.drop_eq_nil_of_le (by omega)]; rfl

theorem nil_size : (ByteArray.mk #[]).size = 0 := rfl
theorem vright_ok (v : Val) (w : World) : Calls Tryd.prog 43 #[v.agg] w fun e w' => e = .returned (.bool v.right) ∧ Ext w w' := by
  apply vright_vc
  unfold vright_T
  intro b1 w2 h1
  have H1 := (Hold.start (Ext.rfl (w := w))).new h1
  obtain ⟨p0, p1, p2⟩ := (H1.blk 0 rfl).c3
  refine ⟨_, p0, fun b5 w6 h5 => ?_⟩
  have H5 := H1.new h5
  obtain ⟨q0, q1, q2⟩ := (H5.blk 0 rfl).c3
  refine ⟨⟨_, q0⟩, (H5.blk 0 rfl).frozen _, ⟨_, q1⟩, (H5.blk 0 rfl).frozen _, ⟨_, q2⟩, (H5.blk 0 rfl).frozen _, fun w11 h11 => ?_⟩
  have H11 := H5.put 0 rfl h11
  have B1 : Blk w11 b1 26 #[.int .i64 v.k, .int .i64 v.n, .string v.s] := H11.blk 1 rfl
  have B5 : Blk w11 b5 26 #[.int .i64 v.k, .int .i64 0, .string ⟨#[]⟩] := H11.blk 0 rfl
  obtain ⟨a0, a1, a2⟩ := B1.c3
  obtain ⟨d0, d1, d2⟩ := B5.c3
  have hx := H11.ext
  have key : ∀ (b : Bool) w', Ext w w' → (b = true ↔ v.Ok) → Ending.returned (Value.bool b) = Ending.returned (Value.bool v.right) ∧ Ext w w' := by
    intro b w' hx hb
    refine ⟨?_, hx⟩
    have : b = v.right := by unfold Val.right; rw [Bool.eq_iff_iff, hb]; simp
    rw [this]
  refine ⟨_, a0, fun hk => ?_, fun hk0 => ⟨fun hk => ?_, fun hk1 => ⟨fun hk => ?_, fun hk2 => ⟨fun hk => ?_, fun hk3 => ?_⟩⟩⟩⟩
  · refine ⟨_, a0, fun _ => ⟨_, a0, fun _ => ⟨_, a0, _, a1, _, a2, _, d0, _, d1, _, d2, fun he => ⟨_, a2, key _ _ hx ?_⟩, fun he => key _ _ hx ?_⟩, fun _ => by omega⟩, fun _ => by omega⟩
    · unfold Val.Ok; rw [he.2.2]; simp [hk, he.2.1, nil_size]
    · unfold Val.Ok; constructor
      · intro h; cases h
      · intro h; rcases h with h | h | h | h
        · rcases he with e | e | e
          · exact absurd rfl e
          · exact absurd h.2.1 e
          · exact absurd h.2.2 e
        · omega
        · omega
        · omega
  · refine ⟨_, a1, ⟨_, d1⟩, B5.frozen _, fun w34 h34 => ?_⟩
    have H34 := H11.put 0 rfl h34
    have B1' : Blk w34 b1 26 #[.int .i64 v.k, .int .i64 v.n, .string v.s] := H34.blk 1 rfl
    have B5' : Blk w34 b5 26 #[.int .i64 v.k, .int .i64 v.n, .string ⟨#[]⟩] := H34.blk 0 rfl
    obtain ⟨a0, a1, a2⟩ := B1'.c3
    obtain ⟨d0, d1, d2⟩ := B5'.c3
    refine ⟨_, a0, fun _ => ⟨_, a0, fun _ => ⟨_, a0, _, a1, _, a2, _, d0, _, d1, _, d2, fun he => ⟨_, a2, key _ _ H34.ext ?_⟩, fun he => key _ _ H34.ext ?_⟩, fun _ => by omega⟩, fun _ => by omega⟩
    · unfold Val.Ok; rw [he.2.2]; simp [hk, nil_size]
    · unfold Val.Ok; constructor
      · intro h; cases h
      · intro h; rcases h with h | h | h | h
        · omega
        · rcases he with e | e | e
          · exact absurd rfl e
          · exact absurd rfl e
          · exact absurd h.2 e
        · omega
        · omega
  · refine ⟨_, a1, ⟨_, d1⟩, B5.frozen _, fun w34 h34 => ?_⟩
    have H34 := H11.put 0 rfl h34
    have B1' : Blk w34 b1 26 #[.int .i64 v.k, .int .i64 v.n, .string v.s] := H34.blk 1 rfl
    have B5' : Blk w34 b5 26 #[.int .i64 v.k, .int .i64 (bits .and .i64 v.n 1), .string ⟨#[]⟩] := H34.blk 0 rfl
    rw [and1_i64] at B5'
    obtain ⟨a0, a1, a2⟩ := B1'.c3
    obtain ⟨d0, d1, d2⟩ := B5'.c3
    refine ⟨_, a0, fun _ => ⟨_, a0, fun _ => ⟨_, a0, _, a1, _, a2, _, d0, _, d1, _, d2, fun he => ⟨_, a2, key _ _ H34.ext ?_⟩, fun he => key _ _ H34.ext ?_⟩, fun _ => by omega⟩, fun _ => by omega⟩
    · unfold Val.Ok
      have : v.n = 0 ∨ v.n = 1 := by omega
      rw [he.2.2]; simp [hk, this, nil_size]
    · unfold Val.Ok; constructor
      · intro h; cases h
      · intro h; rcases h with h | h | h | h
        · omega
        · omega
        · rcases he with e | e | e
          · exact absurd rfl e
          · omega
          · exact absurd h.2.2 e
        · omega
  · refine ⟨_, a2, ⟨_, d2⟩, B5.frozen _, fun w34 h34 => ?_⟩
    have H34 := H11.put 0 rfl h34
    have B1' : Blk w34 b1 26 #[.int .i64 v.k, .int .i64 v.n, .string v.s] := H34.blk 1 rfl
    have B5' : Blk w34 b5 26 #[.int .i64 v.k, .int .i64 0, .string v.s] := H34.blk 0 rfl
    obtain ⟨a0, a1, a2⟩ := B1'.c3
    obtain ⟨d0, d1, d2⟩ := B5'.c3
    refine ⟨_, a0, fun _ => ⟨_, a0, fun _ => ⟨_, a0, _, a1, _, a2, _, d0, _, d1, _, d2, fun he => ⟨_, a2, key _ _ H34.ext ?_⟩, fun he => key _ _ H34.ext ?_⟩, fun _ => by omega⟩, fun _ => by omega⟩
    · unfold Val.Ok; simp only [decide_eq_true_eq]
      constructor
      · intro h; exact .inr (.inr (.inr ⟨hk, he.2.1, by omega⟩))
      · intro h; rcases h with h | h | h | h <;> omega
    · unfold Val.Ok; constructor
      · intro h; cases h
      · intro h; rcases h with h | h | h | h
        · omega
        · omega
        · omega
        · rcases he with e | e | e
          · exact absurd rfl e
          · exact absurd h.2.1 e
          · exact absurd rfl e
  · have no : ¬ v.Ok := by unfold Val.Ok; omega
    refine ⟨_, a0, fun _ => ⟨_, a0, fun _ => ⟨_, a0, _, a1, _, a2, _, d0, _, d1, _, d2, fun he => by omega, fun he => key _ _ hx (by simp [no])⟩, fun _ => key _ _ hx (by simp [no])⟩, fun _ => key _ _ hx (by simp [no])⟩

theorem rvright_ok (v : Val) (w : World) : Calls Tryd.prog 30 #[v.agg] w fun e w' => e = .returned (.bool v.right) ∧ Ext w w' := by
  apply rvright_vc
  unfold rvright_T
  intro b1 w2 h1
  have hx := h1.ext
  obtain ⟨p0, p1, p2⟩ := (Blk.new h1).c3
  have key : ∀ (b : Bool) w', Ext w w' → (b = true ↔ v.Ok) → Ending.returned (Value.bool b) = Ending.returned (Value.bool v.right) ∧ Ext w w' := by
    intro b w' hx hb
    refine ⟨?_, hx⟩
    have : b = v.right := by unfold Val.right; rw [Bool.eq_iff_iff, hb]; simp
    rw [this]
  have f : ∀ {b : Bool}, b = false → ¬ v.Ok → (b = true ↔ v.Ok) := fun hb hn => by simp [hb, hn]
  refine ⟨_, p0, fun hk => ⟨_, p1, fun hn => ⟨_, p2, key _ _ hx ?_⟩, fun hn => key _ _ hx ?_⟩, fun hk0 => ⟨fun hk => ⟨_, p2, key _ _ hx ?_⟩, fun hk1 => ⟨fun hk => ⟨_, p1, fun hn => ⟨_, p2, key _ _ hx ?_⟩, fun hn => ⟨_, p1, fun hn1 => ⟨_, p2, key _ _ hx ?_⟩, fun hn1 => key _ _ hx ?_⟩⟩,
    fun hk2 => ⟨fun hk => ⟨_, p1, fun hn => ⟨_, p2, key _ _ hx ?_⟩, fun hn => key _ _ hx ?_⟩, fun hk3 => key _ _ hx ?_⟩⟩⟩⟩
  all_goals (unfold Val.Ok; try rw [sEq_iff])
  · exact ⟨fun h => .inl ⟨hk, hn, h⟩, fun h => by rcases h with h | h | h | h <;> first | exact h.2.2 | omega⟩
  · exact ⟨fun h => (by cases h), fun h => by omega⟩
  · exact ⟨fun h => .inr (.inl ⟨hk, h⟩), fun h => by rcases h with h | h | h | h <;> first | exact h.2 | omega⟩
  · exact ⟨fun h => .inr (.inr (.inl ⟨hk, .inl hn, h⟩)), fun h => by rcases h with h | h | h | h <;> first | exact h.2.2 | omega⟩
  · exact ⟨fun h => .inr (.inr (.inl ⟨hk, .inr hn1, h⟩)), fun h => by rcases h with h | h | h | h <;> first | exact h.2.2 | omega⟩
  · exact ⟨fun h => (by cases h), fun h => by omega⟩
  · rw [decide_eq_true_eq]
    exact ⟨fun h => .inr (.inr (.inr ⟨hk, hn, by omega⟩)), fun h => by rcases h with h | h | h | h <;> omega⟩
  · exact ⟨fun h => (by cases h), fun h => by omega⟩
  · exact ⟨fun h => (by cases h), fun h => by omega⟩

theorem vcompare_ok (a b : Val) (w : World) : Calls Tryd.prog 79 #[a.agg, b.agg] w fun e w' => e = .returned (.int .i64 (cmpV a b)) ∧ Ext w w' := by
  apply vcompare_vc
  unfold vcompare_T
  intro b1 w2 h1 b4 w5 h4 w7 h7
  have H := (((Hold.start (Ext.rfl (w := w))).new h1).new h4).step h7.ext
  obtain ⟨p0, p1, p2⟩ := (H.blk 1 rfl).c3
  obtain ⟨q0, q1, q2⟩ := (H.blk 0 rfl).c3
  refine ⟨_, p0, _, q0, _, p1, _, q1, _, p2, _, q2, (cmpint_ok _ _ w7).mono ?_⟩
  rintro e w16 ⟨rfl, e16⟩
  refine ⟨_, rfl, e16.same, (cmpint64_ok _ _ w16).mono ?_⟩
  rintro e w19 ⟨rfl, e19⟩
  refine ⟨_, rfl, e19.same, (strcmp_ok _ _ w19).mono ?_⟩
  rintro e w22 ⟨rfl, e22⟩
  refine ⟨_, rfl, fun b24 w25 h24 => ?_⟩
  have H25 := ((H.step e16).step e19).step e22
  have H26 := H25.new h24
  refine (cmpor_ok (l := [cmpI a.k b.k, cmpI a.n b.n, cmpS a.s b.s]) w25 rfl (by simp) h24.at).mono ?_
  rintro e w28 ⟨rfl, e28⟩
  refine ⟨_, rfl, ?_, (H26.step e28).ext⟩
  have : orI [cmpI a.k b.k, cmpI a.n b.n, cmpS a.s b.s] = cmpV a b := by
    rw [cmpV_def]
    simp only [orI]
    congr 1
    congr 1
    by_cases h : cmpS a.s b.s = 0 <;> simp [h]
  rw [this]

end Go.Proofs.YtdephmdfdgclpaaDoor

/- The contracts of package expr: the walk over an expression's nodes. -/
namespace Go.Proofs.YtdephmdfdgclpaaDoor
open Go Go.Vc Go.RowKit
set_option maxRecDepth 20000

/-- What a caller of the walk promises: each node may be handed to it, whatever else is held. -/
def Rounds (L : List (Nat × Ex)) (l0 : Nat) (wc : World) (Q : Nat → List (Nat × Obj) → Prop) (S : List (Nat × Obj) → Prop) : Prop :=
  ∀ (k : Nat) (p : Nat × Ex) (ncs : List Value) (gs fs : List (Nat × Obj)) (W : World) (R : Bool → World → Prop), L[k]? = some p → ExAt wc p.2 ncs → Q k fs → Hold wc W (fs ++ gs) [] →
    (∀ fs' W', Q (k + 1) fs' → Hold wc W' (fs' ++ gs) [] → R true W') → (∀ fs' W', S fs' → Hold wc W' (fs' ++ gs) [] → R false W') → Yield Tryd.prog l0 #[.int .i64 (p.1 : Int), .agg ncs.toArray] W R

theorem nodes_ok (x : Ex) {cs : List Value} {w w0 : World} (h : ExAt w0 x cs) (d : Int) : Calls Tryd.prog 31 #[.agg cs.toArray, .int .i64 d] w fun e w' => ∃ b1 b4, e = .returned (.func (.func 47) #[] #[.pointer (some ⟨b4, 0, none⟩), .pointer (some ⟨b1, 0, none⟩)]) ∧
    ∀ fs ms w0, Hold w0 w fs ms → Hold w0 w' ((b4, .cells #[.int .i64 d] 3) :: (b1, .cells cs.toArray 29) :: fs) ms := by
  obtain ⟨p, n, c, rfl, _⟩ := h.six
  apply nodes_vc
  unfold nodes_T
  intro b1 w2 h1 b4 w5 h4
  exact ⟨b1, b4, rfl, fun fs ms w0 h => (h.new h1).new h4⟩

/-- Below M, or no open block. -/
def Far (M : Nat) (y : Nat × Obj) : Prop := y.1 < M ∨ y.2 ≠ .deferred (some [])
theorem Far.mono {M M' : Nat} {y : Nat × Obj} (h : Far M y) (hle : M ≤ M') : Far M' y := h.imp (fun h => by omega) id
theorem perm3 {α : Type} (a b c : List α) : (a ++ (b ++ c)).Perm (b ++ (a ++ c)) := by
  rw [← List.append_assoc, ← List.append_assoc]
  exact List.perm_append_comm.append_right c
set_option maxHeartbeats 4000000 in
theorem nodes1_ok : ∀ (N : Nat) (x : Ex) (d l0 fv0 fv1 : Nat) (wc : World) (cs : List Value) (Q : Nat → List (Nat × Obj) → Prop) (S : List (Nat × Obj) → Prop) (gs fs : List (Nat × Obj)) (w : World) (M : Nat), depthT x ≤ N → d ≤ 41 → ExAt wc x cs →
    (∀ k fs, Q k fs → (∀ y ∈ fs, Far M y) ∧ (fv0, .cells #[.int .i64 (d : Int)] 3 (0, 0)) ∈ fs ∧ (fv1, .cells cs.toArray 29 (0, 0)) ∈ fs) → (∀ fs, S fs → ∀ y ∈ fs, Far M y) → M ≤ w.heap.size →
    Rounds (walkT x d) l0 wc Q S → Q 0 fs → Hold wc w (fs ++ gs) [] →
    Calls Tryd.prog 47 #[.func (.yield l0) #[] #[], .pointer (some ⟨fv0, 0, none⟩), .pointer (some ⟨fv1, 0, none⟩)] w fun e W' => e = .returned (.tuple #[]) ∧ ((∃ fs', Q (walkT x d).length fs' ∧ Hold wc W' (fs' ++ gs) []) ∨ ∃ fs', S fs' ∧ Hold wc W' (fs' ++ gs) []) := by
  intro N
  induction N with
  | zero => intro x d l0 fv0 fv1 wc cs Q S gs fs w M hd; cases x; unfold depthT at hd; omega
  | succ N ih =>
  intro x d l0 fv0 fv1 wc cs Q S gs fs w M hdep hd hx hQ hS hM hR q0 hH
  obtain ⟨p, n, c, rfl, hkl, hn, hkid⟩ := hx.six
  apply nodes1_vc
  unfold nodes1_T
  intro b1 w2 h1
  have hb1 : b1 = w.heap.size := h1.1
  have H2 := hH.new h1
  have gsM : ∀ y ∈ gs, y.1 < w.heap.size := fun y hy => hH.ltM (List.mem_append_right _ hy)
  obtain ⟨_, m0, m1⟩ := hQ 0 fs q0
  have B0 := H2.blkM (List.mem_cons_of_mem _ (List.mem_append_left gs m0))
  have B1 := H2.blkM (List.mem_cons_of_mem _ (List.mem_append_left gs m1))
  obtain ⟨c0, c1, c2, c3, c4, c5⟩ := B1.c6
  have hhead : (walkT x d)[0]? = some (d, x) := by cases x; rfl
  refine ⟨_, (H2.blk 0 rfl).one, _, B0.one, _, c0, _, c1, _, c2, _, c3, _, c4, _, _, _, c5, l0, rfl, ?_⟩
  refine hR 0 (d, x) _ ((b1, .cells #[.func (.yield l0) #[] #[]] 68 (0, 0)) :: gs) fs w2 _ hhead hx q0 (Hold.swap (a := [_]) H2) (fun fs' W' q H => ⟨fun h => (by cases h), fun _ => ?_⟩)
    (fun fs' W' s H => ⟨fun _ => ⟨rfl, .inr ⟨fs', s, H.sub ((List.Sublist.refl fs').append (List.sublist_cons_self _ _))⟩⟩, fun h => (by cases h)⟩)
  obtain ⟨_, m0, m1⟩ := hQ 1 fs' q
  have B0 := H.blkM (List.mem_append_left _ m0)
  have B1 := H.blkM (List.mem_append_left _ m1)
  obtain ⟨_, _, _, _, _, c5⟩ := B1.c6
  refine ⟨_, B0.one, fun hgt => ⟨rfl, .inl ⟨fs', ?_, H.sub ((List.Sublist.refl fs').append (List.sublist_cons_self _ _))⟩⟩, fun hle => ?_⟩
  · have : (walkT x d).length = 1 := by cases x; unfold walkT; rw [if_pos (by omega)]; rfl
    rw [this]; exact q
  have hL : walkT x d = (d, x) :: walkTs x.kids (d + 1) := by cases x; unfold walkT; rw [if_neg (by omega)]; rfl
  let Y : Nat × Obj := (b1, .cells #[.func (.yield l0) #[] #[]] 68 (0, 0))
  let off : Nat → Nat := fun j => 1 + (walkTs (x.kids.take j) (d + 1)).length
  have H' : Hold wc W' (Y :: (fs' ++ gs)) [] := H.perm List.perm_middle
  refine ⟨_, _, _, c5, fun i W => ∃ (j : Nat) (fs : List (Nat × Obj)), i = (j : Int) ∧ j ≤ n ∧ Q (off j) fs ∧ Hold wc W (Y :: (fs ++ gs)) [], fun i _ => n - i.toNat, w.heap.size, ⟨0, fs', rfl, Nat.zero_le _, by simpa [off, walkTs] using q, H'⟩, ⟨by simp, by simp⟩, ?_⟩
  clear H' H B0 B1 c5 q m0 m1 c0 c1 c2 c3 c4 hhead
  rintro i W ⟨j, fs, rfl, hj, q, H⟩ ds ho
  have hwc : wc.heap.size ≤ w.heap.size := hH.size
  have low : ∀ k fs, Q k fs → ∀ y ∈ fs ++ gs, Far w.heap.size y := fun k fs q y hy => by
    rcases List.mem_append.1 hy with hy | hy
    · exact ((hQ k fs q).1 y hy).mono hM
    · exact .inl (gsM y hy)
  have lowS : ∀ fs, S fs → ∀ y ∈ fs ++ gs, Far w.heap.size y := fun fs s y hy => by
    rcases List.mem_append.1 hy with hy | hy
    · exact (hS fs s y hy).mono hM
    · exact .inl (gsM y hy)
  refine ⟨fun hlt => ?_, fun hge => ?_⟩
  · have g : x.kids[j]? = some (x.kids[j]'(by omega)) := List.getElem?_eq_getElem _
    generalize x.kids[j]'(by omega) = k at g
    obtain ⟨kc, b, o, hk, hp, hc⟩ := hkid H.ext g
    obtain ⟨kp, kn, kcap, hkc, _⟩ := hk.six
    simp only [Int.toNat_natCast]
    have e0 := hc 0 _ (by rw [hkc]; rfl)
    have e1 := hc 1 _ (by rw [hkc]; rfl)
    have e2 := hc 2 _ (by rw [hkc]; rfl)
    have e3 := hc 3 _ (by rw [hkc]; rfl)
    have e4 := hc 4 _ (by rw [hkc]; rfl)
    have e5 := hc 5 _ (by rw [hkc]; rfl)
    have Ho : Hold wc W (dfs ds ++ (Y :: (fs ++ gs))) [] := H.addOpen ho hwc fun y hy => by
      rcases List.mem_cons.1 hy with rfl | hy
      · exact .inr (by simp [Y])
      · exact low _ _ q y hy
    have Ho : Hold wc W (Y :: (fs ++ (dfs ds ++ gs))) [] := by
      refine Ho.perm ?_
      refine List.perm_middle.trans (List.Perm.cons _ ?_)
      rw [← List.append_assoc, ← List.append_assoc]
      exact List.perm_append_comm.append_right gs
    refine ⟨b, o, hp, by omega, by omega, _, e0, _, e1, _, e2, _, e3, _, e4, _, _, _, e5, fun b43 w44 h43 => ?_⟩
    have H44 := Ho.new h43
    refine (H44.blk 0 rfl).w6 fun w52 h52 => ?_
    have H52 := H44.put 0 rfl h52
    have Bk : Blk w52 b43 29 #[.int .i64 k.op, .string k.name, .int .i64 k.v.k, .int .i64 k.v.n, .string k.v.s, .slice kp kn kcap] := H52.blk 0 rfl
    obtain ⟨a0, a1, a2, a3, a4, a5⟩ := Bk.c6
    obtain ⟨_, m0, m1⟩ := hQ _ fs q
    have Bd := H52.blkM (List.mem_cons_of_mem _ (List.mem_cons_of_mem _ (List.mem_append_left (dfs ds ++ gs) m0)))
    refine ⟨_, a0, _, a1, _, a2, _, a3, _, a4, _, _, _, a5, _, Bd.one, ?_⟩
    rw [i64_next (by omega)]
    subst hkc
    refine (nodes_ok k hk ((d + 1 : Nat) : Int)).mono ?_
    rintro e w64 ⟨bx, bd, rfl, hH64⟩
    have H64 := hH64 _ _ _ H52
    refine ⟨_, rfl, _, _, rfl, by kernel_rfl, fun r d70 l71 w171 hB hY => ?_⟩
    have HB := H64.began hB
    have hd70 : w.heap.size ≤ d70 := by
      have h3 : b1 < w64.heap.size := H64.lt 3 rfl
      have := hB.sizes.1
      omega
    let own : Nat → List (Nat × Obj) := fun q => [(l71, .loop (r q)), (d70, .deferred (some [])), (bd, .cells #[.int .i64 ((d + 1 : Nat) : Int)] 3 (0, 0)),
      (bx, .cells #[.int .i64 k.op, .string k.name, .int .i64 k.v.k, .int .i64 k.v.n, .string k.v.s, .slice kp kn kcap] 29 (0, 0)),
      (b43, .cells #[.int .i64 k.op, .string k.name, .int .i64 k.v.k, .int .i64 k.v.n, .string k.v.s, .slice kp kn kcap] 29 (0, 0)), Y]
    have HB : Hold wc w171 ((own 0 ++ fs) ++ (dfs ds ++ gs)) [] := HB
    have ownM : ∀ q, ∀ y ∈ own q, y.1 < w171.heap.size := by
      intro q y hy
      have : ∀ y ∈ own 0, y.1 < w171.heap.size := fun y hy => HB.ltM (List.mem_append_left _ (List.mem_append_left _ hy))
      simp only [own, List.mem_cons, List.not_mem_nil, or_false] at hy this
      rcases hy with rfl | hy
      · exact this (l71, .loop (r 0)) (.inl rfl)
      · exact this y (.inr hy)
    have hMw : M ≤ w171.heap.size := by
      have := HB.ltM (x := Y) (by simp [own])
      have : b1 < w171.heap.size := this
      omega
    refine (ih k (d + 1) l71 bd bx wc _ (fun k' fs2 => ∃ fs, Q (off j + k') fs ∧ fs2 = own 0 ++ fs) (fun fs2 => ∃ fs, S fs ∧ fs2 = own 3 ++ fs) (dfs ds ++ gs) _ w171 w171.heap.size ?_ (by omega) hk ?_ ?_ (Nat.le_refl _) ?_ ⟨fs, q, rfl⟩ HB).mono ?_
    · have := depthTs_get g
      cases x
      unfold depthT at hdep
      simp only [Ex.kids] at this
      omega
    · rintro k' fs2 ⟨fs3, q3, rfl⟩
      refine ⟨fun y hy => ?_, by simp [own], by simp [own]⟩
      rcases List.mem_append.1 hy with hy | hy
      · exact .inl (ownM 0 y hy)
      · exact ((hQ _ _ q3).1 y hy).mono hMw
    · rintro fs2 ⟨fs3, s3, rfl⟩ y hy
      rcases List.mem_append.1 hy with hy | hy
      · exact .inl (ownM 3 y hy)
      · exact (hS _ s3 y hy).mono hMw
    · rintro k' pn ncs gs2 fs2 W2 R2 hLk hE ⟨fs3, q3, rfl⟩ H2 yes no
      obtain ⟨np, nn, ncap, rfl, _⟩ := hE.six
      refine hY _ _ _ _ _ _ _ _ _ W2 R2 (H2.loop 0 rfl) fun b85 w86 h86 => ?_
      have H86 := H2.new h86
      refine (H86.blk 0 rfl).w6 fun w94 h94 => ?_
      have H94 := H86.put 0 rfl h94
      refine ⟨H94.loop 1 rfl, ?_⟩
      rintro Wb rfl
      have H96 := H94.turn 1 1 rfl
      let nb : Nat × Obj := (b85, .cells #[.int .i64 pn.2.op, .string pn.2.name, .int .i64 pn.2.v.k, .int .i64 pn.2.v.n, .string pn.2.v.s, .slice np nn ncap] 29 (0, 0))
      have H96 : Hold wc (turn r l71 1 w94) (([nb] ++ own 1 ++ fs3) ++ gs2) [] := H96
      have Bn : Blk (turn r l71 1 w94) b85 29 #[.int .i64 pn.2.op, .string pn.2.name, .int .i64 pn.2.v.k, .int .i64 pn.2.v.n, .string pn.2.v.s, .slice np nn ncap] := H96.blk 0 rfl
      obtain ⟨a0, a1, a2, a3, a4, a5⟩ := Bn.c6
      refine ⟨_, (H96.blk 6 rfl).one, _, a0, _, a1, _, a2, _, a3, _, a4, _, _, _, a5, l0, rfl, ?_⟩
      have hLk' : (walkT x d)[off j + k']? = some pn := by
        rw [hL, show off j + k' = ((walkTs (x.kids.take j) (d + 1)).length + k') + 1 by simp only [off]; omega, List.getElem?_cons_succ]
        exact walkTs_at g hLk
      refine hR (off j + k') pn _ (([nb] ++ own 1) ++ gs2) fs3 _ _ hLk' hE q3 H96.swap (fun fs' W' q' H' => ⟨fun h => (by cases h), fun _ => ?_⟩) (fun fs' W' s' H' => ⟨fun _ => ?_, fun h => (by cases h)⟩)
      · have H' : Hold wc W' (([nb] ++ own 1) ++ (fs' ++ gs2)) [] := by
          rw [← List.append_assoc] at H'
          exact H'.swap
        refine ⟨H'.loop 1 rfl, yes _ _ ⟨fs', q', rfl⟩ ?_⟩
        exact (H'.turn 1 0 rfl).tail
      · have H' : Hold wc W' (([nb] ++ own 1) ++ (fs' ++ gs2)) [] := by
          rw [← List.append_assoc] at H'
          exact H'.swap
        refine ⟨H'.loop 1 rfl, no _ _ ⟨fs', s', rfl⟩ ?_⟩
        exact (H'.turn 1 3 rfl).tail
    · rintro e W3 ⟨rfl, hI | hS3⟩
      · obtain ⟨_, ⟨fs3, q3, rfl⟩, H3⟩ := hI
        refine ⟨⟨_, rfl⟩, .inl ⟨H3.loop 0 rfl, ?_⟩⟩
        have H4 := H3.turn 0 2 rfl
        have H4 : Hold wc (turn r l71 2 W3) ((own 2 ++ fs3) ++ (dfs ds ++ gs)) [] := H4
        have hop : Vc.Open w.heap.size (d70 :: ds) (turn r l71 2 W3) := by
          refine Hold.opened (w0 := wc) (fs := ((l71, Obj.loop (r 2)) :: ((own 2).drop 2 ++ fs3)) ++ gs) ?_ fun y hy => ?_
          · exact H4.perm ((List.Perm.swap _ _ _).trans (List.Perm.cons _ (perm3 ((l71, Obj.loop (r 2)) :: ((own 2).drop 2 ++ fs3)) (dfs ds) gs)))
          · rcases List.mem_cons.1 hy with rfl | hy
            · exact hd70
            · exact (ho.2 y hy).1
        refine ⟨hop, ⟨j + 1, fs3, by rw [i64_next (by omega)], by omega, ?_, ?_⟩, ?_⟩
        · have : off (j + 1) = off j + (walkT k (d + 1)).length := by
            simp only [off]; rw [walkTs_take _ g, List.length_append]; omega
          rw [this]; exact q3
        · exact H4.tail.tail.tail.tail.tail.sub (((List.Sublist.refl fs3).append (List.sublist_append_right _ _)).cons_cons Y)
        · rw [i64_next (by omega)]; simp only [Int.toNat_natCast]; omega
      · obtain ⟨_, ⟨fs3, s3, rfl⟩, H3⟩ := hS3
        refine ⟨⟨_, rfl⟩, .inr (.inl ⟨H3.loop 0 rfl, ?_⟩)⟩
        have H4 := H3.turn 0 4 rfl
        have H5 := H4.shut 1 rfl
        have H5 : Hold wc _ (((l71, .loop (r 4)) :: (d70, .deferred none) :: ((own 3).drop 2 ++ fs3)) ++ (dfs ds ++ gs)) [] := H5
        refine ⟨H4.dfr 1 rfl, unD_hold (w0 := wc) (fs := fs3 ++ gs) hwc (lowS _ s3) (fun W' H' => ⟨by trivial, .inr ⟨fs3, s3, H'⟩⟩) ds _ (Hold.opened (w0 := wc) (H5.perm (perm3 _ _ _)) fun y hy => (ho.2 y hy).1) ?_⟩
        exact H5.tail.tail.tail.tail.tail.tail.sub ((List.Sublist.refl fs3).append (List.sublist_append_right _ _))
  · have hjn : j = n := by omega
    refine unD_hold (w0 := wc) (fs := fs ++ gs) hwc (low _ _ q) (fun W' H' => ⟨rfl, .inl ⟨fs, ?_, H'⟩⟩) ds W ho H.tail
    have : (walkT x d).length = off j := by
      rw [hL, hjn, ← hkl]; simp [off]; omega
    rw [this]; exact q
end Go.Proofs.YtdephmdfdgclpaaDoor

/- The contracts of package expr: which expressions are well formed. -/
namespace Go.Proofs.YtdephmdfdgclpaaDoor
open Go Go.Vc Go.RowKit
set_option maxRecDepth 20000

/-- The table of shapes lies in memory. -/
def Tab (w : World) : Prop := CellsAt w 0 0 shapesA
theorem Tab.ext {w w' : World} (h : Tab w) (e : Ext w w') : Tab w' := fun k v hk => cell_ext (h k v hk) e
theorem Tab.at {w : World} (h : Tab w) {op : Int} (h1 : 0 ≤ op) (h2 : op < 17) : w.cell? ⟨0, 0 + op.toNat * 3, none⟩ = some (.int .i64 (manyOf op)) ∧ w.cell? ⟨0, 0 + op.toNat * 3 + 1, none⟩ = some (.int .i64 (wantOf op)) ∧
    w.cell? ⟨0, 0 + op.toNat * 3 + 2, none⟩ = some (.int .i64 (kindOf op)) := by
  obtain ⟨i, rfl⟩ := Int.eq_ofNat_of_zero_le h1
  obtain ⟨a, b, c⟩ := shapes_at (i := i) (by omega)
  rw [Int.toNat_natCast]
  exact ⟨h _ _ a, by rw [Nat.add_assoc]; exact h _ _ b, by rw [Nat.add_assoc]; exact h _ _ c⟩

set_option maxHeartbeats 4000000 in
theorem xformed_ok {w : World} (hT : Tab w) (x : Ex) {cs : List Value} (hx : ExAt w x cs) : Calls Tryd.prog 27 #[.agg cs.toArray] w fun e w' => e = .returned (.bool (formedB x)) ∧ Ext w w' := by
  obtain ⟨p, n, c, rfl, hkl, hn, hkid⟩ := hx.six
  apply xformed_vc
  unfold xformed_T
  intro b1 w2 h1 b4 w5 h4 b7 w8 h7
  have H8 := (((Hold.start (Ext.rfl (w := w))).new h1).new h4).new h7
  refine ⟨⟨_, (H8.blk 0 rfl).one⟩, (H8.blk 0 rfl).frozen 0, fun w11 h11 => ?_⟩
  have H11 := H8.box 0 rfl h11
  have B1 : Blk w11 b1 29 #[.int .i64 x.op, .string x.name, .int .i64 x.v.k, .int .i64 x.v.n, .string x.v.s, .slice p n c] := H11.blk 2 rfl
  obtain ⟨a0, a1, a2, a3, a4, a5⟩ := B1.c6
  refine ⟨_, a0, _, a1, _, a2, _, a3, _, a4, _, _, _, a5, (nodes_ok x hx 1).mono ?_⟩
  rintro e w22 ⟨bx, bd, rfl, hH⟩
  have H22 := hH _ _ _ H11
  refine ⟨_, rfl, _, _, rfl, by kernel_rfl, fun r d l w29 hB hY => ?_⟩
  have HB := H22.began hB
  let fs : Nat → Int → List (Nat × Obj) := fun q m => [(l, .loop (r q)), (d, .deferred (some [])), (bd, .cells #[.int .i64 1] 3 (0, 0)), (bx, .cells #[.int .i64 x.op, .string x.name, .int .i64 x.v.k, .int .i64 x.v.n, .string x.v.s, .slice p n c] 29 (0, 0)),
    (b7, .cells #[.int .i64 m] 3 (0, 0)), (b4, .cells #[.bool false] 4 (0, 0)), (b1, .cells #[.int .i64 x.op, .string x.name, .int .i64 x.v.k, .int .i64 x.v.n, .string x.v.s, .slice p n c] 29 (0, 0))]
  have HB : Hold w w29 (fs 0 0 ++ []) [] := HB
  have fsM : ∀ q m, ∀ y ∈ fs q m, y.1 < w29.heap.size := by
    intro q m y hy
    have : ∀ y ∈ fs 0 0, y.1 < w29.heap.size := fun y hy => HB.ltM (List.mem_append_left _ hy)
    simp only [fs, List.mem_cons, List.not_mem_nil, or_false] at hy this
    rcases hy with rfl | rfl | rfl | rfl | rfl | rfl | rfl
    · exact this (l, .loop (r 0)) (.inl rfl)
    · exact this _ (.inr (.inl rfl))
    · exact this _ (.inr (.inr (.inl rfl)))
    · exact this _ (.inr (.inr (.inr (.inl rfl))))
    · exact this (b7, .cells #[.int .i64 0] 3 (0, 0)) (.inr (.inr (.inr (.inr (.inl rfl)))))
    · exact this _ (.inr (.inr (.inr (.inr (.inr (.inl rfl))))))
    · exact this _ (.inr (.inr (.inr (.inr (.inr (.inr rfl))))))
  refine (nodes1_ok (depthT x) x 1 l bd bx w _ (fun k f => f = fs 0 (k : Int) ∧ k ≤ 400 ∧ goW ((walkT x 1).drop k) k = formedB x) (fun f => (∃ m, f = fs 3 m) ∧ formedB x = false) [] (fs 0 0) w29 w29.heap.size (Nat.le_refl _) (by omega) hx ?_ ?_ (Nat.le_refl _) ?_ ⟨rfl, by omega, goW_formed x⟩ HB).mono ?_
  · rintro k f ⟨rfl, _, _⟩
    exact ⟨fun y hy => .inl (fsM _ _ y hy), by simp [fs], by simp [fs]⟩
  · rintro f ⟨⟨m, rfl⟩, _⟩ y hy
    exact .inl (fsM _ _ y hy)
  · rintro k pn ncs gs f W R hL hE ⟨rfl, hk, hg⟩ H yes no
    obtain ⟨np, nn, ncap, rfl, hkn, _⟩ := hE.six
    have hgd : goW ((walkT x 1).drop k) k = if 40 < pn.1 ∨ 400 < k + 1 ∨ ¬ NodeOk pn.2 then false else goW ((walkT x 1).drop (k + 1)) (k + 1) := by
      obtain ⟨hk', rfl⟩ := List.getElem?_eq_some_iff.1 hL
      rw [List.drop_eq_getElem_cons hk']; rfl
    refine hY _ _ _ _ _ _ _ _ _ W R (H.loop 0 rfl) fun b43 w44 h43 => ?_
    have H44 := H.new h43
    refine (H44.blk 0 rfl).w6 fun w52 h52 => ?_
    have H52 := H44.put 0 rfl h52
    refine ⟨H52.loop 1 rfl, ?_⟩
    rintro Wb rfl
    have H54 := H52.turn 1 1 rfl
    refine ⟨_, (H54.blk 5 rfl).one, ⟨_, (H54.blk 5 rfl).one⟩, (H54.blk 5 rfl).frozen 0, fun w58 h58 w60 h60 => ?_⟩
    have H60 := (H54.box 5 rfl h58).step h60.ext
    rw [i64_next (by omega)] at H60
    let nb : Nat × Obj := (b43, .cells #[.int .i64 pn.2.op, .string pn.2.name, .int .i64 pn.2.v.k, .int .i64 pn.2.v.n, .string pn.2.v.s, .slice np nn ncap] 29 (0, 0))
    have H60 : Hold w w60 (nb :: (fs 1 ((k + 1 : Nat) : Int) ++ gs)) [] := H60
    -- the walk is left
    have stop : ∀ W', Ext w60 W' → formedB x = false → (∃ u, W'.cell? ⟨b4, 0, none⟩ = some u) ∧ W'.frozen? ⟨b4, 0, none⟩ = false ∧ ∀ w64 : World, Put W' b4 0 [.bool false] w64 → Rec r l 1 w64 ∧ R false (turn r l 3 w64) := by
      intro W' e hf
      have HW := H60.step e
      refine ⟨⟨_, (HW.blk 6 rfl).one⟩, (HW.blk 6 rfl).frozen 0, fun w64 h64 => ?_⟩
      have H64 := HW.box 6 rfl h64
      exact ⟨H64.loop 1 rfl, no _ _ ⟨⟨_, rfl⟩, hf⟩ (H64.turn 1 3 rfl).tail⟩
    have go : ∀ W', Ext w60 W' → pn.1 ≤ 40 → k + 1 ≤ 400 → NodeOk pn.2 → Rec r l 1 W' ∧ R true (turn r l 0 W') := by
      intro W' e h1 h2 h3
      have HW := H60.step e
      refine ⟨HW.loop 1 rfl, yes _ _ ⟨rfl, h2, ?_⟩ (HW.turn 1 0 rfl).tail⟩
      rw [← hg, hgd, if_neg]
      rintro (h | h | h)
      · omega
      · omega
      · exact h h3
    have hf : (40 < pn.1 ∨ 400 < k + 1 ∨ ¬ NodeOk pn.2) → formedB x = false := fun h => by rw [← hg, hgd, if_pos h]
    have bad : ¬ NodeOk pn.2 → formedB x = false := fun h => hf (.inr (.inr h))
    have B : Blk w60 b43 29 #[.int .i64 pn.2.op, .string pn.2.name, .int .i64 pn.2.v.k, .int .i64 pn.2.v.n, .string pn.2.v.s, .slice np nn ncap] := H60.blk 0 rfl
    obtain ⟨a0, a1, a2, a3, a4, a5⟩ := B.c6
    have hT60 := hT.ext H60.ext
    refine ⟨fun hd => stop w60 .rfl (hf (.inl (by omega))), fun hd => ⟨_, (H60.blk 5 rfl).one, fun hm => stop w60 .rfl (hf (.inr (.inl (by omega)))), fun hm => ⟨_, a0, fun ho => stop w60 .rfl (bad ?_), fun ho => ⟨_, a0, fun ho' => stop w60 .rfl (bad ?_), fun ho' => ?_⟩⟩⟩⟩
    · rintro ⟨h, _⟩
      have := many_range (op := pn.2.op) (by omega)
      omega
    · rintro ⟨h, _⟩
      have := many_range (op := pn.2.op) (by omega)
      omega
    · obtain ⟨t0, _, _⟩ := hT60.at (op := pn.2.op) (by omega) ho'
      refine ⟨_, _, _, a5, _, a0, by omega, ho', _, t0, fun hne => stop w60 .rfl (bad ?_), fun he => ?_⟩
      · rintro ⟨h, _⟩; omega
      have vcall : ∀ (hnm : pn.2.op = 1 ∨ pn.2.name = ⟨#[]⟩) (hvv : pn.2.op = 2 ∨ pn.2.v = nullV), Calls Tryd.prog 43 #[.agg #[.int .i64 pn.2.v.k, .int .i64 pn.2.v.n, .string pn.2.v.s]] w60 fun (e : Ending) (w' : World) => ∃ b : Bool, e = .returned (.bool b) ∧
          (b = false → (∃ u, w'.cell? ⟨b4, 0, none⟩ = some u) ∧ w'.frozen? ⟨b4, 0, none⟩ = false ∧ ∀ w64 : World, Put w' b4 0 [.bool false] w64 → Rec r l 1 w64 ∧ R false (turn r l 3 w64)) ∧ (b = true → Rec r l 1 w' ∧ R true (turn r l 0 w')) := by
        intro hnm hvv
        refine (vright_ok pn.2.v w60).mono ?_
        rintro e w' ⟨rfl, e'⟩
        refine ⟨_, rfl, fun hb => stop w' e' (bad ?_), fun hb => go w' e' (by omega) (by omega) ⟨by omega, hnm, hvv, of_decide_eq_true hb⟩⟩
        rintro ⟨_, _, _, h⟩
        exact absurd h (of_decide_eq_false hb)
      have nullI : pn.2.v = nullV ↔ pn.2.v.k = 0 ∧ pn.2.v.n = 0 ∧ pn.2.v.s = ⟨#[]⟩ := Val.ext'
      refine ⟨_, a0, fun h1 => ⟨_, a1, fun hnm => stop w60 .rfl (bad ?_), fun hnm => ⟨_, a0, fun h2 => ⟨_, a2, _, a3, _, a4, fun hv => stop w60 .rfl (bad ?_), fun hv => ⟨_, a2, _, a3, _, a4, vcall (.inr hnm) (.inr (nullI.2 hv))⟩⟩, fun h2 => ⟨_, a2, _, a3, _, a4, vcall (.inr hnm) (.inl h2)⟩⟩⟩,
        fun h1 => ⟨_, a0, fun h2 => ⟨_, a2, _, a3, _, a4, fun hv => stop w60 .rfl (bad ?_), fun hv => ⟨_, a2, _, a3, _, a4, vcall (.inl h1) (.inr (nullI.2 hv))⟩⟩, fun h2 => ⟨_, a2, _, a3, _, a4, vcall (.inl h1) (.inl h2)⟩⟩⟩
      · rintro ⟨_, h, _⟩
        rcases h with h | h
        · exact h1 h
        · exact hnm h
      · rintro ⟨_, _, h, _⟩
        rcases h with h | h
        · exact h2 h
        · have := nullI.1 h
          rcases hv with hv | hv | hv
          · exact hv this.1
          · exact hv this.2.1
          · exact hv this.2.2
      · rintro ⟨_, _, h, _⟩
        rcases h with h | h
        · exact h2 h
        · have := nullI.1 h
          rcases hv with hv | hv | hv
          · exact hv this.1
          · exact hv this.2.1
          · exact hv this.2.2
  · rintro e W ⟨rfl, hI | hS⟩
    · obtain ⟨_, ⟨rfl, hk, hg⟩, H⟩ := hI
      refine ⟨⟨_, rfl⟩, .inl ⟨H.loop 0 rfl, ?_⟩⟩
      have H2 := H.turn 0 2 rfl
      refine ⟨⟨_, (H2.blk 5 rfl).one⟩, (H2.blk 5 rfl).frozen 0, fun w82 h82 => ?_⟩
      have H82 := H2.box 5 rfl h82
      have H83 := H82.shut 1 rfl
      refine ⟨H82.dfr 1 rfl, _, (H83.blk 5 rfl).one, ?_, H83.ext⟩
      rw [List.drop_length] at hg
      rw [← hg]; rfl
    · obtain ⟨_, ⟨⟨m, rfl⟩, hf⟩, H⟩ := hS
      refine ⟨⟨_, rfl⟩, .inr (.inl ⟨H.loop 0 rfl, ?_⟩)⟩
      have H2 := H.turn 0 4 rfl
      have H83 := H2.shut 1 rfl
      refine ⟨H2.dfr 1 rfl, _, (H83.blk 5 rfl).one, ?_, H83.ext⟩
      rw [hf]
end Go.Proofs.YtdephmdfdgclpaaDoor

/- The contracts of package expr: numbers, truths, one node. -/
namespace Go.Proofs.YtdephmdfdgclpaaDoor
open Go Go.Vc Go.RowKit
set_option maxRecDepth 20000

/-- The tables of and, or. -/
def Tab2 (w : World) : Prop := CellsAt w 1 0 (tabA andI) ∧ CellsAt w 2 0 (tabA orJ)
theorem Tab2.ext {w w' : World} (h : Tab2 w) (e : Ext w w') : Tab2 w' := ⟨fun k v hk => cell_ext (h.1 k v hk) e, fun k v hk => cell_ext (h.2 k v hk) e⟩

theorem xtruth_ok (b : Bool) (w : World) : Calls Tryd.prog 76 #[.bool b] w fun e w' => e = .returned (truthV b).agg ∧ Ext w w' := by
  apply xtruth_vc
  unfold xtruth_T
  intro b1 w2 h1
  have H := (Hold.start (Ext.rfl (w := w))).new h1
  obtain ⟨q0, q1, q2⟩ := (H.blk 0 rfl).c3
  refine ⟨fun hb => ⟨⟨_, q0⟩, (H.blk 0 rfl).frozen _, ⟨_, q1⟩, (H.blk 0 rfl).frozen _, ⟨_, q2⟩, (H.blk 0 rfl).frozen _, fun w8 h8 => ?_⟩, fun hb => ⟨⟨_, q0⟩, (H.blk 0 rfl).frozen _, ⟨_, q1⟩, (H.blk 0 rfl).frozen _, ⟨_, q2⟩, (H.blk 0 rfl).frozen _, fun w8 h8 => ?_⟩⟩
  · have H8 := H.put 0 rfl h8
    have B : Blk w8 b1 26 #[.int .i64 2, .int .i64 1, .string ⟨#[]⟩] := H8.blk 0 rfl
    obtain ⟨q0, q1, q2⟩ := B.c3
    exact ⟨_, q0, _, q1, _, q2, by rw [hb]; rfl, H8.ext⟩
  · have H8 := H.put 0 rfl h8
    have B : Blk w8 b1 26 #[.int .i64 2, .int .i64 0, .string ⟨#[]⟩] := H8.blk 0 rfl
    obtain ⟨q0, q1, q2⟩ := B.c3
    exact ⟨_, q0, _, q1, _, q2, by rw [hb]; rfl, H8.ext⟩

theorem times1_ok {n : Int} (h : fitI n) (w : World) : Calls Tryd.prog 115 #[.int .i64 n] w fun e w' => e = .returned (.int .u64 ((n.natAbs : Nat) : Int)) ∧ Ext w w' := by
  apply times1_vc
  unfold times1_T
  unfold fitI at h
  refine ⟨fun hn => ⟨?_, .rfl⟩, fun hn => ⟨?_, .rfl⟩⟩
  · rw [u64_wrap, u64_wrap, show (0 - n % 18446744073709551616) % 18446744073709551616 = ((n.natAbs : Nat) : Int) by omega]
  · rw [u64_wrap, show n % 18446744073709551616 = ((n.natAbs : Nat) : Int) by omega]
theorem mul64_ok {x y : Nat} (hx : x < 18446744073709551616) (hy : y < 18446744073709551616) (w : World) :
    Calls Tryd.prog 116 #[.int .u64 (x : Int), .int .u64 (y : Int)] w fun e w' => e = .returned (.tuple #[.int .u64 ((x * y / 18446744073709551616 : Nat) : Int), .int .u64 ((x * y % 18446744073709551616 : Nat) : Int)]) ∧ Ext w w' := by
  apply mul64_vc
  unfold mul64_T
  refine ⟨?_, .rfl⟩
  rw [mul64_hi hx hy, u64_wrap, ← Int.natCast_mul]
  rfl
theorem mul_abs (a b : Int) : (decide (a < 0) ≠ decide (b < 0) → a * b = -((a.natAbs * b.natAbs : Nat) : Int)) ∧ (decide (a < 0) = decide (b < 0) → a * b = ((a.natAbs * b.natAbs : Nat) : Int)) := by
  rw [Int.natCast_mul]
  rcases Int.lt_or_le a 0 with ha | ha <;> rcases Int.lt_or_le b 0 with hb | hb
  · rw [Int.ofNat_natAbs_of_nonpos (by omega), Int.ofNat_natAbs_of_nonpos (by omega), Int.neg_mul_neg]
    simp [ha, hb]
  · rw [Int.ofNat_natAbs_of_nonpos (by omega), Int.natAbs_of_nonneg hb, Int.neg_mul, Int.neg_neg]
    have : ¬ b < 0 := by omega
    simp [ha, this]
  · rw [Int.natAbs_of_nonneg ha, Int.ofNat_natAbs_of_nonpos (by omega), Int.mul_neg, Int.neg_neg]
    have : ¬ a < 0 := by omega
    simp [hb, this]
  · rw [Int.natAbs_of_nonneg ha, Int.natAbs_of_nonneg hb]
    simp [Int.not_lt.2 ha, Int.not_lt.2 hb]
theorem times_ok {a b : Int} (ha : fitI a) (hb : fitI b) (w : World) : Calls Tryd.prog 104 #[.int .i64 a, .int .i64 b] w fun e w' => ∃ n : Int, e = .returned (.tuple #[.int .i64 n, .bool (decide (fitI (a * b)))]) ∧ (fitI (a * b) → n = a * b) ∧ Ext w w' := by
  apply times_vc
  unfold times_T
  have ha' : a.natAbs ≤ 9223372036854775808 := by unfold fitI at ha; omega
  have hb' : b.natAbs ≤ 9223372036854775808 := by unfold fitI at hb; omega
  refine (times1_ok ha w).mono ?_
  rintro e w2 ⟨rfl, e2⟩
  refine ⟨_, rfl, (times1_ok hb w2).mono ?_⟩
  rintro e w5 ⟨rfl, e5⟩
  refine ⟨_, rfl, (mul64_ok (by omega) (by omega) w5).mono ?_⟩
  rintro e w8 ⟨rfl, e8⟩
  have hx := (e2.trans e5).trans e8
  obtain ⟨m1, m2⟩ := mul_abs a b
  generalize a.natAbs * b.natAbs = P at m1 m2
  refine ⟨_, _, rfl, fun hne => ⟨0, ?_, fun hf => ?_, hx⟩, fun h0 => ⟨fun hs => ⟨IntKind.i64.wrap (0 - IntKind.i64.wrap ((P % 18446744073709551616 : Nat) : Int)), ?_, fun hf => ?_, hx⟩, fun hs => ⟨IntKind.i64.wrap ((P % 18446744073709551616 : Nat) : Int), ?_, fun hf => ?_, hx⟩⟩⟩
  · have : ¬ fitI (a * b) := by
      unfold fitI
      by_cases hs : decide (a < 0) = decide (b < 0)
      · rw [m2 hs]; omega
      · rw [m1 hs]; omega
    rw [decide_eq_false this]
  · unfold fitI at hf
    exfalso
    by_cases hs : decide (a < 0) = decide (b < 0)
    · rw [m2 hs] at hf; omega
    · rw [m1 hs] at hf; omega
  · have hP : P % 18446744073709551616 = P := by omega
    have : decide (((P % 18446744073709551616 : Nat) : Int) ≤ 9223372036854775808) = decide (fitI (a * b)) := by
      rw [m1 hs, hP, decide_eq_decide]; unfold fitI; omega
    rw [this]
  · rw [m1 hs] at hf ⊢
    unfold fitI at hf
    rw [IntKind.wrap_i64, IntKind.wrap_i64]; omega
  · have hP : P % 18446744073709551616 = P := by omega
    have : decide (((P % 18446744073709551616 : Nat) : Int) < 9223372036854775808) = decide (fitI (a * b)) := by
      rw [m2 hs, hP, decide_eq_decide]; unfold fitI; omega
    rw [this]
  · rw [m2 hs] at hf ⊢
    unfold fitI at hf
    rw [IntKind.wrap_i64]; omega

theorem xarith_ok (op : Int) {a b : Int} (ha : fitI a) (hb : fitI b) (w : World) : Calls Tryd.prog 80 #[.int .i64 op, .int .i64 a, .int .i64 b] w fun e w' => e = .returned (.tuple #[.int .i64 (arithF op a b).1, .int .i64 (arithF op a b).2]) ∧ Ext w w' := by
  apply xarith_vc
  unfold xarith_T
  have ew : ∀ x, fitI x → IntKind.i64.wrap x = x := fun x hx => by unfold fitI at hx; exact i64_fit hx.1 hx.2
  refine ⟨fun h => ⟨?_, .rfl⟩, fun hz => ⟨fun h3 => ⟨fun h => ⟨?_, .rfl⟩, fun h => ⟨?_, .rfl⟩⟩, fun h3 => ⟨fun h4 => ⟨fun h => ⟨?_, .rfl⟩, fun h => ⟨?_, .rfl⟩⟩, fun h4 => ⟨fun h5 => (times_ok ha hb w).mono ?_, fun h5 => ⟨fun h6 => ⟨?_, fun h => ⟨?_, .rfl⟩, fun h => ⟨?_, .rfl⟩⟩, fun h6 => ⟨fun h7 => ⟨?_, ?_, .rfl⟩, fun h7 => ⟨?_, .rfl⟩⟩⟩⟩⟩⟩⟩
  · unfold arithF; rw [if_pos h]
  · have := (add_over ha hb).1 h
    unfold arithF overF; rw [if_neg (by omega), if_pos h3, if_neg this]
  · have : fitI (a + b) := Decidable.not_not.1 fun hn => by have := (add_over ha hb).2 hn; omega
    rw [ew _ this]
    unfold arithF overF; rw [if_neg (by omega), if_pos h3, if_pos this]
  · have := (sub_over ha hb).1 h
    unfold arithF overF; rw [if_neg (by omega), if_neg h3, if_pos h4, if_neg this]
  · have : fitI (a - b) := Decidable.not_not.1 fun hn => by have := (sub_over ha hb).2 hn; omega
    rw [ew _ this]
    unfold arithF overF; rw [if_neg (by omega), if_neg h3, if_pos h4, if_pos this]
  · rintro e w13 ⟨n, rfl, hn, e13⟩
    refine ⟨_, _, rfl, fun hf => ⟨?_, e13⟩, fun hf => ⟨?_, e13⟩⟩
    · unfold arithF overF; rw [if_neg (by omega), if_neg h3, if_neg h4, if_pos h5, if_neg (of_decide_eq_false hf)]
    · rw [hn (of_decide_eq_true hf)]
      unfold arithF overF; rw [if_neg (by omega), if_neg h3, if_neg h4, if_pos h5, if_pos (of_decide_eq_true hf)]
  · omega
  · have : ¬ fitI (a.tdiv b) := fun hf => ((tdiv_fit ha (by omega)).1 hf) h
    unfold arithF overF; rw [if_neg (by omega), if_neg h3, if_neg h4, if_neg h5, if_pos h6, if_neg this]
  · have : fitI (a.tdiv b) := (tdiv_fit ha (by omega)).2 (by omega)
    unfold quoI
    rw [ew _ this]
    unfold arithF overF; rw [if_neg (by omega), if_neg h3, if_neg h4, if_neg h5, if_pos h6, if_pos this]
  · omega
  · unfold arithF remI; rw [if_neg (by omega), if_neg h3, if_neg h4, if_neg h5, if_neg h6, if_pos h7]
  · unfold arithF; rw [if_neg (by omega), if_neg h3, if_neg h4, if_neg h5, if_neg h6, if_neg h7]

theorem third_ok (v : Val) (w : World) : Calls Tryd.prog 78 #[v.agg] w fun e w' => e = .returned (.int .i64 (thirdI v)) ∧ Ext w w' := by
  apply third_vc
  unfold third_T
  intro b1 w2 h1
  obtain ⟨q0, q1, q2⟩ := (Blk.new h1).c3
  refine ⟨_, q0, fun h => ⟨?_, h1.ext⟩, fun h => ⟨_, q1, ?_, h1.ext⟩⟩
  · unfold thirdI; rw [if_pos h]
  · unfold thirdI; rw [if_neg h]
theorem answer_ok (n : Int) (w : World) : Calls Tryd.prog 77 #[.int .i64 n] w fun e w' => e = .returned (answerV n).agg ∧ Ext w w' := by
  apply answer_vc
  unfold answer_T
  intro b1 w2 h1
  have H := (Hold.start (Ext.rfl (w := w))).new h1
  obtain ⟨q0, q1, q2⟩ := (H.blk 0 rfl).c3
  refine ⟨fun h => ⟨⟨_, q0⟩, (H.blk 0 rfl).frozen _, ⟨_, q1⟩, (H.blk 0 rfl).frozen _, ⟨_, q2⟩, (H.blk 0 rfl).frozen _, fun w8 h8 => ?_⟩, fun h => (xtruth_ok _ w2).mono ?_⟩
  · have H8 := H.put 0 rfl h8
    have B : Blk w8 b1 26 #[.int .i64 0, .int .i64 0, .string ⟨#[]⟩] := H8.blk 0 rfl
    obtain ⟨q0, q1, q2⟩ := B.c3
    exact ⟨_, q0, _, q1, _, q2, by unfold answerV; rw [if_pos h]; rfl, H8.ext⟩
  · rintro e w15 ⟨rfl, e15⟩
    have H15 := H.step e15
    obtain ⟨q0, q1, q2⟩ := (H15.blk 0 rfl).c3
    refine ⟨_, _, _, rfl, ⟨_, q0⟩, (H15.blk 0 rfl).frozen _, ⟨_, q1⟩, (H15.blk 0 rfl).frozen _, ⟨_, q2⟩, (H15.blk 0 rfl).frozen _, fun w22 h22 => ?_⟩
    have H22 := H15.put 0 rfl h22
    have B : Blk w22 b1 26 #[.int .i64 (truthV (decide (n = 1))).k, .int .i64 (truthV (decide (n = 1))).n, .string (truthV (decide (n = 1))).s] := H22.blk 0 rfl
    obtain ⟨q0, q1, q2⟩ := B.c3
    exact ⟨_, q0, _, q1, _, q2, by unfold answerV; rw [if_neg h]; rfl, H22.ext⟩
end Go.Proofs.YtdephmdfdgclpaaDoor

/- The contracts of package expr: a node of one kid, of two. -/
namespace Go.Proofs.YtdephmdfdgclpaaDoor
open Go Go.Vc Go.RowKit
set_option maxRecDepth 20000

def trio (i : Int) : Prop := 0 ≤ i ∧ i < 3
theorem Tab2.and {w : World} (h : Tab2 w) {i j : Int} (hi : trio i) (hj : trio j) : w.cell? ⟨1, 0 + i.toNat * 3 + j.toNat, none⟩ = some (.int .i64 (andI i j)) := by
  obtain ⟨a, rfl⟩ := Int.eq_ofNat_of_zero_le hi.1
  obtain ⟨b, rfl⟩ := Int.eq_ofNat_of_zero_le hj.1
  unfold trio at hi hj
  rw [Int.toNat_natCast, Int.toNat_natCast, Nat.add_assoc]
  exact h.1 _ _ (tabA_at andI (by omega) (by omega))
theorem Tab2.or {w : World} (h : Tab2 w) {i j : Int} (hi : trio i) (hj : trio j) : w.cell? ⟨2, 0 + i.toNat * 3 + j.toNat, none⟩ = some (.int .i64 (orJ i j)) := by
  obtain ⟨a, rfl⟩ := Int.eq_ofNat_of_zero_le hi.1
  obtain ⟨b, rfl⟩ := Int.eq_ofNat_of_zero_le hj.1
  unfold trio at hi hj
  rw [Int.toNat_natCast, Int.toNat_natCast, Nat.add_assoc]
  exact h.2 _ _ (tabA_at orJ (by omega) (by omega))

theorem xpair_ok (op : Int) (a b : Val) (w : World) (hT : Tab2 w) (ha : fitI a.n) (hb : fitI b.n) (ht : op = 12 ∨ op = 13 → trio (thirdI a) ∧ trio (thirdI b)) :
    Calls Tryd.prog 52 #[.int .i64 op, a.agg, b.agg] w fun e w' => e = .returned (.tuple #[(pairF op a b).1.agg, .int .i64 (pairF op a b).2]) ∧ Ext w w' := by
  apply xpair_vc
  unfold xpair_T
  intro ba w2 h1 bb w5 h4 br w8 h7
  have H8 := (((Hold.start (Ext.rfl (w := w))).new h1).new h4).new h7
  have hT8 := hT.ext H8.ext
  have Ba : Blk w8 ba 26 #[.int .i64 a.k, .int .i64 a.n, .string a.s] := H8.blk 2 rfl
  have Bb : Blk w8 bb 26 #[.int .i64 b.k, .int .i64 b.n, .string b.s] := H8.blk 1 rfl
  refine ⟨fun hop w11 h11 => ?_, fun h12 => ⟨fun hop w11 h11 => ?_, fun h13 => ?_⟩⟩
  · obtain ⟨t1, t2⟩ := ht (.inl hop)
    have H11 := H8.step h11.ext
    obtain ⟨a0, a1, a2⟩ := (Ba.ext h11.ext).c3
    obtain ⟨b0, b1, b2⟩ := (Bb.ext h11.ext).c3
    refine ⟨_, a0, _, a1, _, a2, _, b0, _, b1, _, b2, (third_ok a w11).mono ?_⟩
    rintro e w20 ⟨rfl, e20⟩
    refine ⟨_, rfl, e20.same, t1.1, t1.2, (third_ok b w20).mono ?_⟩
    rintro e w23 ⟨rfl, e23⟩
    have H23 := (H11.step e20).step e23
    refine ⟨_, rfl, t2.1, t2.2, _, (hT.ext H23.ext).and t1 t2, (answer_ok _ w23).mono ?_⟩
    rintro e w27 ⟨rfl, e27⟩
    refine ⟨_, _, _, rfl, (H23.step e27).ret3 0 rfl _ _ _ fun W' hx => ⟨?_, hx⟩⟩
    unfold pairF; rw [if_pos hop]; rfl
  · obtain ⟨t1, t2⟩ := ht (.inr hop)
    have H11 := H8.step h11.ext
    obtain ⟨a0, a1, a2⟩ := (Ba.ext h11.ext).c3
    obtain ⟨b0, b1, b2⟩ := (Bb.ext h11.ext).c3
    refine ⟨_, a0, _, a1, _, a2, _, b0, _, b1, _, b2, (third_ok a w11).mono ?_⟩
    rintro e w20 ⟨rfl, e20⟩
    refine ⟨_, rfl, e20.same, t1.1, t1.2, (third_ok b w20).mono ?_⟩
    rintro e w23 ⟨rfl, e23⟩
    have H23 := (H11.step e20).step e23
    refine ⟨_, rfl, t2.1, t2.2, _, (hT.ext H23.ext).or t1 t2, (answer_ok _ w23).mono ?_⟩
    rintro e w27 ⟨rfl, e27⟩
    refine ⟨_, _, _, rfl, (H23.step e27).ret3 0 rfl _ _ _ fun W' hx => ⟨?_, hx⟩⟩
    unfold pairF; rw [if_neg h12, if_pos hop]; rfl
  · obtain ⟨a0, a1, a2⟩ := Ba.c3
    obtain ⟨b0, b1, b2⟩ := Bb.c3
    refine ⟨_, a0, fun hz => H8.ret3 0 rfl _ _ _ fun W' hx => ⟨?_, hx⟩, fun hz => ⟨_, b0, fun hz' => H8.ret3 0 rfl _ _ _ fun W' hx => ⟨?_, hx⟩, fun hz' => ⟨_, a0, _, a1, _, a2, _, b0, _, b1, _, b2, (vcompare_ok a b w8).mono ?_⟩⟩⟩
    · unfold pairF; rw [if_neg h12, if_neg h13, if_pos (.inl hz)]; rfl
    · unfold pairF; rw [if_neg h12, if_neg h13, if_pos (.inr hz')]; rfl
    rintro e w99 ⟨rfl, e99⟩
    have H99 := H8.step e99
    have hz2 : ¬ (a.k = 0 ∨ b.k = 0) := by omega
    refine ⟨_, rfl, fun h9 => (xtruth_ok _ w99).mono ?_, fun h9 => ⟨fun h10 => (xtruth_ok _ w99).mono ?_, fun h10 => ⟨fun h11 => (xtruth_ok _ w99).mono ?_, fun h11 => ?_⟩⟩⟩
    · rintro e w103 ⟨rfl, e103⟩
      refine ⟨_, _, _, rfl, (H99.step e103).ret3 0 rfl _ _ _ fun W' hx => ⟨?_, hx⟩⟩
      unfold pairF; rw [if_neg h12, if_neg h13, if_neg hz2, if_pos h9]; rfl
    · rintro e w103 ⟨rfl, e103⟩
      refine ⟨_, _, _, rfl, (H99.step e103).ret3 0 rfl _ _ _ fun W' hx => ⟨?_, hx⟩⟩
      unfold pairF; rw [if_neg h12, if_neg h13, if_neg hz2, if_neg h9, if_pos h10]; rfl
    · rintro e w103 ⟨rfl, e103⟩
      refine ⟨_, _, _, rfl, (H99.step e103).ret3 0 rfl _ _ _ fun W' hx => ⟨?_, hx⟩⟩
      unfold pairF; rw [if_neg h12, if_neg h13, if_neg hz2, if_neg h9, if_neg h10, if_pos h11]; rfl
    · refine ⟨_, cell_ext a1 e99, _, cell_ext b1 e99, (xarith_ok op ha hb w99).mono ?_⟩
      rintro e w149 ⟨rfl, e149⟩
      refine ⟨_, _, rfl, fun hne => (H99.step e149).ret3 0 rfl _ _ _ fun W' hx => ⟨?_, hx⟩, fun he => (H99.step e149).ret3 0 rfl _ _ _ fun W' hx => ⟨?_, hx⟩⟩
      · unfold pairF; rw [if_neg h12, if_neg h13, if_neg hz2, if_neg h9, if_neg h10, if_neg h11, if_pos hne]; rfl
      · unfold pairF; rw [if_neg h12, if_neg h13, if_neg hz2, if_neg h9, if_neg h10, if_neg h11, if_neg (by simpa using he)]; rfl

theorem xsingle_ok (op : Int) (v : Val) (w : World) (hT : Tab2 w) (hv : fitI v.n) :
    Calls Tryd.prog 51 #[.int .i64 op, v.agg] w fun e w' => e = .returned (.tuple #[(singleF op v).1.agg, .int .i64 (singleF op v).2]) ∧ Ext w w' := by
  apply xsingle_vc
  unfold xsingle_T
  intro bv w2 h1 br w5 h4
  have H5 := ((Hold.start (Ext.rfl (w := w))).new h1).new h4
  have Bv : Blk w5 bv 26 #[.int .i64 v.k, .int .i64 v.n, .string v.s] := H5.blk 1 rfl
  obtain ⟨a0, a1, a2⟩ := Bv.c3
  refine ⟨fun h15 => ⟨_, a0, (xtruth_ok _ w5).mono ?_⟩, fun h15 => ⟨_, a0, fun hz => ⟨_, a0, _, a1, _, a2, H5.ret3 0 rfl _ _ _ fun W' hx => ⟨?_, hx⟩⟩, fun hz => ⟨fun h14 => ⟨_, a1, (xtruth_ok _ w5).mono ?_⟩, fun h14 => ⟨fun h16 => ⟨_, a2, H5.ret3 0 rfl _ _ _ fun W' hx => ⟨?_, hx⟩⟩,
    fun h16 => ⟨_, a0, _, a1, _, a2, (xpair_ok 4 (numV 0) v w5 (hT.ext H5.ext) (by decide) hv (fun h => by omega)).mono ?_⟩⟩⟩⟩⟩
  · rintro e w10 ⟨rfl, e10⟩
    refine ⟨_, _, _, rfl, (H5.step e10).ret3 0 rfl _ _ _ fun W' hx => ⟨?_, hx⟩⟩
    unfold singleF; rw [if_pos h15]; rfl
  · unfold singleF; rw [if_neg h15, if_pos hz]; rfl
  · rintro e w10 ⟨rfl, e10⟩
    refine ⟨_, _, _, rfl, (H5.step e10).ret3 0 rfl _ _ _ fun W' hx => ⟨?_, hx⟩⟩
    unfold singleF; rw [if_neg h15, if_neg hz, if_pos h14]; rfl
  · unfold singleF; rw [if_neg h15, if_neg hz, if_neg h14, if_pos h16]; rfl
  · rintro e w68 ⟨rfl, e68⟩
    refine ⟨_, _, _, _, rfl, (H5.step e68).ret3 0 rfl _ _ _ fun W' hx => ⟨?_, hx⟩⟩
    unfold singleF; rw [if_neg h15, if_neg hz, if_neg h14, if_neg h16]; rfl
end Go.Proofs.YtdephmdfdgclpaaDoor

/- The verification conditions of the functions, evaluated: printed by program. -/
namespace Go.Proofs.YtdephmdfdgclpaaDoor
open Go Go.Vc
set_option maxRecDepth 20000

set_option maxRecDepth 100000 in
def sisname_T (s : ByteArray) (w : World) (R : Ending → World → Prop) : Prop :=
  (s ≠ ByteArray.mk #[] ∧ (↑s.size : Int) ≤ 24 → (0 : Int) ≤ 0 ∧ 0 < (↑s.size : Int) ∧ Calls Tryd.prog 60
 #[.string (ByteArray.mk #[97, 98, 99, 100, 101, 102, 103, 104, 105, 106, 107, 108, 109, 110, 111, 112, 113, 114, 115, 116, 117, 118, 119, 120, 121, 122]), .int .u8 (bAt s 0)]
 w fun e2 w3 ↦
 ∃ n4, e2 = .returned (.int .i64 n4) ∧ (0 ≤ n4 → Calls Tryd.prog 61
 #[.string s, Value.string
 (ByteArray.mk
 #[97, 98, 99, 100, 101, 102, 103, 104, 105, 106, 107, 108, 109, 110, 111, 112, 113, 114, 115, 116, 117, 118, 119, 120, 121, 122, 48, 49, 50, 51, 52, 53, 54, 55, 56, 57, 95])]
 w3 fun e6 w7 ↦ ∃ s8, e6 = .returned (.string s8) ∧ R (.returned (.bool (sEq s8 ⟨#[]⟩))) w7) ∧ (n4 < 0 → R (.returned (.bool false)) w3)) ∧ (s = ByteArray.mk #[] ∨ 24 < (↑s.size : Int) → R (.returned (.bool false)) w)

set_option maxRecDepth 100000 in
theorem sisname_eq (s : ByteArray) (w : World) (R : Ending → World → Prop) : sisname_T s w R = vcFn Tryd.prog [] [] Tryd.f42 [.string s] w R := by kernel_rfl

set_option maxRecDepth 100000 in
theorem sisname_vc (s : ByteArray) (w : World) (R : Ending → World → Prop) (hvc : sisname_T s w R) : Calls Tryd.prog 42 #[.string s] w R :=
  calls_of_vc (args := [.string s]) [] [] Tryd.mixed Tryd.func42 (cast (sisname_eq _ w R) hvc)

set_option maxRecDepth 100000 in
def sidxb_T (s : ByteArray) (c : Int) (w : World) (R : Ending → World → Prop) : Prop :=
  Calls Tryd.prog 85 #[.string s, .int .u8 c] w fun e1 w2 ↦
 ∃ n3, e1 = .returned (.int .i64 n3) ∧ R (.returned (.int .i64 n3)) w2

set_option maxRecDepth 100000 in
theorem sidxb_eq (s : ByteArray) (c : Int) (w : World) (R : Ending → World → Prop) : sidxb_T s c w R = vcFn Tryd.prog [] [] Tryd.f60 [.string s, .int .u8 c] w R := by kernel_rfl

set_option maxRecDepth 100000 in
theorem sidxb_vc (s : ByteArray) (c : Int) (w : World) (R : Ending → World → Prop) (hvc : sidxb_T s c w R) : Calls Tryd.prog 60 #[.string s, .int .u8 c] w R :=
  calls_of_vc (args := [.string s, .int .u8 c]) [] [] Tryd.mixed Tryd.func60 (cast (sidxb_eq _ _ w R) hvc)

set_option maxRecDepth 100000 in
def slidxb_T (s : ByteArray) (c : Int) (w : World) (R : Ending → World → Prop) : Prop :=
  ∃ n1, ∃ (w'2 : World), Sem.run Tryd.prog (callFunc 106 #[.string s, .int .u8 c]) w = Result.ok (Next.value (.int .i64 n1)) w'2 ∧ R (.returned (.int .i64 n1)) w'2

set_option maxRecDepth 100000 in
theorem slidxb_eq (s : ByteArray) (c : Int) (w : World) (R : Ending → World → Prop) : slidxb_T s c w R = vcFn Tryd.prog [] [] Tryd.f85 [.string s, .int .u8 c] w R := by kernel_rfl

set_option maxRecDepth 100000 in
theorem slidxb_vc (s : ByteArray) (c : Int) (w : World) (R : Ending → World → Prop) (hvc : slidxb_T s c w R) : Calls Tryd.prog 85 #[.string s, .int .u8 c] w R :=
  calls_of_vc (args := [.string s, .int .u8 c]) [] [] Tryd.mixed Tryd.func85 (cast (slidxb_eq _ _ w R) hvc)

set_option maxRecDepth 100000 in
def strim_T (s : ByteArray) (cutset : ByteArray) (w : World) (R : Ending → World → Prop) : Prop :=
  (s = ByteArray.mk #[] ∨ cutset = ByteArray.mk #[] → R (.returned (.string s)) w) ∧ (s ≠ ByteArray.mk #[] ∧ cutset ≠ ByteArray.mk #[] → ((↑cutset.size : Int) = 1 → (0 : Int) ≤ 0 ∧ 0 < (↑cutset.size : Int) ∧ (bAt cutset 0 < 128 → ∀ w'5, Drew w w'5 → (0 : Int) ≤ 0 ∧ 0 < (↑cutset.size : Int) ∧ (0 : Int) ≤ 0 ∧ 0 < (↑cutset.size : Int) ∧ Calls Tryd.prog 87 #[.string s, .int .u8 (bAt cutset 0)] w'5 fun e7 w8 ↦
 ∃ s9, e7 = .returned (.string s9) ∧ Calls Tryd.prog 86 #[.string s9, .int .u8 (bAt cutset 0)] w8 fun e10 w11 ↦
 ∃ s12, e10 = .returned (.string s12) ∧ R (.returned (.string s12)) w11) ∧ (128 ≤ bAt cutset 0 → Calls Tryd.prog 88 #[.string cutset] w fun e14 w15 ↦
 ∃ (vs16 : Array Value), vs16.size = 256 ∧ ∃ b17, e14 = .returned (.tuple #[.agg vs16, .bool b17]) ∧ ∀ b18 w'19, New w15 (Obj.cells (zeroA Tryd.prog 112) 112) b18 w'19 → vs16.size = 256 ∧ CanPut w'19 b18 0 vs16 ∧ ∀ w'21, Put w'19 b18 0 vs16.1 w'21 → (b17 = true → Calls Tryd.prog 90 #[.string s, .pointer (some ⟨b18, 0, none⟩)] w'21 fun e24 w25 ↦
 ∃ s26, e24 = .returned (.string s26) ∧ Calls Tryd.prog 89 #[.string s26, .pointer (some ⟨b18, 0, none⟩)] w25 fun e27 w28 ↦
 ∃ s29, e27 = .returned (.string s29) ∧ R (.returned (.string s29)) w28) ∧ (b17 = false → Calls Tryd.prog 92 #[.string s, .string cutset] w'21 fun e31 w32 ↦
 ∃ s33, e31 = .returned (.string s33) ∧ Calls Tryd.prog 91 #[.string s33, .string cutset] w32 fun e34 w35 ↦
 ∃ s36, e34 = .returned (.string s36) ∧ R (.returned (.string s36)) w35))) ∧ ((↑cutset.size : Int) ≠ 1 → Calls Tryd.prog 88 #[.string cutset] w fun e38 w39 ↦
 ∃ (vs40 : Array Value), vs40.size = 256 ∧ ∃ b41, e38 = .returned (.tuple #[.agg vs40, .bool b41]) ∧ ∀ b42 w'43, New w39 (Obj.cells (zeroA Tryd.prog 112) 112) b42 w'43 → vs40.size = 256 ∧ CanPut w'43 b42 0 vs40 ∧ ∀ w'45, Put w'43 b42 0 vs40.1 w'45 → (b41 = true → Calls Tryd.prog 90 #[.string s, .pointer (some ⟨b42, 0, none⟩)] w'45 fun e48 w49 ↦
 ∃ s50, e48 = .returned (.string s50) ∧ Calls Tryd.prog 89 #[.string s50, .pointer (some ⟨b42, 0, none⟩)] w49 fun e51 w52 ↦
 ∃ s53, e51 = .returned (.string s53) ∧ R (.returned (.string s53)) w52) ∧ (b41 = false → Calls Tryd.prog 92 #[.string s, .string cutset] w'45 fun e55 w56 ↦
 ∃ s57, e55 = .returned (.string s57) ∧ Calls Tryd.prog 91 #[.string s57, .string cutset] w56 fun e58 w59 ↦
 ∃ s60, e58 = .returned (.string s60) ∧ R (.returned (.string s60)) w59)))

set_option maxRecDepth 100000 in
theorem strim_eq (s : ByteArray) (cutset : ByteArray) (w : World) (R : Ending → World → Prop) : strim_T s cutset w R = vcFn Tryd.prog [] [(4, [2, 4, 6, 10, 12, 8, 14, 16, 0])] Tryd.f61 [.string s, .string cutset] w R := by kernel_rfl

set_option maxRecDepth 100000 in
theorem strim_vc (s : ByteArray) (cutset : ByteArray) (w : World) (R : Ending → World → Prop) (hvc : strim_T s cutset w R) : Calls Tryd.prog 61 #[.string s, .string cutset] w R :=
  calls_of_vc (args := [.string s, .string cutset]) [] [(4, [2, 4, 6, 10, 12, 8, 14, 16, 0])] Tryd.mixed Tryd.func61 (cast (strim_eq _ _ w R) hvc)

set_option maxRecDepth 100000 in
def mkascii_T (chars : ByteArray) (w : World) (R : Ending → World → Prop) : Prop :=
  ∀ b1 w'2, New w (Obj.cells (zeroA Tryd.prog 112) 112) b1 w'2 → ∃ (I4 : Int → World → Prop), ∃ (M5 : Int → World → Nat), I4 0 w'2 ∧ ∀ (n6 : Int) (w'7 : World), I4 n6 w'7 → (n6 < (↑chars.size : Int) → 0 ≤ n6 ∧ n6 < (↑chars.size : Int) ∧ (128 ≤ bAt chars n6.toNat → ∃ (vs11 : Array Value), vs11.size = 256 ∧ CellsAt w'7 b1 0 vs11 ∧ vs11.size = 256 ∧ CanPut w'7 b1 0 vs11 ∧ ∀ w'12, Put w'7 b1 0 vs11.1 w'12 → ∃ (vs14 : Array Value), vs14.size = 256 ∧ CellsAt w'12 b1 0 vs14 ∧ R (.returned (.tuple #[.agg vs14, .bool false])) w'12) ∧ (bAt chars n6.toNat < 128 → 0 ≤ bAt chars n6.toNat ∧ bAt chars n6.toNat < 256 ∧ (∃ u16, w'7.cell? ⟨b1, (0 + (bAt chars n6.toNat).toNat), none⟩ = some u16) ∧ w'7.frozen? ⟨b1, (0 + (bAt chars n6.toNat).toNat), none⟩ = false ∧ ∀ w'17, Put w'7 b1 (0 + (bAt chars n6.toNat).toNat) [.bool true] w'17 → I4 (IntKind.i64.wrap (n6 + 1)) w'17 ∧ M5 (IntKind.i64.wrap (n6 + 1)) w'17 < M5 n6 w'7)) ∧ ((↑chars.size : Int) ≤ n6 → ∃ (vs20 : Array Value), vs20.size = 256 ∧ CellsAt w'7 b1 0 vs20 ∧ vs20.size = 256 ∧ CanPut w'7 b1 0 vs20 ∧ ∀ w'21, Put w'7 b1 0 vs20.1 w'21 → ∃ (vs23 : Array Value), vs23.size = 256 ∧ CellsAt w'21 b1 0 vs23 ∧ R (.returned (.tuple #[.agg vs23, .bool true])) w'21)

set_option maxRecDepth 100000 in
theorem mkascii_eq (chars : ByteArray) (w : World) (R : Ending → World → Prop) : mkascii_T chars w R = vcFn Tryd.prog [] [] Tryd.f88 [.string chars] w R := by kernel_rfl

set_option maxRecDepth 100000 in
theorem mkascii_vc (chars : ByteArray) (w : World) (R : Ending → World → Prop) (hvc : mkascii_T chars w R) : Calls Tryd.prog 88 #[.string chars] w R :=
  calls_of_vc (args := [.string chars]) [] [] Tryd.mixed Tryd.func88 (cast (mkascii_eq _ w R) hvc)

set_option maxRecDepth 100000 in
def trimla_T (s : ByteArray) («as» : Option Addr) (w : World) (R : Ending → World → Prop) : Prop :=
  ∃ (I1 : ByteArray → World → Prop), ∃ (M2 : ByteArray → World → Nat), I1 s w ∧ ∀ (s3 : ByteArray) (w'4 : World), I1 s3 w'4 → (0 < (↑s3.size : Int) → (0 : Int) ≤ 0 ∧ 0 < (↑s3.size : Int) ∧ Calls Tryd.prog 107 #[.pointer «as», .int .u8 (bAt s3 0)] w'4 fun e7 w8 ↦
 ∃ b9, e7 = .returned (.bool b9) ∧ (b9 = false → R (.returned (.string s3)) w8) ∧ (b9 = true → (0 : Int) ≤ 1 ∧ 1 ≤ (↑s3.size : Int) ∧ I1 (s3.extract 1 s3.size) w8 ∧ M2 (s3.extract 1 s3.size) w8 < M2 s3 w'4)) ∧ ((↑s3.size : Int) ≤ 0 → R (.returned (.string s3)) w'4)

set_option maxRecDepth 100000 in
theorem trimla_eq (s : ByteArray) («as» : Option Addr) (w : World) (R : Ending → World → Prop) : trimla_T s «as» w R = vcFn Tryd.prog [] [] Tryd.f89 [.string s, .pointer «as»] w R := by kernel_rfl

set_option maxRecDepth 100000 in
theorem trimla_vc (s : ByteArray) («as» : Option Addr) (w : World) (R : Ending → World → Prop) (hvc : trimla_T s «as» w R) : Calls Tryd.prog 89 #[.string s, .pointer «as»] w R :=
  calls_of_vc (args := [.string s, .pointer «as»]) [] [] Tryd.mixed Tryd.func89 (cast (trimla_eq _ _ w R) hvc)

set_option maxRecDepth 100000 in
def trimra_T (s : ByteArray) («as» : Option Addr) (w : World) (R : Ending → World → Prop) : Prop :=
  ∃ (I1 : ByteArray → World → Prop), ∃ (M2 : ByteArray → World → Nat), I1 s w ∧ ∀ (s3 : ByteArray) (w'4 : World), I1 s3 w'4 → (0 < (↑s3.size : Int) → 0 ≤ IntKind.i64.wrap ((↑s3.size : Int) - 1) ∧ IntKind.i64.wrap ((↑s3.size : Int) - 1) < (↑s3.size : Int) ∧ Calls Tryd.prog 107 #[.pointer «as», .int .u8 (bAt s3 (IntKind.i64.wrap ((↑s3.size : Int) - 1)).toNat)] w'4 fun e7 w8 ↦
 ∃ b9, e7 = .returned (.bool b9) ∧ (b9 = false → R (.returned (.string s3)) w8) ∧ (b9 = true → 0 ≤ IntKind.i64.wrap ((↑s3.size : Int) - 1) ∧ IntKind.i64.wrap ((↑s3.size : Int) - 1) ≤ (↑s3.size : Int) ∧ I1 (s3.extract 0 (IntKind.i64.wrap ((↑s3.size : Int) - 1)).toNat) w8 ∧ M2 (s3.extract 0 (IntKind.i64.wrap ((↑s3.size : Int) - 1)).toNat) w8 < M2 s3 w'4)) ∧ ((↑s3.size : Int) ≤ 0 → R (.returned (.string s3)) w'4)

set_option maxRecDepth 100000 in
theorem trimra_eq (s : ByteArray) («as» : Option Addr) (w : World) (R : Ending → World → Prop) : trimra_T s «as» w R = vcFn Tryd.prog [] [] Tryd.f90 [.string s, .pointer «as»] w R := by kernel_rfl

set_option maxRecDepth 100000 in
theorem trimra_vc (s : ByteArray) («as» : Option Addr) (w : World) (R : Ending → World → Prop) (hvc : trimra_T s «as» w R) : Calls Tryd.prog 90 #[.string s, .pointer «as»] w R :=
  calls_of_vc (args := [.string s, .pointer «as»]) [] [] Tryd.mixed Tryd.func90 (cast (trimra_eq _ _ w R) hvc)

set_option maxRecDepth 100000 in
def ascont_T («as» : Option Addr) (c : Int) (w : World) (R : Ending → World → Prop) : Prop :=
  ∃ b1, ∃ o2, «as» = some ⟨b1, o2, none⟩ ∧ 0 ≤ c ∧ c < 256 ∧ ∃ b3, w.cell? ⟨b1, (o2 + c.toNat), none⟩ = some (.bool b3) ∧ R (.returned (.bool b3)) w

set_option maxRecDepth 100000 in
theorem ascont_eq («as» : Option Addr) (c : Int) (w : World) (R : Ending → World → Prop) : ascont_T «as» c w R = vcFn Tryd.prog [] [] Tryd.f107 [.pointer «as», .int .u8 c] w R := by kernel_rfl

set_option maxRecDepth 100000 in
theorem ascont_vc («as» : Option Addr) (c : Int) (w : World) (R : Ending → World → Prop) (hvc : ascont_T «as» c w R) : Calls Tryd.prog 107 #[.pointer «as», .int .u8 c] w R :=
  calls_of_vc (args := [.pointer «as», .int .u8 c]) [] [] Tryd.mixed Tryd.func107 (cast (ascont_eq _ _ w R) hvc)

set_option maxRecDepth 100000 in
def sright_T (cols_p : Option Addr) (cols_n : Nat) (cols_c : Nat) (w : World) (R : Ending → World → Prop) : Prop :=
  ∀ b1 w'2, New w (Obj.map #[] 0) b1 w'2 → ∃ (I4 : Int → World → Prop), ∃ (M5 : Int → World → Nat), I4 0 w'2 ∧ ∀ (n6 : Int) (w'7 : World), I4 n6 w'7 → (n6 < (↑cols_n : Int) → ∃ b10, ∃ o11, cols_p = some ⟨b10, o11, none⟩ ∧ 0 ≤ n6 ∧ n6 < (↑cols_n : Int) ∧ ∃ s12, w'7.cell? ⟨b10, (o11 + n6.toNat * 3), none⟩ = some (.string s12) ∧ ∃ n13, w'7.cell? ⟨b10, (o11 + n6.toNat * 3 + 1), none⟩ = some (.int .i64 n13) ∧ ∃ b14, w'7.cell? ⟨b10, (o11 + n6.toNat * 3 + 2), none⟩ = some (.bool b14) ∧ ∀ b15 w'16, New w'7 (Obj.cells #[.string ⟨#[]⟩, .int .i64 0, .bool false] 50) b15 w'16 → (∃ u18, w'16.cell? ⟨b15, 0, none⟩ = some u18) ∧ w'16.frozen? ⟨b15, 0, none⟩ = false ∧ (∃ u19, w'16.cell? ⟨b15, 1, none⟩ = some u19) ∧ w'16.frozen? ⟨b15, 1, none⟩ = false ∧ (∃ u20, w'16.cell? ⟨b15, 2, none⟩ = some u20) ∧ w'16.frozen? ⟨b15, 2, none⟩ = false ∧ ∀ w'21, Put w'16 b15 0 [.string s12, .int .i64 n13, .bool b14] w'21 → ∃ s23, w'21.cell? ⟨b15, 0, none⟩ = some (.string s23) ∧ Calls Tryd.prog 42 #[.string s23] w'21 fun e24 w25 ↦
 ∃ b26, e24 = .returned (.bool b26) ∧ (b26 = false → R (.returned (.bool false)) w25) ∧ (b26 = true → ∃ s29, w25.cell? ⟨b15, 0, none⟩ = some (.string s29) ∧ ∃ b30, (∀ (w131 : World), Same w25 w131 → Sem.run Tryd.prog (Instr.lookup 61 (.map (some b1)) (.string s29) false) w131 = Result.ok (.bool b30) w131) ∧ (b30 = true → R (.returned (.bool false)) w25) ∧ (b30 = false → ∃ n35, w25.cell? ⟨b15, 1, none⟩ = some (.int .i64 n35) ∧ (n35 < 1 → R (.returned (.bool false)) w25) ∧ (1 ≤ n35 → ∃ n38, w25.cell? ⟨b15, 1, none⟩ = some (.int .i64 n38) ∧ (3 < n38 → R (.returned (.bool false)) w25) ∧ (n38 ≤ 3 → ∃ s41, w25.cell? ⟨b15, 0, none⟩ = some (.string s41) ∧ ∃ (w'42 : World), Sem.run Tryd.prog (Instr.mapUpdate 61 (.map (some b1)) (.string s41) (.bool true)) w25 = Result.ok () w'42 ∧ I4 (IntKind.i64.wrap (n6 + 1)) w'42 ∧ M5 (IntKind.i64.wrap (n6 + 1)) w'42 < M5 n6 w'7))))) ∧ ((↑cols_n : Int) ≤ n6 → R (.returned (.bool (decide (0 < (↑cols_n : Int)) && decide ((↑cols_n : Int) ≤ 16)))) w'7)

set_option maxRecDepth 100000 in
theorem sright_eq (cols_p : Option Addr) (cols_n : Nat) (cols_c : Nat) (w : World) (R : Ending → World → Prop) : sright_T cols_p cols_n cols_c w R = vcFn Tryd.prog [] [] Tryd.f26 [.slice cols_p cols_n cols_c] w R := by kernel_rfl

set_option maxRecDepth 100000 in
theorem sright_vc (cols_p : Option Addr) (cols_n : Nat) (cols_c : Nat) (w : World) (R : Ending → World → Prop) (hvc : sright_T cols_p cols_n cols_c w R) : Calls Tryd.prog 26 #[.slice cols_p cols_n cols_c] w R :=
  calls_of_vc (args := [.slice cols_p cols_n cols_c]) [] [] Tryd.mixed Tryd.func26 (cast (sright_eq _ _ _ w R) hvc)

set_option maxRecDepth 100000 in
def sfits_T (cols_p : Option Addr) (cols_n : Nat) (cols_c : Nat) (row_p : Option Addr) (row_n : Nat) (row_c : Nat) (w : World) (R : Ending → World → Prop) : Prop :=
  Calls Tryd.prog 26 #[.slice cols_p cols_n cols_c] w fun e1 w2 ↦
 ∃ b3, e1 = .returned (.bool b3) ∧ (b3 = true → Calls Tryd.prog 50 #[.slice cols_p cols_n cols_c, .slice row_p row_n row_c] w2 fun e5 w6 ↦
 ∃ b7, e5 = .returned (.bool b7) ∧ R (.returned (.bool b7)) w6) ∧ (b3 = false → R (.returned (.bool false)) w2)

set_option maxRecDepth 100000 in
theorem sfits_eq (cols_p : Option Addr) (cols_n : Nat) (cols_c : Nat) (row_p : Option Addr) (row_n : Nat) (row_c : Nat) (w : World) (R : Ending → World → Prop) : sfits_T cols_p cols_n cols_c row_p row_n row_c w R = vcFn Tryd.prog [] [] Tryd.f34 [.slice cols_p cols_n cols_c, .slice row_p row_n row_c] w R := by kernel_rfl

set_option maxRecDepth 100000 in
theorem sfits_vc (cols_p : Option Addr) (cols_n : Nat) (cols_c : Nat) (row_p : Option Addr) (row_n : Nat) (row_c : Nat) (w : World) (R : Ending → World → Prop) (hvc : sfits_T cols_p cols_n cols_c row_p row_n row_c w R) : Calls Tryd.prog 34 #[.slice cols_p cols_n cols_c, .slice row_p row_n row_c] w R :=
  calls_of_vc (args := [.slice cols_p cols_n cols_c, .slice row_p row_n row_c]) [] [] Tryd.mixed Tryd.func34 (cast (sfits_eq _ _ _ _ _ _ w R) hvc)

set_option maxRecDepth 100000 in
def sfits0_T (cols_p : Option Addr) (cols_n : Nat) (cols_c : Nat) (row_p : Option Addr) (row_n : Nat) (row_c : Nat) (w : World) (R : Ending → World → Prop) : Prop :=
  ∀ b1 w'2, New w (Obj.cells #[.bool false] 4) b1 w'2 → ((↑row_n : Int) ≠ (↑cols_n : Int) → (∃ u5, w'2.cell? ⟨b1, 0, none⟩ = some u5) ∧ w'2.frozen? ⟨b1, 0, none⟩ = false ∧ ∀ w'6, Put w'2 b1 0 [.bool false] w'6 → ∃ b8, w'6.cell? ⟨b1, 0, none⟩ = some (.bool b8) ∧ R (.returned (.bool b8)) w'6) ∧ ((↑row_n : Int) = (↑cols_n : Int) → Calls Tryd.prog 75 #[.slice cols_p cols_n cols_c, .slice row_p row_n row_c] w'2 fun e10 w11 ↦
 ∃ v12, e10 = .returned v12 ∧ ∃ (g13 : FuncId), ∃ (lb14 : Array Value), v12 = .func (Fn.func g13) #[] lb14 ∧ enterable Tryd.prog g13 = true ∧ ∀ (r15 : Nat → Loop) (d16 l17 : Nat) (w118 : World), Began w11 r15 d16 l17 w118 → (∀ (s20 : ByteArray) (n21 : Int) (b22 : Bool) (n23 n24 : Int) (s25 : ByteArray) (W26 : World) (R27 : Bool → World → Prop), Rec r15 l17 0 W26 → (∀ b29 w'30, New W26 (Obj.cells #[.string ⟨#[]⟩, .int .i64 0, .bool false] 50) b29 w'30 → (∃ u32, w'30.cell? ⟨b29, 0, none⟩ = some u32) ∧ w'30.frozen? ⟨b29, 0, none⟩ = false ∧ (∃ u33, w'30.cell? ⟨b29, 1, none⟩ = some u33) ∧ w'30.frozen? ⟨b29, 1, none⟩ = false ∧ (∃ u34, w'30.cell? ⟨b29, 2, none⟩ = some u34) ∧ w'30.frozen? ⟨b29, 2, none⟩ = false ∧ ∀ w'35, Put w'30 b29 0 [.string s20, .int .i64 n21, .bool b22] w'35 → ∀ b37 w'38, New w'35 (Obj.cells #[.int .i64 0, .int .i64 0, .string ⟨#[]⟩] 26) b37 w'38 → (∃ u40, w'38.cell? ⟨b37, 0, none⟩ = some u40) ∧ w'38.frozen? ⟨b37, 0, none⟩ = false ∧ (∃ u41, w'38.cell? ⟨b37, 1, none⟩ = some u41) ∧ w'38.frozen? ⟨b37, 1, none⟩ = false ∧ (∃ u42, w'38.cell? ⟨b37, 2, none⟩ = some u42) ∧ w'38.frozen? ⟨b37, 2, none⟩ = false ∧ ∀ w'43, Put w'38 b37 0 [.int .i64 n23, .int .i64 n24, .string s25] w'43 → Rec r15 l17 0 w'43 ∧ ∀ (Wb45 : World), Wb45 = turn r15 l17 1 w'43 → ∃ n47, Wb45.cell? ⟨b37, 0, none⟩ = some (.int .i64 n47) ∧ ∃ n48, Wb45.cell? ⟨b37, 1, none⟩ = some (.int .i64 n48) ∧ ∃ s49, Wb45.cell? ⟨b37, 2, none⟩ = some (.string s49) ∧ Calls Tryd.prog 43 #[.agg #[.int .i64 n47, .int .i64 n48, .string s49]] Wb45 fun e50 w51 ↦
 ∃ b52, e50 = .returned (.bool b52) ∧ (b52 = false → (∃ u54, w51.cell? ⟨b1, 0, none⟩ = some u54) ∧ w51.frozen? ⟨b1, 0, none⟩ = false ∧ ∀ w'55, Put w51 b1 0 [.bool false] w'55 → Rec r15 l17 1 w'55 ∧ R27 false (turn r15 l17 3 w'55)) ∧ (b52 = true → ∃ n58, w51.cell? ⟨b37, 0, none⟩ = some (.int .i64 n58) ∧ ∃ n59, w51.cell? ⟨b29, 1, none⟩ = some (.int .i64 n59) ∧ (n58 ≠ n59 → ∃ b61, w51.cell? ⟨b29, 2, none⟩ = some (.bool b61) ∧ (b61 = true → ∃ n63, w51.cell? ⟨b37, 0, none⟩ = some (.int .i64 n63) ∧ (n63 ≠ 0 → (∃ u65, w51.cell? ⟨b1, 0, none⟩ = some u65) ∧ w51.frozen? ⟨b1, 0, none⟩ = false ∧ ∀ w'66, Put w51 b1 0 [.bool false] w'66 → Rec r15 l17 1 w'66 ∧ R27 false (turn r15 l17 3 w'66)) ∧ (n63 = 0 → Rec r15 l17 1 w51 ∧ R27 true (turn r15 l17 0 w51))) ∧ (b61 = false → (∃ u70, w51.cell? ⟨b1, 0, none⟩ = some u70) ∧ w51.frozen? ⟨b1, 0, none⟩ = false ∧ ∀ w'71, Put w51 b1 0 [.bool false] w'71 → Rec r15 l17 1 w'71 ∧ R27 false (turn r15 l17 3 w'71))) ∧ (n58 = n59 → Rec r15 l17 1 w51 ∧ R27 true (turn r15 l17 0 w51)))) → Yield Tryd.prog l17
 #[.agg #[.string s20, .int .i64 n21, .bool b22], .agg #[.int .i64 n23, .int .i64 n24, .string s25]] W26
 fun (b75 : Bool) (w76 : World) ↦ R27 b75 w76) → Calls Tryd.prog g13 (.func (Fn.yield l17) #[] #[] :: lb14.1).toArray w118 fun e78 w79 ↦
 (∃ v80, e78 = .returned v80) ∧ ((Rec r15 l17 0 w79 ∧ (∃ u81, (turn r15 l17 2 w79).cell? ⟨b1, 0, none⟩ = some u81) ∧ (turn r15 l17 2 w79).frozen? ⟨b1, 0, none⟩ = false ∧ ∀ w'82, Put (turn r15 l17 2 w79) b1 0 [.bool true] w'82 → w'82.heap[d16]? = some (Obj.deferred (some [])) ∧ ∃ b86, (w'82.putObj d16 (Obj.deferred none)).cell? ⟨b1, 0, none⟩ = some (.bool b86) ∧ R (.returned (.bool b86)) (w'82.putObj d16 (Obj.deferred none))) ∨
 (Rec r15 l17 3 w79 ∧ (turn r15 l17 4 w79).heap[d16]? = some (Obj.deferred (some [])) ∧ ∃ b89, ((turn r15 l17 4 w79).putObj d16 (Obj.deferred none)).cell? ⟨b1, 0, none⟩ = some (.bool b89) ∧ R (.returned (.bool b89)) ((turn r15 l17 4 w79).putObj d16 (Obj.deferred none))) ∨
 False))

set_option maxRecDepth 100000 in
theorem sfits0_eq (cols_p : Option Addr) (cols_n : Nat) (cols_c : Nat) (row_p : Option Addr) (row_n : Nat) (row_c : Nat) (w : World) (R : Ending → World → Prop) : sfits0_T cols_p cols_n cols_c row_p row_n row_c w R = vcFn Tryd.prog [] [] Tryd.f50 [.slice cols_p cols_n cols_c, .slice row_p row_n row_c] w R := by kernel_rfl

set_option maxRecDepth 100000 in
theorem sfits0_vc (cols_p : Option Addr) (cols_n : Nat) (cols_c : Nat) (row_p : Option Addr) (row_n : Nat) (row_c : Nat) (w : World) (R : Ending → World → Prop) (hvc : sfits0_T cols_p cols_n cols_c row_p row_n row_c w R) : Calls Tryd.prog 50 #[.slice cols_p cols_n cols_c, .slice row_p row_n row_c] w R :=
  calls_of_vc (args := [.slice cols_p cols_n cols_c, .slice row_p row_n row_c]) [] [] Tryd.mixed Tryd.func50 (cast (sfits0_eq _ _ _ _ _ _ w R) hvc)

set_option maxRecDepth 100000 in
def spairs_T (cols_p : Option Addr) (cols_n : Nat) (cols_c : Nat) (row_p : Option Addr) (row_n : Nat) (row_c : Nat) (w : World) (R : Ending → World → Prop) : Prop :=
  ∀ b1 w'2, New w (Obj.cells #[.slice cols_p cols_n cols_c] 22) b1 w'2 → ∀ b4 w'5, New w'2 (Obj.cells #[.slice row_p row_n row_c] 24) b4 w'5 → R (.returned (.func (Fn.func 99) #[] #[.pointer (some ⟨b1, 0, none⟩), .pointer (some ⟨b4, 0, none⟩)])) w'5

set_option maxRecDepth 100000 in
theorem spairs_eq (cols_p : Option Addr) (cols_n : Nat) (cols_c : Nat) (row_p : Option Addr) (row_n : Nat) (row_c : Nat) (w : World) (R : Ending → World → Prop) : spairs_T cols_p cols_n cols_c row_p row_n row_c w R = vcFn Tryd.prog [] [] Tryd.f75 [.slice cols_p cols_n cols_c, .slice row_p row_n row_c] w R := by kernel_rfl

set_option maxRecDepth 100000 in
theorem spairs_vc (cols_p : Option Addr) (cols_n : Nat) (cols_c : Nat) (row_p : Option Addr) (row_n : Nat) (row_c : Nat) (w : World) (R : Ending → World → Prop) (hvc : spairs_T cols_p cols_n cols_c row_p row_n row_c w R) : Calls Tryd.prog 75 #[.slice cols_p cols_n cols_c, .slice row_p row_n row_c] w R :=
  calls_of_vc (args := [.slice cols_p cols_n cols_c, .slice row_p row_n row_c]) [] [] Tryd.mixed Tryd.func75 (cast (spairs_eq _ _ _ _ _ _ w R) hvc)

set_option maxRecDepth 100000 in
def spairs1_T (l0 : Nat) (fv0 : Nat) (fv1 : Nat) (w : World) (R : Ending → World → Prop) : Prop :=
  ∃ p1 n2 c3, w.cell? ⟨fv0, 0, none⟩ = some (.slice p1 n2 c3) ∧ ∃ (I4 : Int → World → Prop), ∃ (M5 : Int → World → Nat), I4 0 w ∧ ∀ (n6 : Int) (w'7 : World), I4 n6 w'7 → (n6 < (↑n2 : Int) → ∃ b10, ∃ o11, p1 = some ⟨b10, o11, none⟩ ∧ 0 ≤ n6 ∧ n6 < (↑n2 : Int) ∧ ∃ s12, w'7.cell? ⟨b10, (o11 + n6.toNat * 3), none⟩ = some (.string s12) ∧ ∃ n13, w'7.cell? ⟨b10, (o11 + n6.toNat * 3 + 1), none⟩ = some (.int .i64 n13) ∧ ∃ b14, w'7.cell? ⟨b10, (o11 + n6.toNat * 3 + 2), none⟩ = some (.bool b14) ∧ ∀ b15 w'16, New w'7 (Obj.cells #[.string ⟨#[]⟩, .int .i64 0, .bool false] 50) b15 w'16 → (∃ u18, w'16.cell? ⟨b15, 0, none⟩ = some u18) ∧ w'16.frozen? ⟨b15, 0, none⟩ = false ∧ (∃ u19, w'16.cell? ⟨b15, 1, none⟩ = some u19) ∧ w'16.frozen? ⟨b15, 1, none⟩ = false ∧ (∃ u20, w'16.cell? ⟨b15, 2, none⟩ = some u20) ∧ w'16.frozen? ⟨b15, 2, none⟩ = false ∧ ∀ w'21, Put w'16 b15 0 [.string s12, .int .i64 n13, .bool b14] w'21 → ∀ w'23, Drew w'21 w'23 → ∃ s25, w'23.cell? ⟨b15, 0, none⟩ = some (.string s25) ∧ ∃ n26, w'23.cell? ⟨b15, 1, none⟩ = some (.int .i64 n26) ∧ ∃ b27, w'23.cell? ⟨b15, 2, none⟩ = some (.bool b27) ∧ ∃ p28 n29 c30, w'23.cell? ⟨fv1, 0, none⟩ = some (.slice p28 n29 c30) ∧ ∃ b31, ∃ o32, p28 = some ⟨b31, o32, none⟩ ∧ 0 ≤ n6 ∧ n6 < (↑n29 : Int) ∧ ∃ n33, w'23.cell? ⟨b31, (o32 + n6.toNat * 3), none⟩ = some (.int .i64 n33) ∧ ∃ n34, w'23.cell? ⟨b31, (o32 + n6.toNat * 3 + 1), none⟩ = some (.int .i64 n34) ∧ ∃ s35, w'23.cell? ⟨b31, (o32 + n6.toNat * 3 + 2), none⟩ = some (.string s35) ∧ Yield Tryd.prog l0
 #[.agg #[.string s25, .int .i64 n26, .bool b27], .agg #[.int .i64 n33, .int .i64 n34, .string s35]] w'23
 fun (b36 : Bool) (w37 : World) ↦
 (b36 = false → R (.returned (.tuple #[])) w37) ∧ (b36 = true → I4 (IntKind.i64.wrap (n6 + 1)) w37 ∧ M5 (IntKind.i64.wrap (n6 + 1)) w37 < M5 n6 w'7)) ∧ ((↑n2 : Int) ≤ n6 → R (.returned (.tuple #[])) w'7)

set_option maxRecDepth 100000 in
theorem spairs1_eq (l0 : Nat) (fv0 : Nat) (fv1 : Nat) (w : World) (R : Ending → World → Prop) : spairs1_T l0 fv0 fv1 w R = vcFn Tryd.prog [] [(3, [2, 4, 6, 8, 10, 12, 14, 16, 0])] Tryd.f99 [.func (Fn.yield l0) #[] #[], .pointer (some ⟨fv0, 0, none⟩), .pointer (some ⟨fv1, 0, none⟩)] w R := by kernel_rfl

set_option maxRecDepth 100000 in
theorem spairs1_vc (l0 : Nat) (fv0 : Nat) (fv1 : Nat) (w : World) (R : Ending → World → Prop) (hvc : spairs1_T l0 fv0 fv1 w R) : Calls Tryd.prog 99 #[.func (Fn.yield l0) #[] #[], .pointer (some ⟨fv0, 0, none⟩), .pointer (some ⟨fv1, 0, none⟩)] w R :=
  calls_of_vc (args := [.func (Fn.yield l0) #[] #[], .pointer (some ⟨fv0, 0, none⟩), .pointer (some ⟨fv1, 0, none⟩)]) [] [(3, [2, 4, 6, 8, 10, 12, 14, 16, 0])] Tryd.mixed Tryd.func99 (cast (spairs1_eq _ _ _ w R) hvc)

set_option maxRecDepth 100000 in
def sfind_T (cols_p : Option Addr) (cols_n : Nat) (cols_c : Nat) (name : ByteArray) (w : World) (R : Ending → World → Prop) : Prop :=
  ∀ b1 w'2, New w (Obj.cells #[.string name] 9) b1 w'2 → Calls Tryd.prog 62 #[.slice cols_p cols_n cols_c, .func (Fn.func 63) #[] #[.pointer (some ⟨b1, 0, none⟩)]] w'2 fun e4 w5 ↦
 ∃ n6, e4 = .returned (.int .i64 n6) ∧ R (.returned (.int .i64 n6)) w5

set_option maxRecDepth 100000 in
theorem sfind_eq (cols_p : Option Addr) (cols_n : Nat) (cols_c : Nat) (name : ByteArray) (w : World) (R : Ending → World → Prop) : sfind_T cols_p cols_n cols_c name w R = vcFn Tryd.prog [] [] Tryd.f45 [.slice cols_p cols_n cols_c, .string name] w R := by kernel_rfl

set_option maxRecDepth 100000 in
theorem sfind_vc (cols_p : Option Addr) (cols_n : Nat) (cols_c : Nat) (name : ByteArray) (w : World) (R : Ending → World → Prop) (hvc : sfind_T cols_p cols_n cols_c name w R) : Calls Tryd.prog 45 #[.slice cols_p cols_n cols_c, .string name] w R :=
  calls_of_vc (args := [.slice cols_p cols_n cols_c, .string name]) [] [] Tryd.mixed Tryd.func45 (cast (sfind_eq _ _ _ _ w R) hvc)

set_option maxRecDepth 100000 in
def sfind1_T (c0 : ByteArray) (c1 : Int) (c2 : Bool) (fv0 : Nat) (w : World) (R : Ending → World → Prop) : Prop :=
  ∀ b1 w'2, New w (Obj.cells #[.string c0, .int .i64 c1, .bool c2] 50) b1 w'2 → ∃ s4, w'2.cell? ⟨b1, 0, none⟩ = some (.string s4) ∧ ∃ s5, w'2.cell? ⟨fv0, 0, none⟩ = some (.string s5) ∧ R (.returned (.bool (sEq s4 s5))) w'2

set_option maxRecDepth 100000 in
theorem sfind1_eq (c0 : ByteArray) (c1 : Int) (c2 : Bool) (fv0 : Nat) (w : World) (R : Ending → World → Prop) : sfind1_T c0 c1 c2 fv0 w R = vcFn Tryd.prog [] [] Tryd.f63 [.agg #[.string c0, .int .i64 c1, .bool c2], .pointer (some ⟨fv0, 0, none⟩)] w R := by kernel_rfl

set_option maxRecDepth 100000 in
theorem sfind1_vc (c0 : ByteArray) (c1 : Int) (c2 : Bool) (fv0 : Nat) (w : World) (R : Ending → World → Prop) (hvc : sfind1_T c0 c1 c2 fv0 w R) : Calls Tryd.prog 63 #[.agg #[.string c0, .int .i64 c1, .bool c2], .pointer (some ⟨fv0, 0, none⟩)] w R :=
  calls_of_vc (args := [.agg #[.string c0, .int .i64 c1, .bool c2], .pointer (some ⟨fv0, 0, none⟩)]) [] [] Tryd.mixed Tryd.func63 (cast (sfind1_eq _ _ _ _ w R) hvc)

set_option maxRecDepth 100000 in
def ifcol_T (s_p : Option Addr) (s_n : Nat) (s_c : Nat) (cv1_0 : Nat) (w : World) (R : Ending → World → Prop) : Prop :=
  ∃ (I1 : Int → World → Prop), ∃ (M2 : Int → World → Nat), I1 0 w ∧ ∀ (n3 : Int) (w'4 : World), I1 n3 w'4 → (n3 < (↑s_n : Int) → ∃ b7, ∃ o8, s_p = some ⟨b7, o8, none⟩ ∧ 0 ≤ n3 ∧ n3 < (↑s_n : Int) ∧ ∃ s9, w'4.cell? ⟨b7, (o8 + n3.toNat * 3), none⟩ = some (.string s9) ∧ ∃ n10, w'4.cell? ⟨b7, (o8 + n3.toNat * 3 + 1), none⟩ = some (.int .i64 n10) ∧ ∃ b11, w'4.cell? ⟨b7, (o8 + n3.toNat * 3 + 2), none⟩ = some (.bool b11) ∧ Calls Tryd.prog 63 #[.agg #[.string s9, .int .i64 n10, .bool b11], .pointer (some ⟨cv1_0, 0, none⟩)] w'4
 fun e12 w13 ↦
 ∃ b14, e12 = .returned (.bool b14) ∧ (b14 = true → R (.returned (.int .i64 n3)) w13) ∧ (b14 = false → I1 (IntKind.i64.wrap (n3 + 1)) w13 ∧ M2 (IntKind.i64.wrap (n3 + 1)) w13 < M2 n3 w'4)) ∧ ((↑s_n : Int) ≤ n3 → R (.returned (.int .i64 (-1))) w'4)

set_option maxRecDepth 100000 in
theorem ifcol_eq (s_p : Option Addr) (s_n : Nat) (s_c : Nat) (cv1_0 : Nat) (w : World) (R : Ending → World → Prop) : ifcol_T s_p s_n s_c cv1_0 w R = vcFn Tryd.prog [] [] Tryd.f62 [.slice s_p s_n s_c, .func (Fn.func 63) #[] #[.pointer (some ⟨cv1_0, 0, none⟩)]] w R := by kernel_rfl

set_option maxRecDepth 100000 in
theorem ifcol_vc (s_p : Option Addr) (s_n : Nat) (s_c : Nat) (cv1_0 : Nat) (w : World) (R : Ending → World → Prop) (hvc : ifcol_T s_p s_n s_c cv1_0 w R) : Calls Tryd.prog 62 #[.slice s_p s_n s_c, .func (Fn.func 63) #[] #[.pointer (some ⟨cv1_0, 0, none⟩)]] w R :=
  calls_of_vc (args := [.slice s_p s_n s_c, .func (Fn.func 63) #[] #[.pointer (some ⟨cv1_0, 0, none⟩)]]) [] [] Tryd.mixed Tryd.func62 (cast (ifcol_eq _ _ _ _ w R) hvc)

end Go.Proofs.YtdephmdfdgclpaaDoor

/- Big arrays in memory, told as one. -/
namespace Go.Vc
open Go Go.RowKit

theorem setA_get : ∀ (vs : List Value) (cs : Array Value) (o i : Nat), (setA cs o vs)[i]? = if o ≤ i ∧ i < o + vs.length ∧ i < cs.size then vs[i - o]? else cs[i]?
  | [], cs, o, i => by unfold setA; simp; omega
  | v :: vs, cs, o, i => by
    unfold setA
    rw [setA_get vs, Array.getElem?_setIfInBounds, Array.size_setIfInBounds]
    simp only [List.length_cons]
    by_cases h : o = i
    · subst h
      rw [if_neg (by omega), if_pos rfl]
      split
      · rw [if_pos (by omega)]; simp
      · rw [if_neg (by omega), Array.getElem?_eq_none (by omega)]
    · rw [if_neg h]
      by_cases h2 : o ≤ i ∧ i < o + (vs.length + 1) ∧ i < cs.size
      · rw [if_pos (by omega), if_pos h2, show i - o = (i - (o + 1)) + 1 by omega, List.getElem?_cons_succ]
      · rw [if_neg (by omega), if_neg h2]
theorem setA_size : ∀ (vs : List Value) (cs : Array Value) (o : Nat), (setA cs o vs).size = cs.size
  | [], _, _ => rfl
  | v :: vs, cs, o => by unfold setA; rw [setA_size vs]; simp
/-- All cells are stored anew. -/
theorem setA_all {cs vs : Array Value} (h : vs.size = cs.size) : setA cs 0 vs.toList = vs := by
  apply Array.ext_getElem?
  intro i
  rw [setA_get]
  by_cases hi : i < cs.size
  · rw [if_pos (by simp; omega)]; simp
  · rw [if_neg (by omega), Array.getElem?_eq_none (by omega), Array.getElem?_eq_none (by omega)]
section
variable {w w' w0 W W' : World} {b : Nat} {t : TypeId} {cs vs : Array Value} {fs : List (Nat × Obj)} {ms : List Row}
theorem Blk.cellsAt (h : Blk w b t cs) : CellsAt w b 0 cs := fun k v hk => by rw [Nat.zero_add, h.cell]; exact hk
theorem Blk.canPut (h : Blk w b t cs) (hs : vs.size = cs.size) (h1 : ∀ (k : Nat) v, vs[k]? = some v → v.oneCell' = true) : CanPut w b 0 vs := fun k v hk => by
  have hk' := (Array.getElem?_eq_some_iff.1 hk).1
  exact ⟨h1 k v hk, ⟨cs[k]'(by omega), by rw [Nat.zero_add, h.cell]; exact Array.getElem?_eq_getElem _⟩, h.frozen _⟩
theorem Hold.putAll (h : Hold w0 W fs ms) (i : Nat) (hi : fs[i]? = some (b, .cells cs t (0, 0))) (hs : vs.size = cs.size) (e : Put W b 0 vs.toList W') : Hold w0 W' (fs.set i (b, .cells vs t (0, 0))) ms := by
  have := h.put i hi e
  rwa [setA_all hs] at this
end

end Go.Vc
