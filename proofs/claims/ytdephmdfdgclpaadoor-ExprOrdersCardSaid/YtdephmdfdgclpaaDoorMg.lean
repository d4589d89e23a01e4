/- Texts of the proof, one behind the other. -/
import Derived.Test.YtdephmdfdgclpaaDoorMf
import Derived.Test.YtdephmdfdgclpaaDoorRows
import Derived.JoinedOf
set_option linter.unusedVariables false
set_option linter.unusedSimpArgs false
/- What the laws on expressions say of kinds and values. Plain Lean, no program. -/
namespace Go.Vc
open Go Go.RowKit

def mk1 (op : Int) (a : Ex) : Ex := .mk op ⟨#[]⟩ nullV [a]
def mk2 (op : Int) (a b : Ex) : Ex := .mk op ⟨#[]⟩ nullV [a, b]
def F2 (a b : Ex) : Prop := (∀ y ∈ nodesT a, NodeOk y) ∧ (∀ y ∈ nodesT b, NodeOk y) ∧ depthT a ≤ 39 ∧ depthT b ≤ 39 ∧ (nodesT a).length + (nodesT b).length ≤ 399
def F1 (a : Ex) : Prop := (∀ y ∈ nodesT a, NodeOk y) ∧ depthT a ≤ 39 ∧ (nodesT a).length ≤ 399
theorem F2.symm {a b : Ex} (h : F2 a b) : F2 b a := ⟨h.2.1, h.1, h.2.2.2.1, h.2.2.1, by have := h.2.2.2.2; omega⟩
theorem formed2 {op : Int} {a b : Ex} (h : manyOf op = 2) : formedB (mk2 op a b) = true ↔ F2 a b := by
  have hn : nodesT (mk2 op a b) = mk2 op a b :: (nodesT a ++ (nodesT b ++ [])) := by
    unfold mk2; rw [nodesT, nodesTs, nodesTs, nodesTs]
  have hd : depthT (mk2 op a b) = 1 + max (depthT a) (max (depthT b) 0) := by
    unfold mk2; rw [depthT, depthTs, depthTs, depthTs]
  have ho : NodeOk (mk2 op a b) := ⟨by rw [show (mk2 op a b).op = op from rfl, h]; rfl, .inr rfl, .inr rfl, null_ok⟩
  unfold formedB F2
  rw [decide_eq_true_eq]
  unfold FormedP
  rw [hn, hd]
  simp only [List.mem_cons, List.mem_append, List.not_mem_nil, or_false, List.length_cons, List.length_append, List.length_nil]
  constructor
  · rintro ⟨h1, h2, h3⟩
    exact ⟨fun y hy => h1 y (.inr (.inl hy)), fun y hy => h1 y (.inr (.inr hy)), by omega, by omega, by omega⟩
  · rintro ⟨h1, h2, h3, h4, h5⟩
    refine ⟨fun y hy => ?_, by omega, by omega⟩
    rcases hy with rfl | hy | hy
    · exact ho
    · exact h1 y hy
    · exact h2 y hy
theorem formed1 {op : Int} {a : Ex} (h : manyOf op = 1) : formedB (mk1 op a) = true ↔ F1 a := by
  have hn : nodesT (mk1 op a) = mk1 op a :: (nodesT a ++ []) := by
    unfold mk1; rw [nodesT, nodesTs, nodesTs]
  have hd : depthT (mk1 op a) = 1 + max (depthT a) 0 := by
    unfold mk1; rw [depthT, depthTs, depthTs]
  have ho : NodeOk (mk1 op a) := ⟨by rw [show (mk1 op a).op = op from rfl, h]; rfl, .inr rfl, .inr rfl, null_ok⟩
  unfold formedB F1
  rw [decide_eq_true_eq]
  unfold FormedP
  rw [hn, hd]
  simp only [List.mem_cons, List.mem_append, List.not_mem_nil, or_false, List.length_cons, List.length_append, List.length_nil]
  constructor
  · rintro ⟨h1, h2, h3⟩
    exact ⟨fun y hy => h1 y (.inr hy), by omega, by omega⟩
  · rintro ⟨h1, h2, h3⟩
    refine ⟨fun y hy => ?_, by omega, by omega⟩
    rcases hy with rfl | hy
    · exact ho
    · exact h1 y hy

section
variable {cols : List Col} {row : List Val} {op : Int} {a b x : Ex}
theorem kind2 : kindF cols (mk2 op a b) = if (kindF cols a).2 ≠ 0 then (0, (kindF cols a).2) else if (kindF cols b).2 ≠ 0 then (0, (kindF cols b).2) else kindN cols op ⟨#[]⟩ nullV [(kindF cols a).1, (kindF cols b).1] := by
  rw [kindF_eq]
  simp only [mk2, Ex.kids, Ex.op, Ex.name, Ex.v, runL]
  by_cases h1 : (kindF cols a).2 = 0
  · by_cases h2 : (kindF cols b).2 = 0
    · simp [h1, h2]
    · simp [h1, h2]
  · simp [h1]
theorem kind1 : kindF cols (mk1 op a) = if (kindF cols a).2 ≠ 0 then (0, (kindF cols a).2) else kindN cols op ⟨#[]⟩ nullV [(kindF cols a).1] := by
  rw [kindF_eq]
  simp only [mk1, Ex.kids, Ex.op, Ex.name, Ex.v, runL]
  by_cases h1 : (kindF cols a).2 = 0
  · simp [h1]
  · simp [h1]
theorem value2 (h1 : op ≠ 1) (h2 : op ≠ 2) : valueF cols row (mk2 op a b) = if (valueF cols row a).2 ≠ 0 then (nullV, (valueF cols row a).2) else if (valueF cols row b).2 ≠ 0 then (nullV, (valueF cols row b).2) else pairF op (valueF cols row a).1 (valueF cols row b).1 := by
  rw [valueF_eq]
  simp only [mk2, Ex.kids, Ex.op, Ex.name, Ex.v, runL]
  by_cases h3 : (valueF cols row a).2 = 0
  · by_cases h4 : (valueF cols row b).2 = 0
    · simp [h3, h4, valueN, h1, h2]
    · simp [h3, h4]
  · simp [h3]
theorem value1 (h1 : op ≠ 1) (h2 : op ≠ 2) : valueF cols row (mk1 op a) = if (valueF cols row a).2 ≠ 0 then (nullV, (valueF cols row a).2) else singleF op (valueF cols row a).1 := by
  rw [valueF_eq]
  simp only [mk1, Ex.kids, Ex.op, Ex.name, Ex.v, runL]
  by_cases h3 : (valueF cols row a).2 = 0
  · simp [h3, valueN, h1, h2]
  · simp [h3]

/-- An expression has a value over a row just if all is well; else it has an error, and no value. -/
def Well (cols : List Col) (row : List Val) (x : Ex) : Prop := rightC cols = true ∧ formedB x = true ∧ (kindF cols x).2 = 0 ∧ fitsL cols row = true ∧ (valueF cols row x).2 = 0
def FitX (x : Ex) : Prop := ∀ y ∈ nodesT x, fitI y.v.n
def FitR (row : List Val) : Prop := ∀ u ∈ row, fitI u.n
theorem evalF_cases (hr : FitR row) (hx : FitX x) : ((evalF cols row x).2 = 0 ∧ Well cols row x ∧ (evalF cols row x).1 = (valueF cols row x).1 ∧ GoodV (kindF cols x).1 (valueF cols row x).1) ∨ ((evalF cols row x).2 ≠ 0 ∧ (evalF cols row x).1 = nullV ∧ ¬ Well cols row x) := by
  unfold evalF typeF Well
  by_cases h1 : rightC cols = true
  · by_cases h2 : formedB x = true
    · by_cases h3 : (kindF cols x).2 = 0
      · have hf : fitsC cols row = fitsL cols row := by unfold fitsC; rw [h1]; rfl
        by_cases h4 : fitsL cols row = true
        · have hfp : FormedP x := of_decide_eq_true h2
          have ht := typed (x := x) h4 hr _ (Nat.le_refl _) (fun y hy => ⟨hfp.1 y hy, hx y hy⟩) h3
          rcases ht with ht | ht
          · left; simp [h1, h2, h3, h4, hf, ht.1, ht.2]
          · right
            have hne : (valueF cols row x).2 ≠ 0 := by omega
            simp [h1, h2, h3, h4, hf, hne, ht.2]
        · right; simp [h1, h2, h3, h4, hf]
      · right; simp [h1, h2, h3]
    · right; simp [h1, h2]
  · right; simp [h1]
theorem evalF_form (h : rightC cols = true) : (evalF cols row x).2 = 122 ∨ formedB x = true := by
  by_cases h2 : formedB x = true
  · exact .inr h2
  · left; simp [evalF, typeF, h, h2]
end

theorem alikeB_symm (g h : Int) : alikeB g h = alikeB h g := by
  unfold alikeB
  by_cases h1 : g = h
  · subst h1; rfl
  · have : ¬ h = g := fun e => h1 e.symm
    simp [h1, this, Bool.or_comm]
section
variable {cols : List Col} {row : List Val} {op : Int} {a b x : Ex} {name : ByteArray} {v : Val} {g h : Int}
theorem kindN_cmp (ho : op = 9 ∨ op = 10 ∨ op = 11) : kindN cols op name v [g, h] = if alikeB g h = false then (0, 121) else (2, 0) := by
  have hw : wantOf op = 0 := by unfold wantOf; rw [if_neg (by omega), if_neg (by omega), if_neg (by omega)]
  have hk : kindOf op = 2 := by unfold kindOf; rw [if_neg (by omega), if_pos (by omega)]
  unfold kindN
  rw [hw, hk, if_neg (by simp), if_neg (by omega), if_neg (by omega)]
  simp [ho]
theorem kindN_two (ho : (3 ≤ op ∧ op ≤ 7) ∨ op = 12 ∨ op = 13) : (kindN cols op name v [g, h]).2 = 0 ↔ alikeB g (wantOf op) = true ∧ alikeB h (wantOf op) = true := by
  have hw : wantOf op ≠ 0 := by
    unfold wantOf
    rcases ho with ho | ho
    · rw [if_pos (by omega)]; decide
    · rw [if_neg (by omega), if_pos (by omega)]; decide
  unfold kindN
  by_cases hc : alikeB g (wantOf op) = true ∧ alikeB h (wantOf op) = true
  · rw [if_neg (by simp [hc.1, hc.2]), if_neg (by omega), if_neg (by omega), if_neg (by omega)]
    simp [hc]
  · rw [if_pos ⟨hw, fun hn => hc ⟨hn g (by simp), hn h (by simp)⟩⟩]
    simp only [hc, iff_false]; decide
theorem kindN_one (ho : op = 14) : (kindN cols op name v [g]).2 = 0 ↔ alikeB g 2 = true := by
  subst ho
  unfold kindN
  have hw : wantOf 14 = 2 := rfl
  rw [hw]
  by_cases hc : alikeB g 2 = true
  · rw [if_neg (by simp [hc]), if_neg (by omega), if_neg (by omega), if_neg (by omega)]
    simp [hc]
  · rw [if_pos ⟨by decide, fun hn => hc (hn g (by simp))⟩]
    simp only [hc, iff_false]; decide
theorem kindN_one_kind (ho : op = 14) (h : alikeB g 2 = true) : (kindN cols op name v [g]).1 = 2 := by
  subst ho
  unfold kindN
  have hw : wantOf 14 = 2 := rfl
  rw [hw, if_neg (by simp [h]), if_neg (by omega), if_neg (by omega), if_neg (by omega)]
  rfl
theorem kindN_two_kind (ho : op = 12 ∨ op = 13) (h1 : alikeB g 2 = true) (h2 : alikeB h 2 = true) : (kindN cols op name v [g, h]).1 = 2 := by
  have hw : wantOf op = 2 := by unfold wantOf; rw [if_neg (by omega), if_pos (by omega)]
  unfold kindN
  rw [hw, if_neg (by simp [h1, h2]), if_neg (by omega), if_neg (by omega), if_neg (by omega)]
  show kindOf op = 2
  unfold kindOf; rw [if_neg (by omega), if_pos (by omega)]
theorem many2 (ho : (3 ≤ op ∧ op ≤ 7) ∨ (9 ≤ op ∧ op ≤ 13)) : manyOf op = 2 := by unfold manyOf; rw [if_neg (by omega), if_neg (by omega), if_pos (by omega)]
theorem many1 (ho : op = 14) : manyOf op = 1 := by unfold manyOf; rw [if_neg (by omega), if_pos (by omega)]

theorem FitX.mk2 (ha : FitX a) (hb : FitX b) : FitX (mk2 op a b) := by
  intro y hy
  unfold Go.Vc.mk2 at hy
  rw [nodesT, nodesTs, nodesTs, nodesTs] at hy
  simp only [List.mem_cons, List.mem_append, List.not_mem_nil, or_false] at hy
  rcases hy with rfl | hy | hy
  · show fitI 0; unfold fitI; decide
  · exact ha y hy
  · exact hb y hy
theorem FitX.mk1 (ha : FitX a) : FitX (mk1 op a) := by
  intro y hy
  unfold Go.Vc.mk1 at hy
  rw [nodesT, nodesTs, nodesTs] at hy
  simp only [List.mem_cons, List.mem_append, List.not_mem_nil, or_false] at hy
  rcases hy with rfl | hy
  · show fitI 0; unfold fitI; decide
  · exact ha y hy

/-- Both sides are well. -/
def Sides (cols : List Col) (row : List Val) (a b : Ex) : Prop := rightC cols = true ∧ F2 a b ∧ (kindF cols a).2 = 0 ∧ (kindF cols b).2 = 0 ∧ fitsL cols row = true ∧ (valueF cols row a).2 = 0 ∧ (valueF cols row b).2 = 0
theorem Sides.symm (h : Sides cols row a b) : Sides cols row b a := ⟨h.1, h.2.1.symm, h.2.2.2.1, h.2.2.1, h.2.2.2.2.1, h.2.2.2.2.2.2, h.2.2.2.2.2.1⟩
theorem pair_fine (ho : 9 ≤ op ∧ op ≤ 13) (u v : Val) : (pairF op u v).2 = 0 := by
  unfold pairF
  split
  · rfl
  · split
    · rfl
    · split
      · rfl
      · split
        · rfl
        · split
          · rfl
          · split
            · rfl
            · exfalso; omega
theorem well2 (ho : (3 ≤ op ∧ op ≤ 7) ∨ (9 ≤ op ∧ op ≤ 13)) : Well cols row (mk2 op a b) ↔ Sides cols row a b ∧ (kindN cols op ⟨#[]⟩ nullV [(kindF cols a).1, (kindF cols b).1]).2 = 0 ∧ (pairF op (valueF cols row a).1 (valueF cols row b).1).2 = 0 := by
  unfold Well Sides
  rw [formed2 (many2 ho), kind2, value2 (by omega) (by omega)]
  by_cases h1 : (kindF cols a).2 = 0
  · by_cases h2 : (kindF cols b).2 = 0
    · by_cases h3 : (valueF cols row a).2 = 0
      · by_cases h4 : (valueF cols row b).2 = 0
        · simp only [h1, h2, h3, h4, ne_eq, not_true_eq_false, if_false, true_and, and_true]
          constructor
          · rintro ⟨a, b, c, d, e⟩; exact ⟨⟨a, b, d⟩, c, e⟩
          · rintro ⟨⟨a, b, d⟩, c, e⟩; exact ⟨a, b, c, d, e⟩
        · simp [h3, h4]
      · simp [h3]
    · simp [h1, h2]
  · simp [h1]
theorem value_two (ho : (3 ≤ op ∧ op ≤ 7) ∨ (9 ≤ op ∧ op ≤ 13)) (hs : Sides cols row a b) : valueF cols row (mk2 op a b) = pairF op (valueF cols row a).1 (valueF cols row b).1 := by
  rw [value2 (by omega) (by omega), if_neg (by simp [hs.2.2.2.2.2.1]), if_neg (by simp [hs.2.2.2.2.2.2])]
theorem well1 : Well cols row (mk1 14 a) ↔ (rightC cols = true ∧ F1 a ∧ (kindF cols a).2 = 0 ∧ fitsL cols row = true ∧ (valueF cols row a).2 = 0) ∧ alikeB (kindF cols a).1 2 = true := by
  unfold Well
  rw [formed1 (many1 rfl), kind1, value1 (by decide) (by decide)]
  by_cases h1 : (kindF cols a).2 = 0
  · have hk := kindN_one (cols := cols) (name := ⟨#[]⟩) (v := nullV) (g := (kindF cols a).1) (op := 14) rfl
    have hs : ∀ u, (singleF 14 u).2 = 0 := by
      intro u; unfold singleF
      rw [if_neg (by decide)]
      split
      · rfl
      · rw [if_pos rfl]
    by_cases h3 : (valueF cols row a).2 = 0
    · simp only [h1, h3, hs, hk, ne_eq, not_true_eq_false, if_false, true_and, and_true]
      constructor
      · rintro ⟨a, b, c, d⟩; exact ⟨⟨a, b, d⟩, c⟩
      · rintro ⟨⟨a, b, d⟩, c⟩; exact ⟨a, b, c, d⟩
    · simp [h3]
  · simp [h1]
theorem value_one (h : (valueF cols row a).2 = 0) : valueF cols row (mk1 14 a) = singleF 14 (valueF cols row a).1 := by
  rw [value1 (by decide) (by decide), if_neg (by simp [h])]
theorem kindN_cmp_ok (ho : op = 9 ∨ op = 10 ∨ op = 11) : (kindN cols op name v [g, h]).2 = 0 ↔ alikeB g h = true := by
  rw [kindN_cmp ho]
  by_cases hc : alikeB g h = true
  · simp [hc]
  · simp [hc]
theorem well_cmp (ho : op = 9 ∨ op = 10 ∨ op = 11) : Well cols row (mk2 op a b) ↔ Sides cols row a b ∧ alikeB (kindF cols a).1 (kindF cols b).1 = true := by
  rw [well2 (.inr (by omega)), kindN_cmp_ok ho]
  simp [pair_fine (op := op) (by omega)]
theorem well_log (ho : op = 12 ∨ op = 13) : Well cols row (mk2 op a b) ↔ Sides cols row a b ∧ alikeB (kindF cols a).1 2 = true ∧ alikeB (kindF cols b).1 2 = true := by
  have hw : wantOf op = 2 := by unfold wantOf; rw [if_neg (by omega), if_pos (by omega)]
  rw [well2 (.inr (by omega)), kindN_two (.inr ho), hw]
  simp [pair_fine (op := op) (by omega)]
end

/-! ### The laws -/
section
variable {cols : List Col} {row : List Val} {a b x : Ex}
/-- Of two values just one of less, equal, and turned round less is true. -/
theorem orders_law (hr : FitR row) (ha : FitX a) (hb : FitX b) :
    ((evalF cols row (mk2 10 a b)).2 ≠ 0 ∧ (evalF cols row (mk2 9 a b)).2 ≠ 0 ∧ (evalF cols row (mk2 10 b a)).2 ≠ 0) ∨
    ((evalF cols row (mk2 10 a b)).2 = 0 ∧ (evalF cols row (mk2 9 a b)).2 = 0 ∧ (evalF cols row (mk2 10 b a)).2 = 0 ∧
      (((evalF cols row (mk2 10 a b)).1.k = 0 ∧ (evalF cols row (mk2 9 a b)).1.k = 0 ∧ (evalF cols row (mk2 10 b a)).1.k = 0) ∨
       ((evalF cols row (mk2 10 a b)).1.k ≠ 0 ∧ (evalF cols row (mk2 10 a b)).1.n + (evalF cols row (mk2 9 a b)).1.n + (evalF cols row (mk2 10 b a)).1.n = 1 ∧
        0 ≤ (evalF cols row (mk2 10 a b)).1.n ∧ 0 ≤ (evalF cols row (mk2 9 a b)).1.n ∧ 0 ≤ (evalF cols row (mk2 10 b a)).1.n))) := by
  have c1 := evalF_cases (cols := cols) hr (ha.mk2 (op := 10) hb)
  have c2 := evalF_cases (cols := cols) hr (ha.mk2 (op := 9) hb)
  have c3 := evalF_cases (cols := cols) hr (hb.mk2 (op := 10) ha)
  rw [well_cmp (by decide)] at c1 c2 c3
  rw [alikeB_symm (kindF cols b).1] at c3
  by_cases hs : Sides cols row a b ∧ alikeB (kindF cols a).1 (kindF cols b).1 = true
  · have hs' : Sides cols row b a ∧ alikeB (kindF cols a).1 (kindF cols b).1 = true := ⟨hs.1.symm, hs.2⟩
    simp only [hs, hs', not_true_eq_false, and_false, or_false, true_and] at c1 c2 c3
    rw [value_two (.inr (by omega)) hs.1] at c1 c2
    rw [value_two (.inr (by omega)) hs'.1] at c3
    rw [c1.2.1, c2.2.1, c3.2.1]
    refine .inr ⟨c1.1, c2.1, c3.1, ?_⟩
    generalize (valueF cols row a).1 = u
    generalize (valueF cols row b).1 = v
    simp only [pairF]
    by_cases hz : u.k = 0 ∨ v.k = 0
    · have hz' : v.k = 0 ∨ u.k = 0 := hz.symm
      simp [hz, hz', nullV]
    · have hz' : ¬ (v.k = 0 ∨ u.k = 0) := fun h => hz h.symm
      simp only [hz, hz', if_false]
      have han := cmpV_cmp.anti u v
      have hrg := cmpV_range u v
      simp only [truthV, han]
      right
      rcases hrg with h | h | h <;> rw [h] <;> simp
  · have hs' : ¬ (Sides cols row b a ∧ alikeB (kindF cols a).1 (kindF cols b).1 = true) := fun h => hs ⟨h.1.symm, h.2⟩
    simp only [hs, hs', false_and, and_false, false_or, not_false_eq_true, and_true] at c1 c2 c3
    exact .inl ⟨c1.1, c2.1, c3.1⟩

theorem andI_comm (i j : Int) : andI i j = andI j i := by unfold andI; simp only [or_comm]
theorem orJ_comm (i j : Int) : orJ i j = orJ j i := by unfold orJ; simp only [or_comm]
theorem pair_comm {op : Int} (ho : op = 3 ∨ op = 5 ∨ op = 9 ∨ op = 12 ∨ op = 13) (u v : Val) : pairF op u v = pairF op v u := by
  unfold pairF
  have hz : (u.k = 0 ∨ v.k = 0) ↔ (v.k = 0 ∨ u.k = 0) := or_comm
  have har : op = 3 ∨ op = 5 → arithF op u.n v.n = arithF op v.n u.n := by
    intro h
    rcases h with rfl | rfl
    · simp [arithF, Int.add_comm]
    · simp [arithF, Int.mul_comm]
  have hce : cmpV u v = 0 ↔ cmpV v u = 0 := by rw [cmpV_cmp.anti u v]; omega
  simp only [andI_comm (thirdI v), orJ_comm (thirdI v), hz, hce]
  rcases ho with rfl | rfl | rfl | rfl | rfl
  · simp [har]
  · simp [har]
  · simp
  · simp
  · simp
theorem kindN_comm {op g h : Int} {name : ByteArray} {v : Val} (ho : op = 3 ∨ op = 5 ∨ op = 9 ∨ op = 12 ∨ op = 13) : (kindN cols op name v [g, h]) = (kindN cols op name v [h, g]) := by
  have e1 : (∀ y ∈ [g, h], alikeB y (wantOf op) = true) ↔ (∀ y ∈ [h, g], alikeB y (wantOf op) = true) := by simp [and_comm]
  have e2 : alikeB ([g, h].getD 0 0) ([g, h].getD 1 0) = alikeB ([h, g].getD 0 0) ([h, g].getD 1 0) := alikeB_symm g h
  unfold kindN
  simp only [e1, e2]
/-- Where neither side has an error, turned round they are the same. -/
theorem swaps_law {op : Int} (ho : op = 3 ∨ op = 5 ∨ op = 9 ∨ op = 12 ∨ op = 13) (ha : (evalF cols row a).2 = 0) (hb : (evalF cols row b).2 = 0) (hr : FitR row) (fa : FitX a) (fb : FitX b) :
    evalF cols row (mk2 op a b) = evalF cols row (mk2 op b a) := by
  rcases evalF_cases (cols := cols) hr fa with h | h
  · rcases evalF_cases (cols := cols) hr fb with k | k
    · obtain ⟨_, ⟨h1, h2, h3, h4, h5⟩, _⟩ := h
      obtain ⟨_, ⟨k1, k2, k3, k4, k5⟩, _⟩ := k
      have hm : manyOf op = 2 := many2 (by omega)
      have hf : formedB (mk2 op a b) = formedB (mk2 op b a) := by
        rw [Bool.eq_iff_iff, formed2 hm, formed2 hm]
        exact ⟨F2.symm, F2.symm⟩
      unfold evalF typeF
      rw [hf, kind2, kind2, value2 (by omega) (by omega), value2 (by omega) (by omega)]
      simp only [h3, k3, h5, k5, ne_eq, not_true_eq_false, if_false]
      rw [kindN_comm (g := (kindF cols a).1) ho, pair_comm ho (valueF cols row a).1]
    · exact absurd hb k.1
  · exact absurd ha h.1

theorem answer_and_or {u v : Val} (hu : GoodV 2 u) (hv : GoodV 2 v) : (singleF 14 (pairF 12 u v).1).1 = (pairF 13 (singleF 14 u).1 (singleF 14 v).1).1 := by
  obtain ⟨uk, un, us⟩ := u
  obtain ⟨vk, vn, vs⟩ := v
  obtain ⟨hu1, _, hu2⟩ := hu
  obtain ⟨hv1, _, hv2⟩ := hv
  simp only [Val.Ok] at hu1 hv1 hu2 hv2
  have key : ∀ {k n : Int} {s : ByteArray}, ((k = 0 ∧ n = 0 ∧ s = ⟨#[]⟩) ∨ (k = 1 ∧ s = ⟨#[]⟩) ∨ (k = 2 ∧ (n = 0 ∨ n = 1) ∧ s = ⟨#[]⟩) ∨ (k = 3 ∧ n = 0 ∧ s.size ≤ 1024)) → (k = 0 ∨ k = 2) → (⟨k, n, s⟩ : Val) = nullV ∨ (⟨k, n, s⟩ : Val) = truthV false ∨ (⟨k, n, s⟩ : Val) = truthV true := by
    intro k n s h1 h2
    rcases h1 with ⟨rfl, rfl, rfl⟩ | ⟨h, _⟩ | ⟨rfl, rfl | rfl, rfl⟩ | ⟨h, _⟩
    · exact .inl rfl
    · omega
    · exact .inr (.inl rfl)
    · exact .inr (.inr rfl)
    · omega
  have A := key hu1 hu2
  have B := key hv1 hv2
  generalize (⟨uk, un, us⟩ : Val) = u at A
  generalize (⟨vk, vn, vs⟩ : Val) = v at B
  rcases A with rfl | rfl | rfl <;> rcases B with rfl | rfl | rfl <;> decide +kernel
theorem good_two {g : Int} {v : Val} (h : GoodV g v) (hg : alikeB g 2 = true) : GoodV 2 v := by
  obtain ⟨h1, h2, h3⟩ := h
  refine ⟨h1, h2, ?_⟩
  unfold alikeB at hg
  simp only [Bool.or_eq_true, decide_eq_true_eq] at hg
  omega
theorem good_of {cols : List Col} {row : List Val} {x : Ex} (hr : FitR row) (hx : FitX x) (hf : ∀ y ∈ nodesT x, NodeOk y) (h2 : (kindF cols x).2 = 0) (h3 : fitsL cols row = true) (h4 : (valueF cols row x).2 = 0) : GoodV (kindF cols x).1 (valueF cols row x).1 := by
  rcases typed (x := x) h3 hr _ (Nat.le_refl _) (fun y hy => ⟨hf y hy, hx y hy⟩) h2 with h | h
  · exact h.2
  · exfalso; omega
theorem and_right {cols : List Col} {row : List Val} {a b : Ex} (hs : Sides cols row a b) (ho : alikeB (kindF cols a).1 2 = true ∧ alikeB (kindF cols b).1 2 = true) {op : Int} (hop : op = 12 ∨ op = 13) : kindF cols (mk2 op a b) = (2, 0) := by
  rw [kind2, if_neg (by simp [hs.2.2.1]), if_neg (by simp [hs.2.2.2.1])]
  have h1 := kindN_two_kind (cols := cols) (name := ⟨#[]⟩) (v := nullV) hop ho.1 ho.2
  have hw : wantOf op = 2 := by unfold wantOf; rw [if_neg (by omega), if_pos (by omega)]
  have h2 := (kindN_two (cols := cols) (op := op) (name := ⟨#[]⟩) (v := nullV) (g := (kindF cols a).1) (h := (kindF cols b).1) (.inr hop)).2 (by rw [hw]; exact ho)
  rw [← h1, ← h2]
theorem not_right {cols : List Col} {a : Ex} (ha : (kindF cols a).2 = 0) (ho : alikeB (kindF cols a).1 2 = true) : kindF cols (mk1 14 a) = (2, 0) := by
  rw [kind1, if_neg (by simp [ha])]
  rw [← kindN_one_kind (cols := cols) (op := 14) (name := ⟨#[]⟩) (v := nullV) rfl ho, ← (kindN_one (cols := cols) (op := 14) (name := ⟨#[]⟩) (v := nullV) (g := (kindF cols a).1) rfl).2 ho]
/-- Not of a and b is not a or not b. -/
theorem turns_and (hr : FitR row) (ha : FitX a) (hb : FitX b)
    (h1 : (evalF cols row (mk1 14 (mk2 12 a b))).2 ≠ 122) (h2 : (evalF cols row (mk2 13 (mk1 14 a) (mk1 14 b))).2 ≠ 122) :
    (evalF cols row (mk1 14 (mk2 12 a b))).1 = (evalF cols row (mk2 13 (mk1 14 a) (mk1 14 b))).1 ∧
    ((evalF cols row (mk1 14 (mk2 12 a b))).2 = 0 ↔ (evalF cols row (mk2 13 (mk1 14 a) (mk1 14 b))).2 = 0) := by
  have c1 := evalF_cases (cols := cols) hr ((ha.mk2 (op := 12) hb).mk1 (op := 14))
  have c2 := evalF_cases (cols := cols) hr ((ha.mk1 (op := 14)).mk2 (op := 13) (hb.mk1 (op := 14)))
  by_cases hright : rightC cols = true
  · have f1 := (evalF_form (row := row) (x := mk1 14 (mk2 12 a b)) hright).resolve_left h1
    have f2 := (evalF_form (row := row) (x := mk2 13 (mk1 14 a) (mk1 14 b)) hright).resolve_left h2
    rw [formed1 (by decide)] at f1
    rw [formed2 (by decide)] at f2
    have f3 : F2 a b := by
      obtain ⟨g1, g2, g3, g4, g5⟩ := f2
      have e1 : nodesT (mk1 14 a) = mk1 14 a :: (nodesT a ++ []) := by unfold mk1; rw [nodesT, nodesTs, nodesTs]
      have e2 : nodesT (mk1 14 b) = mk1 14 b :: (nodesT b ++ []) := by unfold mk1; rw [nodesT, nodesTs, nodesTs]
      have d1 : depthT (mk1 14 a) = 1 + max (depthT a) 0 := by unfold mk1; rw [depthT, depthTs, depthTs]
      have d2 : depthT (mk1 14 b) = 1 + max (depthT b) 0 := by unfold mk1; rw [depthT, depthTs, depthTs]
      rw [e1] at g1 g5
      rw [e2] at g2 g5
      simp only [List.mem_cons, List.append_nil, List.length_cons] at g1 g2 g5
      exact ⟨fun y hy => g1 y (.inr hy), fun y hy => g2 y (.inr hy), by omega, by omega, by omega⟩
    have hF1 : F1 a ∧ F1 b := by
      obtain ⟨g1, g2, g3, g4, g5⟩ := f3
      exact ⟨⟨g1, g3, by omega⟩, g2, g4, by omega⟩
    by_cases hs : Sides cols row a b ∧ alikeB (kindF cols a).1 2 = true ∧ alikeB (kindF cols b).1 2 = true
    · obtain ⟨hs1, hs2⟩ := hs
      have ka := and_right hs1 hs2 (op := 12) (.inl rfl)
      have va := value_two (op := 12) (.inr (by decide)) hs1
      have wa : (valueF cols row (mk2 12 a b)).2 = 0 := by rw [va]; exact pair_fine (by decide) _ _
      have n1 := not_right hs1.2.2.1 hs2.1
      have n2 := not_right hs1.2.2.2.1 hs2.2
      have sv : ∀ u, (singleF 14 u).2 = 0 := by
        intro u; unfold singleF
        rw [if_neg (by decide)]
        split
        · rfl
        · rw [if_pos rfl]
      have v1 := value_one hs1.2.2.2.2.2.1
      have v2 := value_one hs1.2.2.2.2.2.2
      have hside : Sides cols row (mk1 14 a) (mk1 14 b) := ⟨hs1.1, f2, by rw [n1], by rw [n2], hs1.2.2.2.2.1, by rw [v1]; exact sv _, by rw [v2]; exact sv _⟩
      have w1 : Well cols row (mk1 14 (mk2 12 a b)) := well1.2 ⟨⟨hright, f1, by rw [ka], hs1.2.2.2.2.1, wa⟩, by rw [ka]; decide⟩
      have w2 : Well cols row (mk2 13 (mk1 14 a) (mk1 14 b)) := (well_log (.inr rfl)).2 ⟨hside, by rw [n1]; decide, by rw [n2]; decide⟩
      simp only [w1, w2, not_true_eq_false, and_false, or_false, true_and] at c1 c2
      refine ⟨?_, by rw [c1.1, c2.1]⟩
      rw [c1.2.1, c2.2.1, value_one wa, va, value_two (.inr (by decide)) hside, v1, v2]
      exact answer_and_or (good_two (good_of hr ha f3.1 hs1.2.2.1 hs1.2.2.2.2.1 hs1.2.2.2.2.2.1) hs2.1) (good_two (good_of hr hb f3.2.1 hs1.2.2.2.1 hs1.2.2.2.2.1 hs1.2.2.2.2.2.2) hs2.2)
    · have w1 : ¬ Well cols row (mk1 14 (mk2 12 a b)) := by
        intro w
        obtain ⟨⟨_, _, k, ft, v⟩, _⟩ := well1.1 w
        apply hs
        have hf : formedB (mk2 12 a b) = true := (formed2 (by decide)).2 f3
        exact (well_log (.inl rfl)).1 ⟨hright, hf, k, ft, v⟩
      have w2 : ¬ Well cols row (mk2 13 (mk1 14 a) (mk1 14 b)) := by
        intro w
        obtain ⟨⟨_, _, k1, k2, ft, v1, v2⟩, _⟩ := (well_log (.inr rfl)).1 w
        apply hs
        obtain ⟨⟨_, _, p1, _, p2⟩, p3⟩ := well1.1 (⟨hright, (formed1 (by decide)).2 hF1.1, k1, ft, v1⟩ : Well cols row (mk1 14 a))
        obtain ⟨⟨_, _, q1, _, q2⟩, q3⟩ := well1.1 (⟨hright, (formed1 (by decide)).2 hF1.2, k2, ft, v2⟩ : Well cols row (mk1 14 b))
        exact ⟨⟨hright, f3, p1, q1, ft, p2, q2⟩, p3, q3⟩
      simp only [w1, w2, false_and, and_false, false_or, not_false_eq_true, and_true] at c1 c2
      exact ⟨by rw [c1.2, c2.2], by simp [c1.1, c2.1]⟩
  · have w1 : ¬ Well cols row (mk1 14 (mk2 12 a b)) := fun w => hright w.1
    have w2 : ¬ Well cols row (mk2 13 (mk1 14 a) (mk1 14 b)) := fun w => hright w.1
    simp only [w1, w2, false_and, and_false, false_or, not_false_eq_true, and_true] at c1 c2
    exact ⟨by rw [c1.2, c2.2], by simp [c1.1, c2.1]⟩
/-- a less than b is not b at most a. -/
theorem turns_less (hr : FitR row) (ha : FitX a) (hb : FitX b) :
    ((evalF cols row (mk2 10 a b)).2 = 0 ∧ (evalF cols row (mk1 14 (mk2 11 b a))).2 = 0 ∧ (evalF cols row (mk2 10 a b)).1 = (evalF cols row (mk1 14 (mk2 11 b a))).1) ∨
    ((evalF cols row (mk2 10 a b)).2 ≠ 0 ∧ (evalF cols row (mk1 14 (mk2 11 b a))).2 ≠ 0) ∨ (evalF cols row (mk2 10 a b)).2 = 122 ∨ (evalF cols row (mk1 14 (mk2 11 b a))).2 = 122 := by
  have c1 := evalF_cases (cols := cols) hr (ha.mk2 (op := 10) hb)
  have c2 := evalF_cases (cols := cols) hr ((hb.mk2 (op := 11) ha).mk1 (op := 14))
  by_cases hright : rightC cols = true
  · rcases evalF_form (row := row) (x := mk2 10 a b) hright with h | f1
    · exact .inr (.inr (.inl h))
    rcases evalF_form (row := row) (x := mk1 14 (mk2 11 b a)) hright with h | f2
    · exact .inr (.inr (.inr h))
    rw [formed2 (by decide)] at f1
    rw [formed1 (by decide)] at f2
    by_cases hs : Sides cols row a b ∧ alikeB (kindF cols a).1 (kindF cols b).1 = true
    · have hs' : Sides cols row b a ∧ alikeB (kindF cols b).1 (kindF cols a).1 = true := ⟨hs.1.symm, by rw [alikeB_symm]; exact hs.2⟩
      have w1 : Well cols row (mk2 10 a b) := (well_cmp (by decide)).2 hs
      have w3 : Well cols row (mk2 11 b a) := (well_cmp (by decide)).2 hs'
      have k3 : kindF cols (mk2 11 b a) = (2, 0) := by
        rw [kind2, if_neg (by simp [hs'.1.2.2.1]), if_neg (by simp [hs'.1.2.2.2.1]), kindN_cmp (by decide), if_neg (by simp [hs'.2])]
      have w2 : Well cols row (mk1 14 (mk2 11 b a)) := well1.2 ⟨⟨hright, f2, w3.2.2.1, w3.2.2.2.1, w3.2.2.2.2⟩, by rw [k3]; decide⟩
      simp only [w1, w2, not_true_eq_false, and_false, or_false, true_and] at c1 c2
      refine .inl ⟨c1.1, c2.1, ?_⟩
      rw [c1.2.1, c2.2.1, value_one w3.2.2.2.2, value_two (.inr (by decide)) hs.1, value_two (.inr (by decide)) hs'.1]
      generalize (valueF cols row a).1 = u
      generalize (valueF cols row b).1 = v
      have han := cmpV_cmp.anti u v
      simp only [pairF]
      by_cases hz : u.k = 0 ∨ v.k = 0
      · have hz' : v.k = 0 ∨ u.k = 0 := hz.symm
        simp [hz, hz', singleF, nullV]
      · have hz' : ¬ (v.k = 0 ∨ u.k = 0) := fun h => hz h.symm
        simp only [hz, hz', if_false, singleF, truthV, han]
        rcases cmpV_range u v with h | h | h <;> rw [h] <;> simp
    · have w1 : ¬ Well cols row (mk2 10 a b) := fun w => hs ((well_cmp (by decide)).1 w)
      have w2 : ¬ Well cols row (mk1 14 (mk2 11 b a)) := by
        intro w
        obtain ⟨⟨_, _, k, ft, v⟩, _⟩ := well1.1 w
        have := (well_cmp (cols := cols) (row := row) (op := 11) (a := b) (b := a) (by decide)).1 ⟨hright, (formed2 (by decide)).2 f1.symm, k, ft, v⟩
        exact hs ⟨this.1.symm, by rw [alikeB_symm]; exact this.2⟩
      simp only [w1, w2, false_and, and_false, false_or, not_false_eq_true, and_true] at c1 c2
      exact .inr (.inl ⟨c1.1, c2.1⟩)
  · have w1 : ¬ Well cols row (mk2 10 a b) := fun w => hright w.1
    have w2 : ¬ Well cols row (mk1 14 (mk2 11 b a)) := fun w => hright w.1
    simp only [w1, w2, false_and, and_false, false_or, not_false_eq_true, and_true] at c1 c2
    exact .inr (.inl ⟨c1.1, c2.1⟩)
/-- A value is null, or of its expression's kind. -/
theorem kinds_law (hr : FitR row) (hx : FitX x) :
    (((typeF cols x).2 ≠ 0 ∨ fitsC cols row = false) ∧ (evalF cols row x).2 ≠ 0 ∧ (evalF cols row x).1 = nullV ∧ ((typeF cols x).2 = 0 ∨ (evalF cols row x).2 = (typeF cols x).2)) ∨
    ((typeF cols x).2 = 0 ∧ fitsC cols row = true ∧ (((evalF cols row x).2 ≠ 0 ∧ ((evalF cols row x).2 = 100 ∨ (evalF cols row x).2 = 101) ∧ (evalF cols row x).1 = nullV) ∨
      ((evalF cols row x).2 = 0 ∧ ((evalF cols row x).1.k = 0 ∨ (evalF cols row x).1.k = (typeF cols x).1)))) := by
  by_cases h1 : (typeF cols x).2 = 0
  · by_cases h2 : fitsC cols row = true
    · refine .inr ⟨h1, h2, ?_⟩
      have he : evalF cols row x = valueF cols row x := by unfold evalF; rw [if_neg (by simp [h1]), if_neg (by simp [h2])]
      have hr1 : rightC cols = true := by
        unfold fitsC at h2; rw [Bool.and_eq_true] at h2; exact h2.1
      have hr2 : fitsL cols row = true := by
        unfold fitsC at h2; rw [Bool.and_eq_true] at h2; exact h2.2
      unfold typeF at h1
      rw [if_neg (by simp [hr1])] at h1
      split at h1
      · exact absurd h1 (by decide)
      · rename_i hf
        have hf' : formedB x = true := by simpa using hf
        have ht : typeF cols x = kindF cols x := by unfold typeF; rw [if_neg (by simp [hr1]), if_neg hf]
        have hfp : FormedP x := of_decide_eq_true hf'
        rw [he, ht]
        rcases typed (x := x) hr2 hr _ (Nat.le_refl _) (fun y hy => ⟨hfp.1 y hy, hx y hy⟩) h1 with h | h
        · exact .inr ⟨h.1, h.2.2.2⟩
        · exact .inl ⟨by omega, h.1, h.2⟩
    · have he : evalF cols row x = (nullV, 2) := by unfold evalF; rw [if_neg (by simp [h1]), if_pos (by simpa using h2)]
      refine .inl ⟨.inr (by simpa using h2), ?_⟩
      rw [he]
      exact ⟨by decide, rfl, .inl h1⟩
  · have he : evalF cols row x = (nullV, (typeF cols x).2) := by unfold evalF; rw [if_pos h1]
    refine .inl ⟨.inl h1, ?_⟩
    rw [he]
    exact ⟨h1, rfl, .inr rfl⟩
end
end Go.Vc

/- Cells out of the frame, one by one: what the printed steps of a walk use. -/
namespace Go.Vc
open Go Go.RowKit

section
variable {w0 W W' : World} {fs : List (Nat × Obj)} {ms : List Row} {b k : Nat} {t : TypeId} {cs : Array Value} {v : Value}
theorem Hold.get (h : Hold w0 W fs ms) (i : Nat) (hi : fs[i]? = some (b, .cells cs t (0, 0))) (hk : cs[k]? = some v) : W.cell? ⟨b, k, none⟩ = some v := by
  rw [(h.blk i hi).cell]; exact hk
theorem Hold.frz (h : Hold w0 W fs ms) (i : Nat) (hi : fs[i]? = some (b, .cells cs t (0, 0))) : W.frozen? ⟨b, k, none⟩ = false := (h.blk i hi).frozen k
end
end Go.Vc

/- The contracts of the laws of package expr that speak of the program alone. -/
namespace Go.Proofs.YtdephmdfdgclpaaDoor
open Go Go.Vc Go.RowKit
attribute [local irreducible] Calls

theorem lawKinds_ok (x : Ex) {w : World} {p rp : Option Addr} {n c rn rc : Nat} {cols : List Col} {row : List Val} {cs : List Value} (hT : Tab w) (hT2 : Tab2 w) (hc : Cols w p n c cols) (hs : ∀ y ∈ cols, y.name.size ≤ 9223372036854775807) (hr : Vs w rp rn rc row) (hx : ExAt w x cs)
    (hfit : ∀ u ∈ row, fitI u.n) (hxf : ∀ y ∈ nodesT x, fitI y.v.n) :
    Calls Tryd.prog 7 #[.slice p n c, .slice rp rn rc, .agg cs.toArray] w fun e w' => e = .returned (.bool true) ∧ Ext w w' := by
  obtain ⟨xp, xn, xc, hcs, _⟩ := hx.six
  subst hcs
  apply lawKinds_vc
  unfold lawKinds_T
  have H := Hold.start (Ext.rfl (w := w))
  repeat (first
    | (intro _ _ hS; replace H := H.new hS; clear hS)
    | (intro _ hS; replace H := H.step (Drew.ext hS); clear hS)
    | (intro _ hS; (first | replace H := H.put 0 rfl hS | replace H := H.put 1 rfl hS | replace H := H.put 2 rfl hS | replace H := H.put 3 rfl hS | replace H := H.put 4 rfl hS | replace H := H.put 5 rfl hS | replace H := H.put 6 rfl hS | replace H := H.put 7 rfl hS); clear hS; try simp only [setA, List.setIfInBounds_toArray, List.set_cons_zero, List.set_cons_succ, Nat.zero_add, Nat.reduceAdd] at H)
    | (first | refine ⟨⟨_, H.get 0 rfl rfl⟩, ?_⟩ | refine ⟨⟨_, H.get 1 rfl rfl⟩, ?_⟩ | refine ⟨⟨_, H.get 2 rfl rfl⟩, ?_⟩ | refine ⟨⟨_, H.get 3 rfl rfl⟩, ?_⟩ | refine ⟨⟨_, H.get 4 rfl rfl⟩, ?_⟩ | refine ⟨⟨_, H.get 5 rfl rfl⟩, ?_⟩ | refine ⟨⟨_, H.get 6 rfl rfl⟩, ?_⟩ | refine ⟨⟨_, H.get 7 rfl rfl⟩, ?_⟩)
    | (first | refine ⟨H.frz 0 rfl, ?_⟩ | refine ⟨H.frz 1 rfl, ?_⟩ | refine ⟨H.frz 2 rfl, ?_⟩ | refine ⟨H.frz 3 rfl, ?_⟩ | refine ⟨H.frz 4 rfl, ?_⟩ | refine ⟨H.frz 5 rfl, ?_⟩ | refine ⟨H.frz 6 rfl, ?_⟩ | refine ⟨H.frz 7 rfl, ?_⟩)
    | (first | refine ⟨_, H.get 0 rfl rfl, ?_⟩ | refine ⟨_, H.get 1 rfl rfl, ?_⟩ | refine ⟨_, H.get 2 rfl rfl, ?_⟩ | refine ⟨_, H.get 3 rfl rfl, ?_⟩ | refine ⟨_, H.get 4 rfl rfl, ?_⟩ | refine ⟨_, H.get 5 rfl rfl, ?_⟩ | refine ⟨_, H.get 6 rfl rfl, ?_⟩ | refine ⟨_, H.get 7 rfl rfl, ?_⟩)
    | (first | refine ⟨_, _, _, H.get 0 rfl rfl, ?_⟩ | refine ⟨_, _, _, H.get 1 rfl rfl, ?_⟩ | refine ⟨_, _, _, H.get 2 rfl rfl, ?_⟩ | refine ⟨_, _, _, H.get 3 rfl rfl, ?_⟩ | refine ⟨_, _, _, H.get 4 rfl rfl, ?_⟩ | refine ⟨_, _, _, H.get 5 rfl rfl, ?_⟩ | refine ⟨_, _, _, H.get 6 rfl rfl, ?_⟩ | refine ⟨_, _, _, H.get 7 rfl rfl, ?_⟩))
  refine (shown_ok (hT.ext H.ext) (hT2.ext H.ext)).mono ?_
  rintro e W ⟨rfl, eS⟩
  replace H := H.step eS
  refine ⟨_, rfl, ?_⟩
  repeat (first
    | (intro _ _ hS; replace H := H.new hS; clear hS)
    | (intro _ hS; replace H := H.step (Drew.ext hS); clear hS)
    | (intro _ hS; (first | replace H := H.put 0 rfl hS | replace H := H.put 1 rfl hS | replace H := H.put 2 rfl hS | replace H := H.put 3 rfl hS | replace H := H.put 4 rfl hS | replace H := H.put 5 rfl hS | replace H := H.put 6 rfl hS | replace H := H.put 7 rfl hS); clear hS; try simp only [setA, List.setIfInBounds_toArray, List.set_cons_zero, List.set_cons_succ, Nat.zero_add, Nat.reduceAdd] at H)
    | (first | refine ⟨⟨_, H.get 0 rfl rfl⟩, ?_⟩ | refine ⟨⟨_, H.get 1 rfl rfl⟩, ?_⟩ | refine ⟨⟨_, H.get 2 rfl rfl⟩, ?_⟩ | refine ⟨⟨_, H.get 3 rfl rfl⟩, ?_⟩ | refine ⟨⟨_, H.get 4 rfl rfl⟩, ?_⟩ | refine ⟨⟨_, H.get 5 rfl rfl⟩, ?_⟩ | refine ⟨⟨_, H.get 6 rfl rfl⟩, ?_⟩ | refine ⟨⟨_, H.get 7 rfl rfl⟩, ?_⟩)
    | (first | refine ⟨H.frz 0 rfl, ?_⟩ | refine ⟨H.frz 1 rfl, ?_⟩ | refine ⟨H.frz 2 rfl, ?_⟩ | refine ⟨H.frz 3 rfl, ?_⟩ | refine ⟨H.frz 4 rfl, ?_⟩ | refine ⟨H.frz 5 rfl, ?_⟩ | refine ⟨H.frz 6 rfl, ?_⟩ | refine ⟨H.frz 7 rfl, ?_⟩)
    | (first | refine ⟨_, H.get 0 rfl rfl, ?_⟩ | refine ⟨_, H.get 1 rfl rfl, ?_⟩ | refine ⟨_, H.get 2 rfl rfl, ?_⟩ | refine ⟨_, H.get 3 rfl rfl, ?_⟩ | refine ⟨_, H.get 4 rfl rfl, ?_⟩ | refine ⟨_, H.get 5 rfl rfl, ?_⟩ | refine ⟨_, H.get 6 rfl rfl, ?_⟩ | refine ⟨_, H.get 7 rfl rfl, ?_⟩)
    | (first | refine ⟨_, _, _, H.get 0 rfl rfl, ?_⟩ | refine ⟨_, _, _, H.get 1 rfl rfl, ?_⟩ | refine ⟨_, _, _, H.get 2 rfl rfl, ?_⟩ | refine ⟨_, _, _, H.get 3 rfl rfl, ?_⟩ | refine ⟨_, _, _, H.get 4 rfl rfl, ?_⟩ | refine ⟨_, _, _, H.get 5 rfl rfl, ?_⟩ | refine ⟨_, _, _, H.get 6 rfl rfl, ?_⟩ | refine ⟨_, _, _, H.get 7 rfl rfl, ?_⟩))
  refine (xtype_ok x (hT.ext H.ext) (hc.ext H.ext) (hx.ext H.ext)).mono ?_
  rintro e W ⟨rfl, eS⟩
  replace H := H.step eS
  refine ⟨_, _, rfl, ?_⟩
  repeat (first
    | (intro _ _ hS; replace H := H.new hS; clear hS)
    | (intro _ hS; replace H := H.step (Drew.ext hS); clear hS)
    | (intro _ hS; (first | replace H := H.put 0 rfl hS | replace H := H.put 1 rfl hS | replace H := H.put 2 rfl hS | replace H := H.put 3 rfl hS | replace H := H.put 4 rfl hS | replace H := H.put 5 rfl hS | replace H := H.put 6 rfl hS | replace H := H.put 7 rfl hS); clear hS; try simp only [setA, List.setIfInBounds_toArray, List.set_cons_zero, List.set_cons_succ, Nat.zero_add, Nat.reduceAdd] at H)
    | (first | refine ⟨⟨_, H.get 0 rfl rfl⟩, ?_⟩ | refine ⟨⟨_, H.get 1 rfl rfl⟩, ?_⟩ | refine ⟨⟨_, H.get 2 rfl rfl⟩, ?_⟩ | refine ⟨⟨_, H.get 3 rfl rfl⟩, ?_⟩ | refine ⟨⟨_, H.get 4 rfl rfl⟩, ?_⟩ | refine ⟨⟨_, H.get 5 rfl rfl⟩, ?_⟩ | refine ⟨⟨_, H.get 6 rfl rfl⟩, ?_⟩ | refine ⟨⟨_, H.get 7 rfl rfl⟩, ?_⟩)
    | (first | refine ⟨H.frz 0 rfl, ?_⟩ | refine ⟨H.frz 1 rfl, ?_⟩ | refine ⟨H.frz 2 rfl, ?_⟩ | refine ⟨H.frz 3 rfl, ?_⟩ | refine ⟨H.frz 4 rfl, ?_⟩ | refine ⟨H.frz 5 rfl, ?_⟩ | refine ⟨H.frz 6 rfl, ?_⟩ | refine ⟨H.frz 7 rfl, ?_⟩)
    | (first | refine ⟨_, H.get 0 rfl rfl, ?_⟩ | refine ⟨_, H.get 1 rfl rfl, ?_⟩ | refine ⟨_, H.get 2 rfl rfl, ?_⟩ | refine ⟨_, H.get 3 rfl rfl, ?_⟩ | refine ⟨_, H.get 4 rfl rfl, ?_⟩ | refine ⟨_, H.get 5 rfl rfl, ?_⟩ | refine ⟨_, H.get 6 rfl rfl, ?_⟩ | refine ⟨_, H.get 7 rfl rfl, ?_⟩)
    | (first | refine ⟨_, _, _, H.get 0 rfl rfl, ?_⟩ | refine ⟨_, _, _, H.get 1 rfl rfl, ?_⟩ | refine ⟨_, _, _, H.get 2 rfl rfl, ?_⟩ | refine ⟨_, _, _, H.get 3 rfl rfl, ?_⟩ | refine ⟨_, _, _, H.get 4 rfl rfl, ?_⟩ | refine ⟨_, _, _, H.get 5 rfl rfl, ?_⟩ | refine ⟨_, _, _, H.get 6 rfl rfl, ?_⟩ | refine ⟨_, _, _, H.get 7 rfl rfl, ?_⟩))
  refine (xEval_ok x (hT.ext H.ext) (hT2.ext H.ext) (hc.ext H.ext) (hr.ext H.ext) (hx.ext H.ext) hfit hxf).mono ?_
  rintro e W ⟨rfl, eS⟩
  replace H := H.step eS
  refine ⟨_, _, _, _, rfl, ?_⟩
  repeat (first
    | (intro _ _ hS; replace H := H.new hS; clear hS)
    | (intro _ hS; replace H := H.step (Drew.ext hS); clear hS)
    | (intro _ hS; (first | replace H := H.put 0 rfl hS | replace H := H.put 1 rfl hS | replace H := H.put 2 rfl hS | replace H := H.put 3 rfl hS | replace H := H.put 4 rfl hS | replace H := H.put 5 rfl hS | replace H := H.put 6 rfl hS | replace H := H.put 7 rfl hS); clear hS; try simp only [setA, List.setIfInBounds_toArray, List.set_cons_zero, List.set_cons_succ, Nat.zero_add, Nat.reduceAdd] at H)
    | (first | refine ⟨⟨_, H.get 0 rfl rfl⟩, ?_⟩ | refine ⟨⟨_, H.get 1 rfl rfl⟩, ?_⟩ | refine ⟨⟨_, H.get 2 rfl rfl⟩, ?_⟩ | refine ⟨⟨_, H.get 3 rfl rfl⟩, ?_⟩ | refine ⟨⟨_, H.get 4 rfl rfl⟩, ?_⟩ | refine ⟨⟨_, H.get 5 rfl rfl⟩, ?_⟩ | refine ⟨⟨_, H.get 6 rfl rfl⟩, ?_⟩ | refine ⟨⟨_, H.get 7 rfl rfl⟩, ?_⟩)
    | (first | refine ⟨H.frz 0 rfl, ?_⟩ | refine ⟨H.frz 1 rfl, ?_⟩ | refine ⟨H.frz 2 rfl, ?_⟩ | refine ⟨H.frz 3 rfl, ?_⟩ | refine ⟨H.frz 4 rfl, ?_⟩ | refine ⟨H.frz 5 rfl, ?_⟩ | refine ⟨H.frz 6 rfl, ?_⟩ | refine ⟨H.frz 7 rfl, ?_⟩)
    | (first | refine ⟨_, H.get 0 rfl rfl, ?_⟩ | refine ⟨_, H.get 1 rfl rfl, ?_⟩ | refine ⟨_, H.get 2 rfl rfl, ?_⟩ | refine ⟨_, H.get 3 rfl rfl, ?_⟩ | refine ⟨_, H.get 4 rfl rfl, ?_⟩ | refine ⟨_, H.get 5 rfl rfl, ?_⟩ | refine ⟨_, H.get 6 rfl rfl, ?_⟩ | refine ⟨_, H.get 7 rfl rfl, ?_⟩)
    | (first | refine ⟨_, _, _, H.get 0 rfl rfl, ?_⟩ | refine ⟨_, _, _, H.get 1 rfl rfl, ?_⟩ | refine ⟨_, _, _, H.get 2 rfl rfl, ?_⟩ | refine ⟨_, _, _, H.get 3 rfl rfl, ?_⟩ | refine ⟨_, _, _, H.get 4 rfl rfl, ?_⟩ | refine ⟨_, _, _, H.get 5 rfl rfl, ?_⟩ | refine ⟨_, _, _, H.get 6 rfl rfl, ?_⟩ | refine ⟨_, _, _, H.get 7 rfl rfl, ?_⟩))
  refine (r5fits_ok (hc.ext H.ext) hs (hr.ext H.ext)).mono ?_
  rintro e W ⟨rfl, eS⟩
  replace H := H.step eS
  refine ⟨_, rfl, ?_⟩
  repeat (first
    | (intro _ _ hS; replace H := H.new hS; clear hS)
    | (intro _ hS; replace H := H.step (Drew.ext hS); clear hS)
    | (intro _ hS; (first | replace H := H.put 0 rfl hS | replace H := H.put 1 rfl hS | replace H := H.put 2 rfl hS | replace H := H.put 3 rfl hS | replace H := H.put 4 rfl hS | replace H := H.put 5 rfl hS | replace H := H.put 6 rfl hS | replace H := H.put 7 rfl hS); clear hS; try simp only [setA, List.setIfInBounds_toArray, List.set_cons_zero, List.set_cons_succ, Nat.zero_add, Nat.reduceAdd] at H)
    | (first | refine ⟨⟨_, H.get 0 rfl rfl⟩, ?_⟩ | refine ⟨⟨_, H.get 1 rfl rfl⟩, ?_⟩ | refine ⟨⟨_, H.get 2 rfl rfl⟩, ?_⟩ | refine ⟨⟨_, H.get 3 rfl rfl⟩, ?_⟩ | refine ⟨⟨_, H.get 4 rfl rfl⟩, ?_⟩ | refine ⟨⟨_, H.get 5 rfl rfl⟩, ?_⟩ | refine ⟨⟨_, H.get 6 rfl rfl⟩, ?_⟩ | refine ⟨⟨_, H.get 7 rfl rfl⟩, ?_⟩)
    | (first | refine ⟨H.frz 0 rfl, ?_⟩ | refine ⟨H.frz 1 rfl, ?_⟩ | refine ⟨H.frz 2 rfl, ?_⟩ | refine ⟨H.frz 3 rfl, ?_⟩ | refine ⟨H.frz 4 rfl, ?_⟩ | refine ⟨H.frz 5 rfl, ?_⟩ | refine ⟨H.frz 6 rfl, ?_⟩ | refine ⟨H.frz 7 rfl, ?_⟩)
    | (first | refine ⟨_, H.get 0 rfl rfl, ?_⟩ | refine ⟨_, H.get 1 rfl rfl, ?_⟩ | refine ⟨_, H.get 2 rfl rfl, ?_⟩ | refine ⟨_, H.get 3 rfl rfl, ?_⟩ | refine ⟨_, H.get 4 rfl rfl, ?_⟩ | refine ⟨_, H.get 5 rfl rfl, ?_⟩ | refine ⟨_, H.get 6 rfl rfl, ?_⟩ | refine ⟨_, H.get 7 rfl rfl, ?_⟩)
    | (first | refine ⟨_, _, _, H.get 0 rfl rfl, ?_⟩ | refine ⟨_, _, _, H.get 1 rfl rfl, ?_⟩ | refine ⟨_, _, _, H.get 2 rfl rfl, ?_⟩ | refine ⟨_, _, _, H.get 3 rfl rfl, ?_⟩ | refine ⟨_, _, _, H.get 4 rfl rfl, ?_⟩ | refine ⟨_, _, _, H.get 5 rfl rfl, ?_⟩ | refine ⟨_, _, _, H.get 6 rfl rfl, ?_⟩ | refine ⟨_, _, _, H.get 7 rfl rfl, ?_⟩))
  rcases kinds_law (cols := cols) (row := row) (x := x) hfit hxf with ⟨h1, h2, h3, h4⟩ | ⟨h1, h2, h3⟩
  · refine ⟨fun _ => ⟨fun _ => ?_, fun h => ?_⟩, fun h => ?_⟩
    · repeat (first
        | (intro _ _ hS; replace H := H.new hS; clear hS)
        | (intro _ hS; replace H := H.step (Drew.ext hS); clear hS)
        | (intro _ hS; (first | replace H := H.put 0 rfl hS | replace H := H.put 1 rfl hS | replace H := H.put 2 rfl hS | replace H := H.put 3 rfl hS | replace H := H.put 4 rfl hS | replace H := H.put 5 rfl hS | replace H := H.put 6 rfl hS | replace H := H.put 7 rfl hS); clear hS; try simp only [setA, List.setIfInBounds_toArray, List.set_cons_zero, List.set_cons_succ, Nat.zero_add, Nat.reduceAdd] at H)
        | (first | refine ⟨⟨_, H.get 0 rfl rfl⟩, ?_⟩ | refine ⟨⟨_, H.get 1 rfl rfl⟩, ?_⟩ | refine ⟨⟨_, H.get 2 rfl rfl⟩, ?_⟩ | refine ⟨⟨_, H.get 3 rfl rfl⟩, ?_⟩ | refine ⟨⟨_, H.get 4 rfl rfl⟩, ?_⟩ | refine ⟨⟨_, H.get 5 rfl rfl⟩, ?_⟩ | refine ⟨⟨_, H.get 6 rfl rfl⟩, ?_⟩ | refine ⟨⟨_, H.get 7 rfl rfl⟩, ?_⟩)
        | (first | refine ⟨H.frz 0 rfl, ?_⟩ | refine ⟨H.frz 1 rfl, ?_⟩ | refine ⟨H.frz 2 rfl, ?_⟩ | refine ⟨H.frz 3 rfl, ?_⟩ | refine ⟨H.frz 4 rfl, ?_⟩ | refine ⟨H.frz 5 rfl, ?_⟩ | refine ⟨H.frz 6 rfl, ?_⟩ | refine ⟨H.frz 7 rfl, ?_⟩)
        | (first | refine ⟨_, H.get 0 rfl rfl, ?_⟩ | refine ⟨_, H.get 1 rfl rfl, ?_⟩ | refine ⟨_, H.get 2 rfl rfl, ?_⟩ | refine ⟨_, H.get 3 rfl rfl, ?_⟩ | refine ⟨_, H.get 4 rfl rfl, ?_⟩ | refine ⟨_, H.get 5 rfl rfl, ?_⟩ | refine ⟨_, H.get 6 rfl rfl, ?_⟩ | refine ⟨_, H.get 7 rfl rfl, ?_⟩)
        | (first | refine ⟨_, _, _, H.get 0 rfl rfl, ?_⟩ | refine ⟨_, _, _, H.get 1 rfl rfl, ?_⟩ | refine ⟨_, _, _, H.get 2 rfl rfl, ?_⟩ | refine ⟨_, _, _, H.get 3 rfl rfl, ?_⟩ | refine ⟨_, _, _, H.get 4 rfl rfl, ?_⟩ | refine ⟨_, _, _, H.get 5 rfl rfl, ?_⟩ | refine ⟨_, _, _, H.get 6 rfl rfl, ?_⟩ | refine ⟨_, _, _, H.get 7 rfl rfl, ?_⟩))
      rw [h3]
      refine ⟨fun _ => ⟨?_, H.ext⟩, fun h => ?_⟩
      · rcases h4 with h4 | h4 <;> simp [h4]
      · simp [nullV] at h
    · simp [h2] at h
    · exfalso
      rcases h1 with h1 | h1
      · exact h1 h.1
      · simp [h1] at h
  · refine ⟨fun h => ?_, fun _ => ?_⟩
    · exfalso
      rcases h with h | h
      · exact h h1
      · simp [h2] at h
    · rcases h3 with ⟨g1, g2, g3⟩ | ⟨g1, g2⟩
      · refine ⟨fun _ => ⟨fun _ => ⟨fun _ => ?_, fun h => ?_⟩, fun h => by cases h⟩, fun h => absurd h g1⟩
        · repeat (first
            | (intro _ _ hS; replace H := H.new hS; clear hS)
            | (intro _ hS; replace H := H.step (Drew.ext hS); clear hS)
            | (intro _ hS; (first | replace H := H.put 0 rfl hS | replace H := H.put 1 rfl hS | replace H := H.put 2 rfl hS | replace H := H.put 3 rfl hS | replace H := H.put 4 rfl hS | replace H := H.put 5 rfl hS | replace H := H.put 6 rfl hS | replace H := H.put 7 rfl hS); clear hS; try simp only [setA, List.setIfInBounds_toArray, List.set_cons_zero, List.set_cons_succ, Nat.zero_add, Nat.reduceAdd] at H)
            | (first | refine ⟨⟨_, H.get 0 rfl rfl⟩, ?_⟩ | refine ⟨⟨_, H.get 1 rfl rfl⟩, ?_⟩ | refine ⟨⟨_, H.get 2 rfl rfl⟩, ?_⟩ | refine ⟨⟨_, H.get 3 rfl rfl⟩, ?_⟩ | refine ⟨⟨_, H.get 4 rfl rfl⟩, ?_⟩ | refine ⟨⟨_, H.get 5 rfl rfl⟩, ?_⟩ | refine ⟨⟨_, H.get 6 rfl rfl⟩, ?_⟩ | refine ⟨⟨_, H.get 7 rfl rfl⟩, ?_⟩)
            | (first | refine ⟨H.frz 0 rfl, ?_⟩ | refine ⟨H.frz 1 rfl, ?_⟩ | refine ⟨H.frz 2 rfl, ?_⟩ | refine ⟨H.frz 3 rfl, ?_⟩ | refine ⟨H.frz 4 rfl, ?_⟩ | refine ⟨H.frz 5 rfl, ?_⟩ | refine ⟨H.frz 6 rfl, ?_⟩ | refine ⟨H.frz 7 rfl, ?_⟩)
            | (first | refine ⟨_, H.get 0 rfl rfl, ?_⟩ | refine ⟨_, H.get 1 rfl rfl, ?_⟩ | refine ⟨_, H.get 2 rfl rfl, ?_⟩ | refine ⟨_, H.get 3 rfl rfl, ?_⟩ | refine ⟨_, H.get 4 rfl rfl, ?_⟩ | refine ⟨_, H.get 5 rfl rfl, ?_⟩ | refine ⟨_, H.get 6 rfl rfl, ?_⟩ | refine ⟨_, H.get 7 rfl rfl, ?_⟩)
            | (first | refine ⟨_, _, _, H.get 0 rfl rfl, ?_⟩ | refine ⟨_, _, _, H.get 1 rfl rfl, ?_⟩ | refine ⟨_, _, _, H.get 2 rfl rfl, ?_⟩ | refine ⟨_, _, _, H.get 3 rfl rfl, ?_⟩ | refine ⟨_, _, _, H.get 4 rfl rfl, ?_⟩ | refine ⟨_, _, _, H.get 5 rfl rfl, ?_⟩ | refine ⟨_, _, _, H.get 6 rfl rfl, ?_⟩ | refine ⟨_, _, _, H.get 7 rfl rfl, ?_⟩))
          refine ⟨?_, H.ext⟩
          rw [g3]
          simp [nullV, sEq_self]
        · omega
      · refine ⟨fun h => absurd g1 h, fun _ => ⟨fun _ => ?_, fun h => by cases h⟩⟩
        repeat (first
          | (intro _ _ hS; replace H := H.new hS; clear hS)
          | (intro _ hS; replace H := H.step (Drew.ext hS); clear hS)
          | (intro _ hS; (first | replace H := H.put 0 rfl hS | replace H := H.put 1 rfl hS | replace H := H.put 2 rfl hS | replace H := H.put 3 rfl hS | replace H := H.put 4 rfl hS | replace H := H.put 5 rfl hS | replace H := H.put 6 rfl hS | replace H := H.put 7 rfl hS); clear hS; try simp only [setA, List.setIfInBounds_toArray, List.set_cons_zero, List.set_cons_succ, Nat.zero_add, Nat.reduceAdd] at H)
          | (first | refine ⟨⟨_, H.get 0 rfl rfl⟩, ?_⟩ | refine ⟨⟨_, H.get 1 rfl rfl⟩, ?_⟩ | refine ⟨⟨_, H.get 2 rfl rfl⟩, ?_⟩ | refine ⟨⟨_, H.get 3 rfl rfl⟩, ?_⟩ | refine ⟨⟨_, H.get 4 rfl rfl⟩, ?_⟩ | refine ⟨⟨_, H.get 5 rfl rfl⟩, ?_⟩ | refine ⟨⟨_, H.get 6 rfl rfl⟩, ?_⟩ | refine ⟨⟨_, H.get 7 rfl rfl⟩, ?_⟩)
          | (first | refine ⟨H.frz 0 rfl, ?_⟩ | refine ⟨H.frz 1 rfl, ?_⟩ | refine ⟨H.frz 2 rfl, ?_⟩ | refine ⟨H.frz 3 rfl, ?_⟩ | refine ⟨H.frz 4 rfl, ?_⟩ | refine ⟨H.frz 5 rfl, ?_⟩ | refine ⟨H.frz 6 rfl, ?_⟩ | refine ⟨H.frz 7 rfl, ?_⟩)
          | (first | refine ⟨_, H.get 0 rfl rfl, ?_⟩ | refine ⟨_, H.get 1 rfl rfl, ?_⟩ | refine ⟨_, H.get 2 rfl rfl, ?_⟩ | refine ⟨_, H.get 3 rfl rfl, ?_⟩ | refine ⟨_, H.get 4 rfl rfl, ?_⟩ | refine ⟨_, H.get 5 rfl rfl, ?_⟩ | refine ⟨_, H.get 6 rfl rfl, ?_⟩ | refine ⟨_, H.get 7 rfl rfl, ?_⟩)
          | (first | refine ⟨_, _, _, H.get 0 rfl rfl, ?_⟩ | refine ⟨_, _, _, H.get 1 rfl rfl, ?_⟩ | refine ⟨_, _, _, H.get 2 rfl rfl, ?_⟩ | refine ⟨_, _, _, H.get 3 rfl rfl, ?_⟩ | refine ⟨_, _, _, H.get 4 rfl rfl, ?_⟩ | refine ⟨_, _, _, H.get 5 rfl rfl, ?_⟩ | refine ⟨_, _, _, H.get 6 rfl rfl, ?_⟩ | refine ⟨_, _, _, H.get 7 rfl rfl, ?_⟩))
        refine ⟨fun _ => ⟨rfl, H.ext⟩, fun h => ?_⟩
        repeat (first
          | (intro _ _ hS; replace H := H.new hS; clear hS)
          | (intro _ hS; replace H := H.step (Drew.ext hS); clear hS)
          | (intro _ hS; (first | replace H := H.put 0 rfl hS | replace H := H.put 1 rfl hS | replace H := H.put 2 rfl hS | replace H := H.put 3 rfl hS | replace H := H.put 4 rfl hS | replace H := H.put 5 rfl hS | replace H := H.put 6 rfl hS | replace H := H.put 7 rfl hS); clear hS; try simp only [setA, List.setIfInBounds_toArray, List.set_cons_zero, List.set_cons_succ, Nat.zero_add, Nat.reduceAdd] at H)
          | (first | refine ⟨⟨_, H.get 0 rfl rfl⟩, ?_⟩ | refine ⟨⟨_, H.get 1 rfl rfl⟩, ?_⟩ | refine ⟨⟨_, H.get 2 rfl rfl⟩, ?_⟩ | refine ⟨⟨_, H.get 3 rfl rfl⟩, ?_⟩ | refine ⟨⟨_, H.get 4 rfl rfl⟩, ?_⟩ | refine ⟨⟨_, H.get 5 rfl rfl⟩, ?_⟩ | refine ⟨⟨_, H.get 6 rfl rfl⟩, ?_⟩ | refine ⟨⟨_, H.get 7 rfl rfl⟩, ?_⟩)
          | (first | refine ⟨H.frz 0 rfl, ?_⟩ | refine ⟨H.frz 1 rfl, ?_⟩ | refine ⟨H.frz 2 rfl, ?_⟩ | refine ⟨H.frz 3 rfl, ?_⟩ | refine ⟨H.frz 4 rfl, ?_⟩ | refine ⟨H.frz 5 rfl, ?_⟩ | refine ⟨H.frz 6 rfl, ?_⟩ | refine ⟨H.frz 7 rfl, ?_⟩)
          | (first | refine ⟨_, H.get 0 rfl rfl, ?_⟩ | refine ⟨_, H.get 1 rfl rfl, ?_⟩ | refine ⟨_, H.get 2 rfl rfl, ?_⟩ | refine ⟨_, H.get 3 rfl rfl, ?_⟩ | refine ⟨_, H.get 4 rfl rfl, ?_⟩ | refine ⟨_, H.get 5 rfl rfl, ?_⟩ | refine ⟨_, H.get 6 rfl rfl, ?_⟩ | refine ⟨_, H.get 7 rfl rfl, ?_⟩)
          | (first | refine ⟨_, _, _, H.get 0 rfl rfl, ?_⟩ | refine ⟨_, _, _, H.get 1 rfl rfl, ?_⟩ | refine ⟨_, _, _, H.get 2 rfl rfl, ?_⟩ | refine ⟨_, _, _, H.get 3 rfl rfl, ?_⟩ | refine ⟨_, _, _, H.get 4 rfl rfl, ?_⟩ | refine ⟨_, _, _, H.get 5 rfl rfl, ?_⟩ | refine ⟨_, _, _, H.get 6 rfl rfl, ?_⟩ | refine ⟨_, _, _, H.get 7 rfl rfl, ?_⟩))
        refine ⟨?_, H.ext⟩
        rcases g2 with g2 | g2
        · exact absurd g2 h
        · simp [g2]

theorem lawOrders_ok (a b : Ex) {w : World} {p rp : Option Addr} {n c rn rc : Nat} {cols : List Col} {row : List Val} {ca cb : List Value} (hT : Tab w) (hT2 : Tab2 w) (hc : Cols w p n c cols) (hr : Vs w rp rn rc row) (ha : ExAt w a ca) (hb : ExAt w b cb)
    (hfit : FitR row) (fa : FitX a) (fb : FitX b) :
    Calls Tryd.prog 10 #[.slice p n c, .slice rp rn rc, .agg ca.toArray, .agg cb.toArray] w fun e w' => e = .returned (.bool true) ∧ Ext w w' := by
  obtain ⟨pa, na, da, rfl, _⟩ := ha.six
  obtain ⟨pb, nb, db, rfl, _⟩ := hb.six
  apply lawOrders_vc
  unfold lawOrders_T
  have H := Hold.start (Ext.rfl (w := w))
  repeat (first
    | (intro _ _ hS; replace H := H.new hS; clear hS)
    | (intro _ hS; replace H := H.step (Drew.ext hS); clear hS)
    | (intro _ hS; (first | replace H := H.put 0 rfl hS | replace H := H.put 1 rfl hS | replace H := H.put 2 rfl hS | replace H := H.put 3 rfl hS | replace H := H.put 4 rfl hS | replace H := H.put 5 rfl hS | replace H := H.put 6 rfl hS | replace H := H.put 7 rfl hS); clear hS; try simp only [setA, List.setIfInBounds_toArray, List.set_cons_zero, List.set_cons_succ, Nat.zero_add, Nat.reduceAdd] at H)
    | (first | refine ⟨⟨_, H.get 0 rfl rfl⟩, ?_⟩ | refine ⟨⟨_, H.get 1 rfl rfl⟩, ?_⟩ | refine ⟨⟨_, H.get 2 rfl rfl⟩, ?_⟩ | refine ⟨⟨_, H.get 3 rfl rfl⟩, ?_⟩ | refine ⟨⟨_, H.get 4 rfl rfl⟩, ?_⟩ | refine ⟨⟨_, H.get 5 rfl rfl⟩, ?_⟩ | refine ⟨⟨_, H.get 6 rfl rfl⟩, ?_⟩ | refine ⟨⟨_, H.get 7 rfl rfl⟩, ?_⟩)
    | (first | refine ⟨H.frz 0 rfl, ?_⟩ | refine ⟨H.frz 1 rfl, ?_⟩ | refine ⟨H.frz 2 rfl, ?_⟩ | refine ⟨H.frz 3 rfl, ?_⟩ | refine ⟨H.frz 4 rfl, ?_⟩ | refine ⟨H.frz 5 rfl, ?_⟩ | refine ⟨H.frz 6 rfl, ?_⟩ | refine ⟨H.frz 7 rfl, ?_⟩)
    | (first | refine ⟨_, H.get 0 rfl rfl, ?_⟩ | refine ⟨_, H.get 1 rfl rfl, ?_⟩ | refine ⟨_, H.get 2 rfl rfl, ?_⟩ | refine ⟨_, H.get 3 rfl rfl, ?_⟩ | refine ⟨_, H.get 4 rfl rfl, ?_⟩ | refine ⟨_, H.get 5 rfl rfl, ?_⟩ | refine ⟨_, H.get 6 rfl rfl, ?_⟩ | refine ⟨_, H.get 7 rfl rfl, ?_⟩)
    | (first | refine ⟨_, _, _, H.get 0 rfl rfl, ?_⟩ | refine ⟨_, _, _, H.get 1 rfl rfl, ?_⟩ | refine ⟨_, _, _, H.get 2 rfl rfl, ?_⟩ | refine ⟨_, _, _, H.get 3 rfl rfl, ?_⟩ | refine ⟨_, _, _, H.get 4 rfl rfl, ?_⟩ | refine ⟨_, _, _, H.get 5 rfl rfl, ?_⟩ | refine ⟨_, _, _, H.get 6 rfl rfl, ?_⟩ | refine ⟨_, _, _, H.get 7 rfl rfl, ?_⟩))
  refine (shown_ok (hT.ext H.ext) (hT2.ext H.ext)).mono ?_
  rintro e W ⟨rfl, eS⟩
  replace H := H.step eS
  refine ⟨_, rfl, ?_⟩
  repeat (first
    | (intro _ _ hS; replace H := H.new hS; clear hS)
    | (intro _ hS; replace H := H.step (Drew.ext hS); clear hS)
    | (intro _ hS; (first | replace H := H.put 0 rfl hS | replace H := H.put 1 rfl hS | replace H := H.put 2 rfl hS | replace H := H.put 3 rfl hS | replace H := H.put 4 rfl hS | replace H := H.put 5 rfl hS | replace H := H.put 6 rfl hS | replace H := H.put 7 rfl hS); clear hS; try simp only [setA, List.setIfInBounds_toArray, List.set_cons_zero, List.set_cons_succ, Nat.zero_add, Nat.reduceAdd] at H)
    | (first | refine ⟨⟨_, H.get 0 rfl rfl⟩, ?_⟩ | refine ⟨⟨_, H.get 1 rfl rfl⟩, ?_⟩ | refine ⟨⟨_, H.get 2 rfl rfl⟩, ?_⟩ | refine ⟨⟨_, H.get 3 rfl rfl⟩, ?_⟩ | refine ⟨⟨_, H.get 4 rfl rfl⟩, ?_⟩ | refine ⟨⟨_, H.get 5 rfl rfl⟩, ?_⟩ | refine ⟨⟨_, H.get 6 rfl rfl⟩, ?_⟩ | refine ⟨⟨_, H.get 7 rfl rfl⟩, ?_⟩)
    | (first | refine ⟨H.frz 0 rfl, ?_⟩ | refine ⟨H.frz 1 rfl, ?_⟩ | refine ⟨H.frz 2 rfl, ?_⟩ | refine ⟨H.frz 3 rfl, ?_⟩ | refine ⟨H.frz 4 rfl, ?_⟩ | refine ⟨H.frz 5 rfl, ?_⟩ | refine ⟨H.frz 6 rfl, ?_⟩ | refine ⟨H.frz 7 rfl, ?_⟩)
    | (first | refine ⟨_, H.get 0 rfl rfl, ?_⟩ | refine ⟨_, H.get 1 rfl rfl, ?_⟩ | refine ⟨_, H.get 2 rfl rfl, ?_⟩ | refine ⟨_, H.get 3 rfl rfl, ?_⟩ | refine ⟨_, H.get 4 rfl rfl, ?_⟩ | refine ⟨_, H.get 5 rfl rfl, ?_⟩ | refine ⟨_, H.get 6 rfl rfl, ?_⟩ | refine ⟨_, H.get 7 rfl rfl, ?_⟩)
    | (first | refine ⟨_, _, _, H.get 0 rfl rfl, ?_⟩ | refine ⟨_, _, _, H.get 1 rfl rfl, ?_⟩ | refine ⟨_, _, _, H.get 2 rfl rfl, ?_⟩ | refine ⟨_, _, _, H.get 3 rfl rfl, ?_⟩ | refine ⟨_, _, _, H.get 4 rfl rfl, ?_⟩ | refine ⟨_, _, _, H.get 5 rfl rfl, ?_⟩ | refine ⟨_, _, _, H.get 6 rfl rfl, ?_⟩ | refine ⟨_, _, _, H.get 7 rfl rfl, ?_⟩))
  refine (ltwo_ok 10 (ha.ext H.ext) (hb.ext H.ext)).mono ?_
  rintro e W ⟨c2, rfl, x2, eS⟩
  obtain ⟨p2, n2, d2, rfl, _⟩ := x2.six
  replace H := H.step eS
  refine ⟨_, _, _, _, _, _, _, _, rfl, ?_⟩
  refine (xEval_ok (twoE 10 a b) (hT.ext H.ext) (hT2.ext H.ext) (hc.ext H.ext) (hr.ext H.ext) x2 hfit (FitX.mk2 fa fb)).mono ?_
  rintro e W ⟨rfl, eS⟩
  replace H := H.step eS
  refine ⟨_, _, _, _, rfl, ?_⟩
  repeat (first
    | (intro _ _ hS; replace H := H.new hS; clear hS)
    | (intro _ hS; replace H := H.step (Drew.ext hS); clear hS)
    | (intro _ hS; (first | replace H := H.put 0 rfl hS | replace H := H.put 1 rfl hS | replace H := H.put 2 rfl hS | replace H := H.put 3 rfl hS | replace H := H.put 4 rfl hS | replace H := H.put 5 rfl hS | replace H := H.put 6 rfl hS | replace H := H.put 7 rfl hS); clear hS; try simp only [setA, List.setIfInBounds_toArray, List.set_cons_zero, List.set_cons_succ, Nat.zero_add, Nat.reduceAdd] at H)
    | (first | refine ⟨⟨_, H.get 0 rfl rfl⟩, ?_⟩ | refine ⟨⟨_, H.get 1 rfl rfl⟩, ?_⟩ | refine ⟨⟨_, H.get 2 rfl rfl⟩, ?_⟩ | refine ⟨⟨_, H.get 3 rfl rfl⟩, ?_⟩ | refine ⟨⟨_, H.get 4 rfl rfl⟩, ?_⟩ | refine ⟨⟨_, H.get 5 rfl rfl⟩, ?_⟩ | refine ⟨⟨_, H.get 6 rfl rfl⟩, ?_⟩ | refine ⟨⟨_, H.get 7 rfl rfl⟩, ?_⟩)
    | (first | refine ⟨H.frz 0 rfl, ?_⟩ | refine ⟨H.frz 1 rfl, ?_⟩ | refine ⟨H.frz 2 rfl, ?_⟩ | refine ⟨H.frz 3 rfl, ?_⟩ | refine ⟨H.frz 4 rfl, ?_⟩ | refine ⟨H.frz 5 rfl, ?_⟩ | refine ⟨H.frz 6 rfl, ?_⟩ | refine ⟨H.frz 7 rfl, ?_⟩)
    | (first | refine ⟨_, H.get 0 rfl rfl, ?_⟩ | refine ⟨_, H.get 1 rfl rfl, ?_⟩ | refine ⟨_, H.get 2 rfl rfl, ?_⟩ | refine ⟨_, H.get 3 rfl rfl, ?_⟩ | refine ⟨_, H.get 4 rfl rfl, ?_⟩ | refine ⟨_, H.get 5 rfl rfl, ?_⟩ | refine ⟨_, H.get 6 rfl rfl, ?_⟩ | refine ⟨_, H.get 7 rfl rfl, ?_⟩)
    | (first | refine ⟨_, _, _, H.get 0 rfl rfl, ?_⟩ | refine ⟨_, _, _, H.get 1 rfl rfl, ?_⟩ | refine ⟨_, _, _, H.get 2 rfl rfl, ?_⟩ | refine ⟨_, _, _, H.get 3 rfl rfl, ?_⟩ | refine ⟨_, _, _, H.get 4 rfl rfl, ?_⟩ | refine ⟨_, _, _, H.get 5 rfl rfl, ?_⟩ | refine ⟨_, _, _, H.get 6 rfl rfl, ?_⟩ | refine ⟨_, _, _, H.get 7 rfl rfl, ?_⟩))
  refine (ltwo_ok 9 (ha.ext H.ext) (hb.ext H.ext)).mono ?_
  rintro e W ⟨c3, rfl, x3, eS⟩
  obtain ⟨p3, n3, d3, rfl, _⟩ := x3.six
  replace H := H.step eS
  refine ⟨_, _, _, _, _, _, _, _, rfl, ?_⟩
  refine (xEval_ok (twoE 9 a b) (hT.ext H.ext) (hT2.ext H.ext) (hc.ext H.ext) (hr.ext H.ext) x3 hfit (FitX.mk2 fa fb)).mono ?_
  rintro e W ⟨rfl, eS⟩
  replace H := H.step eS
  refine ⟨_, _, _, _, rfl, ?_⟩
  repeat (first
    | (intro _ _ hS; replace H := H.new hS; clear hS)
    | (intro _ hS; replace H := H.step (Drew.ext hS); clear hS)
    | (intro _ hS; (first | replace H := H.put 0 rfl hS | replace H := H.put 1 rfl hS | replace H := H.put 2 rfl hS | replace H := H.put 3 rfl hS | replace H := H.put 4 rfl hS | replace H := H.put 5 rfl hS | replace H := H.put 6 rfl hS | replace H := H.put 7 rfl hS); clear hS; try simp only [setA, List.setIfInBounds_toArray, List.set_cons_zero, List.set_cons_succ, Nat.zero_add, Nat.reduceAdd] at H)
    | (first | refine ⟨⟨_, H.get 0 rfl rfl⟩, ?_⟩ | refine ⟨⟨_, H.get 1 rfl rfl⟩, ?_⟩ | refine ⟨⟨_, H.get 2 rfl rfl⟩, ?_⟩ | refine ⟨⟨_, H.get 3 rfl rfl⟩, ?_⟩ | refine ⟨⟨_, H.get 4 rfl rfl⟩, ?_⟩ | refine ⟨⟨_, H.get 5 rfl rfl⟩, ?_⟩ | refine ⟨⟨_, H.get 6 rfl rfl⟩, ?_⟩ | refine ⟨⟨_, H.get 7 rfl rfl⟩, ?_⟩)
    | (first | refine ⟨H.frz 0 rfl, ?_⟩ | refine ⟨H.frz 1 rfl, ?_⟩ | refine ⟨H.frz 2 rfl, ?_⟩ | refine ⟨H.frz 3 rfl, ?_⟩ | refine ⟨H.frz 4 rfl, ?_⟩ | refine ⟨H.frz 5 rfl, ?_⟩ | refine ⟨H.frz 6 rfl, ?_⟩ | refine ⟨H.frz 7 rfl, ?_⟩)
    | (first | refine ⟨_, H.get 0 rfl rfl, ?_⟩ | refine ⟨_, H.get 1 rfl rfl, ?_⟩ | refine ⟨_, H.get 2 rfl rfl, ?_⟩ | refine ⟨_, H.get 3 rfl rfl, ?_⟩ | refine ⟨_, H.get 4 rfl rfl, ?_⟩ | refine ⟨_, H.get 5 rfl rfl, ?_⟩ | refine ⟨_, H.get 6 rfl rfl, ?_⟩ | refine ⟨_, H.get 7 rfl rfl, ?_⟩)
    | (first | refine ⟨_, _, _, H.get 0 rfl rfl, ?_⟩ | refine ⟨_, _, _, H.get 1 rfl rfl, ?_⟩ | refine ⟨_, _, _, H.get 2 rfl rfl, ?_⟩ | refine ⟨_, _, _, H.get 3 rfl rfl, ?_⟩ | refine ⟨_, _, _, H.get 4 rfl rfl, ?_⟩ | refine ⟨_, _, _, H.get 5 rfl rfl, ?_⟩ | refine ⟨_, _, _, H.get 6 rfl rfl, ?_⟩ | refine ⟨_, _, _, H.get 7 rfl rfl, ?_⟩))
  refine (ltwo_ok 10 (hb.ext H.ext) (ha.ext H.ext)).mono ?_
  rintro e W ⟨c4, rfl, x4, eS⟩
  obtain ⟨p4, n4, d4, rfl, _⟩ := x4.six
  replace H := H.step eS
  refine ⟨_, _, _, _, _, _, _, _, rfl, ?_⟩
  refine (xEval_ok (twoE 10 b a) (hT.ext H.ext) (hT2.ext H.ext) (hc.ext H.ext) (hr.ext H.ext) x4 hfit (FitX.mk2 fb fa)).mono ?_
  rintro e W ⟨rfl, eS⟩
  replace H := H.step eS
  refine ⟨_, _, _, _, rfl, ?_⟩
  repeat (first
    | (intro _ _ hS; replace H := H.new hS; clear hS)
    | (intro _ hS; replace H := H.step (Drew.ext hS); clear hS)
    | (intro _ hS; (first | replace H := H.put 0 rfl hS | replace H := H.put 1 rfl hS | replace H := H.put 2 rfl hS | replace H := H.put 3 rfl hS | replace H := H.put 4 rfl hS | replace H := H.put 5 rfl hS | replace H := H.put 6 rfl hS | replace H := H.put 7 rfl hS); clear hS; try simp only [setA, List.setIfInBounds_toArray, List.set_cons_zero, List.set_cons_succ, Nat.zero_add, Nat.reduceAdd] at H)
    | (first | refine ⟨⟨_, H.get 0 rfl rfl⟩, ?_⟩ | refine ⟨⟨_, H.get 1 rfl rfl⟩, ?_⟩ | refine ⟨⟨_, H.get 2 rfl rfl⟩, ?_⟩ | refine ⟨⟨_, H.get 3 rfl rfl⟩, ?_⟩ | refine ⟨⟨_, H.get 4 rfl rfl⟩, ?_⟩ | refine ⟨⟨_, H.get 5 rfl rfl⟩, ?_⟩ | refine ⟨⟨_, H.get 6 rfl rfl⟩, ?_⟩ | refine ⟨⟨_, H.get 7 rfl rfl⟩, ?_⟩)
    | (first | refine ⟨H.frz 0 rfl, ?_⟩ | refine ⟨H.frz 1 rfl, ?_⟩ | refine ⟨H.frz 2 rfl, ?_⟩ | refine ⟨H.frz 3 rfl, ?_⟩ | refine ⟨H.frz 4 rfl, ?_⟩ | refine ⟨H.frz 5 rfl, ?_⟩ | refine ⟨H.frz 6 rfl, ?_⟩ | refine ⟨H.frz 7 rfl, ?_⟩)
    | (first | refine ⟨_, H.get 0 rfl rfl, ?_⟩ | refine ⟨_, H.get 1 rfl rfl, ?_⟩ | refine ⟨_, H.get 2 rfl rfl, ?_⟩ | refine ⟨_, H.get 3 rfl rfl, ?_⟩ | refine ⟨_, H.get 4 rfl rfl, ?_⟩ | refine ⟨_, H.get 5 rfl rfl, ?_⟩ | refine ⟨_, H.get 6 rfl rfl, ?_⟩ | refine ⟨_, H.get 7 rfl rfl, ?_⟩)
    | (first | refine ⟨_, _, _, H.get 0 rfl rfl, ?_⟩ | refine ⟨_, _, _, H.get 1 rfl rfl, ?_⟩ | refine ⟨_, _, _, H.get 2 rfl rfl, ?_⟩ | refine ⟨_, _, _, H.get 3 rfl rfl, ?_⟩ | refine ⟨_, _, _, H.get 4 rfl rfl, ?_⟩ | refine ⟨_, _, _, H.get 5 rfl rfl, ?_⟩ | refine ⟨_, _, _, H.get 6 rfl rfl, ?_⟩ | refine ⟨_, _, _, H.get 7 rfl rfl, ?_⟩))
  have law := orders_law (cols := cols) hfit fa fb
  rw [show mk2 10 a b = twoE 10 a b from rfl, show mk2 9 a b = twoE 9 a b from rfl, show mk2 10 b a = twoE 10 b a from rfl] at law
  rcases law with ⟨h1, h2, h3⟩ | ⟨h1, h2, h3, h4⟩
  · refine ⟨fun _ => ⟨fun _ => ⟨?_, H.ext⟩, fun h => by cases h⟩, fun h => absurd h.1.1 h1⟩
    simp [h1, h2, h3]
  · refine ⟨fun h => by omega, fun _ => ?_⟩
    repeat (first
      | (intro _ _ hS; replace H := H.new hS; clear hS)
      | (intro _ hS; replace H := H.step (Drew.ext hS); clear hS)
      | (intro _ hS; (first | replace H := H.put 0 rfl hS | replace H := H.put 1 rfl hS | replace H := H.put 2 rfl hS | replace H := H.put 3 rfl hS | replace H := H.put 4 rfl hS | replace H := H.put 5 rfl hS | replace H := H.put 6 rfl hS | replace H := H.put 7 rfl hS); clear hS; try simp only [setA, List.setIfInBounds_toArray, List.set_cons_zero, List.set_cons_succ, Nat.zero_add, Nat.reduceAdd] at H)
      | (first | refine ⟨⟨_, H.get 0 rfl rfl⟩, ?_⟩ | refine ⟨⟨_, H.get 1 rfl rfl⟩, ?_⟩ | refine ⟨⟨_, H.get 2 rfl rfl⟩, ?_⟩ | refine ⟨⟨_, H.get 3 rfl rfl⟩, ?_⟩ | refine ⟨⟨_, H.get 4 rfl rfl⟩, ?_⟩ | refine ⟨⟨_, H.get 5 rfl rfl⟩, ?_⟩ | refine ⟨⟨_, H.get 6 rfl rfl⟩, ?_⟩ | refine ⟨⟨_, H.get 7 rfl rfl⟩, ?_⟩)
      | (first | refine ⟨H.frz 0 rfl, ?_⟩ | refine ⟨H.frz 1 rfl, ?_⟩ | refine ⟨H.frz 2 rfl, ?_⟩ | refine ⟨H.frz 3 rfl, ?_⟩ | refine ⟨H.frz 4 rfl, ?_⟩ | refine ⟨H.frz 5 rfl, ?_⟩ | refine ⟨H.frz 6 rfl, ?_⟩ | refine ⟨H.frz 7 rfl, ?_⟩)
      | (first | refine ⟨_, H.get 0 rfl rfl, ?_⟩ | refine ⟨_, H.get 1 rfl rfl, ?_⟩ | refine ⟨_, H.get 2 rfl rfl, ?_⟩ | refine ⟨_, H.get 3 rfl rfl, ?_⟩ | refine ⟨_, H.get 4 rfl rfl, ?_⟩ | refine ⟨_, H.get 5 rfl rfl, ?_⟩ | refine ⟨_, H.get 6 rfl rfl, ?_⟩ | refine ⟨_, H.get 7 rfl rfl, ?_⟩)
      | (first | refine ⟨_, _, _, H.get 0 rfl rfl, ?_⟩ | refine ⟨_, _, _, H.get 1 rfl rfl, ?_⟩ | refine ⟨_, _, _, H.get 2 rfl rfl, ?_⟩ | refine ⟨_, _, _, H.get 3 rfl rfl, ?_⟩ | refine ⟨_, _, _, H.get 4 rfl rfl, ?_⟩ | refine ⟨_, _, _, H.get 5 rfl rfl, ?_⟩ | refine ⟨_, _, _, H.get 6 rfl rfl, ?_⟩ | refine ⟨_, _, _, H.get 7 rfl rfl, ?_⟩))
    refine ⟨fun hk => ⟨fun _ => ?_, fun h => by cases h⟩, fun hk => ⟨fun _ => ?_, fun h => by cases h⟩⟩
    · rcases h4 with ⟨k1, k2, k3⟩ | ⟨k1, _⟩
      · repeat (first
          | (intro _ _ hS; replace H := H.new hS; clear hS)
          | (intro _ hS; replace H := H.step (Drew.ext hS); clear hS)
          | (intro _ hS; (first | replace H := H.put 0 rfl hS | replace H := H.put 1 rfl hS | replace H := H.put 2 rfl hS | replace H := H.put 3 rfl hS | replace H := H.put 4 rfl hS | replace H := H.put 5 rfl hS | replace H := H.put 6 rfl hS | replace H := H.put 7 rfl hS); clear hS; try simp only [setA, List.setIfInBounds_toArray, List.set_cons_zero, List.set_cons_succ, Nat.zero_add, Nat.reduceAdd] at H)
          | (first | refine ⟨⟨_, H.get 0 rfl rfl⟩, ?_⟩ | refine ⟨⟨_, H.get 1 rfl rfl⟩, ?_⟩ | refine ⟨⟨_, H.get 2 rfl rfl⟩, ?_⟩ | refine ⟨⟨_, H.get 3 rfl rfl⟩, ?_⟩ | refine ⟨⟨_, H.get 4 rfl rfl⟩, ?_⟩ | refine ⟨⟨_, H.get 5 rfl rfl⟩, ?_⟩ | refine ⟨⟨_, H.get 6 rfl rfl⟩, ?_⟩ | refine ⟨⟨_, H.get 7 rfl rfl⟩, ?_⟩)
          | (first | refine ⟨H.frz 0 rfl, ?_⟩ | refine ⟨H.frz 1 rfl, ?_⟩ | refine ⟨H.frz 2 rfl, ?_⟩ | refine ⟨H.frz 3 rfl, ?_⟩ | refine ⟨H.frz 4 rfl, ?_⟩ | refine ⟨H.frz 5 rfl, ?_⟩ | refine ⟨H.frz 6 rfl, ?_⟩ | refine ⟨H.frz 7 rfl, ?_⟩)
          | (first | refine ⟨_, H.get 0 rfl rfl, ?_⟩ | refine ⟨_, H.get 1 rfl rfl, ?_⟩ | refine ⟨_, H.get 2 rfl rfl, ?_⟩ | refine ⟨_, H.get 3 rfl rfl, ?_⟩ | refine ⟨_, H.get 4 rfl rfl, ?_⟩ | refine ⟨_, H.get 5 rfl rfl, ?_⟩ | refine ⟨_, H.get 6 rfl rfl, ?_⟩ | refine ⟨_, H.get 7 rfl rfl, ?_⟩)
          | (first | refine ⟨_, _, _, H.get 0 rfl rfl, ?_⟩ | refine ⟨_, _, _, H.get 1 rfl rfl, ?_⟩ | refine ⟨_, _, _, H.get 2 rfl rfl, ?_⟩ | refine ⟨_, _, _, H.get 3 rfl rfl, ?_⟩ | refine ⟨_, _, _, H.get 4 rfl rfl, ?_⟩ | refine ⟨_, _, _, H.get 5 rfl rfl, ?_⟩ | refine ⟨_, _, _, H.get 6 rfl rfl, ?_⟩ | refine ⟨_, _, _, H.get 7 rfl rfl, ?_⟩))
        refine ⟨fun _ => ?_, fun h => absurd k2 h⟩
        repeat (first
          | (intro _ _ hS; replace H := H.new hS; clear hS)
          | (intro _ hS; replace H := H.step (Drew.ext hS); clear hS)
          | (intro _ hS; (first | replace H := H.put 0 rfl hS | replace H := H.put 1 rfl hS | replace H := H.put 2 rfl hS | replace H := H.put 3 rfl hS | replace H := H.put 4 rfl hS | replace H := H.put 5 rfl hS | replace H := H.put 6 rfl hS | replace H := H.put 7 rfl hS); clear hS; try simp only [setA, List.setIfInBounds_toArray, List.set_cons_zero, List.set_cons_succ, Nat.zero_add, Nat.reduceAdd] at H)
          | (first | refine ⟨⟨_, H.get 0 rfl rfl⟩, ?_⟩ | refine ⟨⟨_, H.get 1 rfl rfl⟩, ?_⟩ | refine ⟨⟨_, H.get 2 rfl rfl⟩, ?_⟩ | refine ⟨⟨_, H.get 3 rfl rfl⟩, ?_⟩ | refine ⟨⟨_, H.get 4 rfl rfl⟩, ?_⟩ | refine ⟨⟨_, H.get 5 rfl rfl⟩, ?_⟩ | refine ⟨⟨_, H.get 6 rfl rfl⟩, ?_⟩ | refine ⟨⟨_, H.get 7 rfl rfl⟩, ?_⟩)
          | (first | refine ⟨H.frz 0 rfl, ?_⟩ | refine ⟨H.frz 1 rfl, ?_⟩ | refine ⟨H.frz 2 rfl, ?_⟩ | refine ⟨H.frz 3 rfl, ?_⟩ | refine ⟨H.frz 4 rfl, ?_⟩ | refine ⟨H.frz 5 rfl, ?_⟩ | refine ⟨H.frz 6 rfl, ?_⟩ | refine ⟨H.frz 7 rfl, ?_⟩)
          | (first | refine ⟨_, H.get 0 rfl rfl, ?_⟩ | refine ⟨_, H.get 1 rfl rfl, ?_⟩ | refine ⟨_, H.get 2 rfl rfl, ?_⟩ | refine ⟨_, H.get 3 rfl rfl, ?_⟩ | refine ⟨_, H.get 4 rfl rfl, ?_⟩ | refine ⟨_, H.get 5 rfl rfl, ?_⟩ | refine ⟨_, H.get 6 rfl rfl, ?_⟩ | refine ⟨_, H.get 7 rfl rfl, ?_⟩)
          | (first | refine ⟨_, _, _, H.get 0 rfl rfl, ?_⟩ | refine ⟨_, _, _, H.get 1 rfl rfl, ?_⟩ | refine ⟨_, _, _, H.get 2 rfl rfl, ?_⟩ | refine ⟨_, _, _, H.get 3 rfl rfl, ?_⟩ | refine ⟨_, _, _, H.get 4 rfl rfl, ?_⟩ | refine ⟨_, _, _, H.get 5 rfl rfl, ?_⟩ | refine ⟨_, _, _, H.get 6 rfl rfl, ?_⟩ | refine ⟨_, _, _, H.get 7 rfl rfl, ?_⟩))
        exact ⟨by simp [k3], H.ext⟩
      · exact absurd hk k1
    · rcases h4 with ⟨k1, k2, k3⟩ | ⟨k1, k2, k3, k4, k5⟩
      · exact absurd k1 hk
      · repeat (first
          | (intro _ _ hS; replace H := H.new hS; clear hS)
          | (intro _ hS; replace H := H.step (Drew.ext hS); clear hS)
          | (intro _ hS; (first | replace H := H.put 0 rfl hS | replace H := H.put 1 rfl hS | replace H := H.put 2 rfl hS | replace H := H.put 3 rfl hS | replace H := H.put 4 rfl hS | replace H := H.put 5 rfl hS | replace H := H.put 6 rfl hS | replace H := H.put 7 rfl hS); clear hS; try simp only [setA, List.setIfInBounds_toArray, List.set_cons_zero, List.set_cons_succ, Nat.zero_add, Nat.reduceAdd] at H)
          | (first | refine ⟨⟨_, H.get 0 rfl rfl⟩, ?_⟩ | refine ⟨⟨_, H.get 1 rfl rfl⟩, ?_⟩ | refine ⟨⟨_, H.get 2 rfl rfl⟩, ?_⟩ | refine ⟨⟨_, H.get 3 rfl rfl⟩, ?_⟩ | refine ⟨⟨_, H.get 4 rfl rfl⟩, ?_⟩ | refine ⟨⟨_, H.get 5 rfl rfl⟩, ?_⟩ | refine ⟨⟨_, H.get 6 rfl rfl⟩, ?_⟩ | refine ⟨⟨_, H.get 7 rfl rfl⟩, ?_⟩)
          | (first | refine ⟨H.frz 0 rfl, ?_⟩ | refine ⟨H.frz 1 rfl, ?_⟩ | refine ⟨H.frz 2 rfl, ?_⟩ | refine ⟨H.frz 3 rfl, ?_⟩ | refine ⟨H.frz 4 rfl, ?_⟩ | refine ⟨H.frz 5 rfl, ?_⟩ | refine ⟨H.frz 6 rfl, ?_⟩ | refine ⟨H.frz 7 rfl, ?_⟩)
          | (first | refine ⟨_, H.get 0 rfl rfl, ?_⟩ | refine ⟨_, H.get 1 rfl rfl, ?_⟩ | refine ⟨_, H.get 2 rfl rfl, ?_⟩ | refine ⟨_, H.get 3 rfl rfl, ?_⟩ | refine ⟨_, H.get 4 rfl rfl, ?_⟩ | refine ⟨_, H.get 5 rfl rfl, ?_⟩ | refine ⟨_, H.get 6 rfl rfl, ?_⟩ | refine ⟨_, H.get 7 rfl rfl, ?_⟩)
          | (first | refine ⟨_, _, _, H.get 0 rfl rfl, ?_⟩ | refine ⟨_, _, _, H.get 1 rfl rfl, ?_⟩ | refine ⟨_, _, _, H.get 2 rfl rfl, ?_⟩ | refine ⟨_, _, _, H.get 3 rfl rfl, ?_⟩ | refine ⟨_, _, _, H.get 4 rfl rfl, ?_⟩ | refine ⟨_, _, _, H.get 5 rfl rfl, ?_⟩ | refine ⟨_, _, _, H.get 6 rfl rfl, ?_⟩ | refine ⟨_, _, _, H.get 7 rfl rfl, ?_⟩))
        refine ⟨?_, H.ext⟩
        rw [i64_fit (n := (evalF cols row (twoE 10 a b)).1.n + (evalF cols row (twoE 9 a b)).1.n) (by omega) (by omega), i64_fit (by omega) (by omega), k2]
        rfl

set_option maxRecDepth 100000 in
set_option maxHeartbeats 4000000 in
theorem lawTurns_ok (a b : Ex) {w : World} {p rp : Option Addr} {n c rn rc : Nat} {cols : List Col} {row : List Val} {ca cb : List Value} (hT : Tab w) (hT2 : Tab2 w) (hc : Cols w p n c cols) (hr : Vs w rp rn rc row) (ha : ExAt w a ca) (hb : ExAt w b cb)
    (hfit : FitR row) (fa : FitX a) (fb : FitX b) :
    Calls Tryd.prog 8 #[.slice p n c, .slice rp rn rc, .agg ca.toArray, .agg cb.toArray] w fun e w' => e = .returned (.bool true) ∧ Ext w w' := by
  obtain ⟨pa, na, da, rfl, _⟩ := ha.six
  obtain ⟨pb, nb, db, rfl, _⟩ := hb.six
  apply lawTurns_vc
  unfold lawTurns_T
  have H := Hold.start (Ext.rfl (w := w))
  repeat (first
    | (intro _ _ hS; replace H := H.new hS; clear hS)
    | (intro _ hS; replace H := H.step (Drew.ext hS); clear hS)
    | (intro _ hS; (first | replace H := H.put 0 rfl hS | replace H := H.put 1 rfl hS | replace H := H.put 2 rfl hS | replace H := H.put 3 rfl hS | replace H := H.put 4 rfl hS | replace H := H.put 5 rfl hS | replace H := H.put 6 rfl hS | replace H := H.put 7 rfl hS); clear hS; try simp only [setA, List.setIfInBounds_toArray, List.set_cons_zero, List.set_cons_succ, Nat.zero_add, Nat.reduceAdd] at H)
    | (first | refine ⟨⟨_, H.get 0 rfl rfl⟩, ?_⟩ | refine ⟨⟨_, H.get 1 rfl rfl⟩, ?_⟩ | refine ⟨⟨_, H.get 2 rfl rfl⟩, ?_⟩ | refine ⟨⟨_, H.get 3 rfl rfl⟩, ?_⟩ | refine ⟨⟨_, H.get 4 rfl rfl⟩, ?_⟩ | refine ⟨⟨_, H.get 5 rfl rfl⟩, ?_⟩ | refine ⟨⟨_, H.get 6 rfl rfl⟩, ?_⟩ | refine ⟨⟨_, H.get 7 rfl rfl⟩, ?_⟩)
    | (first | refine ⟨H.frz 0 rfl, ?_⟩ | refine ⟨H.frz 1 rfl, ?_⟩ | refine ⟨H.frz 2 rfl, ?_⟩ | refine ⟨H.frz 3 rfl, ?_⟩ | refine ⟨H.frz 4 rfl, ?_⟩ | refine ⟨H.frz 5 rfl, ?_⟩ | refine ⟨H.frz 6 rfl, ?_⟩ | refine ⟨H.frz 7 rfl, ?_⟩)
    | (first | refine ⟨_, H.get 0 rfl rfl, ?_⟩ | refine ⟨_, H.get 1 rfl rfl, ?_⟩ | refine ⟨_, H.get 2 rfl rfl, ?_⟩ | refine ⟨_, H.get 3 rfl rfl, ?_⟩ | refine ⟨_, H.get 4 rfl rfl, ?_⟩ | refine ⟨_, H.get 5 rfl rfl, ?_⟩ | refine ⟨_, H.get 6 rfl rfl, ?_⟩ | refine ⟨_, H.get 7 rfl rfl, ?_⟩)
    | (first | refine ⟨_, _, _, H.get 0 rfl rfl, ?_⟩ | refine ⟨_, _, _, H.get 1 rfl rfl, ?_⟩ | refine ⟨_, _, _, H.get 2 rfl rfl, ?_⟩ | refine ⟨_, _, _, H.get 3 rfl rfl, ?_⟩ | refine ⟨_, _, _, H.get 4 rfl rfl, ?_⟩ | refine ⟨_, _, _, H.get 5 rfl rfl, ?_⟩ | refine ⟨_, _, _, H.get 6 rfl rfl, ?_⟩ | refine ⟨_, _, _, H.get 7 rfl rfl, ?_⟩))
  refine (shown_ok (hT.ext H.ext) (hT2.ext H.ext)).mono ?_
  rintro e W ⟨rfl, eS⟩
  replace H := H.step eS
  refine ⟨_, rfl, ?_⟩
  repeat (first
    | (intro _ _ hS; replace H := H.new hS; clear hS)
    | (intro _ hS; replace H := H.step (Drew.ext hS); clear hS)
    | (intro _ hS; (first | replace H := H.put 0 rfl hS | replace H := H.put 1 rfl hS | replace H := H.put 2 rfl hS | replace H := H.put 3 rfl hS | replace H := H.put 4 rfl hS | replace H := H.put 5 rfl hS | replace H := H.put 6 rfl hS | replace H := H.put 7 rfl hS); clear hS; try simp only [setA, List.setIfInBounds_toArray, List.set_cons_zero, List.set_cons_succ, Nat.zero_add, Nat.reduceAdd] at H)
    | (first | refine ⟨⟨_, H.get 0 rfl rfl⟩, ?_⟩ | refine ⟨⟨_, H.get 1 rfl rfl⟩, ?_⟩ | refine ⟨⟨_, H.get 2 rfl rfl⟩, ?_⟩ | refine ⟨⟨_, H.get 3 rfl rfl⟩, ?_⟩ | refine ⟨⟨_, H.get 4 rfl rfl⟩, ?_⟩ | refine ⟨⟨_, H.get 5 rfl rfl⟩, ?_⟩ | refine ⟨⟨_, H.get 6 rfl rfl⟩, ?_⟩ | refine ⟨⟨_, H.get 7 rfl rfl⟩, ?_⟩)
    | (first | refine ⟨H.frz 0 rfl, ?_⟩ | refine ⟨H.frz 1 rfl, ?_⟩ | refine ⟨H.frz 2 rfl, ?_⟩ | refine ⟨H.frz 3 rfl, ?_⟩ | refine ⟨H.frz 4 rfl, ?_⟩ | refine ⟨H.frz 5 rfl, ?_⟩ | refine ⟨H.frz 6 rfl, ?_⟩ | refine ⟨H.frz 7 rfl, ?_⟩)
    | (first | refine ⟨_, H.get 0 rfl rfl, ?_⟩ | refine ⟨_, H.get 1 rfl rfl, ?_⟩ | refine ⟨_, H.get 2 rfl rfl, ?_⟩ | refine ⟨_, H.get 3 rfl rfl, ?_⟩ | refine ⟨_, H.get 4 rfl rfl, ?_⟩ | refine ⟨_, H.get 5 rfl rfl, ?_⟩ | refine ⟨_, H.get 6 rfl rfl, ?_⟩ | refine ⟨_, H.get 7 rfl rfl, ?_⟩)
    | (first | refine ⟨_, _, _, H.get 0 rfl rfl, ?_⟩ | refine ⟨_, _, _, H.get 1 rfl rfl, ?_⟩ | refine ⟨_, _, _, H.get 2 rfl rfl, ?_⟩ | refine ⟨_, _, _, H.get 3 rfl rfl, ?_⟩ | refine ⟨_, _, _, H.get 4 rfl rfl, ?_⟩ | refine ⟨_, _, _, H.get 5 rfl rfl, ?_⟩ | refine ⟨_, _, _, H.get 6 rfl rfl, ?_⟩ | refine ⟨_, _, _, H.get 7 rfl rfl, ?_⟩))
  refine (ltwo_ok 12 (ha.ext H.ext) (hb.ext H.ext)).mono ?_
  rintro e W ⟨c2, rfl, x2, eS⟩
  obtain ⟨p2, n2, d2, rfl, _⟩ := x2.six
  replace H := H.step eS
  refine ⟨_, _, _, _, _, _, _, _, rfl, ?_⟩
  refine (lone_ok 14 x2).mono ?_
  rintro e W ⟨c2, rfl, x2, eS⟩
  obtain ⟨p2, n2, d2, rfl, _⟩ := x2.six
  replace H := H.step eS
  refine ⟨_, _, _, _, _, _, _, _, rfl, ?_⟩
  refine (xEval_ok (oneE 14 (twoE 12 a b)) (hT.ext H.ext) (hT2.ext H.ext) (hc.ext H.ext) (hr.ext H.ext) x2 hfit (FitX.mk1 (FitX.mk2 fa fb))).mono ?_
  rintro e W ⟨rfl, eS⟩
  replace H := H.step eS
  refine ⟨_, _, _, _, rfl, ?_⟩
  repeat (first
    | (intro _ _ hS; replace H := H.new hS; clear hS)
    | (intro _ hS; replace H := H.step (Drew.ext hS); clear hS)
    | (intro _ hS; (first | replace H := H.put 0 rfl hS | replace H := H.put 1 rfl hS | replace H := H.put 2 rfl hS | replace H := H.put 3 rfl hS | replace H := H.put 4 rfl hS | replace H := H.put 5 rfl hS | replace H := H.put 6 rfl hS | replace H := H.put 7 rfl hS); clear hS; try simp only [setA, List.setIfInBounds_toArray, List.set_cons_zero, List.set_cons_succ, Nat.zero_add, Nat.reduceAdd] at H)
    | (first | refine ⟨⟨_, H.get 0 rfl rfl⟩, ?_⟩ | refine ⟨⟨_, H.get 1 rfl rfl⟩, ?_⟩ | refine ⟨⟨_, H.get 2 rfl rfl⟩, ?_⟩ | refine ⟨⟨_, H.get 3 rfl rfl⟩, ?_⟩ | refine ⟨⟨_, H.get 4 rfl rfl⟩, ?_⟩ | refine ⟨⟨_, H.get 5 rfl rfl⟩, ?_⟩ | refine ⟨⟨_, H.get 6 rfl rfl⟩, ?_⟩ | refine ⟨⟨_, H.get 7 rfl rfl⟩, ?_⟩)
    | (first | refine ⟨H.frz 0 rfl, ?_⟩ | refine ⟨H.frz 1 rfl, ?_⟩ | refine ⟨H.frz 2 rfl, ?_⟩ | refine ⟨H.frz 3 rfl, ?_⟩ | refine ⟨H.frz 4 rfl, ?_⟩ | refine ⟨H.frz 5 rfl, ?_⟩ | refine ⟨H.frz 6 rfl, ?_⟩ | refine ⟨H.frz 7 rfl, ?_⟩)
    | (first | refine ⟨_, H.get 0 rfl rfl, ?_⟩ | refine ⟨_, H.get 1 rfl rfl, ?_⟩ | refine ⟨_, H.get 2 rfl rfl, ?_⟩ | refine ⟨_, H.get 3 rfl rfl, ?_⟩ | refine ⟨_, H.get 4 rfl rfl, ?_⟩ | refine ⟨_, H.get 5 rfl rfl, ?_⟩ | refine ⟨_, H.get 6 rfl rfl, ?_⟩ | refine ⟨_, H.get 7 rfl rfl, ?_⟩)
    | (first | refine ⟨_, _, _, H.get 0 rfl rfl, ?_⟩ | refine ⟨_, _, _, H.get 1 rfl rfl, ?_⟩ | refine ⟨_, _, _, H.get 2 rfl rfl, ?_⟩ | refine ⟨_, _, _, H.get 3 rfl rfl, ?_⟩ | refine ⟨_, _, _, H.get 4 rfl rfl, ?_⟩ | refine ⟨_, _, _, H.get 5 rfl rfl, ?_⟩ | refine ⟨_, _, _, H.get 6 rfl rfl, ?_⟩ | refine ⟨_, _, _, H.get 7 rfl rfl, ?_⟩))
  have conj := turns_and (cols := cols) hfit fa fb
  have less := turns_less (cols := cols) hfit fa fb
  rw [show mk1 14 (mk2 12 a b) = oneE 14 (twoE 12 a b) from rfl, show mk2 13 (mk1 14 a) (mk1 14 b) = twoE 13 (oneE 14 a) (oneE 14 b) from rfl] at conj
  rw [show mk2 10 a b = twoE 10 a b from rfl, show mk1 14 (mk2 11 b a) = oneE 14 (twoE 11 b a) from rfl] at less
  have xA : True := trivial
  have xB : True := trivial
  have xC : True := trivial
  repeat' (first
    | (refine And.intro ?_ (fun _ _ hS => ?_)
       rotate_left
       have eX := hS.ext; replace H := H.new hS; (try replace xA := xA.ext eX); (try replace xB := xB.ext eX); (try replace xC := xC.ext eX)
       try refine ⟨eX.same, ?_⟩
       rotate_left)
    | (intro _ _ hS
       have eX := hS.ext; replace H := H.new hS; (try replace xA := xA.ext eX); (try replace xB := xB.ext eX); (try replace xC := xC.ext eX)
       try refine ⟨eX.same, ?_⟩)
    | (refine (lone_ok 14 (ha.ext H.ext)).mono ?_
       rintro e W ⟨cA, rfl, xA, eX⟩
       obtain ⟨pA, nA, dA, rfl, _⟩ := xA.six
       replace H := H.step eX; try replace xB := xB.ext eX
       refine ⟨_, _, _, _, _, _, _, _, rfl, ?_⟩
       try refine ⟨eX.same, ?_⟩)
    | (refine (lone_ok 14 (hb.ext H.ext)).mono ?_
       rintro e W ⟨cB, rfl, xB, eX⟩
       obtain ⟨pB, nB, dB, rfl, _⟩ := xB.six
       replace H := H.step eX; try replace xA := xA.ext eX
       refine ⟨_, _, _, _, _, _, _, _, rfl, ?_⟩
       try refine ⟨eX.same, ?_⟩)
    | (refine (ltwo_ok 13 xA xB).mono ?_
       rintro e W ⟨cC, rfl, xC, eX⟩
       obtain ⟨pC, nC, dC, rfl, _⟩ := xC.six
       replace H := H.step eX
       refine ⟨_, _, _, _, _, _, _, _, rfl, ?_⟩
       try refine ⟨eX.same, ?_⟩)
    | (refine (xEval_ok (twoE 13 (oneE 14 a) (oneE 14 b)) (hT.ext H.ext) (hT2.ext H.ext) (hc.ext H.ext) (hr.ext H.ext) xC hfit (FitX.mk2 (FitX.mk1 fa) (FitX.mk1 fb))).mono ?_
       rintro e W ⟨rfl, eX⟩
       replace H := H.step eX
       refine ⟨_, _, _, _, rfl, ?_⟩
       try refine ⟨eX.same, ?_⟩)
    | (refine And.intro ⟨_, H.get 0 rfl rfl⟩ ?_)
    | (refine And.intro (H.frz 0 rfl) ?_)
    | (refine And.intro ⟨_, H.get 1 rfl rfl⟩ ?_)
    | (refine And.intro (H.frz 1 rfl) ?_)
    | (intro _ hS; first | replace H := H.put 0 rfl hS | replace H := H.put 1 rfl hS
       try simp only [setA, List.setIfInBounds_toArray, List.set_cons_zero, List.set_cons_succ, Nat.zero_add, Nat.reduceAdd] at H))
  all_goals refine ⟨fun hf => ?_, fun hf => ?_⟩
  all_goals try (
    repeat (first
      | (intro _ _ hS; replace H := H.new hS; clear hS)
      | (intro _ hS; replace H := H.step (Drew.ext hS); clear hS)
      | (intro _ hS; (first | replace H := H.put 0 rfl hS | replace H := H.put 1 rfl hS | replace H := H.put 2 rfl hS | replace H := H.put 3 rfl hS | replace H := H.put 4 rfl hS | replace H := H.put 5 rfl hS | replace H := H.put 6 rfl hS | replace H := H.put 7 rfl hS); clear hS; try simp only [setA, List.setIfInBounds_toArray, List.set_cons_zero, List.set_cons_succ, Nat.zero_add, Nat.reduceAdd] at H)
      | (first | refine ⟨⟨_, H.get 0 rfl rfl⟩, ?_⟩ | refine ⟨⟨_, H.get 1 rfl rfl⟩, ?_⟩ | refine ⟨⟨_, H.get 2 rfl rfl⟩, ?_⟩ | refine ⟨⟨_, H.get 3 rfl rfl⟩, ?_⟩ | refine ⟨⟨_, H.get 4 rfl rfl⟩, ?_⟩ | refine ⟨⟨_, H.get 5 rfl rfl⟩, ?_⟩ | refine ⟨⟨_, H.get 6 rfl rfl⟩, ?_⟩ | refine ⟨⟨_, H.get 7 rfl rfl⟩, ?_⟩)
      | (first | refine ⟨H.frz 0 rfl, ?_⟩ | refine ⟨H.frz 1 rfl, ?_⟩ | refine ⟨H.frz 2 rfl, ?_⟩ | refine ⟨H.frz 3 rfl, ?_⟩ | refine ⟨H.frz 4 rfl, ?_⟩ | refine ⟨H.frz 5 rfl, ?_⟩ | refine ⟨H.frz 6 rfl, ?_⟩ | refine ⟨H.frz 7 rfl, ?_⟩)
      | (first | refine ⟨_, H.get 0 rfl rfl, ?_⟩ | refine ⟨_, H.get 1 rfl rfl, ?_⟩ | refine ⟨_, H.get 2 rfl rfl, ?_⟩ | refine ⟨_, H.get 3 rfl rfl, ?_⟩ | refine ⟨_, H.get 4 rfl rfl, ?_⟩ | refine ⟨_, H.get 5 rfl rfl, ?_⟩ | refine ⟨_, H.get 6 rfl rfl, ?_⟩ | refine ⟨_, H.get 7 rfl rfl, ?_⟩)
      | (first | refine ⟨_, _, _, H.get 0 rfl rfl, ?_⟩ | refine ⟨_, _, _, H.get 1 rfl rfl, ?_⟩ | refine ⟨_, _, _, H.get 2 rfl rfl, ?_⟩ | refine ⟨_, _, _, H.get 3 rfl rfl, ?_⟩ | refine ⟨_, _, _, H.get 4 rfl rfl, ?_⟩ | refine ⟨_, _, _, H.get 5 rfl rfl, ?_⟩ | refine ⟨_, _, _, H.get 6 rfl rfl, ?_⟩ | refine ⟨_, _, _, H.get 7 rfl rfl, ?_⟩))
    refine And.intro (fun hn => ?_) (fun _ => ?_)
    exfalso
    obtain ⟨q1, q2⟩ := conj hf.1 hf.2
    rcases hn with hn | hn
    · rw [q1] at hn; simp at hn
    · exact hn (by rw [decide_eq_decide]; exact q2))
  all_goals (
    repeat (first
      | (intro _ _ hS; replace H := H.new hS; clear hS)
      | (intro _ hS; replace H := H.step (Drew.ext hS); clear hS)
      | (intro _ hS; (first | replace H := H.put 0 rfl hS | replace H := H.put 1 rfl hS | replace H := H.put 2 rfl hS | replace H := H.put 3 rfl hS | replace H := H.put 4 rfl hS | replace H := H.put 5 rfl hS | replace H := H.put 6 rfl hS | replace H := H.put 7 rfl hS); clear hS; try simp only [setA, List.setIfInBounds_toArray, List.set_cons_zero, List.set_cons_succ, Nat.zero_add, Nat.reduceAdd] at H)
      | (first | refine ⟨⟨_, H.get 0 rfl rfl⟩, ?_⟩ | refine ⟨⟨_, H.get 1 rfl rfl⟩, ?_⟩ | refine ⟨⟨_, H.get 2 rfl rfl⟩, ?_⟩ | refine ⟨⟨_, H.get 3 rfl rfl⟩, ?_⟩ | refine ⟨⟨_, H.get 4 rfl rfl⟩, ?_⟩ | refine ⟨⟨_, H.get 5 rfl rfl⟩, ?_⟩ | refine ⟨⟨_, H.get 6 rfl rfl⟩, ?_⟩ | refine ⟨⟨_, H.get 7 rfl rfl⟩, ?_⟩)
      | (first | refine ⟨H.frz 0 rfl, ?_⟩ | refine ⟨H.frz 1 rfl, ?_⟩ | refine ⟨H.frz 2 rfl, ?_⟩ | refine ⟨H.frz 3 rfl, ?_⟩ | refine ⟨H.frz 4 rfl, ?_⟩ | refine ⟨H.frz 5 rfl, ?_⟩ | refine ⟨H.frz 6 rfl, ?_⟩ | refine ⟨H.frz 7 rfl, ?_⟩)
      | (first | refine ⟨_, H.get 0 rfl rfl, ?_⟩ | refine ⟨_, H.get 1 rfl rfl, ?_⟩ | refine ⟨_, H.get 2 rfl rfl, ?_⟩ | refine ⟨_, H.get 3 rfl rfl, ?_⟩ | refine ⟨_, H.get 4 rfl rfl, ?_⟩ | refine ⟨_, H.get 5 rfl rfl, ?_⟩ | refine ⟨_, H.get 6 rfl rfl, ?_⟩ | refine ⟨_, H.get 7 rfl rfl, ?_⟩)
      | (first | refine ⟨_, _, _, H.get 0 rfl rfl, ?_⟩ | refine ⟨_, _, _, H.get 1 rfl rfl, ?_⟩ | refine ⟨_, _, _, H.get 2 rfl rfl, ?_⟩ | refine ⟨_, _, _, H.get 3 rfl rfl, ?_⟩ | refine ⟨_, _, _, H.get 4 rfl rfl, ?_⟩ | refine ⟨_, _, _, H.get 5 rfl rfl, ?_⟩ | refine ⟨_, _, _, H.get 6 rfl rfl, ?_⟩ | refine ⟨_, _, _, H.get 7 rfl rfl, ?_⟩))
    refine (ltwo_ok 10 (ha.ext H.ext) (hb.ext H.ext)).mono ?_
    rintro e W ⟨cD, rfl, xD, eX⟩
    obtain ⟨pD, nD, dD, rfl, _⟩ := xD.six
    replace H := H.step eX
    refine ⟨_, _, _, _, _, _, _, _, rfl, ?_⟩
    refine (xEval_ok (twoE 10 a b) (hT.ext H.ext) (hT2.ext H.ext) (hc.ext H.ext) (hr.ext H.ext) xD hfit (FitX.mk2 fa fb)).mono ?_
    rintro e W ⟨rfl, eX⟩
    replace H := H.step eX
    refine ⟨_, _, _, _, rfl, ?_⟩
    repeat (first
      | (intro _ _ hS; replace H := H.new hS; clear hS)
      | (intro _ hS; replace H := H.step (Drew.ext hS); clear hS)
      | (intro _ hS; (first | replace H := H.put 0 rfl hS | replace H := H.put 1 rfl hS | replace H := H.put 2 rfl hS | replace H := H.put 3 rfl hS | replace H := H.put 4 rfl hS | replace H := H.put 5 rfl hS | replace H := H.put 6 rfl hS | replace H := H.put 7 rfl hS); clear hS; try simp only [setA, List.setIfInBounds_toArray, List.set_cons_zero, List.set_cons_succ, Nat.zero_add, Nat.reduceAdd] at H)
      | (first | refine ⟨⟨_, H.get 0 rfl rfl⟩, ?_⟩ | refine ⟨⟨_, H.get 1 rfl rfl⟩, ?_⟩ | refine ⟨⟨_, H.get 2 rfl rfl⟩, ?_⟩ | refine ⟨⟨_, H.get 3 rfl rfl⟩, ?_⟩ | refine ⟨⟨_, H.get 4 rfl rfl⟩, ?_⟩ | refine ⟨⟨_, H.get 5 rfl rfl⟩, ?_⟩ | refine ⟨⟨_, H.get 6 rfl rfl⟩, ?_⟩ | refine ⟨⟨_, H.get 7 rfl rfl⟩, ?_⟩)
      | (first | refine ⟨H.frz 0 rfl, ?_⟩ | refine ⟨H.frz 1 rfl, ?_⟩ | refine ⟨H.frz 2 rfl, ?_⟩ | refine ⟨H.frz 3 rfl, ?_⟩ | refine ⟨H.frz 4 rfl, ?_⟩ | refine ⟨H.frz 5 rfl, ?_⟩ | refine ⟨H.frz 6 rfl, ?_⟩ | refine ⟨H.frz 7 rfl, ?_⟩)
      | (first | refine ⟨_, H.get 0 rfl rfl, ?_⟩ | refine ⟨_, H.get 1 rfl rfl, ?_⟩ | refine ⟨_, H.get 2 rfl rfl, ?_⟩ | refine ⟨_, H.get 3 rfl rfl, ?_⟩ | refine ⟨_, H.get 4 rfl rfl, ?_⟩ | refine ⟨_, H.get 5 rfl rfl, ?_⟩ | refine ⟨_, H.get 6 rfl rfl, ?_⟩ | refine ⟨_, H.get 7 rfl rfl, ?_⟩)
      | (first | refine ⟨_, _, _, H.get 0 rfl rfl, ?_⟩ | refine ⟨_, _, _, H.get 1 rfl rfl, ?_⟩ | refine ⟨_, _, _, H.get 2 rfl rfl, ?_⟩ | refine ⟨_, _, _, H.get 3 rfl rfl, ?_⟩ | refine ⟨_, _, _, H.get 4 rfl rfl, ?_⟩ | refine ⟨_, _, _, H.get 5 rfl rfl, ?_⟩ | refine ⟨_, _, _, H.get 6 rfl rfl, ?_⟩ | refine ⟨_, _, _, H.get 7 rfl rfl, ?_⟩))
    refine (ltwo_ok 11 (hb.ext H.ext) (ha.ext H.ext)).mono ?_
    rintro e W ⟨cD, rfl, xD, eX⟩
    obtain ⟨pD, nD, dD, rfl, _⟩ := xD.six
    replace H := H.step eX
    refine ⟨_, _, _, _, _, _, _, _, rfl, ?_⟩
    refine (lone_ok 14 xD).mono ?_
    rintro e W ⟨cD, rfl, xD, eX⟩
    obtain ⟨pD, nD, dD, rfl, _⟩ := xD.six
    replace H := H.step eX
    refine ⟨_, _, _, _, _, _, _, _, rfl, ?_⟩
    refine (xEval_ok (oneE 14 (twoE 11 b a)) (hT.ext H.ext) (hT2.ext H.ext) (hc.ext H.ext) (hr.ext H.ext) xD hfit (FitX.mk1 (FitX.mk2 fb fa))).mono ?_
    rintro e W ⟨rfl, eX⟩
    replace H := H.step eX
    refine ⟨_, _, _, _, rfl, ?_⟩
    repeat (first
      | (intro _ _ hS; replace H := H.new hS; clear hS)
      | (intro _ hS; replace H := H.step (Drew.ext hS); clear hS)
      | (intro _ hS; (first | replace H := H.put 0 rfl hS | replace H := H.put 1 rfl hS | replace H := H.put 2 rfl hS | replace H := H.put 3 rfl hS | replace H := H.put 4 rfl hS | replace H := H.put 5 rfl hS | replace H := H.put 6 rfl hS | replace H := H.put 7 rfl hS); clear hS; try simp only [setA, List.setIfInBounds_toArray, List.set_cons_zero, List.set_cons_succ, Nat.zero_add, Nat.reduceAdd] at H)
      | (first | refine ⟨⟨_, H.get 0 rfl rfl⟩, ?_⟩ | refine ⟨⟨_, H.get 1 rfl rfl⟩, ?_⟩ | refine ⟨⟨_, H.get 2 rfl rfl⟩, ?_⟩ | refine ⟨⟨_, H.get 3 rfl rfl⟩, ?_⟩ | refine ⟨⟨_, H.get 4 rfl rfl⟩, ?_⟩ | refine ⟨⟨_, H.get 5 rfl rfl⟩, ?_⟩ | refine ⟨⟨_, H.get 6 rfl rfl⟩, ?_⟩ | refine ⟨⟨_, H.get 7 rfl rfl⟩, ?_⟩)
      | (first | refine ⟨H.frz 0 rfl, ?_⟩ | refine ⟨H.frz 1 rfl, ?_⟩ | refine ⟨H.frz 2 rfl, ?_⟩ | refine ⟨H.frz 3 rfl, ?_⟩ | refine ⟨H.frz 4 rfl, ?_⟩ | refine ⟨H.frz 5 rfl, ?_⟩ | refine ⟨H.frz 6 rfl, ?_⟩ | refine ⟨H.frz 7 rfl, ?_⟩)
      | (first | refine ⟨_, H.get 0 rfl rfl, ?_⟩ | refine ⟨_, H.get 1 rfl rfl, ?_⟩ | refine ⟨_, H.get 2 rfl rfl, ?_⟩ | refine ⟨_, H.get 3 rfl rfl, ?_⟩ | refine ⟨_, H.get 4 rfl rfl, ?_⟩ | refine ⟨_, H.get 5 rfl rfl, ?_⟩ | refine ⟨_, H.get 6 rfl rfl, ?_⟩ | refine ⟨_, H.get 7 rfl rfl, ?_⟩)
      | (first | refine ⟨_, _, _, H.get 0 rfl rfl, ?_⟩ | refine ⟨_, _, _, H.get 1 rfl rfl, ?_⟩ | refine ⟨_, _, _, H.get 2 rfl rfl, ?_⟩ | refine ⟨_, _, _, H.get 3 rfl rfl, ?_⟩ | refine ⟨_, _, _, H.get 4 rfl rfl, ?_⟩ | refine ⟨_, _, _, H.get 5 rfl rfl, ?_⟩ | refine ⟨_, _, _, H.get 6 rfl rfl, ?_⟩ | refine ⟨_, _, _, H.get 7 rfl rfl, ?_⟩))
    rcases less with ⟨k1, k2, k3⟩ | hk
    · refine ⟨fun h => by omega, fun _ => ⟨fun _ => ?_, fun h => by cases h⟩⟩
      repeat (first
        | (intro _ _ hS; replace H := H.new hS; clear hS)
        | (intro _ hS; replace H := H.step (Drew.ext hS); clear hS)
        | (intro _ hS; (first | replace H := H.put 0 rfl hS | replace H := H.put 1 rfl hS | replace H := H.put 2 rfl hS | replace H := H.put 3 rfl hS | replace H := H.put 4 rfl hS | replace H := H.put 5 rfl hS | replace H := H.put 6 rfl hS | replace H := H.put 7 rfl hS); clear hS; try simp only [setA, List.setIfInBounds_toArray, List.set_cons_zero, List.set_cons_succ, Nat.zero_add, Nat.reduceAdd] at H)
        | (first | refine ⟨⟨_, H.get 0 rfl rfl⟩, ?_⟩ | refine ⟨⟨_, H.get 1 rfl rfl⟩, ?_⟩ | refine ⟨⟨_, H.get 2 rfl rfl⟩, ?_⟩ | refine ⟨⟨_, H.get 3 rfl rfl⟩, ?_⟩ | refine ⟨⟨_, H.get 4 rfl rfl⟩, ?_⟩ | refine ⟨⟨_, H.get 5 rfl rfl⟩, ?_⟩ | refine ⟨⟨_, H.get 6 rfl rfl⟩, ?_⟩ | refine ⟨⟨_, H.get 7 rfl rfl⟩, ?_⟩)
        | (first | refine ⟨H.frz 0 rfl, ?_⟩ | refine ⟨H.frz 1 rfl, ?_⟩ | refine ⟨H.frz 2 rfl, ?_⟩ | refine ⟨H.frz 3 rfl, ?_⟩ | refine ⟨H.frz 4 rfl, ?_⟩ | refine ⟨H.frz 5 rfl, ?_⟩ | refine ⟨H.frz 6 rfl, ?_⟩ | refine ⟨H.frz 7 rfl, ?_⟩)
        | (first | refine ⟨_, H.get 0 rfl rfl, ?_⟩ | refine ⟨_, H.get 1 rfl rfl, ?_⟩ | refine ⟨_, H.get 2 rfl rfl, ?_⟩ | refine ⟨_, H.get 3 rfl rfl, ?_⟩ | refine ⟨_, H.get 4 rfl rfl, ?_⟩ | refine ⟨_, H.get 5 rfl rfl, ?_⟩ | refine ⟨_, H.get 6 rfl rfl, ?_⟩ | refine ⟨_, H.get 7 rfl rfl, ?_⟩)
        | (first | refine ⟨_, _, _, H.get 0 rfl rfl, ?_⟩ | refine ⟨_, _, _, H.get 1 rfl rfl, ?_⟩ | refine ⟨_, _, _, H.get 2 rfl rfl, ?_⟩ | refine ⟨_, _, _, H.get 3 rfl rfl, ?_⟩ | refine ⟨_, _, _, H.get 4 rfl rfl, ?_⟩ | refine ⟨_, _, _, H.get 5 rfl rfl, ?_⟩ | refine ⟨_, _, _, H.get 6 rfl rfl, ?_⟩ | refine ⟨_, _, _, H.get 7 rfl rfl, ?_⟩))
      refine ⟨?_, H.ext⟩
      rw [k3]
      simp [sEq_self]
    · refine ⟨fun _ => ⟨fun _ => ⟨?_, H.ext⟩, fun h => by cases h⟩, fun h => ?_⟩
      · rcases hk with ⟨k1, k2⟩ | k1 | k1
        · simp [k1, k2]
        · simp [k1]
        · simp [k1]
      · exfalso; omega)
end Go.Proofs.YtdephmdfdgclpaaDoor

/- The contract of ExprSwaps. -/
namespace Go.Proofs.YtdephmdfdgclpaaDoor
open Go Go.Vc Go.RowKit
attribute [local irreducible] Calls

theorem five_ops {j : Nat} (h : j < 5) : ∃ o : Int, (#[.int .i64 3, .int .i64 5, .int .i64 9, .int .i64 12, .int .i64 13] : Array Value)[0 + ((j : Nat) : Int).toNat]? = some (.int .i64 o) ∧ (o = 3 ∨ o = 5 ∨ o = 9 ∨ o = 12 ∨ o = 13) := by
  rcases (by omega : j = 0 ∨ j = 1 ∨ j = 2 ∨ j = 3 ∨ j = 4) with rfl | rfl | rfl | rfl | rfl
  · exact ⟨3, rfl, by decide⟩
  · exact ⟨5, rfl, by decide⟩
  · exact ⟨9, rfl, by decide⟩
  · exact ⟨12, rfl, by decide⟩
  · exact ⟨13, rfl, by decide⟩

set_option maxHeartbeats 4000000 in
theorem lawSwaps_ok (a b : Ex) {w : World} {p rp : Option Addr} {n c rn rc : Nat} {cols : List Col} {row : List Val} {ca cb : List Value} (hT : Tab w) (hT2 : Tab2 w) (hc : Cols w p n c cols) (hr : Vs w rp rn rc row) (ha : ExAt w a ca) (hb : ExAt w b cb)
    (hfit : FitR row) (fa : FitX a) (fb : FitX b) :
    Calls Tryd.prog 9 #[.slice p n c, .slice rp rn rc, .agg ca.toArray, .agg cb.toArray] w fun e w' => e = .returned (.bool true) ∧ Ext w w' := by
  obtain ⟨pa, na, da, rfl, _⟩ := ha.six
  obtain ⟨pb, nb, db, rfl, _⟩ := hb.six
  apply lawSwaps_vc
  unfold lawSwaps_T
  intro b1 w2 h1 b4 w5 h4
  have H := ((Hold.start (Ext.rfl (w := w))).new h1).new h4
  refine (shown_ok (hT.ext H.ext) (hT2.ext H.ext)).mono ?_
  rintro e W ⟨rfl, eS⟩
  replace H := H.step eS
  refine ⟨_, rfl, ?_⟩
  repeat (first
    | (intro _ _ hS; replace H := H.new hS; clear hS)
    | (intro _ hS; replace H := H.step (Drew.ext hS); clear hS)
    | (intro _ hS; (first | replace H := H.put 0 rfl hS | replace H := H.put 1 rfl hS | replace H := H.put 2 rfl hS | replace H := H.put 3 rfl hS | replace H := H.put 4 rfl hS | replace H := H.put 5 rfl hS | replace H := H.put 6 rfl hS | replace H := H.put 7 rfl hS); clear hS; try simp only [setA, List.setIfInBounds_toArray, List.set_cons_zero, List.set_cons_succ, Nat.zero_add, Nat.reduceAdd] at H)
    | (first | refine ⟨⟨_, H.get 0 rfl rfl⟩, ?_⟩ | refine ⟨⟨_, H.get 1 rfl rfl⟩, ?_⟩ | refine ⟨⟨_, H.get 2 rfl rfl⟩, ?_⟩ | refine ⟨⟨_, H.get 3 rfl rfl⟩, ?_⟩ | refine ⟨⟨_, H.get 4 rfl rfl⟩, ?_⟩ | refine ⟨⟨_, H.get 5 rfl rfl⟩, ?_⟩ | refine ⟨⟨_, H.get 6 rfl rfl⟩, ?_⟩ | refine ⟨⟨_, H.get 7 rfl rfl⟩, ?_⟩)
    | (first | refine ⟨H.frz 0 rfl, ?_⟩ | refine ⟨H.frz 1 rfl, ?_⟩ | refine ⟨H.frz 2 rfl, ?_⟩ | refine ⟨H.frz 3 rfl, ?_⟩ | refine ⟨H.frz 4 rfl, ?_⟩ | refine ⟨H.frz 5 rfl, ?_⟩ | refine ⟨H.frz 6 rfl, ?_⟩ | refine ⟨H.frz 7 rfl, ?_⟩)
    | (first | refine ⟨_, H.get 0 rfl rfl, ?_⟩ | refine ⟨_, H.get 1 rfl rfl, ?_⟩ | refine ⟨_, H.get 2 rfl rfl, ?_⟩ | refine ⟨_, H.get 3 rfl rfl, ?_⟩ | refine ⟨_, H.get 4 rfl rfl, ?_⟩ | refine ⟨_, H.get 5 rfl rfl, ?_⟩ | refine ⟨_, H.get 6 rfl rfl, ?_⟩ | refine ⟨_, H.get 7 rfl rfl, ?_⟩)
    | (first | refine ⟨_, _, _, H.get 0 rfl rfl, ?_⟩ | refine ⟨_, _, _, H.get 1 rfl rfl, ?_⟩ | refine ⟨_, _, _, H.get 2 rfl rfl, ?_⟩ | refine ⟨_, _, _, H.get 3 rfl rfl, ?_⟩ | refine ⟨_, _, _, H.get 4 rfl rfl, ?_⟩ | refine ⟨_, _, _, H.get 5 rfl rfl, ?_⟩ | refine ⟨_, _, _, H.get 6 rfl rfl, ?_⟩ | refine ⟨_, _, _, H.get 7 rfl rfl, ?_⟩))
  refine (xEval_ok a (hT.ext H.ext) (hT2.ext H.ext) (hc.ext H.ext) (hr.ext H.ext) (ha.ext H.ext) hfit fa).mono ?_
  rintro e W ⟨rfl, eS⟩
  replace H := H.step eS
  refine ⟨_, _, _, _, rfl, ?_⟩
  repeat (first
    | (intro _ _ hS; replace H := H.new hS; clear hS)
    | (intro _ hS; replace H := H.step (Drew.ext hS); clear hS)
    | (intro _ hS; (first | replace H := H.put 0 rfl hS | replace H := H.put 1 rfl hS | replace H := H.put 2 rfl hS | replace H := H.put 3 rfl hS | replace H := H.put 4 rfl hS | replace H := H.put 5 rfl hS | replace H := H.put 6 rfl hS | replace H := H.put 7 rfl hS); clear hS; try simp only [setA, List.setIfInBounds_toArray, List.set_cons_zero, List.set_cons_succ, Nat.zero_add, Nat.reduceAdd] at H)
    | (first | refine ⟨⟨_, H.get 0 rfl rfl⟩, ?_⟩ | refine ⟨⟨_, H.get 1 rfl rfl⟩, ?_⟩ | refine ⟨⟨_, H.get 2 rfl rfl⟩, ?_⟩ | refine ⟨⟨_, H.get 3 rfl rfl⟩, ?_⟩ | refine ⟨⟨_, H.get 4 rfl rfl⟩, ?_⟩ | refine ⟨⟨_, H.get 5 rfl rfl⟩, ?_⟩ | refine ⟨⟨_, H.get 6 rfl rfl⟩, ?_⟩ | refine ⟨⟨_, H.get 7 rfl rfl⟩, ?_⟩)
    | (first | refine ⟨H.frz 0 rfl, ?_⟩ | refine ⟨H.frz 1 rfl, ?_⟩ | refine ⟨H.frz 2 rfl, ?_⟩ | refine ⟨H.frz 3 rfl, ?_⟩ | refine ⟨H.frz 4 rfl, ?_⟩ | refine ⟨H.frz 5 rfl, ?_⟩ | refine ⟨H.frz 6 rfl, ?_⟩ | refine ⟨H.frz 7 rfl, ?_⟩)
    | (first | refine ⟨_, H.get 0 rfl rfl, ?_⟩ | refine ⟨_, H.get 1 rfl rfl, ?_⟩ | refine ⟨_, H.get 2 rfl rfl, ?_⟩ | refine ⟨_, H.get 3 rfl rfl, ?_⟩ | refine ⟨_, H.get 4 rfl rfl, ?_⟩ | refine ⟨_, H.get 5 rfl rfl, ?_⟩ | refine ⟨_, H.get 6 rfl rfl, ?_⟩ | refine ⟨_, H.get 7 rfl rfl, ?_⟩)
    | (first | refine ⟨_, _, _, H.get 0 rfl rfl, ?_⟩ | refine ⟨_, _, _, H.get 1 rfl rfl, ?_⟩ | refine ⟨_, _, _, H.get 2 rfl rfl, ?_⟩ | refine ⟨_, _, _, H.get 3 rfl rfl, ?_⟩ | refine ⟨_, _, _, H.get 4 rfl rfl, ?_⟩ | refine ⟨_, _, _, H.get 5 rfl rfl, ?_⟩ | refine ⟨_, _, _, H.get 6 rfl rfl, ?_⟩ | refine ⟨_, _, _, H.get 7 rfl rfl, ?_⟩))
  refine (xEval_ok b (hT.ext H.ext) (hT2.ext H.ext) (hc.ext H.ext) (hr.ext H.ext) (hb.ext H.ext) hfit fb).mono ?_
  rintro e W ⟨rfl, eS⟩
  replace H := H.step eS
  refine ⟨_, _, _, _, rfl, ?_⟩
  repeat (first
    | (intro _ _ hS; replace H := H.new hS; clear hS)
    | (intro _ hS; replace H := H.step (Drew.ext hS); clear hS)
    | (intro _ hS; (first | replace H := H.put 0 rfl hS | replace H := H.put 1 rfl hS | replace H := H.put 2 rfl hS | replace H := H.put 3 rfl hS | replace H := H.put 4 rfl hS | replace H := H.put 5 rfl hS | replace H := H.put 6 rfl hS | replace H := H.put 7 rfl hS); clear hS; try simp only [setA, List.setIfInBounds_toArray, List.set_cons_zero, List.set_cons_succ, Nat.zero_add, Nat.reduceAdd] at H)
    | (first | refine ⟨⟨_, H.get 0 rfl rfl⟩, ?_⟩ | refine ⟨⟨_, H.get 1 rfl rfl⟩, ?_⟩ | refine ⟨⟨_, H.get 2 rfl rfl⟩, ?_⟩ | refine ⟨⟨_, H.get 3 rfl rfl⟩, ?_⟩ | refine ⟨⟨_, H.get 4 rfl rfl⟩, ?_⟩ | refine ⟨⟨_, H.get 5 rfl rfl⟩, ?_⟩ | refine ⟨⟨_, H.get 6 rfl rfl⟩, ?_⟩ | refine ⟨⟨_, H.get 7 rfl rfl⟩, ?_⟩)
    | (first | refine ⟨H.frz 0 rfl, ?_⟩ | refine ⟨H.frz 1 rfl, ?_⟩ | refine ⟨H.frz 2 rfl, ?_⟩ | refine ⟨H.frz 3 rfl, ?_⟩ | refine ⟨H.frz 4 rfl, ?_⟩ | refine ⟨H.frz 5 rfl, ?_⟩ | refine ⟨H.frz 6 rfl, ?_⟩ | refine ⟨H.frz 7 rfl, ?_⟩)
    | (first | refine ⟨_, H.get 0 rfl rfl, ?_⟩ | refine ⟨_, H.get 1 rfl rfl, ?_⟩ | refine ⟨_, H.get 2 rfl rfl, ?_⟩ | refine ⟨_, H.get 3 rfl rfl, ?_⟩ | refine ⟨_, H.get 4 rfl rfl, ?_⟩ | refine ⟨_, H.get 5 rfl rfl, ?_⟩ | refine ⟨_, H.get 6 rfl rfl, ?_⟩ | refine ⟨_, H.get 7 rfl rfl, ?_⟩)
    | (first | refine ⟨_, _, _, H.get 0 rfl rfl, ?_⟩ | refine ⟨_, _, _, H.get 1 rfl rfl, ?_⟩ | refine ⟨_, _, _, H.get 2 rfl rfl, ?_⟩ | refine ⟨_, _, _, H.get 3 rfl rfl, ?_⟩ | refine ⟨_, _, _, H.get 4 rfl rfl, ?_⟩ | refine ⟨_, _, _, H.get 5 rfl rfl, ?_⟩ | refine ⟨_, _, _, H.get 6 rfl rfl, ?_⟩ | refine ⟨_, _, _, H.get 7 rfl rfl, ?_⟩))
  replace H := H.tail.tail
  refine ⟨fun _ => ⟨rfl, H.ext⟩, fun hok => ?_⟩
  intro b56 w57 h57
  replace H := H.new h57
  refine ⟨fun i W => ∃ j : Nat, i = (j : Int) ∧ j ≤ 5 ∧ Hold w W [(b56, .cells #[.int .i64 3, .int .i64 5, .int .i64 9, .int .i64 12, .int .i64 13] 3 (0, 0)),
    (b4, .cells #[.int .i64 b.op, .string b.name, .int .i64 b.v.k, .int .i64 b.v.n, .string b.v.s, .slice pb nb db] 29 (0, 0)),
    (b1, .cells #[.int .i64 a.op, .string a.name, .int .i64 a.v.k, .int .i64 a.v.n, .string a.v.s, .slice pa na da] 29 (0, 0))] [], fun i _ => 5 - i.toNat, ⟨0, rfl, Nat.zero_le _, H⟩, ?_⟩
  rintro i W ⟨j, rfl, hj, H⟩
  refine ⟨fun hlt => ?_, fun _ => ⟨rfl, H.ext⟩⟩
  intro w65 hS
  replace H := H.step (Drew.ext hS)
  obtain ⟨o, ho, hop⟩ := five_ops (j := j) (by omega)
  have law : evalF cols row (twoE o a b) = evalF cols row (twoE o b a) := swaps_law hop hok.1 hok.2 hfit fa fb
  refine ⟨b56, 0, rfl, by omega, hlt, o, H.get 0 rfl ho, ?_⟩
  repeat (first
    | (intro _ _ hS; replace H := H.new hS; clear hS)
    | (intro _ hS; replace H := H.step (Drew.ext hS); clear hS)
    | (intro _ hS; (first | replace H := H.put 0 rfl hS | replace H := H.put 1 rfl hS | replace H := H.put 2 rfl hS | replace H := H.put 3 rfl hS | replace H := H.put 4 rfl hS | replace H := H.put 5 rfl hS | replace H := H.put 6 rfl hS | replace H := H.put 7 rfl hS); clear hS; try simp only [setA, List.setIfInBounds_toArray, List.set_cons_zero, List.set_cons_succ, Nat.zero_add, Nat.reduceAdd] at H)
    | (first | refine ⟨⟨_, H.get 0 rfl rfl⟩, ?_⟩ | refine ⟨⟨_, H.get 1 rfl rfl⟩, ?_⟩ | refine ⟨⟨_, H.get 2 rfl rfl⟩, ?_⟩ | refine ⟨⟨_, H.get 3 rfl rfl⟩, ?_⟩ | refine ⟨⟨_, H.get 4 rfl rfl⟩, ?_⟩ | refine ⟨⟨_, H.get 5 rfl rfl⟩, ?_⟩ | refine ⟨⟨_, H.get 6 rfl rfl⟩, ?_⟩ | refine ⟨⟨_, H.get 7 rfl rfl⟩, ?_⟩)
    | (first | refine ⟨H.frz 0 rfl, ?_⟩ | refine ⟨H.frz 1 rfl, ?_⟩ | refine ⟨H.frz 2 rfl, ?_⟩ | refine ⟨H.frz 3 rfl, ?_⟩ | refine ⟨H.frz 4 rfl, ?_⟩ | refine ⟨H.frz 5 rfl, ?_⟩ | refine ⟨H.frz 6 rfl, ?_⟩ | refine ⟨H.frz 7 rfl, ?_⟩)
    | (first | refine ⟨_, H.get 0 rfl rfl, ?_⟩ | refine ⟨_, H.get 1 rfl rfl, ?_⟩ | refine ⟨_, H.get 2 rfl rfl, ?_⟩ | refine ⟨_, H.get 3 rfl rfl, ?_⟩ | refine ⟨_, H.get 4 rfl rfl, ?_⟩ | refine ⟨_, H.get 5 rfl rfl, ?_⟩ | refine ⟨_, H.get 6 rfl rfl, ?_⟩ | refine ⟨_, H.get 7 rfl rfl, ?_⟩)
    | (first | refine ⟨_, _, _, H.get 0 rfl rfl, ?_⟩ | refine ⟨_, _, _, H.get 1 rfl rfl, ?_⟩ | refine ⟨_, _, _, H.get 2 rfl rfl, ?_⟩ | refine ⟨_, _, _, H.get 3 rfl rfl, ?_⟩ | refine ⟨_, _, _, H.get 4 rfl rfl, ?_⟩ | refine ⟨_, _, _, H.get 5 rfl rfl, ?_⟩ | refine ⟨_, _, _, H.get 6 rfl rfl, ?_⟩ | refine ⟨_, _, _, H.get 7 rfl rfl, ?_⟩))
  have xC : True := trivial
  have xD : True := trivial
  repeat' (first
    | (refine And.intro ?_ (fun _ _ hS => ?_)
       rotate_left
       have eX := hS.ext; replace H := H.new hS; (try replace xC := xC.ext eX); (try replace xD := xD.ext eX)
       try refine ⟨eX.same, ?_⟩
       rotate_left)
    | (intro _ _ hS
       have eX := hS.ext; replace H := H.new hS; (try replace xC := xC.ext eX); (try replace xD := xD.ext eX)
       try refine ⟨eX.same, ?_⟩)
    | (intro _ hS
       replace H := H.step (Drew.ext hS)
       refine ⟨b56, 0, rfl, by omega, hlt, o, ?_, ?_⟩
       first | exact H.get 0 rfl ho | exact H.get 1 rfl ho | exact H.get 2 rfl ho)
    | (refine (ltwo_ok o (ha.ext H.ext) (hb.ext H.ext)).mono ?_
       rintro e W ⟨cC, rfl, xC, eX⟩
       obtain ⟨pC, nC, dC, rfl, _⟩ := xC.six
       replace H := H.step eX
       refine ⟨_, _, _, _, _, _, _, _, rfl, ?_⟩
       try refine ⟨eX.same, ?_⟩)
    | (refine (ltwo_ok o (hb.ext H.ext) (ha.ext H.ext)).mono ?_
       rintro e W ⟨cD, rfl, xD, eX⟩
       obtain ⟨pD, nD, dD, rfl, _⟩ := xD.six
       replace H := H.step eX
       refine ⟨_, _, _, _, _, _, _, _, rfl, ?_⟩
       try refine ⟨eX.same, ?_⟩)
    | (refine (xEval_ok (twoE o a b) (hT.ext H.ext) (hT2.ext H.ext) (hc.ext H.ext) (hr.ext H.ext) xC hfit (FitX.mk2 fa fb)).mono ?_
       rintro e W ⟨rfl, eX⟩
       replace H := H.step eX
       refine ⟨_, _, _, _, rfl, ?_⟩
       try refine ⟨eX.same, ?_⟩)
    | (refine (xEval_ok (twoE o b a) (hT.ext H.ext) (hT2.ext H.ext) (hc.ext H.ext) (hr.ext H.ext) xD hfit (FitX.mk2 fb fa)).mono ?_
       rintro e W ⟨rfl, eX⟩
       replace H := H.step eX
       refine ⟨_, _, _, _, rfl, ?_⟩
       try refine ⟨eX.same, ?_⟩)
    | (first | refine And.intro ⟨_, H.get 0 rfl rfl⟩ ?_ | refine And.intro ⟨_, H.get 1 rfl rfl⟩ ?_)
    | (first | refine And.intro (H.frz 0 rfl) ?_ | refine And.intro (H.frz 1 rfl) ?_)
    | (intro _ hS; (first | replace H := H.put 0 rfl hS | replace H := H.put 1 rfl hS)
       try simp only [setA, List.setIfInBounds_toArray, List.set_cons_zero, List.set_cons_succ, Nat.zero_add, Nat.reduceAdd] at H)
    | (first | refine ⟨_, H.get 0 rfl rfl, ?_⟩ | refine ⟨_, H.get 1 rfl rfl, ?_⟩ | refine ⟨_, H.get 2 rfl rfl, ?_⟩ | refine ⟨_, H.get 3 rfl rfl, ?_⟩ | refine ⟨_, H.get 4 rfl rfl, ?_⟩)
    | (first | refine ⟨_, _, _, H.get 2 rfl rfl, ?_⟩ | refine ⟨_, _, _, H.get 3 rfl rfl, ?_⟩ | refine ⟨_, _, _, H.get 4 rfl rfl, ?_⟩))
  all_goals (
    rw [law]
    refine ⟨fun h => ?_, fun _ => ?_⟩
    · exfalso; simp at h
    · rw [i64_next (by omega)]
      exact ⟨⟨j + 1, rfl, by omega, H.tail.tail⟩, by simp only [Int.toNat_natCast]; omega⟩)
end Go.Proofs.YtdephmdfdgclpaaDoor

/- The walks of law10's statements that speak of the program alone, out of the arguments as they are handed in. -/
namespace Go.Proofs.YtdephmdfdgclpaaDoor
open Go Go.Vc Go.RowKit

theorem kinds_walk (W : World) (hT : Tab W ∧ Tab2 W) (v0 v1 : Value) (cs2 : Array Value) (a0 : Arg Tryd.prog W 22 [v0]) (a1 : Arg Tryd.prog W 24 [v1]) (a2 : Arg Tryd.prog W 29 cs2.toList) :
    Calls Tryd.prog 7 #[v0, v1, .agg cs2] W fun e w' => e = .returned (.bool true) ∧ Ext W w' := by
  obtain ⟨p, n, c, cols, rfl, hc, hs⟩ := arg_cols a0
  obtain ⟨rp, rn, rc, row, rfl, hr, hf⟩ := arg_row a1
  obtain ⟨x, hx, hxf⟩ := arg_expr a2
  exact lawKinds_ok x hT.1 hT.2 hc (fun y hy => by have := hs y hy; omega) hr hx (fun u hu => (hf u hu).2) hxf
theorem turns_walk (W : World) (hT : Tab W ∧ Tab2 W) (v0 v1 : Value) (cs2 cs3 : Array Value) (a0 : Arg Tryd.prog W 22 [v0]) (a1 : Arg Tryd.prog W 24 [v1]) (a2 : Arg Tryd.prog W 29 cs2.toList) (a3 : Arg Tryd.prog W 29 cs3.toList) :
    Calls Tryd.prog 8 #[v0, v1, .agg cs2, .agg cs3] W fun e w' => e = .returned (.bool true) ∧ Ext W w' := by
  obtain ⟨p, n, c, cols, rfl, hc, hs⟩ := arg_cols a0
  obtain ⟨rp, rn, rc, row, rfl, hr, hf⟩ := arg_row a1
  obtain ⟨x, hx, hxf⟩ := arg_expr a2
  obtain ⟨y, hy, hyf⟩ := arg_expr a3
  exact lawTurns_ok x y hT.1 hT.2 hc hr hx hy (fun u hu => (hf u hu).2) hxf hyf
theorem swaps_walk (W : World) (hT : Tab W ∧ Tab2 W) (v0 v1 : Value) (cs2 cs3 : Array Value) (a0 : Arg Tryd.prog W 22 [v0]) (a1 : Arg Tryd.prog W 24 [v1]) (a2 : Arg Tryd.prog W 29 cs2.toList) (a3 : Arg Tryd.prog W 29 cs3.toList) :
    Calls Tryd.prog 9 #[v0, v1, .agg cs2, .agg cs3] W fun e w' => e = .returned (.bool true) ∧ Ext W w' := by
  obtain ⟨p, n, c, cols, rfl, hc, hs⟩ := arg_cols a0
  obtain ⟨rp, rn, rc, row, rfl, hr, hf⟩ := arg_row a1
  obtain ⟨x, hx, hxf⟩ := arg_expr a2
  obtain ⟨y, hy, hyf⟩ := arg_expr a3
  exact lawSwaps_ok x y hT.1 hT.2 hc hr hx hy (fun u hu => (hf u hu).2) hxf hyf
theorem orders_walk (W : World) (hT : Tab W ∧ Tab2 W) (v0 v1 : Value) (cs2 cs3 : Array Value) (a0 : Arg Tryd.prog W 22 [v0]) (a1 : Arg Tryd.prog W 24 [v1]) (a2 : Arg Tryd.prog W 29 cs2.toList) (a3 : Arg Tryd.prog W 29 cs3.toList) :
    Calls Tryd.prog 10 #[v0, v1, .agg cs2, .agg cs3] W fun e w' => e = .returned (.bool true) ∧ Ext W w' := by
  obtain ⟨p, n, c, cols, rfl, hc, hs⟩ := arg_cols a0
  obtain ⟨rp, rn, rc, row, rfl, hr, hf⟩ := arg_row a1
  obtain ⟨x, hx, hxf⟩ := arg_expr a2
  obtain ⟨y, hy, hyf⟩ := arg_expr a3
  exact lawOrders_ok x y hT.1 hT.2 hc hr hx hy (fun u hu => (hf u hu).2) hxf hyf
end Go.Proofs.YtdephmdfdgclpaaDoor

/- Three closed facts of the seat's program, asked once: they want much memory. -/
namespace Go.Proofs.YtdephmdfdgclpaaDoor
set_option maxRecDepth 100000 in
theorem Tryd.entersB : (Tryd.prog.mayEnter && (false == Tryd.prog.liftsFinal) && (Tryd.prog.make == some .cut)) = true := by kernel_rfl
theorem Tryd.enters : Tryd.prog.mayEnter = true ∧ Tryd.prog.liftsFinal = false ∧ Tryd.prog.make = some .cut := by
  have h := Tryd.entersB
  simp only [Bool.and_eq_true, beq_iff_eq] at h
  exact ⟨h.1.1, h.1.2.symm, h.2⟩
end Go.Proofs.YtdephmdfdgclpaaDoor
