/- An expression that has a kind has a value of that kind, or null, or one of two errors. Plain Lean, no program. -/
import Derived.Test.YtdephmdfdgclpaaDoorEv0
namespace Go.Vc
open Go Go.RowKit

theorem self_node (x : Ex) : x ∈ nodesT x := by cases x; unfold nodesT; exact List.mem_cons_self
theorem nodesTs_mem : ∀ {l : List Ex} {i : Nat} {k y : Ex}, l[i]? = some k → y ∈ nodesT k → y ∈ nodesTs l
  | [], i, k, y, h, _ => by simp at h
  | x :: r, i, k, y, h, hy => by
    unfold nodesTs
    cases i with
    | zero => cases h; exact List.mem_append_left _ hy
    | succ i => exact List.mem_append_right _ (nodesTs_mem (i := i) (by simpa using h) hy)
theorem kid_node {x k y : Ex} {i : Nat} (h : x.kids[i]? = some k) (hy : y ∈ nodesT k) : y ∈ nodesT x := by
  cases x; unfold nodesT; exact List.mem_cons_of_mem _ (nodesTs_mem h hy)
theorem kid_depth {x k : Ex} {i : Nat} (h : x.kids[i]? = some k) : depthT k + 1 ≤ depthT x := by
  have := depthTs_get h
  obtain ⟨o, n, v, ks⟩ := x
  have e : depthT (.mk o n v ks) = 1 + depthTs ks := by rw [depthT]
  simp only [Ex.kids] at this
  omega

/-- A value of kind k (or null), or an error. -/
def GoodV (k : Int) (v : Val) : Prop := v.Ok ∧ fitI v.n ∧ (v.k = 0 ∨ v.k = k)
def Good (k : Int) (q : Val × Int) : Prop := (q.2 = 0 ∧ GoodV k q.1) ∨ ((q.2 = 100 ∨ q.2 = 101) ∧ q.1 = nullV)
theorem null_ok : nullV.Ok := .inl ⟨rfl, rfl, rfl⟩
theorem GoodV.null (k : Int) : GoodV k nullV := ⟨null_ok, by unfold fitI nullV; decide, .inl rfl⟩
theorem GoodV.truth (b : Bool) : GoodV 2 (truthV b) := by
  refine ⟨.inr (.inr (.inl ⟨rfl, ?_, rfl⟩)), ?_, .inr rfl⟩
  · cases b
    · exact .inl rfl
    · exact .inr rfl
  · cases b <;> (unfold fitI truthV; decide)
theorem GoodV.num {n : Int} (h : fitI n) : GoodV 1 (numV n) := ⟨.inr (.inl ⟨rfl, rfl⟩), h, .inr rfl⟩
theorem GoodV.answer (n : Int) : GoodV 2 (answerV n) := by
  unfold answerV
  split
  · exact .null 2
  · exact .truth _
theorem GoodV.trio {v : Val} (h : GoodV 2 v) : 0 ≤ thirdI v ∧ thirdI v < 3 := by
  obtain ⟨ho, _, hk⟩ := h
  unfold thirdI
  unfold Val.Ok at ho
  split
  · omega
  · rcases ho with ho | ho | ho | ho <;> omega
theorem overF_spec (x : Int) : ((overF x).2 = 0 ∧ fitI (overF x).1) ∨ (overF x).2 = 100 := by
  unfold overF
  split
  · exact .inl ⟨rfl, ‹_›⟩
  · exact .inr rfl
theorem arithF_spec (op a b : Int) (hb : fitI b) : ((arithF op a b).2 = 0 ∧ fitI (arithF op a b).1) ∨ (arithF op a b).2 = 100 ∨ (arithF op a b).2 = 101 := by
  have z : fitI 0 := by unfold fitI; decide
  unfold arithF
  split
  · exact .inr (.inr rfl)
  · rename_i h0
    split
    · rcases overF_spec (a + b) with h | h
      · exact .inl h
      · exact .inr (.inl h)
    · split
      · rcases overF_spec (a - b) with h | h
        · exact .inl h
        · exact .inr (.inl h)
      · split
        · rcases overF_spec (a * b) with h | h
          · exact .inl h
          · exact .inr (.inl h)
        · split
          · rcases overF_spec (a.tdiv b) with h | h
            · exact .inl h
            · exact .inr (.inl h)
          · split
            · exact .inl ⟨rfl, tmod_fit hb (by omega)⟩
            · exact .inl ⟨rfl, z⟩
theorem pairF_arith {op : Int} (h12 : op ≠ 12) (h13 : op ≠ 13) (h9 : op ≠ 9) (h10 : op ≠ 10) (h11 : op ≠ 11) (a b : Val) (hb : fitI b.n) : Good 1 (pairF op a b) := by
  unfold pairF
  rw [if_neg h12, if_neg h13]
  by_cases hz : a.k = 0 ∨ b.k = 0
  · rw [if_pos hz]; exact .inl ⟨rfl, .null 1⟩
  · rw [if_neg hz, if_neg h9, if_neg h10, if_neg h11]
    split
    · rename_i he
      rcases arithF_spec op a.n b.n hb with h | h
      · exact absurd h.1 he
      · exact .inr ⟨h, rfl⟩
    · rename_i he
      rcases arithF_spec op a.n b.n hb with h | h
      · exact .inl ⟨rfl, .num h.2⟩
      · exfalso; omega

theorem alike_want {g w : Int} (h : alikeB g w = true) (hw : w ≠ 0) : g = w ∨ g = 0 := by
  unfold alikeB at h
  simp only [Bool.or_eq_true, decide_eq_true_eq] at h
  omega
/-- One node, its kids being reckoned. -/
theorem node_good {cols : List Col} {row : List Val} {op : Int} {name : ByteArray} {v : Val} {l : List Int} {vl : List Val} (hm : (vl.length : Int) = manyOf op) (hl : l.length = vl.length) (hv : v.Ok) (hvn : fitI v.n)
    (hrel : ∀ (i : Nat) g u, l[i]? = some g → vl[i]? = some u → GoodV g u) (hk : (kindN cols op name v l).2 = 0) (hf : fitsL cols row = true) (hr : ∀ u ∈ row, fitI u.n) :
    Good (kindN cols op name v l).1 (valueN cols row op name v vl) ∧ (op = 12 ∨ op = 13 → (∀ u ∈ vl, GoodV 2 u)) ∧ (op = 1 → 0 ≤ findC cols name ∧ findC cols name < (row.length : Int)) := by
  have hop := many_range (op := op) (by omega)
  have hrel' : ∀ u ∈ vl, wantOf op ≠ 0 → GoodV (wantOf op) u := by
    intro u hu hw
    obtain ⟨i, hi⟩ := List.mem_iff_getElem?.1 hu
    have hi' : i < l.length := by rw [hl]; exact (List.getElem?_eq_some_iff.1 hi).1
    obtain ⟨h1, h2, h3⟩ := hrel i l[i] u (List.getElem?_eq_getElem hi') hi
    refine ⟨h1, h2, ?_⟩
    unfold kindN at hk
    split at hk
    · exact absurd hk (by decide)
    · rename_i hal
      have := Decidable.not_not.1 fun hn => hal ⟨hw, hn⟩
      rcases alike_want (this l[i] (List.getElem_mem hi')) hw with h | h <;> omega
  have hwant : ¬ (wantOf op ≠ 0 ∧ ¬ (∀ g ∈ l, alikeB g (wantOf op) = true)) := by
    intro h
    unfold kindN at hk
    rw [if_pos h] at hk
    cases hk
  unfold kindN at hk ⊢
  rw [if_neg hwant] at hk ⊢
  unfold valueN
  by_cases h1 : op = 1
  · rw [if_pos h1] at hk ⊢
    rw [if_pos h1]
    split at hk
    · exact absurd hk (by decide)
    · rename_i hge
      rw [if_neg hge]
      obtain ⟨c, hc, hn⟩ := findC_get (l := cols) (s := name) (by omega)
      have hrange := findC_range cols name
      have hlen := fitsL_length hf
      have hu : row[(findC cols name).toNat]? = some (row[(findC cols name).toNat]'(by omega)) := List.getElem?_eq_getElem _
      generalize row[(findC cols name).toNat]'(by omega) = u at hu
      have hfit := fitsL_get hf hc hu
      unfold valFits at hfit
      simp only [Bool.and_eq_true, Bool.or_eq_true, decide_eq_true_eq] at hfit
      refine ⟨.inl ⟨rfl, ?_⟩, fun h => by omega, fun _ => by omega⟩
      rw [hc, hu]
      exact ⟨of_decide_eq_true hfit.1, hr u (List.mem_of_getElem? hu), by rcases hfit.2 with h | h <;> simp [h]⟩
  rw [if_neg h1] at hk ⊢
  rw [if_neg h1]
  by_cases h2 : op = 2
  · rw [if_pos h2] at hk ⊢
    rw [if_pos h2]
    exact ⟨.inl ⟨rfl, hv, hvn, .inr rfl⟩, fun h => by omega, fun h => absurd h h1⟩
  rw [if_neg h2] at hk ⊢
  rw [if_neg h2]
  split at hk
  · exact absurd hk (by decide)
  rename_i h9
  rw [if_neg h9]
  have h2nd : op = 12 ∨ op = 13 → ∀ u ∈ vl, GoodV 2 u := by
    intro h u hu
    have hw : wantOf op = 2 := by unfold wantOf; rw [if_neg (by omega), if_pos (by omega)]
    have := hrel' u hu (by omega)
    rwa [hw] at this
  refine ⟨?_, h2nd, fun h => absurd h h1⟩
  by_cases hone : vl.length = 1
  · rw [if_pos hone]
    obtain ⟨a, rfl⟩ := List.length_eq_one_iff.1 hone
    have hm1 : op = 8 ∨ op = 14 ∨ op = 15 ∨ op = 16 := by
      unfold manyOf at hm
      simp only [List.length_cons, List.length_nil] at hm
      split at hm
      · omega
      · split at hm
        · assumption
        · split at hm <;> omega
    show Good (kindOf op) (singleF op a)
    have ga := hrel' a (by simp)
    obtain ⟨ga1, ga2, _⟩ := hrel 0 (l[0]'(by rw [hl]; simp)) a (List.getElem?_eq_getElem _) rfl
    unfold singleF
    by_cases h15 : op = 15
    · rw [if_pos h15]
      have : kindOf op = 2 := by unfold kindOf; rw [if_neg (by omega), if_pos (by omega)]
      rw [this]; exact .inl ⟨rfl, .truth _⟩
    rw [if_neg h15]
    by_cases hz : a.k = 0
    · rw [if_pos hz]; exact .inl ⟨rfl, ga1, ga2, .inl hz⟩
    rw [if_neg hz]
    by_cases h14 : op = 14
    · rw [if_pos h14]
      have : kindOf op = 2 := by unfold kindOf; rw [if_neg (by omega), if_pos (by omega)]
      rw [this]; exact .inl ⟨rfl, .truth _⟩
    rw [if_neg h14]
    have hk1 : kindOf op = 1 := by unfold kindOf; rw [if_pos (by omega)]
    rw [hk1]
    by_cases h16 : op = 16
    · rw [if_pos h16]
      have hw : wantOf op = 3 := by unfold wantOf; rw [if_neg (by omega), if_neg (by omega), if_pos h16]
      have := ga (by omega)
      rw [hw] at this
      obtain ⟨ho, _, hk3⟩ := this
      refine .inl ⟨rfl, .num ?_⟩
      unfold Val.Ok at ho
      unfold fitI
      rcases ho with ho | ho | ho | ho <;> omega
    · rw [if_neg h16]
      exact pairF_arith (by decide) (by decide) (by decide) (by decide) (by decide) _ _ ga2
  · rw [if_neg hone]
    have hm2 : (3 ≤ op ∧ op ≤ 7) ∨ (9 ≤ op ∧ op ≤ 13) := by
      unfold manyOf at hm
      split at hm
      · omega
      · split at hm
        · exfalso; omega
        · split at hm <;> omega
    have htwo : vl.length = 2 := by
      unfold manyOf at hm
      rw [if_neg (by omega), if_neg (by omega), if_pos (by omega)] at hm
      omega
    match vl, htwo with
    | [a, b], _ =>
      show Good (kindOf op) (pairF op a b)
      obtain ⟨b1, b2, _⟩ := hrel 1 (l[1]'(by rw [hl]; simp)) b (List.getElem?_eq_getElem _) rfl
      rcases hm2 with h | h
      · have hk1 : kindOf op = 1 := by unfold kindOf; rw [if_pos (by omega)]
        rw [hk1]
        exact pairF_arith (by omega) (by omega) (by omega) (by omega) (by omega) _ _ b2
      · have hk2 : kindOf op = 2 := by unfold kindOf; rw [if_neg (by omega), if_pos (by omega)]
        rw [hk2]
        unfold pairF
        split
        · exact .inl ⟨rfl, .answer _⟩
        · split
          · exact .inl ⟨rfl, .answer _⟩
          · split
            · exact .inl ⟨rfl, .null 2⟩
            · split
              · exact .inl ⟨rfl, .truth _⟩
              · split
                · exact .inl ⟨rfl, .truth _⟩
                · split
                  · exact .inl ⟨rfl, .truth _⟩
                  · exfalso; omega

/-- The kinds and the values of the kids. -/
theorem kids_kinds {cols : List Col} {x : Ex} (h : (kindF cols x).2 = 0) : (runL (kindF cols) x.kids).2 = 0 ∧ kindF cols x = kindN cols x.op x.name x.v (runL (kindF cols) x.kids).1 := by
  rw [kindF_eq] at h ⊢
  split at h
  · rename_i hn; exact absurd h hn
  · rename_i hn
    exact ⟨by omega, by rw [if_neg hn]⟩
theorem typed {cols : List Col} {row : List Val} (hf : fitsL cols row = true) (hr : ∀ u ∈ row, fitI u.n) : ∀ (N : Nat) (x : Ex), depthT x ≤ N → (∀ y ∈ nodesT x, NodeOk y ∧ fitI y.v.n) → (kindF cols x).2 = 0 → Good (kindF cols x).1 (valueF cols row x) := by
  intro N
  induction N with
  | zero => intro x hd; cases x; unfold depthT at hd; omega
  | succ N ih =>
    intro x hd hn hk
    obtain ⟨hk1, hk2⟩ := kids_kinds hk
    have hkid : ∀ (i : Nat) k, x.kids[i]? = some k → Good (kindF cols k).1 (valueF cols row k) := fun i k hi =>
      ih k (by have := kid_depth hi; omega) (fun y hy => hn y (kid_node hi hy)) (runL_get hk1 hi).1
    rw [valueF_eq]
    split
    · rename_i he
      -- some kid has an error
      have : (runL (valueF cols row) x.kids).2 = 100 ∨ (runL (valueF cols row) x.kids).2 = 101 := by
        have key : ∀ l : List Ex, (∀ k ∈ l, (valueF cols row k).2 = 0 ∨ (valueF cols row k).2 = 100 ∨ (valueF cols row k).2 = 101) → (runL (valueF cols row) l).2 = 0 ∨ (runL (valueF cols row) l).2 = 100 ∨ (runL (valueF cols row) l).2 = 101 := by
          intro l
          induction l with
          | nil => intro _; exact .inl rfl
          | cons k r ih2 =>
            intro h
            have h1 := h k (by simp)
            have h2 := ih2 fun q hq => h q (by simp [hq])
            unfold runL
            split
            · rename_i hne; rcases h1 with h1 | h1
              · exact absurd h1 hne
              · exact .inr h1
            · split
              · rename_i hne; rcases h2 with h2 | h2
                · exact absurd h2 hne
                · exact .inr h2
              · exact .inl rfl
        rcases key x.kids (fun k hk => by
          obtain ⟨i, hi⟩ := List.mem_iff_getElem?.1 hk
          rcases hkid i k hi with h | h
          · exact .inl h.1
          · exact .inr h.1) with h | h
        · exact absurd h he
        · exact h
      exact .inr ⟨this, rfl⟩
    · rename_i he
      have hv1 : (runL (valueF cols row) x.kids).2 = 0 := by omega
      obtain ⟨hno, hnf⟩ := hn x (self_node x)
      rw [hk2]
      have hlv := runL_len hv1
      have hlk := runL_len hk1
      refine (node_good (by rw [hlv]; exact hno.1) (by omega) hno.2.2.2 hnf (fun i g u hg hu => ?_) (by rw [← hk2]; exact hk) hf hr).1
      have hi : i < x.kids.length := by rw [← hlk]; exact (List.getElem?_eq_some_iff.1 hg).1
      have hki : x.kids[i]? = some x.kids[i] := List.getElem?_eq_getElem hi
      have e1 := runL_get hk1 hki
      have e2 := runL_get hv1 hki
      rw [hg] at e1
      rw [hu] at e2
      have := hkid i _ hki
      cases e1.2
      cases e2.2
      rcases this with h | h
      · exact h.2
      · have := e2.1; omega
end Go.Vc
