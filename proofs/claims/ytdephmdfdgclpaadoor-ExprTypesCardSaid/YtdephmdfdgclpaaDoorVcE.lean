/- Soundness of the generator, part E: a region that draws its order comes to one end in whatever order. -/
import Derived.Test.YtdephmdfdgclpaaDoorVcD
import Derived.OrdersIn
namespace Go.Vc
open Go

section
variable {P : Program} {rd : Option Nat} {Q : Exit → Act → World → Prop}

theorem memN_iff {l : List Nat} {i : Nat} : memN l i = true ↔ i ∈ l := by
  induction l with
  | nil => simp [memN]
  | cons j r ih =>
    unfold memN
    split
    · rename_i h; simp [nbeq.1 h]
    · rename_i h; have := nbeq_no.1 h; rw [ih]; simp [Ne.symm this]

theorem allB_iff {α : Type} {p : α → Bool} {l : List α} : allB p l = true ↔ ∀ x ∈ l, p x = true := by
  induction l with
  | nil => simp [allB]
  | cons x r ih =>
    unfold allB
    split
    · rename_i h; simp [h, ih]
    · rename_i h; simp [h]

theorem gdst_eq (all : List Oper) (j : Nat) : gdst all j = (all[j]?).bind (·.dst) := by
  induction all generalizing j with
  | nil => rfl
  | cons o r ih => cases j with
    | zero => rfl
    | succ j => simpa [gdst] using ih j

theorem yielded_gdst (all : List Oper) (a : Act) (j : Nat) :
    yielded all.toArray a.tmps j = (match gdst all j with | none => none | some s => match a.tmps.getD s undef with | .bool b => some b | _ => none) := by
  cases h : gdst all j with
  | some s => exact yielded_eq h
  | none =>
    rw [gdst_eq] at h
    unfold yielded
    have h1 : (all.toArray[j]?).bind (·.dst) = none := by simpa using h
    rw [h1]
    rfl

theorem tmpsOf_mem {l : List Operand} {t : Nat} (h : Operand.tmp t ∈ l) : t ∈ tmpsOf l := by
  induction l with
  | nil => cases h
  | cons x r ih =>
    cases h with
    | head => simp [tmpsOf]
    | tail _ hm => cases x <;> simp [tmpsOf, ih hm]

/-- An operation's outcome hangs on the temporaries that it looks at alone. -/
theorem YV_congr {all : List Oper} {w : World} {o : Oper} {v : Value} {a c : Act} (hsel : ∀ cs b, o.op ≠ .select cs b) (hl : ∀ t ∈ looks all o, c.tmps.getD t undef = a.tmps.getD t undef) (h : YV P all w o v a) :
    YV P all w o v c := by
  have he : execOp c.eval o = execOp a.eval o := by
    refine execOp_congr o hsel fun x hx => ?_
    cases x with
    | tmp t => exact hl t (by unfold looks; exact List.mem_append_left _ (tmpsOf_mem (by simpa using hx)))
    | const v => rfl
    | global g => rfl
    | func f => rfl
  have hw : Region.wanted o (yielded all.toArray c.tmps) = Region.wanted o (yielded all.toArray a.tmps) := by
    unfold Region.wanted
    cases hg : o.guard with
    | none => rfl
    | some jt =>
      obtain ⟨j, t⟩ := jt
      simp only [yielded_gdst]
      cases hs : gdst all j with
      | none => rfl
      | some s =>
        have := hl s (by unfold looks; rw [hg]; simp [hs])
        simp only [this]
  unfold YV at *
  rw [he, hw]
  exact h

/-- No temporary is written twice. -/
def Dis (l : List Oper) : Prop := ∀ (i j : Nat) o o' d, l[i]? = some o → l[j]? = some o' → o.dst = some d → o'.dst = some d → i = j

theorem dstsOf_mem {l : List Oper} {d : Nat} : d ∈ dstsOf l ↔ ∃ o ∈ l, o.dst = some d := by
  induction l with
  | nil => simp [dstsOf]
  | cons o r ih =>
    unfold dstsOf
    split
    · rename_i k hk; simp [ih, hk, eq_comm]
    · rename_i hk; simp [ih, hk]

theorem Dis_of_noDup {l : List Oper} (h : noDup (dstsOf l) = true) : Dis l := by
  induction l with
  | nil => intro i j o o' d hi; simp at hi
  | cons q r ih =>
    have hr : noDup (dstsOf r) = true ∧ ∀ k, q.dst = some k → k ∉ dstsOf r := by
      unfold dstsOf at h
      split at h
      · rename_i k hk
        unfold noDup at h
        split at h
        · cases h
        · rename_i hm
          exact ⟨h, fun k' hk' => by rw [hk] at hk'; cases hk'; intro hc; rw [memN_iff.2 hc] at hm; cases hm⟩
      · rename_i hk; exact ⟨h, fun k' hk' => by rw [hk] at hk'; cases hk'⟩
    intro i j o o' d hi hj hd hd'
    cases i with
    | zero =>
      simp at hi; subst hi
      cases j with
      | zero => rfl
      | succ j => simp at hj; exact absurd (dstsOf_mem.2 ⟨o', List.mem_of_getElem? hj, hd'⟩) (hr.2 d hd)
    | succ i =>
      simp at hi
      cases j with
      | zero => simp at hj; subst hj; exact absurd (dstsOf_mem.2 ⟨o, List.mem_of_getElem? hi, hd⟩) (hr.2 d hd')
      | succ j => simp at hj; rw [ih hr.1 i j o o' d hi hj hd hd']

theorem put_get {a : Act} {d : Option Nat} {v : Value} (hd : ∀ k, d = some k → k < a.tmps.size) (t : Nat) :
    (a.put d v).tmps.getD t undef = if d = some t then v else a.tmps.getD t undef := by
  cases d with
  | none => simp [Act.put]
  | some k =>
    show (a.tmps.setIfInBounds k v).getD t undef = _
    rw [getD_set (hd k rfl)]
    by_cases h : k = t <;> simp [h]

theorem backB_spec : ∀ {l : List Oper} {k0 : Nat}, backB l k0 = true → ∀ (k : Nat) o, l[k]? = some o → ∀ i ∈ preds o, i < k0 + k := by
  intro l
  induction l with
  | nil => intro k0 _ k o hk; simp at hk
  | cons q r ih =>
    intro k0 h k o hk i hi
    unfold backB at h
    split at h
    · rename_i hq
      cases k with
      | zero =>
        simp at hk; subst hk
        have := allB_iff.1 hq i hi
        exact Nat.lt_of_succ_le (Nat.le_of_ble_eq_true this)
      | succ k => have := ih h k o (by simpa using hk) i hi; omega
    · cases h

theorem preds_listed {ops : List Oper} {listed : Array Bool} {i : Nat} {o : Oper} (hi : i ∈ Region.ready .any ops.toArray listed) (ho : ops[i]? = some o) : ∀ k ∈ preds o, listed.getD k false = true := by
  obtain ⟨_, o', ho', hall⟩ := mem_ready.1 hi
  have : o' = o := by simpa [ho] using ho'.symm
  subst this
  intro k hk
  simp only [preds, List.mem_map, List.mem_filter] at hk
  obtain ⟨e, ⟨he, hb⟩, rfl⟩ := hk
  exact hall e (by simpa using he) hb

theorem ready_of {ops : List Oper} {listed : Array Bool} {i : Nat} {o : Oper} (ho : ops[i]? = some o) (hu : listed.getD i true = false) (hp : ∀ k ∈ preds o, listed.getD k false = true) : i ∈ Region.ready .any ops.toArray listed := by
  refine mem_ready.2 ⟨hu, o, by simpa using ho, fun e he hb => hp _ ?_⟩
  simp only [preds, List.mem_map, List.mem_filter]
  exact ⟨e, ⟨by simpa using he, hb⟩, rfl⟩

theorem getD_f {listed : Array Bool} {i : Nat} (h : listed.getD i true = false) : listed.getD i false = false := by
  simp only [Array.getD_eq_getD_getElem?] at *
  cases hl : listed[i]? <;> simp_all

theorem getD_t {listed : Array Bool} {i : Nat} (h : listed.getD i false = true) : listed.getD i true = true := by
  simp only [Array.getD_eq_getD_getElem?] at *
  cases hl : listed[i]? <;> simp_all

theorem getD_set' {listed : Array Bool} {i : Nat} {d : Bool} (hi : i < listed.size) (k : Nat) : (listed.setIfInBounds i true).getD k d = if i = k then true else listed.getD k d := by
  simp only [Array.getD_eq_getD_getElem?, Array.getElem?_setIfInBounds]
  split
  · rename_i h; subst h; simp [hi]
  · rfl

theorem lt_of_unlisted {listed : Array Bool} {i : Nat} (h : listed.getD i true = false) : i < listed.size := by
  rcases Nat.lt_or_ge i listed.size with h' | h'
  · exact h'
  · simp [Array.getD_eq_getD_getElem?, Array.getElem?_eq_none h'] at h

theorem wpOpIn_of_YV {all : List Oper} {i : Nat} {o : Oper} {v : Value} {a : Act} {w : World} {K : Act → World → Prop} (hi : all[i]? = some o) (hy : YV P all w o v a) (hK : K (a.put o.dst v) w) :
    wpOpIn (FW rd) 0 P all.toArray Q i K a w := by
  unfold wpOpIn
  have : all.toArray[i]? = some o := by simpa using hi
  rw [this]
  simp only
  rcases hy with ⟨hw, hr, hd⟩ | ⟨hw, rfl⟩
  · rw [if_pos hw]
    refine ⟨fun _ _ => trivial, ?_⟩
    rw [Oper.semAt_eq _ _ _ hd, hr]
    exact hK
  · rw [if_neg (by rw [hw]; simp)]
    exact ⟨fun _ _ => trivial, hK⟩

/-- How many below k are not listed yet. -/
def cu (listed : Array Bool) : Nat → Nat
  | 0 => 0
  | k + 1 => cu listed k + (if listed.getD k true then 0 else 1)

theorem cu_set {listed : Array Bool} {i : Nat} (hi : listed.getD i true = false) : ∀ k, (i < k → cu (listed.setIfInBounds i true) k + 1 = cu listed k) ∧ (k ≤ i → cu (listed.setIfInBounds i true) k = cu listed k) := by
  have hlt := lt_of_unlisted hi
  intro k
  induction k with
  | zero => exact ⟨fun h => by omega, fun _ => rfl⟩
  | succ k ih =>
    simp only [cu, getD_set' hlt]
    refine ⟨fun h => ?_, fun h => ?_⟩
    · by_cases hik : i = k
      · subst hik
        rw [if_pos rfl, ih.2 (Nat.le_refl _), hi]
        simp
      · rw [if_neg hik]
        have := ih.1 (by omega)
        omega
    · rw [if_neg (show ¬ i = k by omega), ih.2 (by omega)]

theorem cu_zero {listed : Array Bool} : ∀ {k : Nat}, cu listed k = 0 → ∀ i, i < k → listed.getD i true = true := by
  intro k
  induction k with
  | zero => intro _ i hi; omega
  | succ k ih =>
    intro h i hi
    simp only [cu] at h
    by_cases hik : i = k
    · subst hik
      cases hl : listed.getD i true with
      | true => rfl
      | false => rw [hl] at h; simp at h
    · exact ih (by omega) i (by omega)

theorem cu_pos {listed : Array Bool} : ∀ {k : Nat}, 0 < cu listed k → ∃ i, i < k ∧ listed.getD i true = false ∧ ∀ j, j < i → listed.getD j true = true := by
  intro k
  induction k with
  | zero => intro h; simp [cu] at h
  | succ k ih =>
    intro h
    by_cases hk : 0 < cu listed k
    · obtain ⟨i, hi, hu, hall⟩ := ih hk; exact ⟨i, by omega, hu, hall⟩
    · have h0 : cu listed k = 0 := by omega
      refine ⟨k, by omega, ?_, cu_zero h0⟩
      simp only [cu, h0] at h
      cases hl : listed.getD k true with
      | false => rfl
      | true => rw [hl] at h; simp at h

theorem act_ext {a b : Act} (hd : a.defers = b.defers) (hs : a.tmps.size = b.tmps.size) (ht : ∀ t, a.tmps.getD t undef = b.tmps.getD t undef) : a = b := by
  obtain ⟨ta, da⟩ := a
  obtain ⟨tb, db⟩ := b
  simp only at hd hs ht
  subst hd
  congr 1
  refine Array.ext hs fun i h1 h2 => ?_
  have := ht i
  simpa [Array.getD_eq_getD_getElem?, h1, h2] using this

theorem ready_lt {ops : List Oper} {listed : Array Bool} {i : Nat} (hi : i ∈ Region.ready .any ops.toArray listed) : ∃ o, ops[i]? = some o ∧ listed.getD i true = false := by
  obtain ⟨hu, o, ho, _⟩ := mem_ready.1 hi
  exact ⟨o, by simpa using ho, hu⟩

theorem cu_replicate (n k : Nat) (h : k ≤ n) : cu (Array.replicate n false) k = k := by
  induction k with
  | zero => rfl
  | succ k ih =>
    have : (Array.replicate n false).getD k true = false := by
      have hk : k < n := by omega
      simp [Array.getD_eq_getD_getElem?, hk]
    simp [cu, ih (by omega), this]

theorem quiet_select {op : Op} (h : quietOp P op = true) (cs : Array SelectCase) (b : Bool) : op ≠ .select cs b := by
  intro e; subst e; simp [quietOp] at h


/-! ### Bits -/
theorem hasM_eq (m i : Nat) : hasM m i = m.testBit i := by
  unfold hasM
  show Nat.beq ((m >>> i) &&& 1) 1 = _
  rw [Nat.and_one_is_mod, Nat.shiftRight_eq_div_pow, Nat.testBit_eq_decide_div_mod_eq]
  cases h : Nat.beq (m / 2 ^ i % 2) 1 with
  | true => rw [nbeq] at h; simp [h]
  | false => rw [nbeq_no] at h; simp only [decide_eq_false_iff_not.2 h]

theorem hasM_lor (a b i : Nat) : hasM (Nat.lor a b) i = (hasM a i || hasM b i) := by
  simp only [hasM_eq]; exact Nat.testBit_or a b i
theorem hasM_zero (i : Nat) : hasM 0 i = false := by rw [hasM_eq]; simp
theorem hasM_bit (i j : Nat) : hasM (bit i) j = decide (i = j) := by
  rw [hasM_eq]
  have : bit i = 2 ^ i := by show 1 <<< i = _; rw [Nat.shiftLeft_eq]; simp
  rw [this, Nat.testBit_two_pow]
theorem subM_spec {a b : Nat} (h : subM a b = true) {i : Nat} (hi : hasM a i = true) : hasM b i = true := by
  have h1 : a &&& b = a := nbeq.1 h
  rw [hasM_eq] at *
  have h2 := congrArg (fun x => x.testBit i) h1
  simp only [Nat.testBit_and, hi, Bool.true_and] at h2
  exact h2
theorem hasM_maskOf (l : List Nat) (i : Nat) : hasM (maskOf l) i = true ↔ i ∈ l := by
  induction l with
  | nil => simp [maskOf, hasM_zero]
  | cons x r ih =>
    simp only [maskOf, hasM_lor, hasM_bit, Bool.or_eq_true, decide_eq_true_eq, ih, List.mem_cons]
    constructor
    · rintro (h | h)
      · exact .inl h.symm
      · exact .inr h
    · rintro (h | h)
      · exact .inl h.symm
      · exact .inr h
theorem some_bit {a b : Nat} (h : Nat.beq (Nat.land a b) 0 = false) : ∃ i, hasM a i = true ∧ hasM b i = true := by
  have h1 : Nat.land a b ≠ 0 := nbeq_no.1 h
  obtain ⟨i, hi⟩ := Nat.exists_testBit_of_ne_zero h1
  have hi' : (a &&& b).testBit i = true := hi
  rw [Nat.testBit_and] at hi'
  simp only [Bool.and_eq_true] at hi'
  exact ⟨i, by rw [hasM_eq]; exact hi'.1, by rw [hasM_eq]; exact hi'.2⟩

theorem nthO_eq (l : List Oper) (i : Nat) : nthO l i = l[i]? := by
  induction l generalizing i with
  | nil => rfl
  | cons x r ih => cases i with
    | zero => rfl
    | succ i => simp [nthO, ih]

theorem nthN_lt {l : List Nat} {i : Nat} (h : i < l.length) : nthN l i = l[i] := by
  induction l generalizing i with
  | nil => simp at h
  | cons x r ih => cases i with
    | zero => rfl
    | succ i => simp [nthN, ih (by simpa using h)]
theorem nthN_ge {l : List Nat} {i : Nat} (h : l.length ≤ i) : nthN l i = 0 := by
  induction l generalizing i with
  | nil => rfl
  | cons x r ih => cases i with
    | zero => simp at h
    | succ i => exact ih (by simpa using h)

/-! ### What hangs on what -/
def Closed (all : List Oper) (L : Nat → Prop) : Prop := ∀ i o, all[i]? = some o → L i → ∀ p ∈ preds o, L p

/-- All that m names are in whatever closed set holds what operation i waits for. -/
def Hung (all : List Oper) (i m : Nat) : Prop := ∀ L, Closed all L → (∀ o, all[i]? = some o → ∀ p ∈ preds o, L p) → ∀ j, hasM m j = true → L j

theorem clM_spec (cs : List Nat) : ∀ (ps : List Nat) (m j : Nat), hasM (clM cs ps m) j = true → hasM m j = true ∨ ∃ p ∈ ps, j = p ∨ hasM (nthN cs p) j = true := by
  intro ps
  induction ps with
  | nil => intro m j h; exact .inl h
  | cons p r ih =>
    intro m j h
    rcases ih _ j h with h | ⟨q, hq, h⟩
    · rw [hasM_lor, hasM_lor, hasM_bit] at h
      simp only [Bool.or_eq_true, decide_eq_true_eq] at h
      rcases h with h | h | h
      · exact .inl h
      · exact .inr ⟨p, by simp, .inl h.symm⟩
      · exact .inr ⟨p, by simp, .inr h⟩
    · exact .inr ⟨q, List.mem_cons_of_mem _ hq, h⟩

theorem closures_spec {all : List Oper} : ∀ (l done : List Oper) (cs : List Nat), all = done ++ l → cs.length = done.length → (∀ i, i < cs.length → Hung all i (nthN cs i)) → ∀ i, Hung all i (nthN (closures l cs) i) := by
  intro l
  induction l with
  | nil =>
    intro done cs _ _ h i
    rcases Nat.lt_or_ge i cs.length with hi | hi
    · exact h i hi
    · show Hung all i (nthN cs i)
      rw [nthN_ge hi]; intro L _ _ j hj; rw [hasM_zero] at hj; cases hj
  | cons o r ih =>
    intro done cs he hl h
    refine ih (done ++ [o]) (cs ++ [clM cs (preds o) 0]) (by simp [he]) (by simp [hl]) ?_
    intro i hi
    simp only [List.length_append, List.length_singleton] at hi
    rcases Nat.lt_or_ge i cs.length with hlt | hge
    · rw [nthN_lt (by simp; omega)]
      have := h i hlt
      rw [nthN_lt hlt] at this
      simpa [List.getElem_append, hlt] using this
    · have hie : i = cs.length := by omega
      subst hie
      rw [nthN_lt (by simp)]
      simp only [List.getElem_append_right (Nat.le_refl _), Nat.sub_self, List.getElem_cons_zero]
      intro L hL hp j hj
      have ho : all[cs.length]? = some o := by rw [he, hl]; simp
      rcases clM_spec cs _ _ _ hj with h0 | ⟨p, hpm, h0⟩
      · rw [hasM_zero] at h0; cases h0
      · have hLp := hp o ho p hpm
        rcases h0 with rfl | h0
        · exact hLp
        · rcases Nat.lt_or_ge p cs.length with hlt | hge'
          · refine h p hlt L hL (fun o' ho' q hq => hL p o' ho' hLp q hq) j h0
          · rw [nthN_ge hge', hasM_zero] at h0; cases h0

theorem wrOf_spec : ∀ {l : List Oper} {k0 t k : Nat} {o : Oper}, noDup (dstsOf l) = true → l[k]? = some o → o.dst = some t → wrOf l k0 t = some (k0 + k) := by
  intro l
  induction l with
  | nil => intro k0 t k o _ h; simp at h
  | cons q r ih =>
    intro k0 t k o hn hk hd
    have hD := Dis_of_noDup hn
    unfold wrOf
    split
    · rename_i hq
      cases k with
      | zero => rfl
      | succ k =>
        exfalso
        split at hq
        · rename_i d hqd
          have := nbeq.1 hq
          subst this
          have := hD 0 (k + 1) q o d (by simp) hk hqd hd
          omega
        · cases hq
    · rename_i hq
      cases k with
      | zero =>
        simp at hk; subst hk
        rw [hd] at hq
        exact absurd rfl (nbeq_no.1 hq)
      | succ k =>
        have hnr : noDup (dstsOf r) = true := by
          unfold dstsOf at hn
          split at hn
          · unfold noDup at hn
            split at hn
            · cases hn
            · exact hn
          · exact hn
        rw [ih hnr (by simpa using hk) hd]
        congr 1; omega

theorem seesB_spec {all : List Oper} {cs : List Nat} (hn : noDup (dstsOf all) = true) : ∀ {l : List Oper} {i0 : Nat}, seesB all cs l i0 = true → ∀ (i : Nat) o, l[i]? = some o → ∀ t ∈ looks all o, ∀ (k : Nat) q, all[k]? = some q → q.dst = some t →
    k ∈ preds o ∨ hasM (nthN cs k) (i0 + i) = true ∨ k = i0 + i := by
  intro l
  induction l with
  | nil => intro i0 _ i o h; simp at h
  | cons x r ih =>
    intro i0 h i o hi t ht k q hk hd
    unfold seesB at h
    split at h
    · rename_i hx
      cases i with
      | zero =>
        simp at hi; subst hi
        have h1 := allB_iff.1 hx t ht
        rw [wrOf_spec (k0 := 0) hn hk hd, Nat.zero_add] at h1
        simp only at h1
        by_cases ha : memN (preds x) k = true
        · exact .inl (memN_iff.1 ha)
        · by_cases hb : hasM (nthN cs k) i0 = true
          · exact .inr (.inl hb)
          · by_cases hc : Nat.beq k i0 = true
            · exact .inr (.inr (nbeq.1 hc))
            · simp [ha, hb, hc] at h1
      | succ i =>
        have := ih h i o (by simpa using hi) t ht k q hk hd
        rwa [show i0 + 1 + i = i0 + (i + 1) by omega] at this
    · cases h

/-- The words of the static look, spelt out. -/
structure DrawOk (P : Program) (N : Nat) (ops : List Oper) (cs : List Nat) : Prop where
  sel : ∀ o ∈ ops, ∀ cs b, o.op ≠ .select cs b
  low : ∀ o ∈ ops, ∀ d, o.dst = some d → d < N
  dis : Dis ops
  back : ∀ (k : Nat) o, ops[k]? = some o → ∀ i ∈ preds o, i < k
  sees : ∀ (i : Nat) o, ops[i]? = some o → ∀ t ∈ looks ops o, ∀ (k : Nat) q, ops[k]? = some q → q.dst = some t → k ∈ preds o ∨ hasM (nthN cs k) i = true ∨ k = i
  hung : ∀ i, Hung ops i (nthN cs i)

theorem drawOk_spec {N : Nat} {ops : List Oper} {od : OT} (h : drawOk P N ops od = true) : DrawOk P N ops (closures ops []) ∧ chkT P ops (closures ops []) od 0 0 0 false (headsM od) = true := by
  unfold drawOk at h
  split at h
  · rename_i h0 h1 h2 h3 h4 h5
    refine ⟨⟨fun o ho cs b e => ?_, fun o ho d hd => ?_, Dis_of_noDup h2, fun k o hk i hi => by simpa using backB_spec h3 k o hk i hi, fun i o hi t ht k q hk hd => ?_, ?_⟩, h4⟩
    · have := allB_iff.1 h0 o ho
      rw [e] at this; cases this
    · have := allB_iff.1 h1 d (dstsOf_mem.2 ⟨o, ho, hd⟩)
      exact Nat.lt_of_succ_le (Nat.le_of_ble_eq_true this)
    · simpa using seesB_spec h2 h5 i o hi t ht k q hk hd
    · exact closures_spec ops [] [] rfl rfl (fun i hi => by simp at hi)
  · cases h

theorem orB_iff {a b : Bool} : orB a b = true ↔ a = true ∨ b = true := by cases a <;> cases b <;> simp [orB]

theorem covB_spec {cs : List Nat} {before H : Nat} : ∀ {l : List Oper} {k0 : Nat}, covB P cs before H l k0 = true → ∀ (i : Nat) o, l[i]? = some o → quietOp P o.op = false →
    hasM before (k0 + i) = true ∨ hasM H (k0 + i) = true ∨ ∃ h, hasM H h = true ∧ hasM (nthN cs (k0 + i)) h = true := by
  intro l
  induction l with
  | nil => intro k0 _ i o h; simp at h
  | cons x r ih =>
    intro k0 h i o ho hq
    unfold covB at h
    split at h
    · rename_i h1
      cases i with
      | zero =>
        cases ho
        rw [Nat.add_zero]
        rcases orB_iff.1 h1 with h1 | h1
        · rw [hq] at h1; cases h1
        · rcases orB_iff.1 h1 with h1 | h1
          · exact .inl h1
          · rcases orB_iff.1 h1 with h1 | h1
            · exact .inr (.inl h1)
            · split at h1
              · cases h1
              · rename_i hz
                obtain ⟨j, hj1, hj2⟩ := some_bit hz
                exact .inr (.inr ⟨j, hj2, hj1⟩)
      | succ i =>
        have := ih h i o (by simpa using ho) hq
        rwa [show k0 + 1 + i = k0 + (i + 1) by omega] at this
    · cases h

/-- One step of the look at the order. -/
theorem chk_cons {ops : List Oper} {cs : List Nat} {c : Nat} {r : OT} {before since rds H : Nat} {any : Bool} (h : chkT P ops cs (.one c r) before since rds any H = true) :
    ∃ o, ops[ixOf c]? = some o ∧ (∀ p ∈ preds o, hasM before p = true) ∧ hasM before (ixOf c) = false ∧
      ((quietOp P o.op = true ∧ (any = true → ∃ p ∈ preds o, hasM since p = true) ∧
          chkT P ops cs r (Nat.lor before (bit (ixOf c))) (Nat.lor since (bit (ixOf c))) (Nat.lor rds (match readsOp o.op with | true => bit (ixOf c) | false => 0)) any (headsM r) = true) ∨
       (quietOp P o.op = false ∧ (∀ (i : Nat) q, ops[i]? = some q → quietOp P q.op = false → hasM before i = true ∨ hasM H i = true ∨ ∃ h, hasM H h = true ∧ hasM (nthN cs i) h = true) ∧
          (kpOf c = true ∨ ∀ j, hasM rds j = true → hasM (nthN cs (ixOf c)) j = true) ∧
          chkT P ops cs r (Nat.lor before (bit (ixOf c))) (bit (ixOf c)) rds true (headsM r) = true)) := by
  unfold chkT at h
  split at h
  · cases h
  · rename_i o ho
    rw [nthO_eq] at ho
    split at h
    · rename_i h1 h2
      refine ⟨o, ho, fun p hp => subM_spec h1 ((hasM_maskOf _ _).2 hp), h2, ?_⟩
      split at h
      · rename_i hq
        split at h
        · rename_i ha
          refine .inl ⟨hq, fun hany => ?_, h⟩
          rw [hany] at ha
          rcases orB_iff.1 ha with ha | ha
          · cases ha
          · split at ha
            · cases ha
            · rename_i hz
              obtain ⟨j, hj1, hj2⟩ := some_bit hz
              exact ⟨j, (hasM_maskOf _ _).1 hj1, hj2⟩
        · cases h
      · rename_i hq
        split at h
        · rename_i h3 h4
          refine .inr ⟨hq, fun i q hi hqq => by simpa using covB_spec h3 i q hi hqq, ?_, h⟩
          rcases orB_iff.1 h4 with h4 | h4
          · exact .inl h4
          · exact .inr fun j hj => subM_spec h4 hj
        · cases h
    · cases h
theorem chk_alt {ops : List Oper} {cs : List Nat} {s t : OT} {before since rds H : Nat} {any : Bool} (h : chkT P ops cs (.alt s t) before since rds any H = true) :
    hardHd P ops s = true ∧ hardHd P ops t = true ∧ chkT P ops cs s before since rds any H = true ∧ chkT P ops cs t before since rds any H = true := by
  unfold chkT at h
  split at h
  · rename_i h1 h2 h3 h4; exact ⟨h1, h2, h3, h4⟩
  · cases h

/-- All numbers in a tree; its branches. -/
def elems : OT → List Nat
  | .nil => []
  | .one c r => c :: elems r
  | .alt s t => elems s ++ elems t
def branches : OT → List (Nat × OT)
  | .nil => []
  | .one c r => [(c, r)]
  | .alt s t => branches s ++ branches t
theorem elems_branch : ∀ {t : OT} {c : Nat}, c ∈ elems t → ∃ p ∈ branches t, c = p.1 ∨ c ∈ elems p.2
  | .nil, _, h => by cases h
  | .one c r, c', h => ⟨(c, r), by simp [branches], List.mem_cons.1 h⟩
  | .alt s t, c', h => by
    rcases List.mem_append.1 h with h | h
    · obtain ⟨p, hp, hc⟩ := elems_branch h
      exact ⟨p, List.mem_append_left _ hp, hc⟩
    · obtain ⟨p, hp, hc⟩ := elems_branch h
      exact ⟨p, List.mem_append_right _ hp, hc⟩
theorem chk_branch {ops : List Oper} {cs : List Nat} {before since rds H : Nat} {any : Bool} : ∀ {t : OT}, chkT P ops cs t before since rds any H = true → ∀ p ∈ branches t, chkT P ops cs (.one p.1 p.2) before since rds any H = true
  | .nil, _, p, hp => by cases hp
  | .one c r, h, p, hp => by simp only [branches, List.mem_singleton] at hp; subst hp; exact h
  | .alt s t, h, p, hp => by
    obtain ⟨_, _, h1, h2⟩ := chk_alt h
    rcases List.mem_append.1 hp with hp | hp
    · exact chk_branch h1 p hp
    · exact chk_branch h2 p hp
theorem vc_branch {N : Nat} {ops : List Oper} {K : St → World → Prop} {st : St} {w : World} : ∀ {t : OT}, vcOrd P N ops t K st w → ∀ p ∈ branches t, vcOrd P N ops (.one p.1 p.2) K st w
  | .nil, _, p, hp => by cases hp
  | .one c r, h, p, hp => by simp only [branches, List.mem_singleton] at hp; subst hp; exact h
  | .alt s t, h, p, hp => by
    rw [vcOrd] at h
    rcases List.mem_append.1 hp with hp | hp
    · exact vc_branch h.1 p hp
    · exact vc_branch h.2 p hp
theorem heads_branch : ∀ {t : OT} {i : Nat}, hasM (headsM t) i = true → ∃ p ∈ branches t, ixOf p.1 = i
  | .nil, i, h => by rw [headsM, hasM_zero] at h; cases h
  | .one c r, i, h => by rw [headsM, hasM_bit, decide_eq_true_eq] at h; exact ⟨(c, r), by simp [branches], h⟩
  | .alt s t, i, h => by
    rw [headsM, hasM_lor, Bool.or_eq_true] at h
    rcases h with h | h
    · obtain ⟨p, hp, e⟩ := heads_branch h
      exact ⟨p, List.mem_append_left _ hp, e⟩
    · obtain ⟨p, hp, e⟩ := heads_branch h
      exact ⟨p, List.mem_append_right _ hp, e⟩
theorem hard_some {ops : List Oper} : ∀ {t : OT}, hardHd P ops t = true → ∃ p, p ∈ branches t
  | .nil, h => by cases h
  | .one c r, _ => ⟨(c, r), by simp [branches]⟩
  | .alt s t, h => by
    unfold hardHd at h
    split at h
    · rename_i h1
      obtain ⟨p, hp⟩ := hard_some h1
      exact ⟨p, List.mem_append_left _ hp⟩
    · cases h
theorem hard_branch {ops : List Oper} : ∀ {t : OT}, hardHd P ops t = true → ∀ p ∈ branches t, ∀ o, ops[ixOf p.1]? = some o → quietOp P o.op = false
  | .nil, h, _, _, _, _ => by cases h
  | .one c r, h, p, hp, o, ho => by
    simp only [branches, List.mem_singleton] at hp; subst hp
    unfold hardHd at h
    rw [nthO_eq, ho] at h
    dsimp only at h
    split at h
    · cases h
    · assumption
  | .alt s t, h, p, hp, o, ho => by
    unfold hardHd at h
    split at h
    · rename_i h1
      rcases List.mem_append.1 hp with hp | hp
      · exact hard_branch h1 p hp o ho
      · exact hard_branch h p hp o ho
    · cases h

/-- Behind the first that is not quiet each quiet one waits for somebody who has not been carried out yet. -/
theorem chk_late {ops : List Oper} {cs : List Nat} {B0 : Nat} : ∀ (od : OT) (before since rds H : Nat), chkT P ops cs od before since rds true H = true → (∀ j, hasM B0 j = true → hasM before j = true) →
    (∀ j, hasM since j = true → hasM B0 j = false) → ∀ c ∈ elems od, ∀ o, ops[ixOf c]? = some o → quietOp P o.op = true → ∃ p ∈ preds o, hasM B0 p = false := by
  intro od
  induction od with
  | nil => intro _ _ _ _ _ _ _ c hc; cases hc
  | alt s t ihs iht =>
    intro before since rds H h hB hS c hc o ho hq
    obtain ⟨_, _, h1, h2⟩ := chk_alt h
    rcases List.mem_append.1 hc with hc | hc
    · exact ihs _ _ _ _ h1 hB hS c hc o ho hq
    · exact iht _ _ _ _ h2 hB hS c hc o ho hq
  | one x r ih =>
    intro before since rds H h hB hS c hc o ho hq
    obtain ⟨ox, hox, hpb, hnb, hcase⟩ := chk_cons h
    have hxB : hasM B0 (ixOf x) = false := by
      cases hx : hasM B0 (ixOf x) with
      | false => rfl
      | true => rw [hB _ hx] at hnb; cases hnb
    have hB' : ∀ j, hasM B0 j = true → hasM (Nat.lor before (bit (ixOf x))) j = true := fun j hj => by rw [hasM_lor, hB j hj]; rfl
    rcases hcase with ⟨hqx, hany, hr⟩ | ⟨hqx, _, _, hr⟩
    · rcases List.mem_cons.1 hc with rfl | hc
      · rw [ho] at hox; cases hox
        obtain ⟨p, hp, hs⟩ := hany rfl
        exact ⟨p, hp, hS p hs⟩
      · refine ih _ _ _ _ hr hB' (fun j hj => ?_) c hc o ho hq
        rw [hasM_lor, hasM_bit] at hj
        simp only [Bool.or_eq_true, decide_eq_true_eq] at hj
        rcases hj with hj | rfl
        · exact hS j hj
        · exact hxB
    · rcases List.mem_cons.1 hc with rfl | hc
      · rw [ho] at hox; cases hox; rw [hq] at hqx; cases hqx
      · refine ih _ _ _ _ hr hB' (fun j hj => ?_) c hc o ho hq
        rw [hasM_bit, decide_eq_true_eq] at hj
        subst hj
        exact hxB

/-- Everybody is carried out, or will be. -/
theorem chk_all {ops : List Oper} {cs : List Nat} : ∀ (od : OT) (before since rds H : Nat) (any : Bool), chkT P ops cs od before since rds any H = true → ∀ i, i < ops.length → hasM before i = true ∨ ∃ c ∈ elems od, ixOf c = i := by
  intro od
  induction od with
  | nil =>
    intro before _ _ _ _ h i hi
    unfold chkT at h
    exact .inl (subM_spec h ((hasM_maskOf _ _).2 (List.mem_range.2 hi)))
  | alt s t ihs iht =>
    intro before since rds H any h i hi
    obtain ⟨_, _, h1, _⟩ := chk_alt h
    rcases ihs _ _ _ _ _ h1 i hi with h | ⟨c, hc, e⟩
    · exact .inl h
    · exact .inr ⟨c, List.mem_append_left _ hc, e⟩
  | one x r ih =>
    intro before since rds H any h i hi
    obtain ⟨ox, hox, hpb, hnb, hcase⟩ := chk_cons h
    have key : hasM (Nat.lor before (bit (ixOf x))) i = true ∨ (∃ c ∈ elems r, ixOf c = i) → hasM before i = true ∨ ∃ c ∈ elems (.one x r), ixOf c = i := by
      rintro (h1 | ⟨c, hc, h1⟩)
      · rw [hasM_lor, hasM_bit] at h1
        simp only [Bool.or_eq_true, decide_eq_true_eq] at h1
        rcases h1 with h1 | h1
        · exact .inl h1
        · exact .inr ⟨x, by simp [elems], h1⟩
      · exact .inr ⟨c, List.mem_cons_of_mem _ hc, h1⟩
    rcases hcase with ⟨_, _, hr⟩ | ⟨_, _, _, hr⟩
    · exact key (ih _ _ _ _ _ hr i hi)
    · exact key (ih _ _ _ _ _ hr i hi)

/-! ### One step -/
/-- The value of a quiet operation, wherever what it reads lies as it lay. -/
def YR (P : Program) (all : List Oper) (w : World) (o : Oper) (v : Value) (a : Act) : Prop := ∀ w1, (readsOp o.op = true → Same w w1) → YV P all w1 o v a

theorem vcOrd_step {N : Nat} {all : List Oper} {c : Nat} {o : Oper} {rest : OT} {K : St → World → Prop} {st : St} {a : Act} {w : World} {ws : List (Nat × TypeId)} (hws : ∀ i, inW (wrOps all) i = true → inW ws i = true)
    (hgd : ∀ d ∈ st.ge, inW ws d.s = true) (ho : all[ixOf c]? = some o) (h : Agree N st a) (hv : vcOrd P N all (.one c rest) K st w) :
    (Region.wanted o (yielded all.toArray a.tmps) = true ∧ ∃ st1, Agree N st1 a ∧ Fr ws st st1 ∧ st1.ge = st.ge ∧ okDst N st1 o.dst = true ∧ oneOp P st1 o w fun x w' => (kpOf c = true → Same w w') ∧ vcOrd P N all rest K (put st1 o.dst x) w') ∨
    (∃ v st2, (∀ w1, YV P all w1 o v a) ∧ Agree N st2 (a.put o.dst v) ∧ Fr ws st st2 ∧ (∀ d ∈ st2.ge, inW ws d.s = true) ∧ vcOrd P N all rest K st2 w) := by
  have hmem : o ∈ all := List.mem_of_getElem? ho
  have hdst : ∀ k, o.dst = some k → inW ws k = true := fun k hk => hws _ (wrOps_mem hmem hk)
  have split : ∀ (st1 : St) (w' : World), (match kpOf c with
      | true => Same w w' ∧ vcOrd P N all rest K st1 w'
      | false => vcOrd P N all rest K st1 w') ↔ ((kpOf c = true → Same w w') ∧ vcOrd P N all rest K st1 w') := by
    intro st1 w'
    cases kpOf c <;> simp
  unfold vcOrd at hv
  rw [nthO_eq, ho] at hv
  dsimp only at hv
  split at hv
  · exact hv.elim
  rename_i hok
  split at hv
  · rename_i hg
    refine .inl ⟨wanted_none hg, st, h, .refl _ _, rfl, hok, ?_⟩
    have e : (fun (v : SV) (w' : World) => match kpOf c with
        | true => Same w w' ∧ vcOrd P N all rest K (put st o.dst v) w'
        | false => vcOrd P N all rest K (put st o.dst v) w') = fun x w' => (kpOf c = true → Same w w') ∧ vcOrd P N all rest K (put st o.dst x) w' := by
      funext v w'; exact propext (split _ _)
    rw [← e]; exact hv
  · rename_i j t hg
    split at hv
    · exact hv.elim
    rename_i s hs
    obtain ⟨og, hogm, hogd, _⟩ := gdst_spec hs
    rcases gstep_sound (hws _ (wrOps_mem hogm hogd)) hdst (wanted_some (a := a) hg hs) [(), (), (), ()] st hgd h hok hv with ⟨e1, st1, e2, e3, e4, e5, e6⟩ | ⟨v, st2, e1, e2, e3, e4, e5⟩
    · refine .inl ⟨e1, st1, e2, e3, e4, e5, ?_⟩
      have e : (fun (x : SV) (w' : World) => match kpOf c with
          | true => Same w w' ∧ vcOrd P N all rest K (put st1 o.dst x) w'
          | false => vcOrd P N all rest K (put st1 o.dst x) w') = fun x w' => (kpOf c = true → Same w w') ∧ vcOrd P N all rest K (put st1 o.dst x) w' := by
        funext v w'; exact propext (split _ _)
      rw [← e]; exact e6
    · exact .inr ⟨v, st2, e1, e2, e3, e4, ((split _ _).1 e5).2⟩

/-- A quiet one. -/
theorem vcOrd_quiet {N : Nat} {all : List Oper} {c : Nat} {o : Oper} {rest : OT} {K : St → World → Prop} {st : St} {a : Act} {w : World} {ws : List (Nat × TypeId)} (hws : ∀ i, inW (wrOps all) i = true → inW ws i = true)
    (hgd : ∀ d ∈ st.ge, inW ws d.s = true) (ho : all[ixOf c]? = some o) (hq : quietOp P o.op = true) (h : Agree N st a) (hv : vcOrd P N all (.one c rest) K st w) :
    ∃ v st2, YR P all w o v a ∧ Agree N st2 (a.put o.dst v) ∧ Fr ws st st2 ∧ (∀ d ∈ st2.ge, inW ws d.s = true) ∧ vcOrd P N all rest K st2 w := by
  have hmem : o ∈ all := List.mem_of_getElem? ho
  rcases vcOrd_step hws hgd ho h hv with ⟨hw, st1, h1, hf1, hge1, hok1, hone⟩ | ⟨v, st2, e1, e2, e3, e4, e5⟩
  · have hval : valOp P st1 o w fun x w' => (kpOf c = true → Same w w') ∧ vcOrd P N all rest K (put st1 o.dst x) w' := by
      unfold oneOp at hone
      split at hone
      · rename_i cl hop
        rw [hop] at hq
        simp only [quietOp] at hq
        split at hone
        · rename_i heq; rw [heq] at hq; cases hq
        · exact hone
      · exact hone
    obtain ⟨x, w', _, hF, hqq⟩ := val_sound h1 hval
    obtain ⟨rfl, hrun⟩ := hqq hq
    refine ⟨x.den, put st1 o.dst x, fun w1 hs => .inl ⟨hw, hrun w1 hs, valOp_defer hval⟩, h1.put hok1, hf1.trans (Fr.put fun k hk => hws _ (wrOps_mem hmem hk)), ?_, hF.2⟩
    rw [put_ge, hge1]; exact hgd
  · exact ⟨v, st2, fun w1 _ => e1 w1, e2, e3, e4, e5⟩

theorem exec_congr {all : List Oper} {o : Oper} {a c : Act} (hsel : ∀ cs b, o.op ≠ .select cs b) (hl : ∀ t ∈ looks all o, c.tmps.getD t undef = a.tmps.getD t undef) :
    execOp c.eval o = execOp a.eval o ∧ Region.wanted o (yielded all.toArray c.tmps) = Region.wanted o (yielded all.toArray a.tmps) := by
  constructor
  · refine execOp_congr o hsel fun x hx => ?_
    cases x with
    | tmp t => exact hl t (by unfold looks; exact List.mem_append_left _ (tmpsOf_mem (by simpa using hx)))
    | const v => rfl
    | global g => rfl
    | func f => rfl
  · unfold Region.wanted
    cases hg : o.guard with
    | none => rfl
    | some jt =>
      obtain ⟨j, t⟩ := jt
      simp only [yielded_gdst]
      cases hs : gdst all j with
      | none => rfl
      | some s =>
        have := hl s (by unfold looks; rw [hg]; simp [hs])
        simp only [this]

theorem oneOp_select {st : St} {o : Oper} {w : World} {F : SV → World → Prop} (h : oneOp P st o w F) (cs : Array SelectCase) (b : Bool) : o.op ≠ .select cs b := by
  intro e
  unfold oneOp at h
  rw [e] at h
  simp [valOp, pureOp, e] at h

/-- One that is not quiet, carried out at another act that agrees on what it looks at. -/
theorem vcOrd_heavy {N : Nat} {all : List Oper} {c : Nat} {o : Oper} {rest : OT} {K : St → World → Prop} {st : St} {a b : Act} {w : World} {ws : List (Nat × TypeId)} (hws : ∀ i, inW (wrOps all) i = true → inW ws i = true)
    (hgd : ∀ d ∈ st.ge, inW ws d.s = true) (ho : all[ixOf c]? = some o) (hsel : ∀ cs b, o.op ≠ .select cs b) (h : Agree N st a) (hv : vcOrd P N all (.one c rest) K st w) (hl : ∀ t ∈ looks all o, b.tmps.getD t undef = a.tmps.getD t undef)
    {next : Act → World → Prop} (hn : ∀ v st2 w', Agree N st2 (a.put o.dst v) → Fr ws st st2 → (∀ d ∈ st2.ge, inW ws d.s = true) → (kpOf c = true → Same w w') → vcOrd P N all rest K st2 w' → next (b.put o.dst v) w') :
    wpOpIn (FW rd) 0 P all.toArray Q (ixOf c) next b w := by
  have hmem : o ∈ all := List.mem_of_getElem? ho
  rcases vcOrd_step hws hgd ho h hv with ⟨hw, st1, h1, hf1, hge1, hok1, hone⟩ | ⟨v, st2, e1, e2, e3, e4, e5⟩
  · obtain ⟨x1, x2⟩ := exec_congr (oneOp_select hone) hl
    unfold wpOpIn
    rw [show all.toArray[ixOf c]? = some o by simpa using ho]
    simp only
    rw [x2, if_pos hw]
    refine oneOp_sound2 h1 x1 hone fun x w' hx => ?_
    refine hn x.den _ w' (h1.put hok1) (hf1.trans (Fr.put fun k hk => hws _ (wrOps_mem hmem hk))) ?_ hx.1 hx.2
    rw [put_ge, hge1]; exact hgd
  · have hy := YV_congr (c := b) hsel hl (e1 w)
    exact wpOpIn_of_YV ho hy (hn v st2 w e2 e3 e4 (fun _ => Same.refl w) e5)


/-! ### Any order -/
/-- The temporaries: those that somebody of S writes hold what he put; the others are as they were. -/
structure GVal (ops : List Oper) (a0 : Act) (val : Nat → Value) (S : Nat → Prop) (a : Act) : Prop where
  size : a.tmps.size = a0.tmps.size
  defers : a.defers = a0.defers
  new : ∀ t (k : Nat) o, ops[k]? = some o → o.dst = some t → S k → a.tmps.getD t undef = val k
  old : ∀ t, (∀ (k : Nat) o, ops[k]? = some o → o.dst = some t → ¬ S k) → a.tmps.getD t undef = a0.tmps.getD t undef

/-- What an operation sees: what those put for whom it waits; the rest as it was. -/
def Sees (ops : List Oper) (a0 : Act) (val : Nat → Value) (o : Oper) (a : Act) : Prop :=
  ∀ t ∈ looks ops o, (∀ (k : Nat) q, ops[k]? = some q → q.dst = some t → k ∈ preds o → a.tmps.getD t undef = val k) ∧
    ((∀ (k : Nat) q, ops[k]? = some q → q.dst = some t → k ∉ preds o) → a.tmps.getD t undef = a0.tmps.getD t undef)

theorem Sees.agree {ops : List Oper} {a0 a b : Act} {val : Nat → Value} {o : Oper} (h : Sees ops a0 val o a) (k : Sees ops a0 val o b) : ∀ t ∈ looks ops o, b.tmps.getD t undef = a.tmps.getD t undef := by
  intro t ht
  by_cases hex : ∃ (k : Nat) (q : Oper), ops[k]? = some q ∧ q.dst = some t ∧ k ∈ preds o
  · obtain ⟨i, q, h1, h2, h3⟩ := hex
    rw [(h t ht).1 i q h1 h2 h3, (k t ht).1 i q h1 h2 h3]
  · have hno : ∀ (k : Nat) q, ops[k]? = some q → q.dst = some t → k ∉ preds o := fun i q h1 h2 h3 => hex ⟨i, q, h1, h2, h3⟩
    rw [(h t ht).2 hno, (k t ht).2 hno]

theorem GVal.sees {N : Nat} {ops : List Oper} {cs : List Nat} (D : DrawOk P N ops cs) {a0 a : Act} {val : Nat → Value} {S : Nat → Prop} (h : GVal ops a0 val S a) (hS : Closed ops S) {i : Nat} {o : Oper} (ho : ops[i]? = some o)
    (hi : ¬ S i) (hp : ∀ p ∈ preds o, S p) : Sees ops a0 val o a := by
  intro t ht
  refine ⟨fun k q hk hd hm => h.new t k q hk hd (hp k hm), fun hno => h.old t fun k q hk hd hSk => ?_⟩
  rcases D.sees i o ho t ht k q hk hd with h1 | h1 | h1
  · exact hno k q hk hd h1
  · exact hi (D.hung k S hS (fun q' hq' p hpm => hS k q' hq' hSk p hpm) i h1)
  · subst h1; exact hi hSk

theorem GVal.put {N : Nat} {ops : List Oper} {cs : List Nat} (D : DrawOk P N ops cs) {a0 a : Act} (hN : a0.tmps.size = N) {val : Nat → Value} {S S' : Nat → Prop} (h : GVal ops a0 val S a) {i : Nat} {o : Oper} (ho : ops[i]? = some o) {v : Value}
    (hv : val i = v) (hS : ∀ k, S' k ↔ (S k ∨ k = i)) : GVal ops a0 val S' (a.put o.dst v) := by
  have hlt : ∀ k, o.dst = some k → k < a.tmps.size := fun k hk => by rw [h.size, hN]; exact D.low o (List.mem_of_getElem? ho) k hk
  refine ⟨by cases o.dst <;> simp [Act.put, h.size], by cases o.dst <;> simp [Act.put, h.defers], fun t k q hk hd hSk => ?_, fun t hno => ?_⟩
  · rw [put_get hlt]
    rcases (hS k).1 hSk with h1 | rfl
    · by_cases he : o.dst = some t
      · have := D.dis i k o q t ho hk he hd
        subst this
        rw [if_pos he, hv]
      · rw [if_neg he]; exact h.new t k q hk hd h1
    · rw [ho] at hk; cases hk
      rw [if_pos hd, hv]
  · rw [put_get hlt, if_neg (fun he => hno i o ho he ((hS i).2 (.inr rfl)))]
    exact h.old t fun k q hk hd hSk => hno k q hk hd ((hS k).2 (.inl hSk))

theorem GVal.val_congr {ops : List Oper} {a0 a : Act} {val val' : Nat → Value} {S : Nat → Prop} (h : GVal ops a0 val S a) (he : ∀ k, S k → val' k = val k) : GVal ops a0 val' S a :=
  ⟨h.size, h.defers, fun t k o hk hd hS => by rw [he k hS]; exact h.new t k o hk hd hS, h.old⟩

def upd (f : Nat → Value) (i : Nat) (v : Value) : Nat → Value := fun j => if j = i then v else f j

/-- Where the look at the order stands. -/
structure At0 (P : Program) (ops : List Oper) (before rds : Nat) : Prop where
  closed : Closed ops (fun i => hasM before i = true)
  reads : ∀ (i : Nat) o, ops[i]? = some o → hasM before i = true → quietOp P o.op = true → readsOp o.op = true → hasM rds i = true

theorem At0.add {ops : List Oper} {before rds : Nat} (h : At0 P ops before rds) {i : Nat} {o : Oper} (ho : ops[i]? = some o) (hp : ∀ p ∈ preds o, hasM before p = true) {rds' : Nat}
    (hr : ∀ j, hasM rds j = true → hasM rds' j = true) (hi : quietOp P o.op = true → readsOp o.op = true → hasM rds' i = true) : At0 P ops (Nat.lor before (bit i)) rds' := by
  have hor : ∀ j, hasM (Nat.lor before (bit i)) j = true ↔ (hasM before j = true ∨ i = j) := fun j => by rw [hasM_lor, hasM_bit]; simp
  constructor
  · intro j q hq hj p hpm
    rw [hor] at hj ⊢
    rcases hj with hj | rfl
    · exact .inl (h.closed j q hq hj p hpm)
    · rw [ho] at hq; cases hq; exact .inl (hp p hpm)
  · intro j q hq hj hqq hrd
    rw [hor] at hj
    rcases hj with hj | rfl
    · exact hr j (h.reads j q hq hj hqq hrd)
    · rw [ho] at hq; cases hq; exact hi hqq hrd

/-- Those carried out on paper that are not listed yet: quiet, and their value stands. -/
def Pend (P : Program) (ops : List Oper) (a0 : Act) (val : Nat → Value) (before : Nat) (L : Nat → Prop) (w : World) : Prop :=
  ∀ (i : Nat) o, ops[i]? = some o → hasM before i = true → ¬ L i → quietOp P o.op = true ∧ ∀ c, Sees ops a0 val o c → YR P ops w o (val i) c

/-- The look goes on over quiet ones, up to the next that is not quiet. -/
theorem run_quiets {N : Nat} {ops : List Oper} {cs : List Nat} (D : DrawOk P N ops cs) {K : St → World → Prop} {ws : List (Nat × TypeId)} {st0 : St} (hws : ∀ i, inW (wrOps ops) i = true → inW ws i = true) {a0 : Act} (hN : a0.tmps.size = N) {w : World} {L : Nat → Prop} :
    ∀ (od : OT) (st : St) (a : Act) (val : Nat → Value) (before since rds : Nat) (any : Bool), chkT P ops cs od before since rds any (headsM od) = true → vcOrd P N ops od K st w → Agree N st a → Fr ws st0 st → (∀ d ∈ st.ge, inW ws d.s = true) →
      At0 P ops before rds → GVal ops a0 val (fun i => hasM before i = true) a → Pend P ops a0 val before L w → (∀ i, L i → hasM before i = true) →
      ∃ (od' : OT) (st' : St) (a' : Act) (val' : Nat → Value) (before' since' rds' : Nat),
        (od' = .nil ∨ hardHd P ops od' = true) ∧ chkT P ops cs od' before' since' rds' any (headsM od') = true ∧ vcOrd P N ops od' K st' w ∧ Agree N st' a' ∧ Fr ws st0 st' ∧ (∀ d ∈ st'.ge, inW ws d.s = true) ∧
        At0 P ops before' rds' ∧ GVal ops a0 val' (fun i => hasM before' i = true) a' ∧ Pend P ops a0 val' before' L w ∧ (∀ i, L i → hasM before' i = true) ∧ (∀ i, hasM before i = true → hasM before' i = true ∧ val' i = val i) := by
  intro od
  induction od with
  | nil => intro st a val before since rds any h1 h2 h3 h4 h5 h6 h7 h8 h9; exact ⟨.nil, st, a, val, before, since, rds, .inl rfl, h1, h2, h3, h4, h5, h6, h7, h8, h9, fun i hi => ⟨hi, rfl⟩⟩
  | alt s t _ _ =>
    intro st a val before since rds any h1 h2 h3 h4 h5 h6 h7 h8 h9
    obtain ⟨g1, g2, _, _⟩ := chk_alt h1
    exact ⟨.alt s t, st, a, val, before, since, rds, .inr (by simp only [hardHd, g1, g2]), h1, h2, h3, h4, h5, h6, h7, h8, h9, fun i hi => ⟨hi, rfl⟩⟩
  | one c r ih =>
    intro st a val before since rds any h1 h2 h3 h4 h5 h6 h7 h8 h9
    obtain ⟨o, ho, hpb, hnb, hcase⟩ := chk_cons h1
    rcases hcase with ⟨hq, _, hr⟩ | ⟨hq, _⟩
    · obtain ⟨v, st2, hy, hag, hfr, hgd, hrest⟩ := vcOrd_quiet hws h5 ho hq h3 h2
      have hnb' : ¬ hasM before (ixOf c) = true := by rw [hnb]; simp
      have hor : ∀ j, hasM (Nat.lor before (bit (ixOf c))) j = true ↔ (hasM before j = true ∨ j = ixOf c) := fun j => by rw [hasM_lor, hasM_bit]; simp only [Bool.or_eq_true, decide_eq_true_eq]; exact or_congr Iff.rfl ⟨Eq.symm, Eq.symm⟩
      have hval : ∀ k, hasM before k = true → upd val (ixOf c) v k = val k := fun k hk => by
        unfold upd; rw [if_neg]; intro e; rw [e] at hk; exact hnb' hk
      have hsees := h7.sees D h6.closed ho hnb' hpb
      obtain ⟨od', st', a', val', before', since', rds', e1, e2, e3, e4, e5, e6, e7, e8, e9, e10, e11⟩ := ih st2 (a.put o.dst v) (upd val (ixOf c) v) _ _ _ any hr hrest hag (h4.trans hfr) hgd
        (h6.add ho hpb (fun j hj => by rw [hasM_lor, hj]; rfl) (fun _ hrd => by rw [hasM_lor, hrd]; simp [hasM_bit]))
        ((h7.val_congr hval).put D hN ho (by simp [upd]) hor)
        (fun i q hqi hi hLi => by
          rw [hor] at hi
          rcases hi with hi | rfl
          · obtain ⟨k1, k2⟩ := h8 i q hqi hi hLi
            have hvi : upd val (ixOf c) v i = val i := hval i hi
            refine ⟨k1, fun c' hs => ?_⟩
            rw [hvi]
            refine k2 c' fun t ht => ⟨fun k p hk hd hm => ?_, (hs t ht).2⟩
            rw [(hs t ht).1 k p hk hd hm]
            exact hval k (h6.closed i q hqi hi k hm)
          · rw [ho] at hqi; cases hqi
            refine ⟨hq, fun c' hs w1 hs1 => ?_⟩
            have hs' : Sees ops a0 val o c' := fun t ht => ⟨fun k p hk hd hm => by rw [(hs t ht).1 k p hk hd hm]; exact hval k (hpb k hm), (hs t ht).2⟩
            have : upd val (ixOf c) v (ixOf c) = v := by simp [upd]
            rw [this]
            exact YV_congr (D.sel o (List.mem_of_getElem? ho)) (hsees.agree hs') (hy w1 hs1))
        (fun i hi => (hor i).2 (.inl (h9 i hi)))
      exact ⟨od', st', a', val', before', since', rds', e1, e2, e3, e4, e5, e6, e7, e8, e9, e10, fun i hi => by
        obtain ⟨k1, k2⟩ := e11 i ((hor i).2 (.inl hi)); exact ⟨k1, k2.trans (hval i hi)⟩⟩
    · exact ⟨.one c r, st, a, val, before, since, rds, .inr (by simp only [hardHd, nthO_eq, ho, hq]), h1, h2, h3, h4, h5, h6, h7, h8, h9, fun i hi => ⟨hi, rfl⟩⟩

theorem Same.trans {w w1 w2 : World} (h : Same w w1) (k : Same w1 w2) (hle : w.heap.size ≤ w1.heap.size) : Same w w2 := fun i hi => (k i (by omega)).trans (h i hi)

theorem Same.size {w w1 : World} (h : Same w w1) : w.heap.size ≤ w1.heap.size := by
  rcases Nat.lt_or_ge w1.heap.size w.heap.size with hlt | hge
  · have := h w1.heap.size hlt
    simp [hlt] at this
  · exact hge

/-- **Whatever the order.** -/
theorem ord_any {N : Nat} {ops : List Oper} {cs : List Nat} (D : DrawOk P N ops cs) {K : St → World → Prop} {ws : List (Nat × TypeId)} {st0 : St} (hws : ∀ i, inW (wrOps ops) i = true → inW ws i = true) {a0 : Act} (hN : a0.tmps.size = N)
    (hq : ∀ st' a' w', Agree N st' a' → Fr ws st0 st' → K st' w' → Q .normal a' w') :
    ∀ (m : Nat) (od : OT) (st : St) (a : Act) (w : World) (val : Nat → Value) (before since rds : Nat) (any : Bool) (listed : Array Bool) (c : Act),
      cu listed ops.length = m → listed.size = ops.length → (od = .nil ∨ hardHd P ops od = true) →
      chkT P ops cs od before since rds any (headsM od) = true → vcOrd P N ops od K st w → Agree N st a → Fr ws st0 st → (∀ d ∈ st.ge, inW ws d.s = true) →
      At0 P ops before rds → GVal ops a0 val (fun i => hasM before i = true) a → Pend P ops a0 val before (fun i => listed.getD i false = true) w → (∀ i, listed.getD i false = true → hasM before i = true) →
      Closed ops (fun i => listed.getD i false = true) → GVal ops a0 val (fun i => listed.getD i false = true) c →
      wpAnyIn (FW rd) 0 P .any ops.toArray Q m listed c w := by
  intro m
  induction m with
  | zero =>
    intro od st a w val before since rds any listed c hm hs hod hchk hvc hag hfr hgd hat hgv hpd hLB hLc hgc
    have hall : ∀ k, k < ops.length → listed.getD k false = true := fun k hk => by
      have h1 := cu_zero hm k hk
      have h2 : k < listed.size := by omega
      simpa [Array.getD_eq_getD_getElem?, h2] using h1
    have hod0 : od = .nil := by
      rcases hod with h | h
      · exact h
      · exfalso
        obtain ⟨p, hp⟩ := hard_some h
        obtain ⟨o, ho, _, hnb, _⟩ := chk_cons (chk_branch hchk p hp)
        have hlt : ixOf p.1 < ops.length := (List.getElem?_eq_some_iff.1 ho).1
        rw [hLB _ (hall _ hlt)] at hnb; cases hnb
    subst hod0
    have hce : c = a := by
      refine act_ext (hgc.defers.trans hgv.defers.symm) (hgc.size.trans hgv.size.symm) fun t => ?_
      by_cases hex : ∃ (k : Nat) (q : Oper), ops[k]? = some q ∧ q.dst = some t
      · obtain ⟨k, q, hk, hd⟩ := hex
        have hlt : k < ops.length := (List.getElem?_eq_some_iff.1 hk).1
        rw [hgc.new t k q hk hd (hall k hlt), hgv.new t k q hk hd (hLB k (hall k hlt))]
      · rw [hgc.old t fun k q hk hd => absurd ⟨k, q, hk, hd⟩ hex, hgv.old t fun k q hk hd => absurd ⟨k, q, hk, hd⟩ hex]
    subst hce
    refine ⟨?_, hq _ _ _ hag.clear ⟨hfr.1, hfr.2⟩ hvc⟩
    cases hr : Region.ready .any ops.toArray listed with
    | nil => rfl
    | cons i r =>
      have hi : i ∈ Region.ready .any ops.toArray listed := by rw [hr]; simp
      obtain ⟨o, ho, hu⟩ := ready_lt hi
      have hlt : i < ops.length := (List.getElem?_eq_some_iff.1 ho).1
      have := getD_f hu
      rw [hall i hlt] at this; cases this
  | succ m ih =>
    intro od st a w val before since rds any listed c hm hs hod hchk hvc hag hfr hgd hat hgv hpd hLB hLc hgc
    obtain ⟨i0, hi0, hu0, hbelow⟩ := cu_pos (listed := listed) (k := ops.length) (by omega)
    have ho0 : ∃ o, ops[i0]? = some o := ⟨ops[i0]'(by omega), by simp [hi0]⟩
    obtain ⟨o0, ho0⟩ := ho0
    have hr0 : i0 ∈ Region.ready .any ops.toArray listed := ready_of ho0 hu0 fun k hk => by
      have h1 := D.back i0 o0 ho0 k hk
      have h2 := hbelow k h1
      have h3 : k < listed.size := by omega
      simpa [Array.getD_eq_getD_getElem?, h3] using h2
    refine ⟨fun h0 => (by rw [h0] at hr0; cases hr0), fun i hi => ?_⟩
    obtain ⟨o, ho, hu⟩ := ready_lt hi
    have hpl := preds_listed hi ho
    have hilt : i < listed.size := lt_of_unlisted hu
    have hilo : i < ops.length := by omega
    have hLi : ¬ listed.getD i false = true := by rw [getD_f hu]; simp
    have hcu := (cu_set hu ops.length).1 hilo
    have hset : ∀ k, (listed.setIfInBounds i true).getD k false = true ↔ (listed.getD k false = true ∨ k = i) := fun k => by
      rw [getD_set' hilt]
      by_cases h : i = k
      · simp [h]
      · simp [h, Ne.symm h]
    have hclosed' : Closed ops (fun k => (listed.setIfInBounds i true).getD k false = true) := by
      intro k q hk hl p hp
      rw [hset] at hl ⊢
      rcases hl with hl | rfl
      · exact .inl (hLc k q hk hl p hp)
      · rw [ho] at hk; cases hk; exact .inl (hpl p hp)
    have hseesC := hgc.sees D hLc ho hLi hpl
    by_cases hqo : quietOp P o.op = true
    · -- a quiet one: it has been carried out on paper
      have hib : hasM before i = true := by
        rcases chk_all od before since rds _ any hchk i hilo with h | ⟨c1, hc1, he⟩
        · exact h
        · exfalso
          rcases hod with rfl | hod
          · cases hc1
          · obtain ⟨p, hp, hcp⟩ := elems_branch hc1
            obtain ⟨oh, hoh, _, hnb, hcase⟩ := chk_cons (chk_branch hchk p hp)
            have hqh := hard_branch hod p hp oh hoh
            rcases hcase with ⟨hq1, _⟩ | ⟨_, _, _, hr⟩
            · rw [hqh] at hq1; cases hq1
            · rcases hcp with rfl | hc1
              · rw [he] at hoh; rw [ho] at hoh; cases hoh; rw [hqo] at hqh; cases hqh
              · obtain ⟨p', hp', hpb⟩ := chk_late (B0 := before) p.2 _ _ _ _ hr (fun j hj => by rw [hasM_lor, hj]; rfl) (fun j hj => by rw [hasM_bit, decide_eq_true_eq] at hj; subst hj; exact hnb) c1 hc1 o (by rw [he]; exact ho) hqo
                rw [hLB p' (hpl p' hp')] at hpb; cases hpb
      obtain ⟨_, hyr⟩ := hpd i o ho hib hLi
      have hyc := hyr c hseesC w (fun _ => Same.refl w)
      refine wpOpIn_of_YV ho hyc ?_
      refine ih od st a w val before since rds any _ _ (by omega) (by simp [hs]) hod hchk hvc hag hfr hgd hat hgv ?_ ?_ hclosed' (hgc.put D hN ho rfl hset)
      · intro k q hk hb hl
        exact hpd k q hk hb fun h => hl ((hset k).2 (.inl h))
      · intro k hk
        rcases (hset k).1 hk with h | rfl
        · exact hLB k h
        · exact hib
    · -- one that is not quiet: it is the next one
      have hqf : quietOp P o.op = false := by simpa using hqo
      have hnbi : ¬ hasM before i = true := fun hb => hqo (hpd i o ho hb hLi).1
      rcases chk_all od before since rds _ any hchk i hilo with h | ⟨c1, hc1, he⟩
      · exact absurd h hnbi
      · rcases hod with rfl | hod
        · cases hc1
        · obtain ⟨p0, hp0⟩ := hard_some hod
          obtain ⟨oh0, hoh0, _, _, hcase0⟩ := chk_cons (chk_branch hchk p0 hp0)
          rcases hcase0 with ⟨hq1, _⟩ | ⟨_, hcov, _, _⟩
          · rw [hard_branch hod p0 hp0 oh0 hoh0] at hq1; cases hq1
          · have hiH : hasM (headsM od) i = true := by
              rcases hcov i o ho hqf with h | h | ⟨j, hj1, hj2⟩
              · exact absurd h hnbi
              · exact h
              · exfalso
                have h2 := D.hung i _ hLc (fun o' ho' p hp => by rw [ho] at ho'; cases ho'; exact hpl p hp) _ hj2
                obtain ⟨pj, hpj, rfl⟩ := heads_branch hj1
                obtain ⟨_, _, _, hnbj, _⟩ := chk_cons (chk_branch hchk pj hpj)
                rw [hLB _ h2] at hnbj; cases hnbj
            obtain ⟨⟨c0, r⟩, hcb, hic⟩ := heads_branch hiH
            have hchk := chk_branch hchk _ hcb
            have hvc := vc_branch hvc _ hcb
            dsimp only at hic hchk hvc
            obtain ⟨oh, hoh, hpb0, hnb0, hcase⟩ := chk_cons hchk
            subst hic
            rw [ho] at hoh; cases hoh
            rcases hcase with ⟨hq1, _⟩ | ⟨_, _, hkp, hr⟩
            · rw [hqf] at hq1; cases hq1
            have hseesA := hgv.sees D hat.closed ho hnbi hpb0
            refine vcOrd_heavy hws hgd ho (D.sel o (List.mem_of_getElem? ho)) hag hvc (hseesA.agree hseesC) fun v st2 w' hag2 hfr2 hgd2 hkeep hrest => ?_
            have hor : ∀ j, hasM (Nat.lor before (bit (ixOf c0))) j = true ↔ (hasM before j = true ∨ j = ixOf c0) := fun j => by rw [hasM_lor, hasM_bit]; simp only [Bool.or_eq_true, decide_eq_true_eq]; exact or_congr Iff.rfl ⟨Eq.symm, Eq.symm⟩
            have hval : ∀ k, hasM before k = true → upd val (ixOf c0) v k = val k := fun k hk => by
              unfold upd; rw [if_neg]; intro e; rw [e] at hk; exact hnbi hk
            have hvi : upd val (ixOf c0) v (ixOf c0) = v := by simp [upd]
            -- the world has turned; whoever is pending reads what he read
            have hpd' : Pend P ops a0 (upd val (ixOf c0) v) (Nat.lor before (bit (ixOf c0))) (fun k => (listed.setIfInBounds (ixOf c0) true).getD k false = true) w' := by
              intro k q hk hb hl
              have hkL : ¬ listed.getD k false = true := fun h => hl ((hset k).2 (.inl h))
              have hki : k ≠ ixOf c0 := fun h => hl ((hset k).2 (.inr h))
              have hkb : hasM before k = true := by
                rcases (hor k).1 hb with h | h
                · exact h
                · exact absurd h hki
              obtain ⟨k1, k2⟩ := hpd k q hk hkb hkL
              refine ⟨k1, fun c' hsc w1 hs1 => ?_⟩
              rw [hval k hkb]
              refine k2 c' (fun t ht => ⟨fun j p hj hd hmm => by rw [(hsc t ht).1 j p hj hd hmm]; exact hval j (hat.closed k q hk hkb j hmm), (hsc t ht).2⟩) w1 fun hrd => ?_
              have hsame : Same w w' := by
                rcases hkp with h | h
                · exact hkeep h
                · exfalso
                  have h1 := h k (hat.reads k q hk hkb k1 hrd)
                  exact hkL (D.hung _ _ hLc (fun o' ho' p hp => by rw [ho] at ho'; cases ho'; exact hpl p hp) _ h1)
              exact hsame.trans (hs1 hrd) hsame.size
            obtain ⟨od', st', a', val', before', since', rds', e1, e2, e3, e4, e5, e6, e7, e8, e9, e10, e11⟩ := run_quiets D (K := K) (ws := ws) (st0 := st0) hws hN (w := w')
              (L := fun k => (listed.setIfInBounds (ixOf c0) true).getD k false = true) r st2 (a.put o.dst v) (upd val (ixOf c0) v) _ _ rds true hr hrest hag2 (hfr.trans hfr2) hgd2
              (hat.add ho hpb0 (fun j hj => hj) (fun h => by rw [hqf] at h; cases h)) ((hgv.val_congr hval).put D hN ho hvi hor) hpd'
              (fun k hk => by
                rcases (hset k).1 hk with h | h
                · exact (hor k).2 (.inl (hLB k h))
                · exact (hor k).2 (.inr h))
            refine ih od' st' a' w' val' before' since' rds' true _ _ (by omega) (by simp [hs]) e1 e2 e3 e4 e5 e6 e7 e8 e9 e10 hclosed' ?_
            have hv' : ∀ k, hasM before k = true ∨ k = ixOf c0 → val' k = upd val (ixOf c0) v k := fun k hk => (e11 k ((hor k).2 hk)).2
            refine GVal.put D hN (S := fun i => listed.getD i false = true) (hgc.val_congr fun k hk => ?_) ho ?_ hset
            · rw [hv' k (.inl (hLB k hk)), hval k (hLB k hk)]
            · rw [hv' _ (.inr rfl), hvi]

/-- **A REGION.** -/
theorem vcRegion_sound {N id : Nat} {od : List Nat} {ops : List Oper} {draw : Bool} {K : St → World → Prop} {st : St} {a : Act} {w : World} {ws : List (Nat × TypeId)} (hm : P.follows .mixedOrders = true)
    (hws : ∀ i, inW (wrOps ops) i = true → inW ws i = true) (hge : st.ge = [])
    (hq : ∀ st' a' w', Agree N st' a' → Fr ws st st' → K st' w' → Q .normal a' w') (h : Agree N st a) (hv : vcRegion P N od ops draw K st w) :
    (Code.region id ops.toArray draw).wpIn (FW rd) 0 P Q a w := by
  unfold vcRegion at hv
  have hgd : ∀ d ∈ st.ge, inW ws d.s = true := fun d hd => by rw [hge] at hd; cases hd
  split at hv
  · exact wpIn_region_list (by simpa using vcOps_sound (rd := rd) (Q := Q) hws hq ops st a w (fun _ ho => ho) hgd h (.refl _ _) hv)
  · split at hv
    · rename_i hok
      obtain ⟨D, hchk⟩ := drawOk_spec hok
      refine wpIn_region_any hm ?_
      have none : ∀ k, (Array.replicate ops.length false).getD k false = false := fun k => by
        rcases Nat.lt_or_ge k ops.length with hk | hk
        · simp [Array.getD_eq_getD_getElem?, hk]
        · simp [Array.getD_eq_getD_getElem?, Array.getElem?_eq_none (xs := Array.replicate ops.length false) (by simpa using hk)]
      have noL : ∀ k, ¬ (Array.replicate ops.length false).getD k false = true := fun k => by rw [none k]; simp
      have gv0 : ∀ S : Nat → Prop, (∀ k, ¬ S k) → GVal ops a (fun _ => undef) S a := fun S hS => ⟨rfl, rfl, fun t k o _ _ h => absurd h (hS k), fun _ _ => rfl⟩
      have nob : ∀ k, ¬ hasM 0 k = true := fun k => by rw [hasM_zero]; simp
      obtain ⟨od', st', a', val', before', since', rds', e1, e2, e3, e4, e5, e6, e7, e8, e9, e10, e11⟩ := run_quiets D (K := K) (ws := ws) (st0 := st) hws h.size (w := w.drew) (a0 := a)
        (L := fun k => (Array.replicate ops.length false).getD k false = true) (treeOf od) st a (fun _ => undef) 0 0 0 false hchk (hv _ rfl) h (.refl _ _) hgd
        ⟨fun i o _ hi => absurd hi (nob i), fun i o _ hi => absurd hi (nob i)⟩ (gv0 _ nob) (fun i o _ hi => absurd hi (nob i)) (fun i hi => absurd hi (noL i))
      have := ord_any (rd := rd) (Q := Q) D hws h.size hq ops.length od' st' a' w.drew val' before' since' rds' false (Array.replicate ops.length false) a (cu_replicate _ _ (Nat.le_refl _)) (by simp) e1 e2 e3 e4 e5 e6 e7 e8 e9 e10
        (fun i o _ hi => absurd hi (noL i)) ((gv0 _ noL).val_congr fun k hk => absurd hk (noL k))
      simpa using this
    · exact hv.elim
end

end Go.Vc
