/- Soundness of the generator, part E: a region that draws its order: its quiet head comes to one end in whatever order. -/
import Derived.Test.YtdclhgcgpcddlaaVcD
import Derived.OrdersIn
namespace Go.Vc
open Go

section
variable {P : Program} {rd : Option Nat} {Q : Exit → Act → World → Prop}

theorem memN_iff {l : List Nat} {i : Nat} : memN l i = true ↔ i ∈ l := by
  induction l with
  | nil => simp [memN]
  | cons j r ih =>
    unfold memN
    split
    · rename_i h; simp [nbeq.1 h]
    · rename_i h; have := nbeq_no.1 h; rw [ih]; simp [Ne.symm this]

theorem allB_iff {α : Type} {p : α → Bool} {l : List α} : allB p l = true ↔ ∀ x ∈ l, p x = true := by
  induction l with
  | nil => simp [allB]
  | cons x r ih =>
    unfold allB
    split
    · rename_i h; simp [h, ih]
    · rename_i h; simp [h]

theorem gdst_eq (all : List Oper) (j : Nat) : gdst all j = (all[j]?).bind (·.dst) := by
  induction all generalizing j with
  | nil => rfl
  | cons o r ih => cases j with
    | zero => rfl
    | succ j => simpa [gdst] using ih j

theorem yielded_gdst (all : List Oper) (a : Act) (j : Nat) :
    yielded all.toArray a.tmps j = (match gdst all j with | none => none | some s => match a.tmps.getD s undef with | .bool b => some b | _ => none) := by
  cases h : gdst all j with
  | some s => exact yielded_eq h
  | none =>
    rw [gdst_eq] at h
    unfold yielded
    have h1 : (all.toArray[j]?).bind (·.dst) = none := by simpa using h
    rw [h1]
    rfl

theorem tmpsOf_mem {l : List Operand} {t : Nat} (h : Operand.tmp t ∈ l) : t ∈ tmpsOf l := by
  induction l with
  | nil => cases h
  | cons x r ih =>
    cases h with
    | head => simp [tmpsOf]
    | tail _ hm => cases x <;> simp [tmpsOf, ih hm]

/-- An operation's outcome hangs on the temporaries that it looks at alone. -/
theorem YV_congr {all : List Oper} {w : World} {o : Oper} {v : Value} {a c : Act} (hsel : ∀ cs b, o.op ≠ .select cs b) (hl : ∀ t ∈ looks all o, c.tmps.getD t undef = a.tmps.getD t undef) (h : YV P all w o v a) :
    YV P all w o v c := by
  have he : execOp c.eval o = execOp a.eval o := by
    refine execOp_congr o hsel fun x hx => ?_
    cases x with
    | tmp t => exact hl t (by unfold looks; exact List.mem_append_left _ (tmpsOf_mem (by simpa using hx)))
    | const v => rfl
    | global g => rfl
    | func f => rfl
  have hw : Region.wanted o (yielded all.toArray c.tmps) = Region.wanted o (yielded all.toArray a.tmps) := by
    unfold Region.wanted
    cases hg : o.guard with
    | none => rfl
    | some jt =>
      obtain ⟨j, t⟩ := jt
      simp only [yielded_gdst]
      cases hs : gdst all j with
      | none => rfl
      | some s =>
        have := hl s (by unfold looks; rw [hg]; simp [hs])
        simp only [this]
  unfold YV at *
  rw [he, hw]
  exact h

def puts : List Oper → List Value → Act → Act
  | o :: r, v :: vs, a => puts r vs (a.put o.dst v)
  | _, _, a => a

theorem Stl_out {all : List Oper} {w : World} {K : Act → Prop} : ∀ {l : List Oper} {a : Act}, Stl P all w K l a →
    ∃ vs : List Value, vs.length = l.length ∧ (∀ (i : Nat) o v, l[i]? = some o → vs[i]? = some v → YV P all w o v (puts (l.take i) (vs.take i) a)) ∧ K (puts l vs a) := by
  intro l
  induction l with
  | nil => intro a h; exact ⟨[], rfl, fun i o v ho => by simp at ho, h⟩
  | cons o r ih =>
    intro a h
    obtain ⟨v, hy, hr⟩ := h
    obtain ⟨vs, hl, hvs, hK⟩ := ih hr
    refine ⟨v :: vs, by simp [hl], fun i o' v' ho hv => ?_, hK⟩
    cases i with
    | zero => simp at ho hv; subst ho; subst hv; simpa [puts] using hy
    | succ i => simp at ho hv; simpa [puts] using hvs i o' v' ho hv

theorem puts_size : ∀ (l : List Oper) (vs : List Value) (a : Act), (puts l vs a).tmps.size = a.tmps.size ∧ (puts l vs a).defers = a.defers := by
  intro l
  induction l with
  | nil => intro vs a; cases vs <;> exact ⟨rfl, rfl⟩
  | cons o r ih =>
    intro vs a
    cases vs with
    | nil => exact ⟨rfl, rfl⟩
    | cons v vs =>
      have := ih vs (a.put o.dst v)
      unfold puts
      rw [this.1, this.2]
      cases o.dst <;> simp [Act.put]

/-- No temporary is written twice. -/
def Dis (l : List Oper) : Prop := ∀ (i j : Nat) o o' d, l[i]? = some o → l[j]? = some o' → o.dst = some d → o'.dst = some d → i = j

theorem dstsOf_mem {l : List Oper} {d : Nat} : d ∈ dstsOf l ↔ ∃ o ∈ l, o.dst = some d := by
  induction l with
  | nil => simp [dstsOf]
  | cons o r ih =>
    unfold dstsOf
    split
    · rename_i k hk; simp [ih, hk, eq_comm]
    · rename_i hk; simp [ih, hk]

theorem Dis_of_noDup {l : List Oper} (h : noDup (dstsOf l) = true) : Dis l := by
  induction l with
  | nil => intro i j o o' d hi; simp at hi
  | cons q r ih =>
    have hr : noDup (dstsOf r) = true ∧ ∀ k, q.dst = some k → k ∉ dstsOf r := by
      unfold dstsOf at h
      split at h
      · rename_i k hk
        unfold noDup at h
        split at h
        · cases h
        · rename_i hm
          exact ⟨h, fun k' hk' => by rw [hk] at hk'; cases hk'; intro hc; rw [memN_iff.2 hc] at hm; cases hm⟩
      · rename_i hk; exact ⟨h, fun k' hk' => by rw [hk] at hk'; cases hk'⟩
    intro i j o o' d hi hj hd hd'
    cases i with
    | zero =>
      simp at hi; subst hi
      cases j with
      | zero => rfl
      | succ j => simp at hj; exact absurd (dstsOf_mem.2 ⟨o', List.mem_of_getElem? hj, hd'⟩) (hr.2 d hd)
    | succ i =>
      simp at hi
      cases j with
      | zero => simp at hj; subst hj; exact absurd (dstsOf_mem.2 ⟨o, List.mem_of_getElem? hi, hd⟩) (hr.2 d hd')
      | succ j => simp at hj; rw [ih hr.1 i j o o' d hi hj hd hd']

theorem put_get {a : Act} {d : Option Nat} {v : Value} (hd : ∀ k, d = some k → k < a.tmps.size) (t : Nat) :
    (a.put d v).tmps.getD t undef = if d = some t then v else a.tmps.getD t undef := by
  cases d with
  | none => simp [Act.put]
  | some k =>
    show (a.tmps.setIfInBounds k v).getD t undef = _
    rw [getD_set (hd k rfl)]
    by_cases h : k = t <;> simp [h]

theorem puts_get : ∀ {l : List Oper} {vs : List Value} {a : Act}, Dis l → vs.length = l.length → (∀ o ∈ l, ∀ d, o.dst = some d → d < a.tmps.size) → ∀ t,
    (∀ (k : Nat) o v, l[k]? = some o → vs[k]? = some v → o.dst = some t → (puts l vs a).tmps.getD t undef = v) ∧
    ((∀ o ∈ l, o.dst ≠ some t) → (puts l vs a).tmps.getD t undef = a.tmps.getD t undef) := by
  intro l
  induction l with
  | nil => intro vs a _ _ _ t; exact ⟨fun k o v hk => by simp at hk, fun _ => by cases vs <;> rfl⟩
  | cons q r ih =>
    intro vs a hD hl hN t
    cases vs with
    | nil => simp at hl
    | cons u vs =>
      have hDr : Dis r := fun i j o o' d hi hj hd hd' => by
        have := hD (i + 1) (j + 1) o o' d (by simpa using hi) (by simpa using hj) hd hd'
        omega
      have hsz : (a.put q.dst u).tmps.size = a.tmps.size := by cases q.dst <;> simp [Act.put]
      have hNr : ∀ o ∈ r, ∀ d, o.dst = some d → d < (a.put q.dst u).tmps.size := fun o ho d hd => by rw [hsz]; exact hN o (List.mem_cons_of_mem _ ho) d hd
      obtain ⟨h1, h2⟩ := ih (vs := vs) (a := a.put q.dst u) hDr (by simpa using hl) hNr t
      have hq := put_get (a := a) (d := q.dst) (v := u) (fun k hk => hN q (by simp) k hk) t
      refine ⟨fun k o v hk hv hd => ?_, fun hno => ?_⟩
      · cases k with
        | zero =>
          simp at hk hv; subst hk; subst hv
          unfold puts
          rw [h2 (fun o' ho' hd' => ?_), hq, if_pos hd]
          obtain ⟨j, hj⟩ := List.mem_iff_getElem?.1 ho'
          have := hD 0 (j + 1) q o' t (by simp) (by simpa using hj) hd hd'
          omega
        | succ k => simp at hk hv; unfold puts; exact h1 k o v hk hv hd
      · unfold puts
        rw [h2 (fun o ho => hno o (List.mem_cons_of_mem _ ho)), hq, if_neg (hno q (by simp))]

theorem waitsFor_spec {ps : List Nat} {t : Nat} : ∀ {l : List Oper} {k0 : Nat}, waitsFor ps t l k0 = true → ∀ (k : Nat) o, l[k]? = some o → o.dst = some t → k0 + k ∈ ps := by
  intro l
  induction l with
  | nil => intro k0 _ k o hk; simp at hk
  | cons q r ih =>
    intro k0 h k o hk hd
    unfold waitsFor at h
    split at h
    · split at h
      · rename_i hm
        cases k with
        | zero => simpa using memN_iff.1 hm
        | succ k => have := ih h k o (by simpa using hk) hd; rwa [show k0 + (k + 1) = k0 + 1 + k by omega]
      · cases h
    · rename_i hq
      cases k with
      | zero =>
        simp at hk; subst hk
        rw [hd] at hq
        exact absurd rfl (nbeq_no.1 hq)
      | succ k => have := ih h k o (by simpa using hk) hd; rwa [show k0 + (k + 1) = k0 + 1 + k by omega]

theorem ssaHead_spec {all head : List Oper} : ∀ {l : List Oper}, ssaHead all head l = true → ∀ o ∈ l, ∀ t ∈ looks all o, ∀ (k : Nat) q, head[k]? = some q → q.dst = some t → k ∈ preds o := by
  intro l
  induction l with
  | nil => intro _ o ho; cases ho
  | cons q r ih =>
    intro h o ho t ht k q' hk hd
    unfold ssaHead at h
    split at h
    · rename_i hq
      cases ho with
      | head => have := waitsFor_spec (allB_iff.1 hq t ht) k q' hk hd; simpa using this
      | tail _ hm => exact ih h o hm t ht k q' hk hd
    · cases h

theorem backB_spec : ∀ {l : List Oper} {k0 : Nat}, backB l k0 = true → ∀ (k : Nat) o, l[k]? = some o → ∀ i ∈ preds o, i < k0 + k := by
  intro l
  induction l with
  | nil => intro k0 _ k o hk; simp at hk
  | cons q r ih =>
    intro k0 h k o hk i hi
    unfold backB at h
    split at h
    · rename_i hq
      cases k with
      | zero =>
        simp at hk; subst hk
        have := allB_iff.1 hq i hi
        exact Nat.lt_of_succ_le (Nat.le_of_ble_eq_true this)
      | succ k => have := ih h k o (by simpa using hk) i hi; omega
    · cases h

theorem chainB_spec {n : Nat} : ∀ {l : List Oper} {k0 : Nat}, chainB n l k0 = true → ∀ (k : Nat) o, l[k]? = some o → n < k0 + k → k0 + k - 1 ∈ preds o := by
  intro l
  induction l with
  | nil => intro k0 _ k o hk; simp at hk
  | cons q r ih =>
    intro k0 h k o hk hn
    unfold chainB at h
    have step : chainB n r (k0 + 1) = true → ∀ j, k = j + 1 → k0 + k - 1 ∈ preds o := fun hr j hj => by
      subst hj
      have := ih hr j o (by simpa using hk) (by omega)
      rwa [show k0 + (j + 1) - 1 = k0 + 1 + j - 1 by omega]
    split at h
    · rename_i hle
      have := Nat.le_of_ble_eq_true hle
      cases k with
      | zero => omega
      | succ k => exact step h k rfl
    · split at h
      · rename_i hm
        cases k with
        | zero => simp at hk; subst hk; simpa using memN_iff.1 hm
        | succ k => exact step h k rfl
      · cases h

theorem waited_spec {i n : Nat} : ∀ {l : List Oper} {k0 : Nat}, waited i n l k0 = true → ∃ (k : Nat) (o : Oper), l[k]? = some o ∧ k0 + k ≤ n ∧ i ∈ preds o := by
  intro l
  induction l with
  | nil => intro k0 h; simp [waited] at h
  | cons q r ih =>
    intro k0 h
    unfold waited at h
    split at h
    · rename_i hle hm
      exact ⟨0, q, rfl, by simpa using Nat.le_of_ble_eq_true hle, memN_iff.1 hm⟩
    · obtain ⟨k, o, hk, hn, hi⟩ := ih h
      exact ⟨k + 1, o, by simpa using hk, by omega, hi⟩

/-- The words of the static look, spelt out. -/
structure DrawAt (P : Program) (N : Nat) (ops : List Oper) (n : Nat) : Prop where
  quiet : ∀ o ∈ ops.take n, quietOp P o.op = true
  low : ∀ o ∈ ops.take n, ∀ d, o.dst = some d → d < N
  dis : Dis (ops.take n)
  ssa : ∀ o ∈ ops.take n, ∀ t ∈ looks ops o, ∀ (k : Nat) q, (ops.take n)[k]? = some q → q.dst = some t → k ∈ preds o
  back : ∀ (k : Nat) o, ops[k]? = some o → ∀ i ∈ preds o, i < k
  chain : ∀ (k : Nat) o, ops[k]? = some o → n < k → k - 1 ∈ preds o
  sink : n = ops.length ∨ ∀ i, i < n → ∃ (k : Nat) (o : Oper), ops[k]? = some o ∧ k ≤ n ∧ i ∈ preds o

theorem drawAt_spec {N : Nat} {ops : List Oper} {n : Nat} (h : drawAt P N ops n = true) : DrawAt P N ops n := by
  unfold drawAt at h
  split at h
  · rename_i h1 h2 h3 h4 h5
    split at h2
    · rename_i hlow
      refine ⟨allB_iff.1 h1, fun o ho d hd => ?_, Dis_of_noDup h2, ssaHead_spec h3, fun k o hk i hi => by simpa using backB_spec h4 k o hk i hi, fun k o hk hn => by simpa using chainB_spec h5 k o hk (by simpa using hn), ?_⟩
      · have := allB_iff.1 hlow d (dstsOf_mem.2 ⟨o, ho, hd⟩)
        exact Nat.lt_of_succ_le (Nat.le_of_ble_eq_true this)
      · split at h
        · rename_i hn; exact .inl (nbeq.1 hn)
        · right
          intro i hi
          obtain ⟨k, o, hk, hle, hm⟩ := waited_spec (allB_iff.1 h i (List.mem_range.2 hi))
          exact ⟨k, o, hk, by simpa using hle, hm⟩
    · cases h2
  · cases h

theorem preds_listed {ops : List Oper} {listed : Array Bool} {i : Nat} {o : Oper} (hi : i ∈ Region.ready .any ops.toArray listed) (ho : ops[i]? = some o) : ∀ k ∈ preds o, listed.getD k false = true := by
  obtain ⟨_, o', ho', hall⟩ := mem_ready.1 hi
  have : o' = o := by simpa [ho] using ho'.symm
  subst this
  intro k hk
  simp only [preds, List.mem_map, List.mem_filter] at hk
  obtain ⟨e, ⟨he, hb⟩, rfl⟩ := hk
  exact hall e (by simpa using he) hb

theorem ready_of {ops : List Oper} {listed : Array Bool} {i : Nat} {o : Oper} (ho : ops[i]? = some o) (hu : listed.getD i true = false) (hp : ∀ k ∈ preds o, listed.getD k false = true) : i ∈ Region.ready .any ops.toArray listed := by
  refine mem_ready.2 ⟨hu, o, by simpa using ho, fun e he hb => hp _ ?_⟩
  simp only [preds, List.mem_map, List.mem_filter]
  exact ⟨e, ⟨by simpa using he, hb⟩, rfl⟩

theorem getD_f {listed : Array Bool} {i : Nat} (h : listed.getD i true = false) : listed.getD i false = false := by
  simp only [Array.getD_eq_getD_getElem?] at *
  cases hl : listed[i]? <;> simp_all

theorem getD_t {listed : Array Bool} {i : Nat} (h : listed.getD i false = true) : listed.getD i true = true := by
  simp only [Array.getD_eq_getD_getElem?] at *
  cases hl : listed[i]? <;> simp_all

theorem getD_set' {listed : Array Bool} {i : Nat} {d : Bool} (hi : i < listed.size) (k : Nat) : (listed.setIfInBounds i true).getD k d = if i = k then true else listed.getD k d := by
  simp only [Array.getD_eq_getD_getElem?, Array.getElem?_setIfInBounds]
  split
  · rename_i h; subst h; simp [hi]
  · rfl

theorem lt_of_unlisted {listed : Array Bool} {i : Nat} (h : listed.getD i true = false) : i < listed.size := by
  rcases Nat.lt_or_ge i listed.size with h' | h'
  · exact h'
  · simp [Array.getD_eq_getD_getElem?, Array.getElem?_eq_none h'] at h

theorem wpOpIn_of_YV {all : List Oper} {i : Nat} {o : Oper} {v : Value} {a : Act} {w : World} {K : Act → World → Prop} (hi : all[i]? = some o) (hy : YV P all w o v a) (hK : K (a.put o.dst v) w) :
    wpOpIn (FW rd) 0 P all.toArray Q i K a w := by
  unfold wpOpIn
  have : all.toArray[i]? = some o := by simpa using hi
  rw [this]
  simp only
  rcases hy with ⟨hw, hr, hd⟩ | ⟨hw, rfl⟩
  · rw [if_pos hw]
    refine ⟨fun _ _ => trivial, ?_⟩
    rw [Oper.semAt_eq _ _ _ hd, hr]
    exact hK
  · rw [if_neg (by rw [hw]; simp)]
    exact ⟨fun _ _ => trivial, hK⟩

/-- The tail is carried out in the order of the text. -/
theorem tail_any {ops : List Oper} {n : Nat} (hb : ∀ (k : Nat) o, ops[k]? = some o → ∀ i ∈ preds o, i < k) (hc : ∀ (k : Nat) o, ops[k]? = some o → n < k → k - 1 ∈ preds o) :
    ∀ (l : List Oper) (k : Nat) (listed : Array Bool) (a : Act) (w : World), n ≤ k → ops.drop k = l → listed.size = ops.length → (∀ j, j < k → listed.getD j false = true) → (∀ j, k ≤ j → j < ops.length → listed.getD j true = false) →
    wpListIn (FW rd) 0 P ops.toArray Q l a w → wpAnyIn (FW rd) 0 P .any ops.toArray Q l.length listed a w := by
  intro l
  induction l with
  | nil =>
    intro k listed a w _ hd hs hlo hhi h
    refine ⟨?_, h⟩
    cases hr : Region.ready .any ops.toArray listed with
    | nil => rfl
    | cons i r =>
      have hi : i ∈ Region.ready .any ops.toArray listed := by rw [hr]; simp
      obtain ⟨hu, o, ho, _⟩ := mem_ready.1 hi
      have hlt : i < ops.length := by have := lt_of_unlisted hu; omega
      have : ops.length ≤ k := by have := congrArg List.length hd; simp at this; omega
      have h1 := getD_t (hlo i (by omega))
      rw [hu] at h1; cases h1
  | cons o r ih =>
    intro k listed a w hnk hd hs hlo hhi h
    have hk : ops[k]? = some o := by have := congrArg (fun x => x[0]?) hd; simpa using this
    have hklt : k < ops.length := by
      rcases Nat.lt_or_ge k ops.length with h' | h'
      · exact h'
      · rw [List.getElem?_eq_none h'] at hk; cases hk
    have huk := hhi k (Nat.le_refl _) hklt
    have hkr : k ∈ Region.ready .any ops.toArray listed := ready_of hk huk fun j hj => hlo j (hb k o hk j hj)
    refine ⟨fun h0 => (by rw [h0] at hkr; cases hkr), fun i hi => ?_⟩
    have hik : i = k := by
      obtain ⟨hu, o', ho', _⟩ := mem_ready.1 hi
      have hlt : i < ops.length := by have := lt_of_unlisted hu; omega
      rcases Nat.lt_trichotomy i k with h1 | h1 | h1
      · have h2 := getD_t (hlo i h1); rw [hu] at h2; cases h2
      · exact h1
      · have ho'' : ops[i]? = some o' := by simpa using ho'
        have h2 := preds_listed hi ho'' _ (hc i o' ho'' (by omega))
        have h3 := getD_f (hhi (i - 1) (by omega) (by omega))
        rw [h3] at h2; cases h2
    subst hik
    have hw : wpOpIn (FW rd) 0 P ops.toArray Q i (wpListIn (FW rd) 0 P ops.toArray Q r) a w := by
      unfold wpOpIn
      have : ops.toArray[i]? = some o := by simpa using hk
      rw [this]
      exact h
    refine wpOpIn_mono (fun a' w' h' => ?_) hw
    refine ih (i + 1) _ a' w' (by omega) ?_ (by simp [hs]) ?_ ?_ h'
    · have := congrArg List.tail hd; simpa using this
    · intro j hj
      rw [getD_set' (by omega)]
      split
      · rfl
      · exact hlo j (by omega)
    · intro j hj hj'
      rw [getD_set' (by omega), if_neg (by omega)]
      exact hhi j (by omega) hj'

/-- How many below k are not listed yet. -/
def cu (listed : Array Bool) : Nat → Nat
  | 0 => 0
  | k + 1 => cu listed k + (if listed.getD k true then 0 else 1)

theorem cu_set {listed : Array Bool} {i : Nat} (hi : listed.getD i true = false) : ∀ k, (i < k → cu (listed.setIfInBounds i true) k + 1 = cu listed k) ∧ (k ≤ i → cu (listed.setIfInBounds i true) k = cu listed k) := by
  have hlt := lt_of_unlisted hi
  intro k
  induction k with
  | zero => exact ⟨fun h => by omega, fun _ => rfl⟩
  | succ k ih =>
    simp only [cu, getD_set' hlt]
    refine ⟨fun h => ?_, fun h => ?_⟩
    · by_cases hik : i = k
      · subst hik
        rw [if_pos rfl, ih.2 (Nat.le_refl _), hi]
        simp
      · rw [if_neg hik]
        have := ih.1 (by omega)
        omega
    · rw [if_neg (show ¬ i = k by omega), ih.2 (by omega)]

theorem cu_zero {listed : Array Bool} : ∀ {k : Nat}, cu listed k = 0 → ∀ i, i < k → listed.getD i true = true := by
  intro k
  induction k with
  | zero => intro _ i hi; omega
  | succ k ih =>
    intro h i hi
    simp only [cu] at h
    by_cases hik : i = k
    · subst hik
      cases hl : listed.getD i true with
      | true => rfl
      | false => rw [hl] at h; simp at h
    · exact ih (by omega) i (by omega)

theorem cu_pos {listed : Array Bool} : ∀ {k : Nat}, 0 < cu listed k → ∃ i, i < k ∧ listed.getD i true = false ∧ ∀ j, j < i → listed.getD j true = true := by
  intro k
  induction k with
  | zero => intro h; simp [cu] at h
  | succ k ih =>
    intro h
    by_cases hk : 0 < cu listed k
    · obtain ⟨i, hi, hu, hall⟩ := ih hk; exact ⟨i, by omega, hu, hall⟩
    · have h0 : cu listed k = 0 := by omega
      refine ⟨k, by omega, ?_, cu_zero h0⟩
      simp only [cu, h0] at h
      cases hl : listed.getD k true with
      | false => rfl
      | true => rw [hl] at h; simp at h

theorem act_ext {a b : Act} (hd : a.defers = b.defers) (hs : a.tmps.size = b.tmps.size) (ht : ∀ t, a.tmps.getD t undef = b.tmps.getD t undef) : a = b := by
  obtain ⟨ta, da⟩ := a
  obtain ⟨tb, db⟩ := b
  simp only at hd hs ht
  subst hd
  congr 1
  refine Array.ext hs fun i h1 h2 => ?_
  have := ht i
  simpa [Array.getD_eq_getD_getElem?, h1, h2] using this

theorem ready_lt {ops : List Oper} {listed : Array Bool} {i : Nat} (hi : i ∈ Region.ready .any ops.toArray listed) : ∃ o, ops[i]? = some o ∧ listed.getD i true = false := by
  obtain ⟨hu, o, ho, _⟩ := mem_ready.1 hi
  exact ⟨o, by simpa using ho, hu⟩

/-- **The quiet head in whatever order, then the tail.** -/
theorem head_any {N : Nat} {ops : List Oper} {n : Nat} {w : World} {a0 : Act} {vs : List Value} (D : DrawAt P N ops n) (hn : n ≤ ops.length) (hN : a0.tmps.size = N) (hvl : vs.length = n)
    (hsel : ∀ o ∈ ops.take n, ∀ cs b, o.op ≠ .select cs b)
    (hy : ∀ (i : Nat) o v, (ops.take n)[i]? = some o → vs[i]? = some v → YV P ops w o v (puts ((ops.take n).take i) (vs.take i) a0))
    (htail : wpListIn (FW rd) 0 P ops.toArray Q (ops.drop n) (puts (ops.take n) vs a0) w) :
    ∀ (m : Nat) (listed : Array Bool) (c : Act), cu listed n = m → listed.size = ops.length → (∀ t, n ≤ t → t < ops.length → listed.getD t true = false) →
      (∀ (k : Nat) o, ops[k]? = some o → listed.getD k false = true → ∀ i ∈ preds o, listed.getD i false = true) →
      c.defers = a0.defers → c.tmps.size = a0.tmps.size →
      (∀ t, (∀ (k : Nat) o v, (ops.take n)[k]? = some o → vs[k]? = some v → o.dst = some t → listed.getD k false = true → c.tmps.getD t undef = v) ∧
        ((∀ (k : Nat) o, (ops.take n)[k]? = some o → o.dst = some t → listed.getD k false = false) → c.tmps.getD t undef = a0.tmps.getD t undef)) →
      wpAnyIn (FW rd) 0 P .any ops.toArray Q (m + (ops.drop n).length) listed c w := by
  have hlen : (ops.take n).length = n := by simp; omega
  have htk : ∀ k o, (ops.take n)[k]? = some o → ops[k]? = some o ∧ k < n := fun k o hk => by
    have h1 : k < n := by
      rcases Nat.lt_or_ge k n with h | h
      · exact h
      · rw [List.getElem?_eq_none (by omega)] at hk; cases hk
    rw [List.getElem?_take, if_pos h1] at hk
    exact ⟨hk, h1⟩
  have htk' : ∀ k o, ops[k]? = some o → k < n → (ops.take n)[k]? = some o := fun k o hk hlt => by rw [List.getElem?_take, if_pos hlt]; exact hk
  intro m
  induction m with
  | zero =>
    intro listed c hm hs hun hcl hdf hsz hc
    have hall : ∀ k, k < n → listed.getD k false = true := fun k hk => by
      have h1 := cu_zero hm k hk
      have h2 : k < listed.size := by omega
      simpa [Array.getD_eq_getD_getElem?, h2] using h1
    have hce : c = puts (ops.take n) vs a0 := by
      have hp := puts_size (ops.take n) vs a0
      refine act_ext (hdf.trans hp.2.symm) (hsz.trans hp.1.symm) fun t => ?_
      obtain ⟨p1, p2⟩ := puts_get (a := a0) D.dis (by rw [hvl, hlen]) (fun o ho d hd => by rw [hN]; exact D.low o ho d hd) t
      obtain ⟨c1, c2⟩ := hc t
      by_cases hex : ∃ o ∈ ops.take n, o.dst = some t
      · obtain ⟨o, ho, hd⟩ := hex
        obtain ⟨k, hk⟩ := List.mem_iff_getElem?.1 ho
        have hkn := (htk k o hk).2
        have hv : vs[k]? = some (vs[k]'(by omega)) := by simp
        rw [p1 k o _ hk hv hd, c1 k o _ hk hv hd (hall k hkn)]
      · rw [p2 (fun o ho hd => hex ⟨o, ho, hd⟩), c2 (fun k o hk hd => absurd ⟨o, List.mem_of_getElem? hk, hd⟩ hex)]
    rw [hce, Nat.zero_add]
    exact tail_any D.back D.chain (ops.drop n) n listed _ w (Nat.le_refl _) rfl hs hall hun htail
  | succ m ih =>
    intro listed c hm hs hun hcl hdf hsz hc
    obtain ⟨i0, hi0, hu0, hbelow⟩ := cu_pos (listed := listed) (k := n) (by omega)
    have ho0 : ∃ o, ops[i0]? = some o := ⟨ops[i0]'(by omega), by simp⟩
    obtain ⟨o0, ho0⟩ := ho0
    have hr0 : i0 ∈ Region.ready .any ops.toArray listed := ready_of ho0 hu0 fun k hk => by
      have h1 := D.back i0 o0 ho0 k hk
      have h2 := hbelow k h1
      have h3 : k < listed.size := by omega
      simpa [Array.getD_eq_getD_getElem?, h3] using h2
    rw [show m + 1 + (ops.drop n).length = (m + (ops.drop n).length) + 1 by omega]
    refine ⟨fun h0 => (by rw [h0] at hr0; cases hr0), fun i hi => ?_⟩
    obtain ⟨o, ho, hu⟩ := ready_lt hi
    have hpl := preds_listed hi ho
    have hilt : i < listed.size := lt_of_unlisted hu
    -- i lies in the head: whoever is of the tail waits
    have hin : i < n := by
      rcases Nat.lt_or_ge i n with h | h
      · exact h
      · exfalso
        rcases Nat.lt_or_ge n i with h1 | h1
        · have h2 := hpl _ (D.chain i o ho h1)
          have h3 := getD_f (hun (i - 1) (by omega) (by omega))
          rw [h3] at h2; cases h2
        · have hie : i = n := by omega
          subst hie
          rcases D.sink with hsk | hsk
          · omega
          · -- an unlisted one below i is waited for by somebody who is not listed either
            have key : ∀ (d j : Nat), i - j = d → j < i → listed.getD j true = false → False := by
              intro d
              induction d using Nat.strongRecOn with
              | _ d ihd =>
                intro j hd hj huj
                obtain ⟨k, q, hk, hle, hmem⟩ := hsk j hj
                have hjk := D.back k q hk j hmem
                by_cases hki : k = i
                · subst hki
                  have : q = o := by rw [ho] at hk; cases hk; rfl
                  subst this
                  have h2 := hpl j hmem
                  rw [getD_f huj] at h2; cases h2
                · cases hlk : listed.getD k false with
                  | true =>
                    have h2 := hcl k q hk hlk j hmem
                    rw [getD_f huj] at h2; cases h2
                  | false =>
                    have hks : k < listed.size := by omega
                    have huk : listed.getD k true = false := by simpa [Array.getD_eq_getD_getElem?, hks] using hlk
                    exact ihd (i - k) (by omega) k rfl (by omega) huk
            exact key _ i0 rfl hi0 hu0
    have hot := htk' i o ho hin
    have hov : vs[i]? = some (vs[i]'(by omega)) := by simp
    have hom : o ∈ ops.take n := List.mem_of_getElem? hot
    have hyv := hy i o _ hot hov
    -- the temporaries that it looks at hold what they hold in the order of the text
    have hlook : ∀ t ∈ looks ops o, c.tmps.getD t undef = (puts ((ops.take n).take i) (vs.take i) a0).tmps.getD t undef := by
      intro t ht
      obtain ⟨c1, c2⟩ := hc t
      have hDi : Dis ((ops.take n).take i) := fun x y p q d hx hy' hp hq' => by
        rw [List.getElem?_take] at hx hy'
        split at hx
        · split at hy'
          · exact D.dis x y p q d hx hy' hp hq'
          · cases hy'
        · cases hx
      obtain ⟨p1, p2⟩ := puts_get (l := (ops.take n).take i) (vs := vs.take i) (a := a0) hDi (by simp [hlen, hvl])
        (fun q hq d hd => by rw [hN]; exact D.low q (List.mem_of_mem_take hq) d hd) t
      by_cases hex : ∃ (k : Nat) (q : Oper), (ops.take n)[k]? = some q ∧ q.dst = some t
      · obtain ⟨k, q, hk, hd⟩ := hex
        have hkp := D.ssa o hom t ht k q hk hd
        have hki := D.back i o ho k hkp
        have hkn := (htk k q hk).2
        have hv : vs[k]? = some (vs[k]'(by omega)) := by simp
        rw [c1 k q _ hk hv hd (hpl k hkp), p1 k q (vs[k]'(by omega)) (by rw [List.getElem?_take, if_pos hki]; exact hk) (by rw [List.getElem?_take, if_pos hki]; exact hv) hd]
      · rw [c2 (fun k q hk hd => absurd ⟨k, q, hk, hd⟩ hex), p2 (fun q hq hd => ?_)]
        obtain ⟨k, hk⟩ := List.mem_iff_getElem?.1 (List.mem_of_mem_take hq)
        exact hex ⟨k, q, hk, hd⟩
    have hyc := YV_congr (hsel o hom) hlook hyv
    refine wpOpIn_of_YV ho hyc ?_
    have hdlt : ∀ k, o.dst = some k → k < c.tmps.size := fun k hk => by rw [hsz, hN]; exact D.low o hom k hk
    refine ih _ _ ?_ (by simp [hs]) ?_ ?_ ?_ ?_ ?_
    · have := (cu_set hu n).1 hin; omega
    · intro t ht ht'
      rw [getD_set' hilt, if_neg (by omega)]
      exact hun t ht ht'
    · intro k q hk hl j hj
      rw [getD_set' hilt] at hl ⊢
      by_cases hik : i = k
      · subst hik
        have : q = o := by rw [ho] at hk; cases hk; rfl
        subst this
        split
        · rfl
        · exact hpl j hj
      · rw [if_neg hik] at hl
        split
        · rfl
        · exact hcl k q hk hl j hj
    · cases hdd : o.dst <;> simpa [Act.put, hdd] using hdf
    · cases hdd : o.dst <;> simpa [Act.put, hdd] using hsz
    · intro t
      obtain ⟨c1, c2⟩ := hc t
      have hg := put_get (a := c) (d := o.dst) (v := vs[i]'(by omega)) hdlt t
      refine ⟨fun k q v hk hv hd hl => ?_, fun hno => ?_⟩
      · rw [hg]
        by_cases hik : i = k
        · subst hik
          have : q = o := by rw [hot] at hk; cases hk; rfl
          subst this
          rw [if_pos hd]
          rw [hov] at hv; cases hv; rfl
        · rw [getD_set' hilt, if_neg hik] at hl
          have hne : ¬ o.dst = some t := fun he => hik (D.dis i k o q t hot hk he hd)
          rw [if_neg hne]
          exact c1 k q v hk hv hd hl
      · have h1 : ¬ o.dst = some t := fun he => by
          have := hno i o hot he
          rw [getD_set' hilt, if_pos rfl] at this; cases this
        rw [hg, if_neg h1]
        refine c2 fun k q hk hd => ?_
        have := hno k q hk hd
        rw [getD_set' hilt] at this
        split at this
        · cases this
        · exact this

theorem cu_replicate (n k : Nat) (h : k ≤ n) : cu (Array.replicate n false) k = k := by
  induction k with
  | zero => rfl
  | succ k ih =>
    have : (Array.replicate n false).getD k true = false := by
      have hk : k < n := by omega
      simp [Array.getD_eq_getD_getElem?, hk]
    simp [cu, ih (by omega), this]

theorem quiet_select {op : Op} (h : quietOp P op = true) (cs : Array SelectCase) (b : Bool) : op ≠ .select cs b := by
  intro e; subst e; simp [quietOp] at h

theorem quietLen_le (ops : List Oper) : quietLen P ops ≤ ops.length := by
  induction ops with
  | nil => simp [quietLen]
  | cons o r ih => unfold quietLen; split <;> simp <;> omega

/-- **A REGION.** -/
theorem vcRegion_sound {N id : Nat} {ops : List Oper} {draw : Bool} {K : St → World → Prop} {st : St} {a : Act} {w : World} {ws : List (Nat × TypeId)} (hm : P.follows .mixedOrders = true)
    (hws : ∀ i, inW (wrOps ops) i = true → inW ws i = true) (hge : st.ge = [])
    (hq : ∀ st' a' w', Agree N st' a' → Fr ws st st' → K st' w' → Q .normal a' w') (h : Agree N st a) (hv : vcRegion P N ops draw K st w) :
    (Code.region id ops.toArray draw).wpIn (FW rd) 0 P Q a w := by
  unfold vcRegion at hv
  have hgd : ∀ d ∈ st.ge, inW ws d.s = true := fun d hd => by rw [hge] at hd; cases hd
  split at hv
  · exact wpIn_region_list (by simpa using vcOps_sound (rd := rd) (Q := Q) hws hq ops st a w (fun _ ho => ho) hgd h (.refl _ _) hv)
  · split at hv
    · rename_i hok
      have D := drawAt_spec hok
      have hn := quietLen_le (P := P) ops
      generalize quietLen P ops = n at D hn
      have hsplit : ops = ops.take n ++ ops.drop n := (List.take_append_drop n ops).symm
      have hv' : vcOps P N ops (ops.take n ++ ops.drop n) K st w.drew := by rw [← hsplit]; exact hv
      have hst := vcOps_quiet (P := P) hws (ops.take n) st a (fun o ho => List.mem_of_mem_take ho) D.quiet hgd h (.refl _ _) hv'
      obtain ⟨vs, hvl, hy, st', hag, hfr, hgd', hrest⟩ := Stl_out hst
      have hlen : (ops.take n).length = n := by simp; omega
      have htail : wpListIn (FW rd) 0 P ops.toArray Q (ops.drop n) (puts (ops.take n) vs a) w.drew :=
        vcOps_sound (rd := rd) (Q := Q) hws hq (ops.drop n) st' _ _ (fun o ho => List.mem_of_mem_drop ho) hgd' hag hfr hrest
      refine wpIn_region_any hm ?_
      have := head_any (rd := rd) (Q := Q) D hn h.size (by rw [hvl, hlen]) (fun o ho => quiet_select (D.quiet o ho)) hy htail n (Array.replicate ops.length false) a (cu_replicate _ _ hn) (by simp)
        (fun t _ ht => by simp [Array.getD_eq_getD_getElem?, ht]) (fun k o _ hl => by
          exfalso
          rcases Nat.lt_or_ge k ops.length with hk | hk
          · simp [Array.getD_eq_getD_getElem?, hk] at hl
          · simp [Array.getD_eq_getD_getElem?, Array.getElem?_eq_none (xs := Array.replicate ops.length false) (by simpa using hk)] at hl) rfl rfl
        (fun t => ⟨fun k o v _ _ _ hl => by
          exfalso
          rcases Nat.lt_or_ge k ops.length with hk | hk
          · simp [Array.getD_eq_getD_getElem?, hk] at hl
          · simp [Array.getD_eq_getD_getElem?, Array.getElem?_eq_none (xs := Array.replicate ops.length false) (by simpa using hk)] at hl, fun _ => rfl⟩)
      have hl2 : n + (ops.drop n).length = ops.length := by simp; omega
      rw [hl2] at this
      simpa using this
    · exact hv.elim
end

end Go.Vc
