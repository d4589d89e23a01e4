/- Values, rows and lists of rows as the memory bears them; how two values stand. Plain Lean, no program. -/
import Derived.Test.YtdephmdfdgclpaaDoorStab
import Derived.Test.YtdephmdfdgclpaaDoorBits
import Derived.Test.YtdephmdfdgclpaaDoorFrame
import Derived.Test.YtdephmdfdgclpaaDoorOpen
import Derived.Lib.Bytealg
namespace Go.Vc
open Go Go.RowKit

/-! ### Numbers and texts, held against one another -/
def cmpI (x y : Int) : Int := if x < y then -1 else if y < x then 1 else 0
def cmpS (a b : ByteArray) : Int := Lib.compareBytes (tB a) (tB b)

theorem cmpI_spec (x y : Int) : (cmpI x y = -1 ∧ x < y) ∨ (cmpI x y = 0 ∧ x = y) ∨ (cmpI x y = 1 ∧ y < x) := by
  unfold cmpI
  split
  · exact .inl ⟨rfl, ‹_›⟩
  · split
    · exact .inr (.inr ⟨rfl, ‹_›⟩)
    · exact .inr (.inl ⟨rfl, by omega⟩)
theorem cmpI_cmp : Cmp cmpI := by
  refine ⟨fun x y => ?_, fun x y z h k => ?_⟩
  · have := cmpI_spec x y
    have := cmpI_spec y x
    omega
  · have := cmpI_spec x y
    have := cmpI_spec y z
    have := cmpI_spec x z
    omega
theorem cmpI_zero {x y : Int} : cmpI x y = 0 ↔ x = y := by have := cmpI_spec x y; omega
theorem compareBytes_anti : ∀ a b : List UInt8, Lib.compareBytes b a = - Lib.compareBytes a b
  | [], [] => rfl
  | [], _ :: _ => rfl
  | _ :: _, [] => rfl
  | x :: a, y :: b => by
    unfold Lib.compareBytes
    by_cases h1 : x < y
    · have h2 : ¬ y < x := UInt8.lt_asymm h1
      simp [h1, h2]
    · by_cases h2 : y < x
      · simp [h1, h2]
      · simp only [h1, h2, if_false]; exact compareBytes_anti a b
theorem u8_eq {x y : UInt8} (h1 : ¬ x < y) (h2 : ¬ y < x) : x = y := UInt8.le_antisymm (UInt8.not_lt.1 h2) (UInt8.not_lt.1 h1)
theorem compareBytes_trans : ∀ a b c : List UInt8, Lib.compareBytes a b ≤ 0 → Lib.compareBytes b c ≤ 0 → Lib.compareBytes a c ≤ 0
  | [], _, [], _, _ => by simp [Lib.compareBytes]
  | [], _, _ :: _, _, _ => by simp [Lib.compareBytes]
  | _ :: _, [], _, h, _ => by simp [Lib.compareBytes] at h
  | _ :: _, _ :: _, [], _, h => by simp [Lib.compareBytes] at h
  | x :: a, y :: b, z :: c, h, k => by
    unfold Lib.compareBytes at h k ⊢
    by_cases h1 : x < y
    · by_cases k1 : y < z
      · simp [UInt8.lt_trans h1 k1]
      · by_cases k2 : z < y
        · simp [k1, k2] at k
        · have := u8_eq k1 k2; subst this; simp [h1]
    · by_cases h2 : y < x
      · simp [h1, h2] at h
      · have := u8_eq h1 h2; subst this
        simp only [h1, if_false] at h
        by_cases k1 : x < z
        · simp [k1]
        · by_cases k2 : z < x
          · simp [k1, k2] at k
          · simp only [k1, k2, if_false] at k ⊢
            exact compareBytes_trans a b c h k
theorem compareBytes_zero : ∀ {a b : List UInt8}, Lib.compareBytes a b = 0 ↔ a = b
  | [], [] => by simp [Lib.compareBytes]
  | [], _ :: _ => by simp [Lib.compareBytes]
  | _ :: _, [] => by simp [Lib.compareBytes]
  | x :: a, y :: b => by
    unfold Lib.compareBytes
    by_cases h1 : x < y
    · have : x ≠ y := fun e => by subst e; exact UInt8.lt_irrefl _ h1
      simp [h1, this]
    · by_cases h2 : y < x
      · have : x ≠ y := fun e => by subst e; exact UInt8.lt_irrefl _ h2
        simp [h1, h2, this]
      · have := u8_eq h1 h2; subst this
        simp only [h1, if_false, List.cons.injEq, true_and]
        exact compareBytes_zero
theorem compareBytes_lt : ∀ {a b : List UInt8}, Op.bytesLess a b = true ↔ Lib.compareBytes a b < 0
  | [], [] => by simp [Lib.compareBytes, Op.bytesLess]
  | [], _ :: _ => by simp [Lib.compareBytes, Op.bytesLess]
  | _ :: _, [] => by simp [Lib.compareBytes, Op.bytesLess]
  | x :: a, y :: b => by
    unfold Lib.compareBytes Op.bytesLess
    by_cases h1 : x < y
    · simp [h1]
    · by_cases h2 : y < x
      · have : x ≠ y := fun e => by subst e; exact UInt8.lt_irrefl _ h2
        simp [h1, h2, this]
      · have := u8_eq h1 h2; subst this
        simp only [h1, if_false, decide_false, Bool.false_or, beq_self_eq_true, Bool.true_and]
        exact compareBytes_lt
theorem ba_toList (s : ByteArray) : s.toList = tB s := Lib.toList_data s
theorem cmpS_cmp : Cmp cmpS := ⟨fun a b => compareBytes_anti _ _, fun a b c => compareBytes_trans _ _ _⟩
theorem cmpS_zero {a b : ByteArray} : cmpS a b = 0 ↔ a = b := by unfold cmpS; rw [compareBytes_zero]; exact tB_inj
theorem sLt_iff {a b : ByteArray} : sLt a b = true ↔ cmpS a b < 0 := by unfold sLt cmpS; rw [ba_toList, ba_toList]; exact compareBytes_lt

section
variable {α β : Type} {c d : α → α → Int}
def lexC (c d : α → α → Int) (x y : α) : Int := if c x y ≠ 0 then c x y else d x y
theorem Cmp.lex (hc : Cmp c) (hd : Cmp d) : Cmp (lexC c d) := by
  refine ⟨fun x y => ?_, fun x y z h k => ?_⟩
  · have := hc.anti x y
    have := hd.anti x y
    unfold lexC
    split <;> split <;> omega
  · unfold lexC at h k ⊢
    by_cases h0 : c x y = 0
    · rw [if_neg (by simpa using h0)] at h
      by_cases k0 : c y z = 0
      · rw [if_neg (by simpa using k0)] at k
        rw [if_neg (by simpa using hc.eq_trans h0 k0)]
        exact hd.trans x y z h k
      · rw [if_pos k0] at k
        have : c x z < 0 := hc.of_lt (by omega) (y := y) (by omega)
        rw [if_pos (by omega)]; omega
    · rw [if_pos h0] at h
      have : c x z < 0 := by
        by_cases k0 : c y z = 0
        · exact hc.lt_of (y := y) (by omega) (by omega)
        · rw [if_pos k0] at k
          exact hc.lt_of (y := y) (by omega) k
      rw [if_pos (by omega)]; omega
theorem Cmp.on (f : β → α) (hc : Cmp c) : Cmp fun x y => c (f x) (f y) := ⟨fun _ _ => hc.anti _ _, fun _ _ _ => hc.trans _ _ _⟩
theorem Cmp.neg (hc : Cmp c) : Cmp fun x y => - c x y := by
  refine ⟨fun x y => by rw [hc.anti x y], fun x y z h k => ?_⟩
  have h1 := hc.anti x y
  have h2 := hc.anti y z
  have h3 := hc.anti x z
  have := hc.trans z y x (by omega) (by omega)
  omega
theorem Cmp.none : Cmp (fun _ _ : α => (0 : Int)) := ⟨fun _ _ => by simp, fun _ _ _ _ _ => Int.le_refl 0⟩
end

/-! ### Values -/
structure Val where
  k : Int
  n : Int
  s : ByteArray

theorem Val.ext' {a b : Val} : a = b ↔ a.k = b.k ∧ a.n = b.n ∧ a.s = b.s := by cases a; cases b; simp
instance : DecidableEq Val := fun _ _ => decidable_of_iff _ Val.ext'.symm
instance : Inhabited Val := ⟨⟨0, 0, ⟨#[]⟩⟩⟩
def nullV : Val := ⟨0, 0, ⟨#[]⟩⟩
def numV (n : Int) : Val := ⟨1, n, ⟨#[]⟩⟩

def Val.cs (v : Val) : List Value := [.int .i64 v.k, .int .i64 v.n, .string v.s]
def Val.agg (v : Val) : Value := .agg #[.int .i64 v.k, .int .i64 v.n, .string v.s]
def i64F (x : Int) : Prop := -9223372036854775808 ≤ x ∧ x ≤ 9223372036854775807
def Val.fit (v : Val) : Prop := i64F v.k ∧ i64F v.n

theorem Val.agg_eq (v : Val) : v.agg = .agg v.cs.toArray := rfl
theorem Val.cs_length (v : Val) : v.cs.length = 3 := rfl
theorem Val.cs_one (v : Val) : ∀ u ∈ v.cs, u.oneCell' = true := by
  intro u hu
  simp only [Val.cs, List.mem_cons, List.not_mem_nil, or_false] at hu
  rcases hu with rfl | rfl | rfl <;> rfl

/-- May a value be? -/
def Val.Ok (v : Val) : Prop := (v.k = 0 ∧ v.n = 0 ∧ v.s = ⟨#[]⟩) ∨ (v.k = 1 ∧ v.s = ⟨#[]⟩) ∨ (v.k = 2 ∧ (v.n = 0 ∨ v.n = 1) ∧ v.s = ⟨#[]⟩) ∨ (v.k = 3 ∧ v.n = 0 ∧ v.s.size ≤ 1024)
instance (v : Val) : Decidable v.Ok := by unfold Val.Ok; exact inferInstance
def Val.right (v : Val) : Bool := decide v.Ok
def rightL (l : List Val) : Bool := l.all Val.right

def cmpV : Val → Val → Int := lexC (fun a b => cmpI a.k b.k) (lexC (fun a b => cmpI a.n b.n) fun a b => cmpS a.s b.s)
theorem cmpV_cmp : Cmp cmpV := (cmpI_cmp.on Val.k).lex ((cmpI_cmp.on Val.n).lex (cmpS_cmp.on Val.s))
theorem cmpV_def (a b : Val) : cmpV a b = if cmpI a.k b.k ≠ 0 then cmpI a.k b.k else if cmpI a.n b.n ≠ 0 then cmpI a.n b.n else cmpS a.s b.s := rfl
theorem cmpV_zero {a b : Val} : cmpV a b = 0 ↔ a = b := by
  have h1 := cmpI_spec a.k b.k
  have h2 := cmpI_spec a.n b.n
  rw [Val.ext', cmpV_def]
  split
  · constructor
    · intro h; omega
    · intro h; omega
  · split
    · constructor
      · intro h; omega
      · intro h; omega
    · constructor
      · intro h; exact ⟨by omega, by omega, cmpS_zero.1 h⟩
      · exact fun h => cmpS_zero.2 h.2.2

/-- The document's way to hold two values against one another. -/
def lessV (a b : Val) : Bool := if a.k ≠ b.k then decide (a.k < b.k) else if a.k = 3 then sLt a.s b.s else decide (a.n < b.n)
def rcmpV (a b : Val) : Int := if lessV a b then -1 else if lessV b a then 1 else 0
theorem cmpS_self (a : ByteArray) : cmpS a a = 0 := cmpS_zero.2 rfl
theorem cmpS_range (a b : ByteArray) : cmpS a b = -1 ∨ cmpS a b = 0 ∨ cmpS a b = 1 := by
  unfold cmpS
  generalize tB a = x
  generalize tB b = y
  induction x generalizing y with
  | nil => cases y <;> simp [Lib.compareBytes]
  | cons p x ih =>
    cases y with
    | nil => simp [Lib.compareBytes]
    | cons q y =>
      unfold Lib.compareBytes
      split
      · simp
      · split
        · simp
        · exact ih y
theorem cmpV_range (a b : Val) : cmpV a b = -1 ∨ cmpV a b = 0 ∨ cmpV a b = 1 := by
  have := cmpS_range a.s b.s
  have := cmpI_spec a.k b.k
  have := cmpI_spec a.n b.n
  rw [cmpV_def]
  split
  · omega
  · split <;> omega
theorem rcmpV_eq {a b : Val} (ha : a.Ok) (hb : b.Ok) : rcmpV a b = cmpV a b := by
  have e3 := cmpS_range a.s b.s
  have e4 : cmpS b.s a.s = - cmpS a.s b.s := cmpS_cmp.anti _ _
  by_cases hk : a.k = b.k
  · by_cases h3 : a.k = 3
    · have hn : a.n = b.n := by
        unfold Val.Ok at ha hb
        omega
      have l1 : lessV a b = sLt a.s b.s := by unfold lessV; rw [if_neg (by simpa using hk), if_pos h3]
      have l2 : lessV b a = sLt b.s a.s := by unfold lessV; rw [if_neg (by simpa using hk.symm), if_pos (hk ▸ h3)]
      have c1 : cmpV a b = cmpS a.s b.s := by rw [cmpV_def]; simp [cmpI_zero.2 hk, cmpI_zero.2 hn]
      unfold rcmpV
      rw [l1, l2, c1]
      by_cases x1 : sLt a.s b.s = true
      · rw [if_pos x1]; have := sLt_iff.1 x1; omega
      · rw [if_neg x1]
        have x1' : ¬ cmpS a.s b.s < 0 := fun h => x1 (sLt_iff.2 h)
        by_cases x2 : sLt b.s a.s = true
        · rw [if_pos x2]; have := sLt_iff.1 x2; omega
        · rw [if_neg x2]
          have x2' : ¬ cmpS b.s a.s < 0 := fun h => x2 (sLt_iff.2 h)
          omega
    · have hs : a.s = b.s := by
        unfold Val.Ok at ha hb
        have ha' : a.s = ⟨#[]⟩ := by
          rcases ha with h | h | h | h
          · exact h.2.2
          · exact h.2
          · exact h.2.2
          · exact absurd h.1 h3
        have hb' : b.s = ⟨#[]⟩ := by
          rcases hb with h | h | h | h
          · exact h.2.2
          · exact h.2
          · exact h.2.2
          · exact absurd (hk.trans h.1) h3
        rw [ha', hb']
      have l1 : lessV a b = decide (a.n < b.n) := by unfold lessV; rw [if_neg (by simpa using hk), if_neg h3]
      have l2 : lessV b a = decide (b.n < a.n) := by unfold lessV; rw [if_neg (by simpa using hk.symm), if_neg (hk ▸ h3)]
      have c1 : cmpV a b = cmpI a.n b.n := by
        rw [cmpV_def, hs, cmpS_self]
        by_cases h : cmpI a.n b.n = 0 <;> simp [cmpI_zero.2 hk, h]
      unfold rcmpV
      rw [l1, l2, c1]
      unfold cmpI
      simp only [decide_eq_true_eq]
  · have l1 : lessV a b = decide (a.k < b.k) := by unfold lessV; rw [if_pos hk]
    have l2 : lessV b a = decide (b.k < a.k) := by unfold lessV; rw [if_pos (Ne.symm hk)]
    have c1 : cmpV a b = cmpI a.k b.k := by
      have : cmpI a.k b.k ≠ 0 := fun h => hk (cmpI_zero.1 h)
      rw [cmpV_def, if_pos this]
    unfold rcmpV
    rw [l1, l2, c1]
    unfold cmpI
    simp only [decide_eq_true_eq]

/-! ### Lists of things of some cells each -/
section
variable {α : Type}
structure Ls (enc : α → List Value) (w : World) (p : Option Addr) (n c : Nat) (l : List α) : Prop where
  len : l.length = n
  cap : n ≤ c ∧ c ≤ maxLen
  lies : At w p (l.flatMap enc)
  nil : p = none → n = 0 ∧ c = 0
variable {enc : α → List Value} {s : Nat} {w w' : World} {p : Option Addr} {n c : Nat} {l : List α}
theorem Ls.ext (h : Ls enc w p n c l) (e : Ext w w') : Ls enc w' p n c l := ⟨h.len, h.cap, h.lies.ext e, h.nil⟩
theorem Ls.le (h : Ls enc w p n c l) : n ≤ maxLen := Nat.le_trans h.cap.1 h.cap.2
theorem Ls.kept (h : Ls enc w p n c l) (hk : ∀ b o, p = some ⟨b, o, none⟩ → b < w.heap.size → w'.heap[b]? = w.heap[b]?) : Ls enc w' p n c l := ⟨h.len, h.cap, h.lies.kept hk, h.nil⟩
theorem Ls.nothing (enc : α → List Value) (w : World) : Ls enc w none 0 0 [] := ⟨rfl, ⟨Nat.le_refl _, Nat.zero_le _⟩, .inl rfl, fun _ => ⟨rfl, rfl⟩⟩
theorem flatMap_get {enc : α → List Value} (hs : ∀ x, (enc x).length = s) {i j : Nat} {x : α} (hi : l[i]? = some x) (hj : j < s) : (l.flatMap enc)[i * s + j]? = (enc x)[j]? := by
  rw [List.flatMap_def, flatten_get (s := s) (by intro y hy; obtain ⟨z, _, rfl⟩ := List.mem_map.1 hy; exact hs z) hj, List.getElem?_map, hi]
  rfl
/-- The cells of thing i. -/
theorem At.things (hs : ∀ x, (enc x).length = s) (h0 : 0 < s) (h : At w p (l.flatMap enc)) {i : Nat} {x : α} (hi : l[i]? = some x) :
    ∃ b o, p = some ⟨b, o, none⟩ ∧ ∀ j v, (enc x)[j]? = some v → w.cell? ⟨b, o + (i * s + j), none⟩ = some v := by
  rcases h with h | ⟨b, o, hp, hc⟩
  · have := flatMap_get (enc := enc) (s := s) hs hi h0
    rw [h] at this
    have h1 : (enc x)[0]? = some ((enc x)[0]'(by rw [hs]; exact h0)) := List.getElem?_eq_getElem _
    rw [h1] at this; simp at this
  · refine ⟨b, o, hp, fun j v hv => hc _ _ ?_⟩
    have hj : j < s := by rw [← hs x]; exact (List.getElem?_eq_some_iff.1 hv).1
    rw [flatMap_get hs hi hj, hv]
theorem flatMap_length (hs : ∀ x, (enc x).length = s) : ∀ l : List α, (l.flatMap enc).length = l.length * s
  | [] => by simp
  | x :: l => by rw [List.flatMap_cons, List.length_append, hs, flatMap_length hs l, List.length_cons, Nat.succ_mul, Nat.add_comm]
theorem flatMap_take (hs : ∀ x, (enc x).length = s) : ∀ (l : List α) (k : Nat), (l.take k).flatMap enc = (l.flatMap enc).take (k * s)
  | [], k => by simp
  | x :: l, 0 => by simp
  | x :: l, k + 1 => by
    rw [List.take_succ_cons, List.flatMap_cons, List.flatMap_cons, flatMap_take hs l k, Nat.succ_mul, Nat.add_comm, List.take_append, hs, Nat.add_sub_cancel_left, List.take_of_length_le (l := enc x) (by rw [hs]; omega)]
theorem flatMap_drop (hs : ∀ x, (enc x).length = s) : ∀ (l : List α) (k : Nat), (l.drop k).flatMap enc = (l.flatMap enc).drop (k * s)
  | [], k => by simp
  | x :: l, 0 => by simp
  | x :: l, k + 1 => by
    rw [List.drop_succ_cons, List.flatMap_cons, flatMap_drop hs l k, Nat.succ_mul, Nat.add_comm, List.drop_append, hs, Nat.add_sub_cancel_left, List.drop_eq_nil_of_le (as := enc x) (by rw [hs]; omega), List.nil_append]
/-- s[lo:hi]. -/
theorem Ls.slice (hs : ∀ x, (enc x).length = s) (h : Ls enc w p n c l) {lo hi : Nat} (h1 : lo ≤ hi) (h2 : hi ≤ n) : Ls enc w (slBase p lo c s) (hi - lo) (c - lo) ((l.take hi).drop lo) := by
  have hc := h.cap
  refine ⟨by rw [List.length_drop, List.length_take, h.len]; omega, ⟨by omega, by omega⟩, ?_, fun e => ?_⟩
  · rw [flatMap_drop hs, flatMap_take hs]
    exact h.lies.slice lo hi c s (by omega)
  · have := h.nil (slBase_none e); omega
theorem Ls.take (hs : ∀ x, (enc x).length = s) (h : Ls enc w p n c l) {k : Nat} (h2 : k ≤ n) : Ls enc w p k c (l.take k) := by
  have hc := h.cap
  refine ⟨by rw [List.length_take, h.len]; omega, ⟨by omega, hc.2⟩, ?_, fun e => ?_⟩
  · rw [flatMap_take hs]; exact h.lies.take _
  · have := h.nil e; omega
/-- A row of our own that holds things. -/
theorem Mine.ls {B : Nat} {t : TypeId} (hs : ∀ x, (enc x).length = s) (h0 : 0 < s) (h : Mine B t s w p n c (l.flatMap enc)) : Ls enc w p n c l := by
  have h1 := h.len
  rw [flatMap_length hs] at h1
  exact ⟨Nat.eq_of_mul_eq_mul_right h0 h1, h.cap, h.at, h.isNil⟩
theorem flatMap_one (h : ∀ x, ∀ u ∈ enc x, u.oneCell' = true) (l : List α) : ∀ u ∈ l.flatMap enc, u.oneCell' = true := by
  intro u hu
  obtain ⟨x, _, hx⟩ := List.mem_flatMap.1 hu
  exact h x u hx

theorem list_lift {β : Type} {f : α → β} {Q : α → Prop} : ∀ {ys : List β}, (∀ y ∈ ys, ∃ a, y = f a ∧ Q a) → ∃ l : List α, ys = l.map f ∧ ∀ a ∈ l, Q a
  | [], _ => ⟨[], rfl, by simp⟩
  | y :: ys, h => by
    obtain ⟨a, rfl, ha⟩ := h y (by simp)
    obtain ⟨l, rfl, hl⟩ := list_lift (ys := ys) fun z hz => h z (by simp [hz])
    exact ⟨a :: l, rfl, fun b hb => by rcases List.mem_cons.1 hb with rfl | hb; exact ha; exact hl b hb⟩
/-- A slice that came in. -/
theorem arg_ls {P : Program} {t e : TypeId} {v : Value} {Q : α → Prop} (hu : P.underlying t = some (.slice e)) (h0 : 0 < P.cellsOf e) (hQ : ∀ x, Arg P w e x → ∃ a, x = enc a ∧ Q a) (hs : ∀ a, (enc a).length = P.cellsOf e) (h : Arg P w t [v]) :
    ∃ p n c l, v = .slice p n c ∧ Ls enc w p n c l ∧ (∀ a ∈ l, Q a) ∧ c * P.bytesOf e ≤ 140737488351232 := by
  obtain ⟨p, n, c, css, he, h1, h2, h3, h4, h5, h6, h7⟩ := Arg.slice hu h0 h
  cases he
  obtain ⟨full, rfl, hf⟩ := list_lift (f := enc) (Q := Q) (ys := css) fun x hx => hQ x (h5 x hx).2
  rw [← List.flatMap_def] at h6
  rw [List.length_map] at h4
  refine ⟨p, n, c, full.take n, rfl, ⟨by rw [List.length_take]; omega, ⟨h1, h2⟩, ?_, h7⟩, fun a ha => hf a (List.mem_of_mem_take ha), h3⟩
  rw [flatMap_take hs]
  exact h6.take _
end

theorem Blk.c3 {w : World} {b : Nat} {t : TypeId} {x y z : Value} (h : Blk w b t #[x, y, z]) : w.cell? ⟨b, 0, none⟩ = some x ∧ w.cell? ⟨b, 1, none⟩ = some y ∧ w.cell? ⟨b, 2, none⟩ = some z :=
  ⟨by rw [h.cell]; rfl, by rw [h.cell]; rfl, by rw [h.cell]; rfl⟩

theorem and1_i64 (n : Int) : bits .and .i64 n 1 = n % 2 := by
  have e : bits .and .i64 n 1 = IntKind.i64.wrap (((BitVec.ofInt 64 n &&& 1#64).toNat : Nat) : Int) := rfl
  rw [e, BitVec.toNat_and, BitVec.toNat_ofInt, show (1#64).toNat = 1 from rfl, Nat.and_one_is_mod, i64_fit (by omega) (by omega)]
  omega

/-! ### Slices as things -/
structure Sl where
  p : Option Addr
  n : Nat
  c : Nat
def Sl.v (h : Sl) : Value := .slice h.p h.n h.c
def Sl.cs (h : Sl) : List Value := [.slice h.p h.n h.c]
theorem Sl.cs_length (h : Sl) : h.cs.length = 1 := rfl
theorem Sl.cs_one (h : Sl) : ∀ u ∈ h.cs, u.oneCell' = true := by intro u hu; simp [Sl.cs] at hu; subst hu; rfl

/-- Values in a row. -/
abbrev Vs := Ls Val.cs
/-- Rows: their heads hs, what they hold. -/
structure Rws (w : World) (p : Option Addr) (n c : Nat) (hs : List Sl) (L : List (List Val)) : Prop where
  heads : Ls Sl.cs w p n c hs
  rows : ∀ (i : Nat) (h : Sl) (r : List Val), hs[i]? = some h → L[i]? = some r → Vs w h.p h.n h.c r
  len : L.length = n
section
variable {w w' : World} {p : Option Addr} {n c : Nat} {hs : List Sl} {L : List (List Val)}
theorem Rws.ext (h : Rws w p n c hs L) (e : Ext w w') : Rws w' p n c hs L := ⟨h.heads.ext e, fun i x r hx hr => (h.rows i x r hx hr).ext e, h.len⟩
theorem Rws.hlen (h : Rws w p n c hs L) : hs.length = n := h.heads.len
theorem Rws.nothing (w : World) : Rws w none 0 0 [] [] := ⟨Ls.nothing _ w, by simp, rfl⟩
theorem Rws.get (h : Rws w p n c hs L) {i : Nat} {r : List Val} (hi : L[i]? = some r) : ∃ x, hs[i]? = some x ∧ Vs w x.p x.n x.c r ∧ ∃ b o, p = some ⟨b, o, none⟩ ∧ w.cell? ⟨b, o + i, none⟩ = some (.slice x.p x.n x.c) := by
  have hlt : i < hs.length := by rw [h.hlen, ← h.len]; exact (List.getElem?_eq_some_iff.1 hi).1
  obtain ⟨b, o, hp, hc⟩ := h.heads.lies.things Sl.cs_length (by decide) (List.getElem?_eq_getElem hlt)
  refine ⟨hs[i], List.getElem?_eq_getElem hlt, h.rows i _ _ (List.getElem?_eq_getElem hlt) hi, b, o, hp, ?_⟩
  have := hc 0 _ rfl
  simpa using this
theorem Ls.val {r : List Val} (h : Vs w p n c r) {i : Nat} {v : Val} (hi : r[i]? = some v) :
    ∃ b o, p = some ⟨b, o, none⟩ ∧ w.cell? ⟨b, o + i * 3, none⟩ = some (.int .i64 v.k) ∧ w.cell? ⟨b, o + i * 3 + 1, none⟩ = some (.int .i64 v.n) ∧ w.cell? ⟨b, o + i * 3 + 2, none⟩ = some (.string v.s) := by
  obtain ⟨b, o, hp, hc⟩ := h.lies.things Val.cs_length (by decide) hi
  exact ⟨b, o, hp, by have := hc 0 _ rfl; simpa [Nat.add_assoc] using this, by have := hc 1 _ rfl; rwa [← Nat.add_assoc] at this, by have := hc 2 _ rfl; rwa [← Nat.add_assoc] at this⟩
theorem Rws.take (h : Rws w p n c hs L) {k : Nat} (hk : k ≤ n) : Rws w p k c (hs.take k) (L.take k) :=
  ⟨h.heads.take Sl.cs_length hk, fun i x r hx hr => h.rows i x r (by rw [List.getElem?_take] at hx; split at hx; exact hx; cases hx) (by rw [List.getElem?_take] at hr; split at hr; exact hr; cases hr), by rw [List.length_take, h.len]; omega⟩
theorem Rws.le (h : Rws w p n c hs L) : n ≤ maxLen := h.heads.le
end

/-- The types and the places of a struct's fields. -/
def structOf (P : Program) (t : TypeId) : Option (List (TypeId × Nat)) := match P.underlying t with
  | some (.struct fs) => some (fs.toList.map fun f => (f.type, f.offset))
  | _ => none
theorem Arg.fields {P : Program} {w : World} {t : TypeId} {cs : List Value} {l : List (TypeId × Nat)} (hu : structOf P t = some l) (h : Arg P w t cs) :
    cs.length = P.cellsOf t ∧ ∀ x ∈ l, Arg P w x.1 ((cs.drop x.2).take (P.cellsOf x.1)) := by
  unfold structOf at hu
  split at hu
  · rename_i fs hfs
    cases hu
    obtain ⟨h1, h2⟩ := Arg.struct hfs h
    refine ⟨h1, fun x hx => ?_⟩
    obtain ⟨f, hf, rfl⟩ := List.mem_map.1 hx
    exact h2 f hf
  · cases hu
theorem arg_val {P : Program} {w : World} {t ti tn ts : TypeId} {cs : List Value} (hu : structOf P t = some [(ti, 0), (tn, 1), (ts, 2)]) (hc : P.cellsOf t = 3) (h1 : P.cellsOf ti = 1) (h2 : P.cellsOf tn = 1) (h3 : P.cellsOf ts = 1)
    (u1 : P.underlying ti = some (.int .i64)) (u2 : P.underlying tn = some (.int .i64)) (u3 : P.underlying ts = some .string) (h : Arg P w t cs) : ∃ v : Val, cs = v.cs ∧ v.fit := by
  obtain ⟨hl, hf⟩ := Arg.fields hu h
  rw [hc] at hl
  obtain ⟨a, b, d, rfl⟩ : ∃ a b d, cs = [a, b, d] := by
    match cs, hl with
    | [a, b, d], _ => exact ⟨a, b, d, rfl⟩
  have f1 := hf (ti, 0) (by simp)
  have f2 := hf (tn, 1) (by simp)
  have f3 := hf (ts, 2) (by simp)
  simp only [h1, h2, h3] at f1 f2 f3
  obtain ⟨k, e1, w1⟩ := Arg.int u1 f1
  obtain ⟨n, e2, w2⟩ := Arg.int u2 f2
  obtain ⟨s, e3, _⟩ := Arg.string u3 f3
  simp at e1 e2 e3
  subst e1 e2 e3
  exact ⟨⟨k, n, s⟩, rfl, wf_i64 w1, wf_i64 w2⟩
end Go.Vc
