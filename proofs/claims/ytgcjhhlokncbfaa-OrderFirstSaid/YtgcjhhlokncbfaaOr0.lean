/- Keys, and how two rows stand by them; rows in order. Plain Lean, no program. -/
import Derived.Test.YtgcjhhlokncbfaaVl
namespace Go.Vc
open Go Go.RowKit

structure Key where
  k : Int
  d : Bool
def Key.cs (x : Key) : List Value := [.int .i64 x.k, .bool x.d]
theorem Key.cs_length (x : Key) : x.cs.length = 2 := rfl
abbrev Ks := Ls Key.cs
def keyBad (n : Nat) (x : Key) : Bool := decide (x.k < 0 ∨ (n : Int) ≤ x.k)
def rightR (r : List Val) (ks : List Key) : Bool := rightL r && !(ks.any (keyBad r.length))
def allR (ks : List Key) (L : List (List Val)) : Bool := L.all fun r => rightR r ks

def keyC (x : Key) (a b : List Val) : Int := if x.d then - cmpV (a.getD x.k.toNat nullV) (b.getD x.k.toNat nullV) else cmpV (a.getD x.k.toNat nullV) (b.getD x.k.toNat nullV)
def standsF : List Key → List Val → List Val → Int
  | [], _, _ => 0
  | x :: ks, a, b => lexC (keyC x) (standsF ks) a b
theorem keyC_cmp (x : Key) : Cmp (keyC x) := by
  unfold keyC
  cases x.d
  · exact cmpV_cmp.on fun a : List Val => a.getD x.k.toNat nullV
  · exact (cmpV_cmp.on fun a : List Val => a.getD x.k.toNat nullV).neg
theorem standsF_cmp : ∀ ks : List Key, Cmp (standsF ks)
  | [] => Cmp.none
  | x :: ks => (keyC_cmp x).lex (standsF_cmp ks)
theorem keyC_range (x : Key) (a b : List Val) : keyC x a b = -1 ∨ keyC x a b = 0 ∨ keyC x a b = 1 := by
  have := cmpV_range (a.getD x.k.toNat nullV) (b.getD x.k.toNat nullV)
  unfold keyC
  split <;> omega
theorem standsF_range : ∀ (ks : List Key) (a b : List Val), standsF ks a b = -1 ∨ standsF ks a b = 0 ∨ standsF ks a b = 1
  | [], _, _ => .inr (.inl rfl)
  | x :: ks, a, b => by
    have h1 := keyC_range x a b
    have h2 := standsF_range ks a b
    unfold standsF lexC
    split <;> omega

theorem Ls.key {w : World} {p : Option Addr} {n c : Nat} {ks : List Key} (h : Ks w p n c ks) {i : Nat} {x : Key} (hi : ks[i]? = some x) :
    ∃ b o, p = some ⟨b, o, none⟩ ∧ w.cell? ⟨b, o + i * 2, none⟩ = some (.int .i64 x.k) ∧ w.cell? ⟨b, o + i * 2 + 1, none⟩ = some (.bool x.d) := by
  obtain ⟨b, o, hp, hc⟩ := h.lies.things Key.cs_length (by decide) hi
  exact ⟨b, o, hp, by have := hc 0 _ rfl; simpa [Nat.add_assoc] using this, by have := hc 1 _ rfl; rwa [← Nat.add_assoc] at this⟩

section
variable {α β : Type} {c : β → β → Int}
theorem cls_map (f : α → β) (z : β) (l : List α) : cls c z (l.map f) = (l.filter fun x => decide (c z (f x) = 0)).map f := by
  unfold cls; rw [List.filter_map]; rfl
/-- What was put in order by what f says of things is in order. -/
theorem Stab.map (hc : Cmp c) (f : α → β) {D r : List α} (h : Stab (fun a b => c (f a) (f b)) D r) : Stab c (D.map f) (r.map f) := by
  have hc' := hc.on f
  refine ⟨List.pairwise_map.2 h.ord, fun z => ?_⟩
  rw [cls_map, cls_map]
  congr 1
  by_cases hz : ∃ x ∈ D, c z (f x) = 0
  · obtain ⟨x, hx, hzx⟩ := hz
    have key : ∀ l : List α, (l.filter fun y => decide (c z (f y) = 0)) = cls (fun a b => c (f a) (f b)) x l := by
      intro l
      refine List.filter_congr fun y _ => ?_
      rw [decide_eq_decide]
      constructor
      · intro hy; exact hc.eq_trans (hc.eq_symm hzx) hy
      · intro hy; exact hc.eq_trans hzx hy
    rw [key, key]; exact h.same x
  · have e : ∀ l : List α, (∀ y ∈ l, y ∈ D) → (l.filter fun y => decide (c z (f y) = 0)) = [] := by
      intro l hl
      rw [List.filter_eq_nil_iff]
      intro y hy
      have : ¬ c z (f y) = 0 := fun e => hz ⟨y, hl y hy, e⟩
      simpa using this
    rw [e D fun y hy => hy, e r fun y hy => (h.mem hc').1 hy]
end

/-- A slice holds one list alone. -/
theorem Ls.unique {w : World} {p : Option Addr} {n c : Nat} {a b : List Val} (ha : Vs w p n c a) (hb : Vs w p n c b) : a = b := by
  apply List.ext_getElem?
  intro i
  rcases Nat.lt_or_ge i n with hi | hi
  · have ea : a[i]? = some (a[i]'(by rw [ha.len]; exact hi)) := List.getElem?_eq_getElem _
    have eb : b[i]? = some (b[i]'(by rw [hb.len]; exact hi)) := List.getElem?_eq_getElem _
    obtain ⟨b1, o1, hp, a0, a1, a2⟩ := ha.val ea
    obtain ⟨b2, o2, hq, d0, d1, d2⟩ := hb.val eb
    rw [hp] at hq; cases hq
    rw [a0] at d0; rw [a1] at d1; rw [a2] at d2
    simp only [Option.some.injEq, Value.int.injEq, Value.string.injEq, true_and] at d0 d1 d2
    rw [ea, eb, Val.ext'.2 ⟨d0, d1, d2⟩]
  · rw [List.getElem?_eq_none (by rw [ha.len]; exact hi), List.getElem?_eq_none (by rw [hb.len]; exact hi)]

/-- What each slice holds, as a function. -/
theorem vals_of (w : World) : ∃ val : Sl → List Val, ∀ (x : Sl) r, Vs w x.p x.n x.c r → val x = r := by
  have : ∀ x : Sl, ∃ r : List Val, ∀ r', Vs w x.p x.n x.c r' → r = r' := by
    intro x
    by_cases h : ∃ r, Vs w x.p x.n x.c r
    · obtain ⟨r, hr⟩ := h
      exact ⟨r, fun r' hr' => Ls.unique hr hr'⟩
    · exact ⟨[], fun r' hr' => absurd ⟨r', hr'⟩ h⟩
  obtain ⟨f, hf⟩ := Classical.axiomOfChoice this
  exact ⟨f, hf⟩

theorem any_drop {α : Type} {f : α → Bool} {l : List α} {k : Nat} {x : α} (h : l[k]? = some x) : (l.drop k).any f = (f x || (l.drop (k + 1)).any f) := by
  obtain ⟨hk, rfl⟩ := List.getElem?_eq_some_iff.1 h
  rw [List.drop_eq_getElem_cons hk, List.any_cons]
theorem all_drop {α : Type} {f : α → Bool} {l : List α} {k : Nat} {x : α} (h : l[k]? = some x) : (l.drop k).all f = (f x && (l.drop (k + 1)).all f) := by
  obtain ⟨hk, rfl⟩ := List.getElem?_eq_some_iff.1 h
  rw [List.drop_eq_getElem_cons hk, List.all_cons]
theorem standsF_drop {ks : List Key} {k : Nat} {x : Key} {a b : List Val} (h : ks[k]? = some x) : standsF (ks.drop k) a b = if keyC x a b ≠ 0 then keyC x a b else standsF (ks.drop (k + 1)) a b := by
  obtain ⟨hk, rfl⟩ := List.getElem?_eq_some_iff.1 h
  rw [List.drop_eq_getElem_cons hk]; rfl
theorem getD_of {l : List Val} {i : Nat} {v : Val} (h : l[i]? = some v) : l.getD i nullV = v := by rw [List.getD_eq_getElem?_getD, h]; rfl
theorem rightR_val {r : List Val} {ks : List Key} (h : rightR r ks = true) {v : Val} (hv : v ∈ r) : v.Ok := by
  unfold rightR rightL at h
  rw [Bool.and_eq_true, List.all_eq_true] at h
  exact of_decide_eq_true (h.1 v hv)
theorem rightR_key {r : List Val} {ks : List Key} (h : rightR r ks = true) {x : Key} (hx : x ∈ ks) : 0 ≤ x.k ∧ x.k < (r.length : Int) := by
  unfold rightR at h
  rw [Bool.and_eq_true, Bool.not_eq_true', List.any_eq_false] at h
  have := h.2 x hx
  unfold keyBad at this
  simp only [decide_eq_true_eq] at this
  omega
theorem allR_mem {L : List (List Val)} {ks : List Key} (h : allR ks L = true) {r : List Val} (hr : r ∈ L) : rightR r ks = true := List.all_eq_true.1 h r hr
end Go.Vc
