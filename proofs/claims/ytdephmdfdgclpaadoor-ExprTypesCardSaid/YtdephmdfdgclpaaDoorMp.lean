/- Maps with texts as keys: what a lookup and an update do, over a list of what the map holds. -/
import Derived.Test.YtdephmdfdgclpaaDoorFrame
import Derived.MapKept
namespace Go.Vc
open Go Go.RowKit

theorem ba_beq {a b : ByteArray} : (a == b) = true ↔ a = b := by
  constructor
  · intro h
    obtain ⟨a⟩ := a
    obtain ⟨b⟩ := b
    have : (a == b) = true := h
    rw [beq_iff_eq.1 this]
  · rintro rfl
    obtain ⟨a⟩ := a
    show (a == a) = true
    rw [beq_iff_eq]
instance : LawfulBEq ByteArray where
  rfl := ba_beq.2 rfl
  eq_of_beq := ba_beq.1
theorem ba_bne {a b : ByteArray} (h : ¬ a = b) : (a == b) = false := by rw [← Bool.not_eq_true, ba_beq]; exact h
/-- The entries es are those of l: texts and what they lead to. -/
def MapL (es : Array MapEntry) (l : List (ByteArray × Value)) : Prop := es.toList.map (fun e => (e.key, e.val)) = l.map fun p => (Value.string p.1, p.2)
def lookS (l : List (ByteArray × Value)) (s : ByteArray) : Option Value := match l with
  | [] => none
  | p :: r => if p.1 = s then some p.2 else lookS r s
def setS (l : List (ByteArray × Value)) (s : ByteArray) (v : Value) : List (ByteArray × Value) := match l with
  | [] => [(s, v)]
  | p :: r => if p.1 = s then (s, v) :: r else p :: setS r s v

theorem MapL.nil : MapL #[] [] := rfl
theorem lookS_setS (l : List (ByteArray × Value)) (s : ByteArray) (v : Value) (t : ByteArray) : lookS (setS l s v) t = if s = t then some v else lookS l t := by
  induction l with
  | nil => simp [setS, lookS]
  | cons p r ih =>
    unfold setS
    by_cases h : p.1 = s
    · rw [if_pos h]
      unfold lookS
      by_cases h2 : s = t
      · simp [h2]
      · have : ¬ p.1 = t := fun e => h2 (h.symm.trans e)
        simp [h2, this]
    · rw [if_neg h]
      unfold lookS
      by_cases h2 : p.1 = t
      · have : ¬ s = t := fun e => h (h2.trans e.symm)
        simp [h2, this]
      · simp only [h2, if_false]; exact ih

theorem findNow_none {s : ByteArray} : ∀ {el : List MapEntry} {l : List (ByteArray × Value)} (i : Nat), el.map (fun e => (e.key, e.val)) = l.map (fun p => (Value.string p.1, p.2)) → lookS l s = none → Instr.findNow .string (.string s) el i = some none
  | [], l, i, _, _ => rfl
  | e :: el, [], i, h, _ => by simp at h
  | e :: el, p :: l, i, h, hl => by
    simp only [List.map_cons, List.cons.injEq, Prod.mk.injEq] at h
    unfold lookS at hl
    split at hl
    · cases hl
    · rename_i hne
      unfold Instr.findNow
      rw [h.1.1]
      have : (s == p.1) = false := ba_bne fun e => hne e.symm
      simp only [Instr.sameNow, this]
      exact findNow_none (i + 1) h.2 hl
theorem findNow_some {s : ByteArray} {v : Value} : ∀ {el : List MapEntry} {l : List (ByteArray × Value)} (i : Nat), el.map (fun e => (e.key, e.val)) = l.map (fun p => (Value.string p.1, p.2)) → lookS l s = some v →
    ∃ j e, Instr.findNow .string (.string s) el i = some (some (i + j, v)) ∧ el[j]? = some e ∧ e.key = .string s ∧ ∀ v', (el.modify j fun e => { e with key := .string s, val := v' }).map (fun e => (e.key, e.val)) = (setS l s v').map fun p => (Value.string p.1, p.2)
  | [], [], i, _, h => by cases h
  | [], p :: l, i, h, _ => by simp at h
  | e :: el, [], i, h, _ => by simp at h
  | e :: el, p :: l, i, h, hl => by
    simp only [List.map_cons, List.cons.injEq, Prod.mk.injEq] at h
    unfold lookS at hl
    split at hl
    · rename_i heq
      cases hl
      refine ⟨0, e, ?_, rfl, by rw [h.1.1, heq], fun v' => ?_⟩
      · unfold Instr.findNow
        rw [h.1.1]
        have : (s == p.1) = true := ba_beq.2 heq.symm
        simp only [Instr.sameNow, this]
        rw [h.1.2]; rfl
      · unfold setS
        rw [if_pos heq]
        simp [List.modify, h.2]
    · rename_i hne
      obtain ⟨j, e', h1, h2, h3, h4⟩ := findNow_some (i + 1) h.2 hl
      refine ⟨j + 1, e', ?_, by simpa using h2, h3, fun v' => ?_⟩
      · unfold Instr.findNow
        rw [h.1.1]
        have : (s == p.1) = false := ba_bne fun e => hne e.symm
        simp only [Instr.sameNow, this]
        rw [h1, show i + 1 + j = i + (j + 1) by omega]
      · unfold setS
        rw [if_neg hne]
        simp only [List.modify_succ_cons, List.map_cons, h4 v', h.1.1, h.1.2]

section
variable {P : Program} {t kt e : TypeId} {w : World} {b : Nat} {es : Array MapEntry} {clock : Nat} {l : List (ByteArray × Value)} {s : ByteArray}
def zeroOf (P : Program) (t : TypeId) : Option Value := match P.info? t with | some i => i.zero | none => none
theorem run_zeroOf {z : Value} (h : zeroOf P e = some z) (w : World) : (zeroValue e).run P w = .ok z w := by
  unfold zeroOf at h
  split at h
  · rename_i i hi; exact run_zeroValue hi h w
  · cases h
theorem run_checkStr (hk : P.underlying kt = some .string) (em : Bool) : (Instr.checkKey em 10000 kt (.string s)).run P w = .ok () w := by
  unfold Instr.checkKey
  simp [run_underlying hk]
/-- m[s]. -/
theorem map_look (ht : P.underlying t = some (.map kt e)) (hk : P.underlying kt = some .string) {z : Value} (hz : (zeroValue e).run P w = .ok z w) (hb : w.heap[b]? = some (.map es clock)) (hl : MapL es l) :
    (Instr.lookup t (.map (some b)) (.string s) false).run P w = .ok ((lookS l s).getD z) w := by
  cases hs : lookS l s with
  | none =>
    have := findNow_none (s := s) 0 hl hs
    simp [Instr.lookup, run_underlying ht, MapKept.run_getObj_map hb, run_checkStr hk, Instr.findKey, run_underlying hk, this, hz]
  | some v =>
    obtain ⟨j, e', h1, _, _, _⟩ := findNow_some (s := s) 0 hl hs
    simp [Instr.lookup, run_underlying ht, MapKept.run_getObj_map hb, run_checkStr hk, Instr.findKey, run_underlying hk, h1]
theorem sameBits_str (s : ByteArray) : Instr.sameBits 10000 (.string s) (.string s) = true := by
  unfold Instr.sameBits
  exact ba_beq.2 rfl
/-- m[s] = v. -/
theorem map_set (ht : P.underlying t = some (.map kt e)) (hk : P.underlying kt = some .string) (hb : w.heap[b]? = some (.map es clock)) (hl : MapL es l) (v : Value) :
    ∃ w' es' clock', (Instr.mapUpdate t (.map (some b)) (.string s) v).run P w = .ok () w' ∧ w'.heap[b]? = some (.map es' clock') ∧ MapL es' (setS l s v) ∧ But b w w' ∧ w'.heap.size = w.heap.size := by
  have hlt : b < w.heap.size := (Array.getElem?_eq_some_iff.1 hb).1
  have fin : ∀ o, But b w { w with heap := w.heap.setIfInBounds b o } ∧ ({ w with heap := w.heap.setIfInBounds b o } : World).heap.size = w.heap.size ∧ ({ w with heap := w.heap.setIfInBounds b o } : World).heap[b]? = some o := fun o =>
    ⟨⟨rfl, rfl, rfl, by simp, fun k _ hne => by simp [Array.getElem?_setIfInBounds, Ne.symm hne]⟩, by simp, by simp [hlt]⟩
  cases hs : lookS l s with
  | none =>
    have h1 := findNow_none (s := s) 0 hl hs
    refine ⟨_, es.push { key := .string s, val := v, born := clock }, clock + 1, ?_, (fin _).2.2, ?_, (fin _).1, (fin _).2.1⟩
    · simp [Instr.mapUpdate, run_underlying ht, MapKept.run_getObj_map hb, run_checkStr hk, Instr.findKey, run_underlying hk, h1, MapKept.run_setObj_map _ hb]
    · have : setS l s v = l ++ [(s, v)] := by
        clear h1 hl
        induction l with
        | nil => rfl
        | cons p r ih =>
          unfold lookS at hs
          split at hs
          · cases hs
          · rename_i hne
            unfold setS
            rw [if_neg hne, ih hs]; rfl
      unfold MapL at hl ⊢
      rw [this, Array.toList_push, List.map_append, hl, List.map_append]
      rfl
  | some v0 =>
    obtain ⟨j, e', h1, h2, h3, h4⟩ := findNow_some (s := s) 0 hl hs
    rw [Nat.zero_add] at h1
    have hj : es[j]? = some e' := by simpa using h2
    refine ⟨_, es.modify j fun e => { e with key := .string s, val := v }, clock, ?_, (fin _).2.2, ?_, (fin _).1, (fin _).2.1⟩
    · simp [Instr.mapUpdate, run_underlying ht, MapKept.run_getObj_map hb, run_checkStr hk, Instr.findKey, run_underlying hk, h1, hj, h3, Instr.keyThatStays, sameBits_str, MapKept.run_setObj_map _ hb]
    · have := h4 v
      unfold MapL
      rw [Array.toList_modify]
      exact this
end
end Go.Vc
