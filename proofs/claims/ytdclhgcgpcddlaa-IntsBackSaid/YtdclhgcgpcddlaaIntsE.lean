/- Lists of numbers in few bytes: Best, the document's and the program's; what law 06 shows first. -/
import Derived.Test.YtdclhgcgpcddlaaIntsD
namespace Go.Proofs.Ytdclhgcgpcddlaa
open Go Go.Vc Go.RowKit

/-- The forms' lengths. -/
def lens (l : List Int) : List Int := [((encL 0 l).length : Int), ((encL 1 l).length : Int), ((encL 2 l).length : Int), ((encL 3 l).length : Int)]
def argmin4 (a b c d : Int) : Int := if a ≤ b ∧ a ≤ c ∧ a ≤ d then 0 else if b ≤ c ∧ b ≤ d then 1 else if c ≤ d then 2 else 3
/-- The best form. -/
def bestF (l : List Int) : Int := argmin4 (encL 0 l).length (encL 1 l).length (encL 2 l).length (encL 3 l).length
def bestV (l : List Int) : Value := if l.length ≤ 4096 then .tuple #[.int .i64 (bestF l), .int .i64 0] else .tuple #[.int .i64 0, .int .i64 2]
theorem argmin4_range (a b c d : Int) : argmin4 a b c d = 0 ∨ argmin4 a b c d = 1 ∨ argmin4 a b c d = 2 ∨ argmin4 a b c d = 3 := by
  unfold argmin4
  split
  · exact .inl rfl
  · split
    · exact .inr (.inl rfl)
    · split
      · exact .inr (.inr (.inl rfl))
      · exact .inr (.inr (.inr rfl))
theorem bestF_range (l : List Int) : 0 ≤ bestF l ∧ bestF l ≤ 3 := by have := argmin4_range (encL 0 l).length (encL 1 l).length (encL 2 l).length (encL 3 l).length; unfold bestF; omega

theorem und92 : Try.prog.underlying 92 = some (.slice 3) := by kernel_rfl
theorem ty3i : ∃ z, tyOf Try.prog 3 = some z ∧ z.ls.length = 1 ∧ z.bytes = 8 := ⟨_, (by kernel_rfl : tyOf Try.prog 3 = some ⟨false, [.int .i64], .int .i64 0, 8⟩), rfl, rfl⟩
theorem app_int {w0 W W1 : World} {fs : List (Nat × Obj)} {ms : List Row} (H : Hold w0 W fs ms) (i : Nat) {p : Option Addr} {n c b : Nat} {l : List Int} {x : Int} (hi : ms[i]? = some ⟨3, 1, p, n, c, vI .i64 l⟩)
    (hnew : New W (.cells #[.int .i64 x] 3) b W1) (hn : n ≤ 1000000) :
    ∃ p' c' W', (Builtin.append_ #[92, 92] 92 #[.slice p n c, .slice (some ⟨b, 0, none⟩) 1 1]).run Try.prog W1 = .ok (.slice p' (n + 1) c') W' ∧ Hold w0 W' fs (ms.set i ⟨3, 1, p', n + 1, c', vI .i64 (l ++ [x])⟩) := by
  obtain ⟨z, hz, z1, z2⟩ := ty3i
  rw [vI_append]
  exact (H.step hnew.ext).append i hi und92 hz z1 (by decide) (hnew.at : At W1 (some ⟨b, 0, none⟩) (vI .i64 [x])) (m := 1) rfl (fun e => by cases e) vI_one (by rw [z2]; omega) (by simp [maxLen]; omega)

theorem minN_ok (w : World) {p : Option Addr} {n c : Nat} {l : List Int} (h : Is w p n c l) (h0 : 0 < n) : Calls Try.prog 80 #[.slice p n c] w fun e w' => e = .returned (.int .i64 (lowL l)) ∧ Ext w w' := by
  have hlen := h.len
  have hle : n ≤ 9223372036854775807 := h.le
  apply minN_vc
  unfold minN_T
  obtain ⟨x0, hx0⟩ : ∃ x, l[0]? = some x := ⟨_, List.getElem?_eq_getElem (by omega)⟩
  obtain ⟨b, o, hp, hc⟩ := h.lies.getZ hx0
  refine ⟨fun h => by omega, fun _ => ⟨b, o, hp, by omega, by omega, x0, hc, fun a i w' => ∃ k : Nat, i = (k : Int) ∧ 0 < k ∧ k ≤ n ∧ a = lowL (l.take k) ∧ Ext w w', fun _ i _ => n - i.toNat, ⟨1, rfl, by omega, by omega, ?_, .rfl⟩, ?_⟩⟩
  · rw [take_snoc hx0]; simp [lowL]
  rintro a i w' ⟨k, rfl, hk0, hk, rfl, hx⟩
  refine ⟨fun hlt => ?_, fun hge => ?_⟩
  · obtain ⟨x, hxk⟩ : ∃ x, l[k]? = some x := ⟨_, List.getElem?_eq_getElem (by omega)⟩
    obtain ⟨b, o, hp, hc⟩ := (h.ext hx).lies.getZ hxk
    refine ⟨b, o, hp, by omega, by omega, x, by rw [Int.toNat_natCast]; exact hc, ?_⟩
    rw [i64_next (by omega), show mmI false (lowL (l.take k)) x = min (lowL (l.take k)) x by unfold mmI; dsimp only; split <;> omega]
    exact ⟨⟨k + 1, rfl, by omega, by omega, (lowL_snoc hk0 hxk).symm, hx⟩, by simp only [Int.toNat_natCast]; omega⟩
  · rw [List.take_of_length_le (by omega)]
    exact ⟨rfl, hx⟩

theorem index_ok (w : World) {p : Option Addr} {n c : Nat} {l : List Int} {v : Int} (h : Is w p n c l) (hv : v ∈ l) :
    Calls Try.prog 79 #[.slice p n c, .int .i64 v] w fun e w' => ∃ i : Nat, e = .returned (.int .i64 (i : Int)) ∧ l[i]? = some v ∧ (∀ j, j < i → l[j]? ≠ some v) ∧ Ext w w' := by
  have hlen := h.len
  have hle : n ≤ 9223372036854775807 := h.le
  apply index_vc
  unfold index_T
  refine ⟨fun i w' => ∃ k : Nat, i = (k : Int) ∧ k ≤ n ∧ (∀ j, j < k → l[j]? ≠ some v) ∧ Ext w w', fun i _ => n - i.toNat, ⟨0, rfl, Nat.zero_le _, by simp, .rfl⟩, ?_⟩
  rintro i w' ⟨k, rfl, hk, hno, hx⟩
  refine ⟨fun hlt => ?_, fun hge => ?_⟩
  · obtain ⟨x, hxk⟩ : ∃ x, l[k]? = some x := ⟨_, List.getElem?_eq_getElem (by omega)⟩
    obtain ⟨b, o, hp, hc⟩ := (h.ext hx).lies.getZ hxk
    refine ⟨b, o, hp, by omega, by omega, x, by rw [Int.toNat_natCast]; exact hc, fun he => ⟨k, rfl, by rw [hxk, he], hno, hx⟩, fun hne => ?_⟩
    rw [i64_next (by omega)]
    refine ⟨⟨k + 1, rfl, by omega, fun j hj => ?_, hx⟩, by simp only [Int.toNat_natCast]; omega⟩
    rcases Nat.lt_or_ge j k with h1 | h1
    · exact hno j h1
    · obtain rfl : j = k := by omega
      rw [hxk]; intro e; cases e; exact hne rfl
  · obtain ⟨j, hj⟩ := List.mem_iff_getElem?.1 hv
    have := (List.getElem?_eq_some_iff.1 hj).1
    exact absurd hj (hno j (by omega))

theorem lowL4 (a b c d : Int) : lowL [a, b, c, d] = min (min (min a b) c) d := rfl

theorem least_ok (w : World) {p : Option Addr} {n c : Nat} {l : List Int} (h : Is w p n c (lens l)) : Calls Try.prog 69 #[.slice p n c] w fun e w' => e = .returned (.int .i64 (bestF l)) ∧ Ext w w' := by
  have hn : n = 4 := h.len.symm
  apply least_vc
  unfold least_T
  refine (minN_ok w h (by omega)).mono ?_
  rintro e w2 ⟨rfl, e2⟩
  refine ⟨_, rfl, (index_ok w2 (h.ext e2) (lowL_mem (by simp [lens]))).mono ?_⟩
  rintro e w5 ⟨i, rfl, hi, hno, e5⟩
  have : (i : Int) = bestF l := by
    unfold lens at hi hno
    rw [lowL4] at hi hno
    unfold bestF argmin4
    have h0 := hno 0
    have h1 := hno 1
    have h2 := hno 2
    simp only [List.getElem?_cons_zero, List.getElem?_cons_succ, ne_eq, Option.some.injEq] at h0 h1 h2
    rcases i with _ | _ | _ | _ | i
    · simp only [List.getElem?_cons_zero, Option.some.injEq] at hi
      rw [if_pos (by omega)]; rfl
    · simp only [List.getElem?_cons_zero, List.getElem?_cons_succ, Option.some.injEq] at hi
      have := h0 (by omega)
      rw [if_neg (by omega), if_pos (by omega)]; rfl
    · simp only [List.getElem?_cons_zero, List.getElem?_cons_succ, Option.some.injEq] at hi
      have := h0 (by omega)
      have := h1 (by omega)
      rw [if_neg (by omega), if_neg (by omega), if_pos (by omega)]; rfl
    · simp only [List.getElem?_cons_zero, List.getElem?_cons_succ, Option.some.injEq] at hi
      have := h0 (by omega)
      have := h1 (by omega)
      have := h2 (by omega)
      rw [if_neg (by omega), if_neg (by omega), if_neg (by omega)]; rfl
    · simp at hi
  rw [← this]
  exact ⟨_, rfl, rfl, e2.trans e5⟩

theorem best_ok (w : World) {p : Option Addr} {n c : Nat} {l : List Int} (h : Is w p n c l) : Calls Try.prog 50 #[.slice p n c] w fun e w' => e = .returned (bestV l) ∧ Ext w w' := by
  have hlen := h.len
  apply best_vc
  unfold best_T
  refine ⟨fun ps ns cs i W => ∃ k : Nat, i = (k : Int) ∧ k ≤ 4 ∧ ns = k ∧ (k = 0 ∨ l.length ≤ 4096) ∧ Hold w W [] [⟨3, 1, ps, ns, cs, vI .i64 ((lens l).take k)⟩], fun _ _ _ i _ => 4 - i.toNat, ⟨0, rfl, Nat.zero_le _, rfl, .inl rfl, (Hold.start (.rfl : Ext w w)).nilRow 3 1⟩, ?_⟩
  rintro ps ns cs i W ⟨k, rfl, hk, rfl, hcase, H⟩
  refine ⟨fun hlt => ?_, fun hge => ?_⟩
  · refine (encode_ok W (h.ext H.ext) _).mono ?_
    rintro e w11 ⟨q, m, d, rfl, o, e11⟩
    refine ⟨q, m, d, _, rfl, fun hne => ?_, fun h0 b18 w19 h18 => ?_⟩
    · have hbig : ¬ l.length ≤ 4096 := by
        intro hle
        apply hne
        unfold encE
        rw [if_pos ⟨by omega, hle⟩]
      have : encE (ns : Int) l = 2 := by unfold encE; rw [if_neg (fun h => hbig h.2)]
      rw [this]
      exact ⟨by rw [bestV, if_neg hbig], H.ext.trans e11⟩
    · have hle : l.length ≤ 4096 := by
        apply Classical.byContradiction
        intro hbig
        unfold encE at h0
        rw [if_neg (fun h => hbig h.2)] at h0
        cases h0
      have hm := o.1
      have eB : encB (ns : Int) l = encL ns l := by unfold encB; rw [if_pos ⟨by omega, hle⟩, Int.toNat_natCast]
      rw [eB] at hm
      obtain ⟨p', c', w24, hrun, H24⟩ := app_int (H.step e11) 0 rfl h18 (by omega)
      rw [i64_next (by omega)]
      refine ⟨p', _, c', w24, hrun, ⟨ns + 1, rfl, by omega, rfl, .inr hle, ?_⟩, by simp only [Int.toNat_natCast]; omega⟩
      have hg : (lens l)[ns]? = some (m : Int) := by
        have h4 : ns = 0 ∨ ns = 1 ∨ ns = 2 ∨ ns = 3 := by omega
        rcases h4 with rfl | rfl | rfl | rfl <;> simp only [lens, List.getElem?_cons_zero, List.getElem?_cons_succ, hm]
      rw [take_snoc hg]
      exact H24
  · have : ns = 4 := by omega
    subst this
    have hle : l.length ≤ 4096 := by rcases hcase with h | h; · cases h
                                     · exact h
    have hrow := H.row 0 rfl
    have hfit : ∀ x ∈ lens l, i64B x := by
      have hl := fun f => encL_len (f := f) h.fit hle
      intro x hx
      have h0 := hl 0; have h1 := hl 1; have h2 := hl 2; have h3 := hl 3
      unfold i64B
      simp only [lens, List.mem_cons, List.not_mem_nil, or_false] at hx
      omega
    have his : Is W ps 4 cs (lens l) := ⟨rfl, hrow.cap, hrow.at, hrow.isNil, hfit⟩
    refine (least_ok W his).mono ?_
    rintro e w27 ⟨rfl, e27⟩
    exact ⟨_, rfl, by rw [bestV, if_pos hle], H.ext.trans e27⟩

theorem rbest_ok (w : World) {p : Option Addr} {n c : Nat} {l : List Int} (h : Is w p n c l) : Calls Try.prog 51 #[.slice p n c] w fun e w' => e = .returned (bestV l) ∧ Ext w w' := by
  have hlen := h.len
  apply rbest_vc
  unfold rbest_T
  refine ⟨fun hbig => ⟨by rw [bestV, if_neg (by omega)], .rfl⟩, fun hle => ?_⟩
  have hle' : l.length ≤ 4096 := by omega
  refine ⟨fun b s i W => ∃ k : Nat, i = (k : Int) ∧ k ≤ 4 ∧ (b = if k = 0 then 0 else if k = 1 then 0 else if k = 2 then (if (encL 0 l).length ≤ (encL 1 l).length then 0 else 1) else if k = 3 then (if (encL 0 l).length ≤ (encL 1 l).length ∧ (encL 0 l).length ≤ (encL 2 l).length then 0 else if (encL 1 l).length ≤ (encL 2 l).length then 1 else 2) else bestF l) ∧
      (s = if k = 0 then 0 else if k = 1 then ((encL 0 l).length : Int) else if k = 2 then min ((encL 0 l).length : Int) (encL 1 l).length else if k = 3 then min (min ((encL 0 l).length : Int) (encL 1 l).length) (encL 2 l).length else min (min (min ((encL 0 l).length : Int) (encL 1 l).length) (encL 2 l).length) (encL 3 l).length) ∧ Ext w W,
    fun _ _ i _ => 4 - i.toNat, ⟨0, rfl, Nat.zero_le _, rfl, rfl, .rfl⟩, ?_⟩
  rintro b s i W ⟨k, rfl, hk, rfl, rfl, hx⟩
  refine ⟨fun hlt => ?_, fun hge => ?_⟩
  · refine (rencode_ok W (h.ext hx) _).mono ?_
    rintro e w12 ⟨q, m, d, rfl, o, e12⟩
    have hm := o.1
    have eB : encB (k : Int) l = encL k l := by unfold encB; rw [if_pos ⟨by omega, hle'⟩, Int.toNat_natCast]
    rw [eB] at hm
    rw [i64_next (by omega)]
    have hx12 := hx.trans e12
    have h4 : k = 0 ∨ k = 1 ∨ k = 2 ∨ k = 3 := by omega
    refine ⟨q, m, d, _, rfl, fun hc => ⟨⟨k + 1, rfl, by omega, ?_, ?_, hx12⟩, by simp only [Int.toNat_natCast]; omega⟩, fun hc => ⟨⟨k + 1, rfl, by omega, ?_, ?_, hx12⟩, by simp only [Int.toNat_natCast]; omega⟩⟩
    · rcases h4 with rfl | rfl | rfl | rfl <;> simp at hc ⊢ <;> (try unfold bestF argmin4) <;> (repeat' split) <;> omega
    · rcases h4 with rfl | rfl | rfl | rfl <;> simp at hc ⊢ <;> omega
    · rcases h4 with rfl | rfl | rfl | rfl <;> simp at hc ⊢ <;> (try unfold bestF argmin4) <;> (repeat' split) <;> omega
    · rcases h4 with rfl | rfl | rfl | rfl <;> simp at hc ⊢ <;> omega
  · have : k = 4 := by omega
    subst this
    exact ⟨by rw [bestV, if_pos hle']; simp, hx⟩

theorem arr_ints (l : List Int) {w w' : World} {b : Nat} {t : TypeId} {cs : Array Value} (h : New w (.cells cs t) b w') (hc : cs = (vI .i64 l).toArray) (hm : l.length ≤ maxLen) (hl : ∀ x ∈ l, i64B x) : Is w' (some ⟨b, 0, none⟩) l.length l.length l := by
  subst hc
  exact ⟨rfl, ⟨Nat.le_refl _, hm⟩, by have := h.at; simpa using this, (fun e => by cases e), hl⟩

theorem shown_enc : encB 2 [5, 6, 7] = [2, 10, 2, 10] := by decide +kernel
theorem shown_best : bestF [7, 7, 7] = 1 := by decide +kernel

theorem shown6_ok (w : World) : Calls Try.prog 47 #[] w fun e w' => e = .returned (.bool true) ∧ Ext w w' := by
  apply shown6_vc
  unfold shown6_T
  intro b1 w2 h1
  refine (encode_ok w2 (arr_ints [5, 6, 7] h1 rfl (by decide) (by intro x hx; simp at hx; unfold i64B; omega)) 2).mono ?_
  rintro e w5 ⟨q, m, d, rfl, o, e5⟩
  refine ⟨q, m, d, _, rfl, fun b10 w11 h10 => (best_ok w11 (arr_ints [7, 7, 7] h10 rfl (by decide) (by intro x hx; simp at hx; unfold i64B; omega))).mono ?_⟩
  rintro e w14 ⟨rfl, e14⟩
  rw [shown_enc] at o
  have hv : bestV [7, 7, 7] = .tuple #[.int .i64 1, .int .i64 0] := by rw [bestV, if_pos (by decide), shown_best]
  refine ⟨1, 0, by rw [hv], fun _ => ⟨_, ((o.ext h10.ext).ext e14).bytes, by simp [sEq_self], ((h1.ext.trans e5).trans h10.ext).trans e14⟩, fun hne => absurd rfl hne⟩
end Go.Proofs.Ytdclhgcgpcddlaa
