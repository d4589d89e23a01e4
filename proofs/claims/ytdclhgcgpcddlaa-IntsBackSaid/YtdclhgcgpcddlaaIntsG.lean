/- Lists of numbers in few bytes: reading the first two forms, the document's way. -/
import Derived.Test.YtdclhgcgpcddlaaIntsF
namespace Go.Proofs.Ytdclhgcgpcddlaa
open Go Go.Vc Go.RowKit

theorem takeV_cases (b : List UInt8) (k : Int) : ∃ v1 v2 v3 : Int, takeV b k = .tuple #[.int .u64 v1, .int .i64 v2, .int .i64 v3] ∧ v2 ≤ (b.length : Int) ∧ ((∃ u k1, takeN b k = some (u, k1) ∧ v1 = ((u : Nat) : Int) ∧ v2 = ((k1 : Nat) : Int) ∧ v3 = 0) ∨ (takeN b k = none ∧ v3 = 20)) := by
  unfold takeV
  cases ht : takeN b k with
  | none => exact ⟨_, _, _, rfl, by omega, .inr ⟨rfl, rfl⟩⟩
  | some r => exact ⟨_, _, _, rfl, by have := (takeN_spec ht).2.2.2.1; omega, .inl ⟨r.1, r.2, rfl, rfl, rfl, rfl⟩⟩
theorem takeS_cases (b : List UInt8) (k : Int) : ∃ v1 v2 v3 : Int, takeS b k = .tuple #[.int .i64 v1, .int .i64 v2, .int .i64 v3] ∧ v2 ≤ (b.length : Int) ∧ ((∃ u k1, takeN b k = some (u, k1) ∧ v1 = unzig u ∧ v2 = ((k1 : Nat) : Int) ∧ v3 = 0) ∨ (takeN b k = none ∧ v3 = 20)) := by
  unfold takeS
  cases ht : takeN b k with
  | none => exact ⟨_, _, _, rfl, by omega, .inr ⟨rfl, rfl⟩⟩
  | some r => exact ⟨_, _, _, rfl, by have := (takeN_spec ht).2.2.2.1; omega, .inl ⟨r.1, r.2, rfl, rfl, rfl, rfl⟩⟩

set_option maxRecDepth 100000 in
theorem plainly_ok (w : World) {p : Option Addr} {bn c : Nat} {b : List UInt8} (h : InB w p bn c b) {n : Int} (hn : 0 ≤ n ∧ n ≤ 4096) {y : UInt8} (hy : b[0]? = some y) (hy2 : y.toNat < 2) :
    Calls Try.prog 73 #[.slice p bn c, .int .i64 n] w fun e w' => ∃ q m d out, e = .returned (.slice q m d) ∧ OutI w.heap.size 2 w' q m d out ∧ Ext w w' ∧ ∀ l, Says b y.toNat n l → out = l := by
  have hlen := h.len
  have hle : bn ≤ 9223372036854775807 := h.le
  have hb0 : 0 < bn := by have := (List.getElem?_eq_some_iff.1 hy).1; omega
  obtain ⟨N, rfl⟩ := Int.eq_ofNat_of_zero_le hn.1
  apply plainly_vc
  unfold plainly_T
  have eN : IntKind.u64.wrap (N : Int) = (N : Int) := u64_nat (by omega)
  rw [eN]
  refine ⟨fun q m d at_ W => ∃ (out : List Int) (k : Nat), at_ = (k : Int) ∧ k ≤ bn ∧ out.length = m ∧ m ≤ 2 * N ∧ (∀ x ∈ out, i64B x) ∧ Hold w W [] [⟨2, 1, q, m, d, vI .i64 out⟩] ∧ ∀ l, Says b y.toNat N l → if y.toNat = 0 then Tr0 l k out else Tr1 l k out,
    fun _ m _ _ _ => N - m, ⟨[], 1, rfl, by omega, rfl, by omega, by simp, (Hold.start (.rfl : Ext w w)).nilRow 2 1, fun l hl => ?_⟩, ?_⟩
  · split
    · exact ⟨0, Nat.zero_le _, by simp, by simp [plainL]⟩
    · exact ⟨[], _, rfl, rfl, by simp [runB]⟩
  rintro q m d at_ W ⟨out, k, rfl, hkb, hm, hmN, hfit, H, htr⟩
  -- it goes no further
  have stop : ∀ q' m' d' W' out', Ext w W' → OutI w.heap.size 2 W' q' m' d' out' → (∀ l, Says b y.toNat N l → out' = l) → ∃ q m d out, Ending.returned (.slice q' m' d') = .returned (.slice q m d) ∧ OutI w.heap.size 2 W' q m d out ∧ Ext w W' ∧ ∀ l, Says b y.toNat N l → out = l :=
    fun q' m' d' W' out' hx ho hl => ⟨q', m', d', out', rfl, ho, hx, hl⟩
  refine ⟨fun hlt => ?_, fun hge => ?_⟩
  · obtain ⟨b1, o1, hp, hc⟩ := (h.ext H.ext).lies.getB (i := 0) (by omega)
    have hby : b[0]'(by omega) = y := (List.getElem?_eq_some_iff.1 hy).2
    rw [hby] at hc
    refine ⟨b1, o1, hp, by omega, by omega, _, hc, fun h1 => ?_, fun h1 => ?_⟩
    · -- runs
      have hy1 : ¬ y.toNat = 0 := by omega
      refine (refTakeNumber_ok W p bn c b _ (by omega) hlen h.le (h.ext H.ext).lies).mono ?_
      rintro e w15 ⟨rfl, e15⟩
      have H15 := H.step e15
      obtain ⟨v1, v2, v3, hV, hv2, hVs⟩ := takeV_cases b k
      rw [hV]
      refine ⟨v1, v2, v3, rfl, (refTakeSigned_ok w15 p bn c b _ (by omega) hlen h.le (h.ext H15.ext).lies).mono ?_⟩
      rintro e w20 ⟨rfl, e20⟩
      have H20 := H15.step e20
      obtain ⟨s1, s2, s3, hS, _, hSs⟩ := takeS_cases b v2
      rw [hS]
      have said : ∀ l, Says b y.toNat N l → ∃ u x k1 k2, takeN b k = some (u, k1) ∧ takeN b (k1 : Int) = some (zigN x, k2) ∧ 0 < u ∧ m + u ≤ N ∧ Tr1 l k2 (out ++ List.replicate u x) := by
        intro l hl
        have ht := htr l hl
        rw [if_neg hy1] at ht
        have hll := hl.len
        have he : b = 1 :: runB (runsW l) := by have := hl.enc; rwa [show y.toNat = 1 by omega] at this
        obtain ⟨u, x, k1, k2, t1, t2, t3, t4, t5⟩ := tr1_next ht hl.fit (by omega) (by omega)
        rw [← he] at t1 t2
        exact ⟨u, x, k1, k2, t1, t2, t3, by omega, t5⟩
      refine ⟨s1, s2, s3, rfl, fun hbad => stop _ _ _ w20 out H20.ext ⟨hm, hfit, H20.row 0 rfl⟩ fun l hl => ?_, fun hok => ?_⟩
      · exfalso
        obtain ⟨u, x, k1, k2, t1, t2, t3, t4, _⟩ := said l hl
        rcases hVs with ⟨u', k1', a1, rfl, rfl, rfl⟩ | ⟨a1, _⟩
        · rw [t1] at a1; cases a1
          rcases hSs with ⟨_, _, a2, rfl, rfl, rfl⟩ | ⟨a2, _⟩
          · omega
          · rw [t2] at a2; cases a2
        · rw [t1] at a1; cases a1
      · obtain ⟨⟨rfl, rfl⟩, hfits⟩ := hok
        obtain ⟨u, k1, a1, rfl, rfl, _⟩ := hVs.resolve_right fun h => by have := h.2; omega
        obtain ⟨z, k2, a2, rfl, rfl, _⟩ := hSs.resolve_right fun h => by have := h.2; omega
        obtain ⟨c1, c2, c3, c4, _⟩ := takeN_spec a1
        obtain ⟨d1, d2, d3, d4, _⟩ := takeN_spec a2
        have hzf := unzig_fit d2
        have eu : IntKind.i64.wrap (u : Int) = (u : Int) := i64_nat (by omega)
        rw [eu]
        refine ⟨fun q' m' d' i W' => ∃ j : Nat, i = (j : Int) ∧ j ≤ u ∧ m' = m + j ∧ Hold w W' [] [⟨2, 1, q', m', d', vI .i64 (out ++ List.replicate j (unzig z))⟩], fun _ _ _ i _ => u - i.toNat, ⟨0, rfl, Nat.zero_le _, rfl, by simpa using H20⟩, ?_⟩
        rintro q' m' d' i W' ⟨j, rfl, hj, rfl, H'⟩
        refine ⟨fun hlt2 b35 w36 h35 => ?_, fun hge2 => ?_⟩
        · obtain ⟨q3, d3', w41, hrun, H41⟩ := app_i64 H' 0 rfl h35 (by omega)
          rw [i64_next (by omega)]
          refine ⟨q3, _, d3', w41, hrun, ⟨j + 1, rfl, by omega, by omega, ?_⟩, by simp only [Int.toNat_natCast]; omega⟩
          rw [rep_snoc]; exact H41
        · have hju : j = u := by omega
          subst hju
          have hfit' : ∀ x ∈ out ++ List.replicate j (unzig z), i64B x := by
            intro x hx
            rcases List.mem_append.1 hx with hx | hx
            · exact hfit x hx
            · rw [List.eq_of_mem_replicate hx]; exact hzf
          have hm' : (out ++ List.replicate j (unzig z)).length = m + j := by simp [hm]
          refine ⟨fun hz => stop _ _ _ W' _ H'.ext ⟨hm', hfit', H'.row 0 rfl⟩ fun l hl => ?_, fun hnz => ⟨⟨out ++ List.replicate j (unzig z), k2, rfl, by omega, hm', by omega, hfit', H', fun l hl => ?_⟩, by show N - (m + j) < N - m; omega⟩⟩
          · exfalso
            obtain ⟨u', x, k1', k2', t1, t2, t3, t4, t5⟩ := said l hl
            rw [a1] at t1; cases t1
            omega
          · rw [if_neg hy1]
            obtain ⟨u', x, k1', k2', t1, t2, t3, t4, t5⟩ := said l hl
            rw [a1] at t1; cases t1
            rw [a2] at t2; cases t2
            rw [unzig_zig]; exact t5
    · -- plain
      have hy0 : y.toNat = 0 := by omega
      refine (refTakeSigned_ok W p bn c b _ (by omega) hlen h.le (h.ext H.ext).lies).mono ?_
      rintro e w47 ⟨rfl, e47⟩
      have H47 := H.step e47
      obtain ⟨s1, s2, s3, hS, _, hSs⟩ := takeS_cases b k
      rw [hS]
      have said : ∀ l, Says b y.toNat N l → ∃ x k2, takeN b k = some (zigN x, k2) ∧ m + 1 ≤ N ∧ Tr0 l k2 (out ++ [x]) := by
        intro l hl
        have ht := htr l hl
        rw [if_pos hy0] at ht
        have hll := hl.len
        have he : b = 0 :: plainL l := by have := hl.enc; rwa [hy0] at this
        obtain ⟨x, k2, t1, t2⟩ := tr0_next ht hl.fit (by omega)
        rw [← he] at t1
        exact ⟨x, k2, t1, by omega, t2⟩
      refine ⟨s1, s2, s3, rfl, fun hbad => stop _ _ _ w47 out H47.ext ⟨hm, hfit, H47.row 0 rfl⟩ fun l hl => ?_, fun hok => ?_⟩
      · exfalso
        obtain ⟨x, k2, t1, t2, _⟩ := said l hl
        rcases hSs with ⟨_, _, a2, rfl, rfl, rfl⟩ | ⟨a2, _⟩
        · omega
        · rw [t1] at a2; cases a2
      · obtain ⟨⟨_, rfl⟩, hfits⟩ := hok
        obtain ⟨z, k2, a2, rfl, rfl, _⟩ := hSs.resolve_right fun h => by have := h.2; omega
        obtain ⟨d1, d2, d3, d4, _⟩ := takeN_spec a2
        have hzf := unzig_fit d2
        refine ⟨fun q' m' d' i W' => ∃ j : Nat, i = (j : Int) ∧ j ≤ 1 ∧ m' = m + j ∧ Hold w W' [] [⟨2, 1, q', m', d', vI .i64 (out ++ List.replicate j (unzig z))⟩], fun _ _ _ i _ => 1 - i.toNat, ⟨0, rfl, Nat.zero_le _, rfl, by simpa using H47⟩, ?_⟩
        rintro q' m' d' i W' ⟨j, rfl, hj, rfl, H'⟩
        refine ⟨fun hlt2 b62 w63 h62 => ?_, fun hge2 => ⟨fun h => by omega, fun _ => ?_⟩⟩
        · obtain ⟨q3, d3', w68, hrun, H68⟩ := app_i64 H' 0 rfl h62 (by omega)
          rw [i64_next (by omega)]
          refine ⟨q3, _, d3', w68, hrun, ⟨j + 1, rfl, by omega, by omega, ?_⟩, by simp only [Int.toNat_natCast]; omega⟩
          rw [rep_snoc]; exact H68
        · have hju : j = 1 := by omega
          subst hju
          refine ⟨⟨out ++ List.replicate 1 (unzig z), k2, rfl, by omega, by simp [hm], by omega, fun x hx => ?_, H', fun l hl => ?_⟩, by show N - (m + 1) < N - m; omega⟩
          · rcases List.mem_append.1 hx with hx | hx
            · exact hfit x hx
            · rw [List.eq_of_mem_replicate hx]; exact hzf
          · rw [if_pos hy0]
            obtain ⟨x, k2', t1, t2, t3⟩ := said l hl
            rw [a2] at t1; cases t1
            rw [unzig_zig]; exact t3
  · refine stop _ _ _ W out H.ext ⟨hm, hfit, H.row 0 rfl⟩ fun l hl => ?_
    have ht := htr l hl
    have hll := hl.len
    split at ht
    · exact tr0_len ht (by omega)
    · exact tr1_len ht (by omega)
end Go.Proofs.Ytdclhgcgpcddlaa
