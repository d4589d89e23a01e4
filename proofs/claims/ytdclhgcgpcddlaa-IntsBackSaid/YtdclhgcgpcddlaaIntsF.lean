/- Lists of numbers in few bytes: reading the first two forms, the program's way and the document's. -/
import Derived.Test.YtdclhgcgpcddlaaIntsE
namespace Go.Proofs.Ytdclhgcgpcddlaa
open Go Go.Vc Go.RowKit

/-- l is what bytes of a form say. -/
structure Says (b : List UInt8) (f : Nat) (n : Int) (l : List Int) : Prop where
  len : (l.length : Int) = n
  fit : ∀ x ∈ l, i64B x
  enc : b = encL f l

theorem u64_next {n : Nat} (h : n < 18446744073709551615) : IntKind.u64.wrap ((n : Int) + 1) = ((n + 1 : Nat) : Int) := u64_fit (by omega) (by omega)

/-- So far the first form has been read. -/
def Tr0 (l : List Int) (k : Nat) (out : List Int) : Prop := ∃ j, j ≤ l.length ∧ out = l.take j ∧ k = 1 + (plainL (l.take j)).length
/-- So far the second form has been read. -/
def Tr1 (l : List Int) (k : Nat) (out : List Int) : Prop := ∃ R R', runsW l = R ++ R' ∧ out = unrun R ∧ k = 1 + (runB R).length

theorem runsW_all {l : List Int} : ∀ r ∈ runsW l, 0 < r.1 ∧ r.2 ∈ l := runsW_pos l.length l (Nat.le_refl _)
theorem unrun_all (l : List Int) : unrun (runsW l) = l := unrun_runsW l.length l (Nat.le_refl _)

/-- The next number of the first form. -/
theorem tr0_next {l out : List Int} {k : Nat} (h : Tr0 l k out) (hf : ∀ x ∈ l, i64B x) (hlt : out.length < l.length) :
    ∃ x k', takeN (0 :: plainL l) (k : Int) = some (zigN x, k') ∧ Tr0 l k' (out ++ [x]) := by
  obtain ⟨j, hj, rfl, rfl⟩ := h
  rw [List.length_take] at hlt
  obtain ⟨x, hx⟩ : ∃ x, l[j]? = some x := ⟨_, List.getElem?_eq_getElem (by omega)⟩
  have hxf := hf x (List.mem_of_getElem? hx)
  refine ⟨x, 1 + (plainL (l.take j)).length + (sgn x).length, ?_, j + 1, by omega, (take_snoc hx).symm, by rw [plainL_snoc hx, List.length_append]; omega⟩
  have e : 0 :: plainL l = (0 :: plainL (l.take j)) ++ (uvar (zigN x) ++ plainL (l.drop (j + 1))) := by
    have : l = l.take j ++ (x :: l.drop (j + 1)) := by
      obtain ⟨hlt', hx'⟩ := List.getElem?_eq_some_iff.1 hx
      rw [← hx', ← List.drop_eq_getElem_cons hlt', List.take_append_drop]
    conv => lhs; rw [this]
    simp [plainL, sgn]
  have := takeN_uvar (zig_lt hxf.1 hxf.2) (0 :: plainL (l.take j)) (plainL (l.drop (j + 1)))
  rw [← e] at this
  have hl : (0 :: plainL (l.take j) : List UInt8).length = 1 + (plainL (l.take j)).length := by simp; omega
  rw [hl] at this
  exact this
theorem tr0_end {l out : List Int} {k : Nat} (h : Tr0 l k out) (hk : (0 :: plainL l).length ≤ k) : out = l := by
  obtain ⟨j, hj, rfl, rfl⟩ := h
  rcases Nat.lt_or_ge j l.length with hlt | hge
  · exfalso
    have e : plainL l = plainL (l.take j) ++ plainL (l.drop j) := by
      have : plainL (l.take j ++ l.drop j) = plainL (l.take j) ++ plainL (l.drop j) := by simp only [plainL, List.flatMap_append]
      rwa [List.take_append_drop] at this
    have h1 : 0 < (plainL (l.drop j)).length := by
      rw [List.drop_eq_getElem_cons hlt]
      have := uvar_pos (zigN l[j])
      simp only [plainL, List.flatMap_cons, List.length_append, sgn]; omega
    rw [e] at hk
    simp only [List.length_cons, List.length_append] at hk
    omega
  · exact List.take_of_length_le hge
theorem tr0_len {l out : List Int} {k : Nat} (h : Tr0 l k out) (hk : l.length ≤ out.length) : out = l := by
  obtain ⟨j, hj, rfl, rfl⟩ := h
  rw [List.length_take] at hk
  exact List.take_of_length_le (by omega)

/-- The next run of the second form. -/
theorem tr1_next {l out : List Int} {k : Nat} (h : Tr1 l k out) (hf : ∀ x ∈ l, i64B x) (hn : l.length ≤ 4096) (hlt : out.length < l.length) :
    ∃ m x k1 k2, takeN (1 :: runB (runsW l)) (k : Int) = some (m, k1) ∧ takeN (1 :: runB (runsW l)) (k1 : Int) = some (zigN x, k2) ∧ 0 < m ∧ out.length + m ≤ l.length ∧ Tr1 l k2 (out ++ List.replicate m x) := by
  obtain ⟨R, R', hR, rfl, rfl⟩ := h
  have hu : unrun R ++ unrun R' = l := by rw [← unrun_append, ← hR, unrun_all]
  cases R' with
  | nil =>
    exfalso
    simp only [unrun, List.flatMap_nil, List.append_nil] at hu
    rw [← hu] at hlt
    simp [unrun] at hlt
  | cons r R'' =>
    obtain ⟨m, x⟩ := r
    have hm := runsW_all (l := l) (m, x) (by rw [hR]; simp)
    have hxf := hf x hm.2
    have hlen : (unrun R).length + m ≤ l.length := by
      rw [← hu]; simp only [unrun, List.flatMap_cons, List.length_append, List.length_replicate]; omega
    have e : 1 :: runB (runsW l) = (1 :: runB R) ++ (uvar m ++ (sgn x ++ runB R'')) := by rw [hR]; simp [runB]
    have t1 := takeN_uvar (n := m) (by omega) (1 :: runB R) (sgn x ++ runB R'')
    have t2 := takeN_uvar (zig_lt hxf.1 hxf.2) ((1 :: runB R) ++ uvar m) (runB R'')
    rw [← e] at t1
    have e2 : 1 :: runB R ++ uvar m ++ (uvar (zigN x) ++ runB R'') = 1 :: runB (runsW l) := by rw [e]; simp [sgn]
    rw [e2] at t2
    have hl : (1 :: runB R : List UInt8).length = 1 + (runB R).length := by simp; omega
    rw [hl] at t1
    rw [List.length_append, hl] at t2
    refine ⟨m, x, _, _, t1, t2, hm.1, hlen, R ++ [(m, x)], R'', by rw [hR]; simp, by rw [unrun_append]; simp [unrun], ?_⟩
    rw [runB_append, List.length_append]
    have : (runB [(m, x)]).length = (uvar m).length + (uvar (zigN x)).length := by simp [runB, sgn]
    omega
theorem tr1_end {l out : List Int} {k : Nat} (h : Tr1 l k out) (hk : (1 :: runB (runsW l)).length ≤ k) : out = l := by
  obtain ⟨R, R', hR, rfl, rfl⟩ := h
  have hu : unrun R ++ unrun R' = l := by rw [← unrun_append, ← hR, unrun_all]
  cases R' with
  | nil => simp only [unrun, List.flatMap_nil, List.append_nil] at hu; exact hu
  | cons r R'' =>
    exfalso
    have := uvar_pos r.1
    rw [hR] at hk
    simp only [runB, List.flatMap_append, List.flatMap_cons, List.length_cons, List.length_append] at hk
    omega
theorem tr1_len {l out : List Int} {k : Nat} (h : Tr1 l k out) (hk : l.length ≤ out.length) : out = l := by
  obtain ⟨R, R', hR, rfl, rfl⟩ := h
  have hu : unrun R ++ unrun R' = l := by rw [← unrun_append, ← hR, unrun_all]
  have : (unrun R').length = 0 := by have := congrArg List.length hu; simp only [List.length_append] at this; omega
  rw [List.eq_nil_of_length_eq_zero this, List.append_nil] at hu
  exact hu

theorem rep_snoc {out : List Int} {x : Int} {j : Nat} : out ++ List.replicate (j + 1) x = (out ++ List.replicate j x) ++ [x] := by rw [List.replicate_succ', List.append_assoc]

set_option maxRecDepth 100000 in
theorem loose_ok (w : World) {p : Option Addr} {bn c : Nat} {b : List UInt8} (h : InB w p bn c b) {n : Int} (hn : 0 ≤ n ∧ n ≤ 4096) {y : UInt8} (hy : b[0]? = some y) (hy2 : y.toNat < 2) :
    Calls Try.prog 70 #[.slice p bn c, .int .i64 n] w fun e w' => ∃ q m d ok out, e = .returned (.tuple #[.slice q m d, .bool ok]) ∧ OutI w.heap.size 2 w' q m d out ∧ Ext w w' ∧ (ok = true → (out.length : Int) = n) ∧
      ∀ l, Says b y.toNat n l → ok = true ∧ out = l := by
  have hlen := h.len
  have hle : bn ≤ 9223372036854775807 := h.le
  have hb0 : 0 < bn := by have := (List.getElem?_eq_some_iff.1 hy).1; omega
  obtain ⟨N, rfl⟩ := Int.eq_ofNat_of_zero_le hn.1
  apply loose_vc
  unfold loose_T
  refine ⟨fun q m d at_ W => ∃ (out : List Int) (k : Nat), at_ = (k : Int) ∧ 1 ≤ k ∧ k ≤ bn ∧ out.length = m ∧ m ≤ N ∧ (∀ x ∈ out, i64B x) ∧ Hold w W [] [⟨2, 1, q, m, d, vI .i64 out⟩] ∧ ∀ l, Says b y.toNat N l → if y.toNat = 0 then Tr0 l k out else Tr1 l k out,
    fun _ _ _ at_ _ => bn - at_.toNat, ⟨[], 1, rfl, Nat.le_refl _, by omega, rfl, Nat.zero_le _, by simp, (Hold.start (.rfl : Ext w w)).nilRow 2 1, fun l hl => ?_⟩, ?_⟩
  · split
    · exact ⟨0, Nat.zero_le _, by simp, by simp [plainL]⟩
    · exact ⟨[], _, rfl, rfl, by simp [runB]⟩
  rintro q m d at_ W ⟨out, k, rfl, hk1, hkb, hm, hmN, hfit, H, htr⟩
  have eW : IntKind.u64.wrap (IntKind.i64.wrap ((N : Int) - (m : Int))) = ((N - m : Nat) : Int) := by rw [show (N : Int) - (m : Int) = ((N - m : Nat) : Int) by omega, i64_nat (by omega), u64_nat (by omega)]
  rw [eW]
  -- it does not read on
  have bad : ∀ W, Ext w W → (∀ l, ¬ Says b y.toNat N l) → ∃ q m d ok out, Ending.returned (.tuple #[.slice none 0 0, .bool false]) = .returned (.tuple #[.slice q m d, .bool ok]) ∧ OutI w.heap.size 2 W q m d out ∧ Ext w W ∧ (ok = true → (out.length : Int) = (N : Int)) ∧ ∀ l, Says b y.toNat N l → ok = true ∧ out = l := by
    intro W hW hno
    exact ⟨none, 0, 0, false, [], rfl, OutI.nothing _ _ _, hW, fun h => Bool.noConfusion h, fun l hl => absurd hl (hno l)⟩
  refine ⟨fun hlt => ?_, fun hge => ?_⟩
  · obtain ⟨b1, o1, hp, hc⟩ := (h.ext H.ext).lies.getB (i := 0) (by omega)
    have hby : b[0]'(by omega) = y := (List.getElem?_eq_some_iff.1 hy).2
    rw [hby] at hc
    refine ⟨b1, o1, hp, by omega, by omega, _, hc, fun h1 => ?_, fun h1 => ?_⟩
    · -- runs
      have hy1 : ¬ y.toNat = 0 := by omega
      refine (takeNumber_ok W p bn c b _ hlen h.cap.1 h.le (h.ext H.ext).lies).mono ?_
      rintro e w15 ⟨rfl, e15⟩
      have H15 := H.step e15
      obtain ⟨v1, v2, v3, hV, hVs⟩ : ∃ v1 v2 v3 : Int, takeV b k = .tuple #[.int .u64 v1, .int .i64 v2, .int .i64 v3] ∧ ((∃ u k1, takeN b k = some (u, k1) ∧ v1 = (u : Int) ∧ v2 = (k1 : Int) ∧ v3 = 0) ∨ (takeN b k = none ∧ v3 = 20)) := by
        unfold takeV
        cases ht : takeN b k with
        | none => exact ⟨_, _, _, rfl, .inr ⟨rfl, rfl⟩⟩
        | some r => exact ⟨_, _, _, rfl, .inl ⟨r.1, r.2, rfl, rfl, rfl, rfl⟩⟩
      rw [hV]
      refine ⟨v1, v2, v3, rfl, (takeSigned_ok w15 p bn c b _ hlen h.cap.1 h.le (h.ext H15.ext).lies).mono ?_⟩
      rintro e w20 ⟨rfl, e20⟩
      have H20 := H15.step e20
      obtain ⟨s1, s2, s3, hS, hSs⟩ : ∃ s1 s2 s3 : Int, takeS b v2 = .tuple #[.int .i64 s1, .int .i64 s2, .int .i64 s3] ∧ ((∃ u k2, takeN b v2 = some (u, k2) ∧ s1 = unzig u ∧ s2 = (k2 : Int) ∧ s3 = 0) ∨ (takeN b v2 = none ∧ s3 = 20)) := by
        unfold takeS
        cases ht : takeN b v2 with
        | none => exact ⟨_, _, _, rfl, .inr ⟨rfl, rfl⟩⟩
        | some r => exact ⟨_, _, _, rfl, .inl ⟨r.1, r.2, rfl, rfl, rfl, rfl⟩⟩
      rw [hS]
      -- what a list that is said gives here
      have said : ∀ l, Says b y.toNat N l → ∃ u x k1 k2, takeN b k = some (u, k1) ∧ takeN b (k1 : Int) = some (zigN x, k2) ∧ 0 < u ∧ m + u ≤ N ∧ i64B x ∧ Tr1 l k2 (out ++ List.replicate u x) := by
        intro l hl
        have ht := htr l hl
        rw [if_neg hy1] at ht
        have hll := hl.len
        have he : b = 1 :: runB (runsW l) := by have := hl.enc; rwa [show y.toNat = 1 by omega] at this
        have hlt' : out.length < l.length := by
          apply Classical.byContradiction
          intro hge
          obtain ⟨R, R', hR, hout, hk'⟩ := ht
          have hu : unrun R ++ unrun R' = l := by rw [← unrun_append, ← hR, unrun_all]
          have h0 : (unrun R').length = 0 := by have := congrArg List.length hu; simp only [List.length_append] at this; rw [← hout] at this; omega
          cases R' with
          | nil =>
            have : b.length = 1 + (runB R).length := by rw [he, hR]; simp; omega
            omega
          | cons r R'' =>
            have := (runsW_all (l := l) r (by rw [hR]; simp)).1
            simp only [unrun, List.flatMap_cons, List.length_append, List.length_replicate] at h0
            omega
        obtain ⟨u, x, k1, k2, t1, t2, t3, t4, t5⟩ := tr1_next ht hl.fit (by omega) hlt'
        rw [← he] at t1 t2
        refine ⟨u, x, k1, k2, t1, t2, t3, by omega, ?_, t5⟩
        have : x ∈ l := by
          obtain ⟨R, R', hR, hout, _⟩ := t5
          have hu : unrun R ++ unrun R' = l := by rw [← unrun_append, ← hR, unrun_all]
          rw [← hu, ← hout]
          exact List.mem_append_left _ (List.mem_append_right _ (List.mem_replicate.2 ⟨by omega, rfl⟩))
        exact hl.fit x this
      refine ⟨s1, s2, s3, rfl, fun hbad => bad w20 H20.ext fun l hl => ?_, fun hok => ?_⟩
      · obtain ⟨u, x, k1, k2, t1, t2, t3, t4, _⟩ := said l hl
        rcases hVs with ⟨u', k1', a1, rfl, rfl, rfl⟩ | ⟨a1, _⟩
        · rw [t1] at a1; cases a1
          rcases hSs with ⟨_, _, a2, rfl, rfl, rfl⟩ | ⟨a2, _⟩
          · omega
          · rw [t2] at a2; cases a2
        · rw [t1] at a1; cases a1
      · obtain ⟨⟨⟨rfl, rfl⟩, hne⟩, hfits⟩ := hok
        obtain ⟨u, k1, a1, rfl, rfl, _⟩ := hVs.resolve_right fun h => by have := h.2; omega
        obtain ⟨z, k2, a2, rfl, rfl, _⟩ := hSs.resolve_right fun h => by have := h.2; omega
        obtain ⟨c1, c2, c3, c4, _⟩ := takeN_spec a1
        obtain ⟨d1, d2, d3, d4, _⟩ := takeN_spec a2
        have hzf := unzig_fit d2
        refine ⟨fun q' m' d' i W' => ∃ j : Nat, i = (j : Int) ∧ j ≤ u ∧ m' = m + j ∧ Hold w W' [] [⟨2, 1, q', m', d', vI .i64 (out ++ List.replicate j (unzig z))⟩], fun _ _ _ i _ => u - i.toNat, ⟨0, rfl, Nat.zero_le _, rfl, by simpa using H20⟩, ?_⟩
        rintro q' m' d' i W' ⟨j, rfl, hj, rfl, H'⟩
        refine ⟨fun hlt2 b35 w36 h35 => ?_, fun hge2 => ?_⟩
        · obtain ⟨q3, d3', w41, hrun, H41⟩ := app_i64 H' 0 rfl h35 (by omega)
          rw [u64_next (by omega)]
          refine ⟨q3, _, d3', w41, hrun, ⟨j + 1, rfl, by omega, by omega, ?_⟩, by simp only [Int.toNat_natCast]; omega⟩
          rw [rep_snoc]; exact H41
        · have hju : j = u := by omega
          subst hju
          refine ⟨⟨out ++ List.replicate j (unzig z), k2, rfl, by omega, by omega, by simp [hm], by omega, fun x hx => ?_, H', fun l hl => ?_⟩, by simp only [Int.toNat_natCast]; simp only [Int.toNat_natCast] at c3 d3; omega⟩
          · rcases List.mem_append.1 hx with hx | hx
            · exact hfit x hx
            · rw [List.eq_of_mem_replicate hx]; exact hzf
          · rw [if_neg hy1]
            obtain ⟨u', x, k1', k2', t1, t2, t3, t4, t5, t6⟩ := said l hl
            rw [a1] at t1; cases t1
            rw [a2] at t2; cases t2
            rw [unzig_zig]; exact t6
    · -- plain
      have hy0 : y.toNat = 0 := by omega
      refine (takeSigned_ok W p bn c b _ hlen h.cap.1 h.le (h.ext H.ext).lies).mono ?_
      rintro e w45 ⟨rfl, e45⟩
      have H45 := H.step e45
      obtain ⟨s1, s2, s3, hS, hSs⟩ : ∃ s1 s2 s3 : Int, takeS b k = .tuple #[.int .i64 s1, .int .i64 s2, .int .i64 s3] ∧ ((∃ u k2, takeN b k = some (u, k2) ∧ s1 = unzig u ∧ s2 = (k2 : Int) ∧ s3 = 0) ∨ (takeN b k = none ∧ s3 = 20)) := by
        unfold takeS
        cases ht : takeN b k with
        | none => exact ⟨_, _, _, rfl, .inr ⟨rfl, rfl⟩⟩
        | some r => exact ⟨_, _, _, rfl, .inl ⟨r.1, r.2, rfl, rfl, rfl, rfl⟩⟩
      rw [hS]
      have said : ∀ l, Says b y.toNat N l → ∃ x k2, takeN b k = some (zigN x, k2) ∧ m + 1 ≤ N ∧ Tr0 l k2 (out ++ [x]) := by
        intro l hl
        have ht := htr l hl
        rw [if_pos hy0] at ht
        have hll := hl.len
        have he : b = 0 :: plainL l := by have := hl.enc; rwa [hy0] at this
        have hlt' : out.length < l.length := by
          apply Classical.byContradiction
          intro hge
          have := tr0_len ht (by omega)
          obtain ⟨j, hj, hout, hk'⟩ := ht
          have hb : b.length = 1 + (plainL l).length := by rw [he]; simp; omega
          rw [← hout, this] at hk'
          omega
        obtain ⟨x, k2, t1, t2⟩ := tr0_next ht hl.fit hlt'
        rw [← he] at t1
        exact ⟨x, k2, t1, by omega, t2⟩
      refine ⟨s1, s2, s3, rfl, fun hbad => bad w45 H45.ext fun l hl => ?_, fun hok => ?_⟩
      · obtain ⟨x, k2, t1, t2, _⟩ := said l hl
        rcases hSs with ⟨_, _, a2, rfl, rfl, rfl⟩ | ⟨a2, _⟩
        · omega
        · rw [t1] at a2; cases a2
      · obtain ⟨⟨⟨_, rfl⟩, _⟩, hfits⟩ := hok
        obtain ⟨z, k2, a2, rfl, rfl, _⟩ := hSs.resolve_right fun h => by have := h.2; omega
        obtain ⟨d1, d2, d3, d4, _⟩ := takeN_spec a2
        have hzf := unzig_fit d2
        refine ⟨fun q' m' d' i W' => ∃ j : Nat, i = (j : Int) ∧ j ≤ 1 ∧ m' = m + j ∧ Hold w W' [] [⟨2, 1, q', m', d', vI .i64 (out ++ List.replicate j (unzig z))⟩], fun _ _ _ i _ => 1 - i.toNat, ⟨0, rfl, Nat.zero_le _, rfl, by simpa using H45⟩, ?_⟩
        rintro q' m' d' i W' ⟨j, rfl, hj, rfl, H'⟩
        refine ⟨fun hlt2 b60 w61 h60 => ?_, fun hge2 => ?_⟩
        · obtain ⟨q3, d3', w66, hrun, H66⟩ := app_i64 H' 0 rfl h60 (by omega)
          rw [u64_next (by omega)]
          refine ⟨q3, _, d3', w66, hrun, ⟨j + 1, rfl, by omega, by omega, ?_⟩, by simp only [Int.toNat_natCast]; omega⟩
          rw [rep_snoc]; exact H66
        · have hju : j = 1 := by omega
          subst hju
          refine ⟨⟨out ++ List.replicate 1 (unzig z), k2, rfl, by omega, by omega, by simp [hm], by omega, fun x hx => ?_, H', fun l hl => ?_⟩, by simp only [Int.toNat_natCast]; simp only [Int.toNat_natCast] at d3; omega⟩
          · rcases List.mem_append.1 hx with hx | hx
            · exact hfit x hx
            · rw [List.eq_of_mem_replicate hx]; exact hzf
          · rw [if_pos hy0]
            obtain ⟨x, k2', t1, t2, t3⟩ := said l hl
            rw [a2] at t1; cases t1
            rw [unzig_zig]; exact t3
  · refine ⟨q, m, d, _, out, rfl, ⟨hm, hfit, H.row 0 rfl⟩, H.ext, fun h => ?_, fun l hl => ?_⟩
    · have := of_decide_eq_true h; omega
    · have ht := htr l hl
      have hll := hl.len
      have : out = l := by
        split at ht
        · refine tr0_end ht ?_
          have he : b = 0 :: plainL l := by have := hl.enc; rwa [show y.toNat = 0 by assumption] at this
          rw [← he]; omega
        · refine tr1_end ht ?_
          have he : b = 1 :: runB (runsW l) := by have := hl.enc; rwa [show y.toNat = 1 by omega] at this
          rw [← he]; omega
      exact ⟨decide_eq_true (by rw [← hm, this]; exact hll), this⟩
end Go.Proofs.Ytdclhgcgpcddlaa
