/- Texts of the proof, one behind the other. -/
import Derived.Test.YtpjafkcmbinjiaaDoorMc
import Derived.Lib.Bytealg
set_option linter.unusedVariables false
set_option linter.unusedSimpArgs false
/- The contracts of package value, of the document's answer for it, and of the words that hold rows against one another. -/
namespace Go.Proofs.YtpjafkcmbinjiaaDoor
open Go Go.Vc Go.RowKit
set_option maxRecDepth 20000

theorem strcmp0_ok (a b : ByteArray) (w : World) : Calls Tryd.prog 83 #[.string a, .string b] w fun e w' => e = .returned (.int .i64 (cmpS a b)) ∧ w' = w := by
  apply strcmp0_vc
  unfold strcmp0_T
  refine ⟨_, _, ?_, rfl, rfl⟩
  rw [run_callFunc_extern Tryd.func100 (by kernel_rfl) (by kernel_rfl) (by kernel_rfl) (e := Extern.BytealgCompare.compare) (by kernel_rfl), Lib.run_compareString]
  rfl
theorem strcmp_ok (a b : ByteArray) (w : World) : Calls Tryd.prog 64 #[.string a, .string b] w fun e w' => e = .returned (.int .i64 (cmpS a b)) ∧ Ext w w' := by
  apply strcmp_vc
  unfold strcmp_T
  refine (strcmp0_ok a b w).mono ?_
  rintro e w' ⟨rfl, rfl⟩
  exact ⟨_, rfl, rfl, .rfl⟩
theorem isnani_ok (x : Int) (w : World) : Calls Tryd.prog 81 #[.int .i64 x] w fun e w' => e = .returned (.bool false) ∧ Ext w w' := by
  apply isnani_vc
  unfold isnani_T
  exact ⟨by simp, .rfl⟩
theorem isnani64_ok (x : Int) (w : World) : Calls Tryd.prog 82 #[.int .i64 x] w fun e w' => e = .returned (.bool false) ∧ Ext w w' := by
  apply isnani64_vc
  unfold isnani64_T
  exact ⟨by simp, .rfl⟩
theorem cmpint_ok (x y : Int) (w : World) : Calls Tryd.prog 62 #[.int .i64 x, .int .i64 y] w fun e w' => e = .returned (.int .i64 (cmpI x y)) ∧ Ext w w' := by
  apply cmpint_vc
  unfold cmpint_T
  refine (isnani_ok x w).mono ?_
  rintro e w1 ⟨rfl, e1⟩
  refine ⟨_, rfl, (isnani_ok y w1).mono ?_⟩
  rintro e w2 ⟨rfl, e2⟩
  have e12 := e1.trans e2
  refine ⟨_, rfl, ⟨fun h => (by cases h), fun _ => ⟨fun h => (by cases h), fun _ => ⟨fun h => ⟨?_, e12⟩, fun h => ⟨fun h' => ⟨?_, e12⟩, fun h' => ⟨?_, e12⟩⟩⟩⟩⟩⟩
  · unfold cmpI; rw [if_pos h]
  · unfold cmpI; rw [if_neg (by omega), if_pos h']
  · unfold cmpI; rw [if_neg (by omega), if_neg (by omega)]
theorem cmpint64_ok (x y : Int) (w : World) : Calls Tryd.prog 63 #[.int .i64 x, .int .i64 y] w fun e w' => e = .returned (.int .i64 (cmpI x y)) ∧ Ext w w' := by
  apply cmpint64_vc
  unfold cmpint64_T
  refine (isnani64_ok x w).mono ?_
  rintro e w1 ⟨rfl, e1⟩
  refine ⟨_, rfl, (isnani64_ok y w1).mono ?_⟩
  rintro e w2 ⟨rfl, e2⟩
  have e12 := e1.trans e2
  refine ⟨_, rfl, ⟨fun h => (by cases h), fun _ => ⟨fun h => (by cases h), fun _ => ⟨fun h => ⟨?_, e12⟩, fun h => ⟨fun h' => ⟨?_, e12⟩, fun h' => ⟨?_, e12⟩⟩⟩⟩⟩⟩
  · unfold cmpI; rw [if_pos h]
  · unfold cmpI; rw [if_neg (by omega), if_pos h']
  · unfold cmpI; rw [if_neg (by omega), if_neg (by omega)]

/-- The first of the numbers that is not 0. -/
def orI : List Int → Int
  | [] => 0
  | x :: l => if x ≠ 0 then x else orI l
theorem orI_drop {l : List Int} {k : Nat} {x : Int} (h : l[k]? = some x) : orI (l.drop k) = if x ≠ 0 then x else orI (l.drop (k + 1)) := by
  obtain ⟨hk, rfl⟩ := List.getElem?_eq_some_iff.1 h
  rw [List.drop_eq_getElem_cons hk, orI]
theorem cmpor_ok (w : World) {p : Option Addr} {n c : Nat} {l : List Int} (hl : l.length = n) (hn : n < 9223372036854775807) (h : At w p (vI .i64 l)) : Calls Tryd.prog 61 #[.slice p n c] w fun e w' => e = .returned (.int .i64 (orI l)) ∧ Ext w w' := by
  apply cmpor_vc
  unfold cmpor_T
  refine ⟨fun i w' => ∃ k : Nat, i = (k : Int) ∧ k ≤ n ∧ orI (l.drop k) = orI l ∧ Ext w w', fun i _ => n - i.toNat, ⟨0, rfl, Nat.zero_le _, rfl, .rfl⟩, ?_⟩
  rintro i w' ⟨k, rfl, hk, ho, hx⟩
  refine ⟨fun hlt => ?_, fun hge => ⟨?_, hx⟩⟩
  · obtain ⟨b, o, hp, hc⟩ := (h.ext hx).getI (i := k) (by omega)
    have hd := orI_drop (l := l) (k := k) (List.getElem?_eq_getElem (by omega))
    refine ⟨b, o, hp, by omega, by omega, _, by rw [Int.toNat_natCast]; exact hc, fun hne => ⟨?_, hx⟩, fun he => ?_⟩
    · rw [← ho, hd, if_pos hne]
    · rw [i64_next (by omega)]
      refine ⟨⟨k + 1, rfl, by omega, ?_, hx⟩, by simp only [Int.toNat_natCast]; omega⟩
      rw [← ho, hd, if_neg (by simpa using he)]
  · rw [← ho, List.drop_eq_nil_of_le (by omega)]; rfl

theorem nil_size : (ByteArray.mk #[]).size = 0 := rfl
theorem vright_ok (v : Val) (w : World) : Calls Tryd.prog 38 #[v.agg] w fun e w' => e = .returned (.bool v.right) ∧ Ext w w' := by
  apply vright_vc
  unfold vright_T
  intro b1 w2 h1
  have H1 := (Hold.start (Ext.rfl (w := w))).new h1
  obtain ⟨p0, p1, p2⟩ := (H1.blk 0 rfl).c3
  refine ⟨_, p0, fun b5 w6 h5 => ?_⟩
  have H5 := H1.new h5
  obtain ⟨q0, q1, q2⟩ := (H5.blk 0 rfl).c3
  refine ⟨⟨_, q0⟩, (H5.blk 0 rfl).frozen _, ⟨_, q1⟩, (H5.blk 0 rfl).frozen _, ⟨_, q2⟩, (H5.blk 0 rfl).frozen _, fun w11 h11 => ?_⟩
  have H11 := H5.put 0 rfl h11
  have B1 : Blk w11 b1 25 #[.int .i64 v.k, .int .i64 v.n, .string v.s] := H11.blk 1 rfl
  have B5 : Blk w11 b5 25 #[.int .i64 v.k, .int .i64 0, .string ⟨#[]⟩] := H11.blk 0 rfl
  obtain ⟨a0, a1, a2⟩ := B1.c3
  obtain ⟨d0, d1, d2⟩ := B5.c3
  have hx := H11.ext
  have key : ∀ (b : Bool) w', Ext w w' → (b = true ↔ v.Ok) → Ending.returned (Value.bool b) = Ending.returned (Value.bool v.right) ∧ Ext w w' := by
    intro b w' hx hb
    refine ⟨?_, hx⟩
    have : b = v.right := by unfold Val.right; rw [Bool.eq_iff_iff, hb]; simp
    rw [this]
  refine ⟨_, a0, fun hk => ?_, fun hk0 => ⟨fun hk => ?_, fun hk1 => ⟨fun hk => ?_, fun hk2 => ⟨fun hk => ?_, fun hk3 => ?_⟩⟩⟩⟩
  · refine ⟨_, a0, fun _ => ⟨_, a0, fun _ => ⟨_, a0, _, a1, _, a2, _, d0, _, d1, _, d2, fun he => ⟨_, a2, key _ _ hx ?_⟩, fun he => key _ _ hx ?_⟩, fun _ => by omega⟩, fun _ => by omega⟩
    · unfold Val.Ok; rw [he.2.2]; simp [hk, he.2.1, nil_size]
    · unfold Val.Ok; constructor
      · intro h; cases h
      · intro h; rcases h with h | h | h | h
        · rcases he with e | e | e
          · exact absurd rfl e
          · exact absurd h.2.1 e
          · exact absurd h.2.2 e
        · omega
        · omega
        · omega
  · refine ⟨_, a1, ⟨_, d1⟩, B5.frozen _, fun w34 h34 => ?_⟩
    have H34 := H11.put 0 rfl h34
    have B1' : Blk w34 b1 25 #[.int .i64 v.k, .int .i64 v.n, .string v.s] := H34.blk 1 rfl
    have B5' : Blk w34 b5 25 #[.int .i64 v.k, .int .i64 v.n, .string ⟨#[]⟩] := H34.blk 0 rfl
    obtain ⟨a0, a1, a2⟩ := B1'.c3
    obtain ⟨d0, d1, d2⟩ := B5'.c3
    refine ⟨_, a0, fun _ => ⟨_, a0, fun _ => ⟨_, a0, _, a1, _, a2, _, d0, _, d1, _, d2, fun he => ⟨_, a2, key _ _ H34.ext ?_⟩, fun he => key _ _ H34.ext ?_⟩, fun _ => by omega⟩, fun _ => by omega⟩
    · unfold Val.Ok; rw [he.2.2]; simp [hk, nil_size]
    · unfold Val.Ok; constructor
      · intro h; cases h
      · intro h; rcases h with h | h | h | h
        · omega
        · rcases he with e | e | e
          · exact absurd rfl e
          · exact absurd rfl e
          · exact absurd h.2 e
        · omega
        · omega
  · refine ⟨_, a1, ⟨_, d1⟩, B5.frozen _, fun w34 h34 => ?_⟩
    have H34 := H11.put 0 rfl h34
    have B1' : Blk w34 b1 25 #[.int .i64 v.k, .int .i64 v.n, .string v.s] := H34.blk 1 rfl
    have B5' : Blk w34 b5 25 #[.int .i64 v.k, .int .i64 (bits .and .i64 v.n 1), .string ⟨#[]⟩] := H34.blk 0 rfl
    rw [and1_i64] at B5'
    obtain ⟨a0, a1, a2⟩ := B1'.c3
    obtain ⟨d0, d1, d2⟩ := B5'.c3
    refine ⟨_, a0, fun _ => ⟨_, a0, fun _ => ⟨_, a0, _, a1, _, a2, _, d0, _, d1, _, d2, fun he => ⟨_, a2, key _ _ H34.ext ?_⟩, fun he => key _ _ H34.ext ?_⟩, fun _ => by omega⟩, fun _ => by omega⟩
    · unfold Val.Ok
      have : v.n = 0 ∨ v.n = 1 := by omega
      rw [he.2.2]; simp [hk, this, nil_size]
    · unfold Val.Ok; constructor
      · intro h; cases h
      · intro h; rcases h with h | h | h | h
        · omega
        · omega
        · rcases he with e | e | e
          · exact absurd rfl e
          · omega
          · exact absurd h.2.2 e
        · omega
  · refine ⟨_, a2, ⟨_, d2⟩, B5.frozen _, fun w34 h34 => ?_⟩
    have H34 := H11.put 0 rfl h34
    have B1' : Blk w34 b1 25 #[.int .i64 v.k, .int .i64 v.n, .string v.s] := H34.blk 1 rfl
    have B5' : Blk w34 b5 25 #[.int .i64 v.k, .int .i64 0, .string v.s] := H34.blk 0 rfl
    obtain ⟨a0, a1, a2⟩ := B1'.c3
    obtain ⟨d0, d1, d2⟩ := B5'.c3
    refine ⟨_, a0, fun _ => ⟨_, a0, fun _ => ⟨_, a0, _, a1, _, a2, _, d0, _, d1, _, d2, fun he => ⟨_, a2, key _ _ H34.ext ?_⟩, fun he => key _ _ H34.ext ?_⟩, fun _ => by omega⟩, fun _ => by omega⟩
    · unfold Val.Ok; simp only [decide_eq_true_eq]
      constructor
      · intro h; exact .inr (.inr (.inr ⟨hk, he.2.1, by omega⟩))
      · intro h; rcases h with h | h | h | h <;> omega
    · unfold Val.Ok; constructor
      · intro h; cases h
      · intro h; rcases h with h | h | h | h
        · omega
        · omega
        · omega
        · rcases he with e | e | e
          · exact absurd rfl e
          · exact absurd h.2.1 e
          · exact absurd rfl e
  · have no : ¬ v.Ok := by unfold Val.Ok; omega
    refine ⟨_, a0, fun _ => ⟨_, a0, fun _ => ⟨_, a0, _, a1, _, a2, _, d0, _, d1, _, d2, fun he => by omega, fun he => key _ _ hx (by simp [no])⟩, fun _ => key _ _ hx (by simp [no])⟩, fun _ => key _ _ hx (by simp [no])⟩

theorem rvright_ok (v : Val) (w : World) : Calls Tryd.prog 18 #[v.agg] w fun e w' => e = .returned (.bool v.right) ∧ Ext w w' := by
  apply rvright_vc
  unfold rvright_T
  intro b1 w2 h1
  have hx := h1.ext
  obtain ⟨p0, p1, p2⟩ := (Blk.new h1).c3
  have key : ∀ (b : Bool) w', Ext w w' → (b = true ↔ v.Ok) → Ending.returned (Value.bool b) = Ending.returned (Value.bool v.right) ∧ Ext w w' := by
    intro b w' hx hb
    refine ⟨?_, hx⟩
    have : b = v.right := by unfold Val.right; rw [Bool.eq_iff_iff, hb]; simp
    rw [this]
  have f : ∀ {b : Bool}, b = false → ¬ v.Ok → (b = true ↔ v.Ok) := fun hb hn => by simp [hb, hn]
  refine ⟨_, p0, fun hk => ⟨_, p1, fun hn => ⟨_, p2, key _ _ hx ?_⟩, fun hn => key _ _ hx ?_⟩, fun hk0 => ⟨fun hk => ⟨_, p2, key _ _ hx ?_⟩, fun hk1 => ⟨fun hk => ⟨_, p1, fun hn => ⟨_, p2, key _ _ hx ?_⟩, fun hn => ⟨_, p1, fun hn1 => ⟨_, p2, key _ _ hx ?_⟩, fun hn1 => key _ _ hx ?_⟩⟩,
    fun hk2 => ⟨fun hk => ⟨_, p1, fun hn => ⟨_, p2, key _ _ hx ?_⟩, fun hn => key _ _ hx ?_⟩, fun hk3 => key _ _ hx ?_⟩⟩⟩⟩
  all_goals (unfold Val.Ok; try rw [sEq_iff])
  · exact ⟨fun h => .inl ⟨hk, hn, h⟩, fun h => by rcases h with h | h | h | h <;> first | exact h.2.2 | omega⟩
  · exact ⟨fun h => (by cases h), fun h => by omega⟩
  · exact ⟨fun h => .inr (.inl ⟨hk, h⟩), fun h => by rcases h with h | h | h | h <;> first | exact h.2 | omega⟩
  · exact ⟨fun h => .inr (.inr (.inl ⟨hk, .inl hn, h⟩)), fun h => by rcases h with h | h | h | h <;> first | exact h.2.2 | omega⟩
  · exact ⟨fun h => .inr (.inr (.inl ⟨hk, .inr hn1, h⟩)), fun h => by rcases h with h | h | h | h <;> first | exact h.2.2 | omega⟩
  · exact ⟨fun h => (by cases h), fun h => by omega⟩
  · rw [decide_eq_true_eq]
    exact ⟨fun h => .inr (.inr (.inr ⟨hk, hn, by omega⟩)), fun h => by rcases h with h | h | h | h <;> omega⟩
  · exact ⟨fun h => (by cases h), fun h => by omega⟩
  · exact ⟨fun h => (by cases h), fun h => by omega⟩

theorem vcompare_ok (a b : Val) (w : World) : Calls Tryd.prog 39 #[a.agg, b.agg] w fun e w' => e = .returned (.int .i64 (cmpV a b)) ∧ Ext w w' := by
  apply vcompare_vc
  unfold vcompare_T
  intro b1 w2 h1 b4 w5 h4 w7 h7
  have H := (((Hold.start (Ext.rfl (w := w))).new h1).new h4).step h7.ext
  obtain ⟨p0, p1, p2⟩ := (H.blk 1 rfl).c3
  obtain ⟨q0, q1, q2⟩ := (H.blk 0 rfl).c3
  refine ⟨_, p0, _, q0, _, p1, _, q1, _, p2, _, q2, (cmpint_ok _ _ w7).mono ?_⟩
  rintro e w16 ⟨rfl, e16⟩
  refine ⟨_, rfl, e16.same, (cmpint64_ok _ _ w16).mono ?_⟩
  rintro e w19 ⟨rfl, e19⟩
  refine ⟨_, rfl, e19.same, (strcmp_ok _ _ w19).mono ?_⟩
  rintro e w22 ⟨rfl, e22⟩
  refine ⟨_, rfl, fun b24 w25 h24 => ?_⟩
  have H25 := ((H.step e16).step e19).step e22
  have H26 := H25.new h24
  refine (cmpor_ok (l := [cmpI a.k b.k, cmpI a.n b.n, cmpS a.s b.s]) w25 rfl (by simp) h24.at).mono ?_
  rintro e w28 ⟨rfl, e28⟩
  refine ⟨_, rfl, ?_, (H26.step e28).ext⟩
  have : orI [cmpI a.k b.k, cmpI a.n b.n, cmpS a.s b.s] = cmpV a b := by
    rw [cmpV_def]
    simp only [orI]
    congr 1
    congr 1
    by_cases h : cmpS a.s b.s = 0 <;> simp [h]
  rw [this]

theorem rvless_ok (a b : Val) (w : World) : Calls Tryd.prog 57 #[a.agg, b.agg] w fun e w' => e = .returned (.bool (lessV a b)) ∧ Ext w w' := by
  apply rvless_vc
  unfold rvless_T
  intro b1 w2 h1 b4 w5 h4
  have H := ((Hold.start (Ext.rfl (w := w))).new h1).new h4
  obtain ⟨p0, p1, p2⟩ := (H.blk 1 rfl).c3
  obtain ⟨q0, q1, q2⟩ := (H.blk 0 rfl).c3
  refine ⟨_, p0, _, q0, fun hk => ⟨_, p0, _, q0, ?_, H.ext⟩, fun hk => ⟨_, p0, fun h3 => ⟨_, p2, _, q2, ?_, H.ext⟩, fun h3 => ⟨_, p1, _, q1, ?_, H.ext⟩⟩⟩
  · unfold lessV; rw [if_pos hk]
  · unfold lessV; rw [if_neg (by simpa using hk), if_pos h3]
  · unfold lessV; rw [if_neg (by simpa using hk), if_neg h3]
theorem rvcompare_ok (a b : Val) (w : World) : Calls Tryd.prog 34 #[a.agg, b.agg] w fun e w' => e = .returned (.int .i64 (rcmpV a b)) ∧ Ext w w' := by
  apply rvcompare_vc
  unfold rvcompare_T
  intro b1 w2 h1 b4 w5 h4
  have H := ((Hold.start (Ext.rfl (w := w))).new h1).new h4
  obtain ⟨p0, p1, p2⟩ := (H.blk 1 rfl).c3
  obtain ⟨q0, q1, q2⟩ := (H.blk 0 rfl).c3
  refine ⟨_, p0, _, p1, _, p2, _, q0, _, q1, _, q2, (rvless_ok a b w5).mono ?_⟩
  rintro e w8 ⟨rfl, e8⟩
  have H8 := H.step e8
  obtain ⟨p0, p1, p2⟩ := (H8.blk 1 rfl).c3
  obtain ⟨q0, q1, q2⟩ := (H8.blk 0 rfl).c3
  refine ⟨_, rfl, _, q0, _, q1, _, q2, _, p0, _, p1, _, p2, (rvless_ok b a w8).mono ?_⟩
  rintro e w9 ⟨rfl, e9⟩
  have hx := (H8.step e9).ext
  refine ⟨_, rfl, fun h => ⟨?_, hx⟩, fun h => ⟨fun h' => ⟨?_, hx⟩, fun h' => ⟨?_, hx⟩⟩⟩
  · unfold rcmpV; rw [if_pos h]
  · unfold rcmpV; rw [if_neg (by simp [h]), if_pos h']
  · unfold rcmpV; rw [if_neg (by simp [h]), if_neg (by simp [h'])]

end Go.Proofs.YtpjafkcmbinjiaaDoor

/- The contracts of package prune: sets of answers. -/
namespace Go.Proofs.YtpjafkcmbinjiaaDoor
open Go Go.Vc Go.RowKit
set_option maxRecDepth 20000
attribute [local irreducible] Calls

theorem pwhen_ok (ok : Bool) (a : Int) (w : World) : Calls Tryd.prog 40 #[.bool ok, .int .i64 a] w fun e w' => e = .returned (.int .i64 (if ok then a else 0)) ∧ Ext w w' := by
  apply pwhen_vc
  unfold pwhen_T
  exact ⟨fun h => ⟨by rw [if_pos h], Ext.rfl⟩, fun h => ⟨by rw [if_neg (by simp [h])], Ext.rfl⟩⟩
def andA (a b : Int) : Int := if a = 1 ∨ b = 1 then 1 else if a = 4 ∨ b = 4 then 4 else 2
theorem pand_ok (a b : Int) (w : World) : Calls Tryd.prog 66 #[.int .i64 a, .int .i64 b] w fun e w' => e = .returned (.int .i64 (andA a b)) ∧ Ext w w' := by
  apply pand_vc
  unfold pand_T andA
  refine ⟨fun h => ⟨by rw [if_pos h], Ext.rfl⟩, fun h => ⟨fun k => ⟨by rw [if_neg (by omega), if_pos k], Ext.rfl⟩, fun k => ⟨by rw [if_neg (by omega), if_neg (by omega)], Ext.rfl⟩⟩⟩
theorem s3_bits (s : S3) : bits .and .i64 s.i 1 = (if s.no then 1 else 0) ∧ bits .and .i64 s.i 2 = (if s.yes then 2 else 0) ∧ bits .and .i64 s.i 4 = (if s.null then 4 else 0) := by
  obtain ⟨a, b, c⟩ := s
  cases a <;> cases b <;> cases c <;> decide +kernel
theorem s3_make (a b c : Bool) : bits .or .i64 (bits .or .i64 (if a then 4 else 0) (if b then 2 else 0)) (if c then 1 else 0) = S3.i ⟨c, b, a⟩ := by
  cases a <;> cases b <;> cases c <;> decide +kernel
theorem pnot_ok (s : S3) (w : World) : Calls Tryd.prog 42 #[.int .i64 s.i] w fun e w' => e = .returned (.int .i64 s.not.i) ∧ Ext w w' := by
  apply pnot_vc
  unfold pnot_T
  obtain ⟨h1, h2, h4⟩ := s3_bits s
  refine (pwhen_ok _ _ w).mono ?_
  rintro e w2 ⟨rfl, e2⟩
  refine ⟨_, rfl, (pwhen_ok _ _ w2).mono ?_⟩
  rintro e w5 ⟨rfl, e5⟩
  refine ⟨_, rfl, ?_, e2.trans e5⟩
  rw [h1, h2, h4]
  obtain ⟨a, b, c⟩ := s
  cases a <;> cases b <;> cases c <;> rfl

/-- A set's answers, one by one. -/
def memL (s : S3) : List Int := (if s.no then [1] else []) ++ ((if s.yes then [2] else []) ++ (if s.null then [4] else []))
theorem each_ok (s : S3) (w : World) : Calls Tryd.prog 65 #[.int .i64 s.i] w fun e w' => ∃ b1, e = .returned (.func (.func 84) #[] #[.pointer (some ⟨b1, 0, none⟩)]) ∧
    New w (.cells #[.int .i64 s.i] 61) b1 w' := by
  apply peach_vc
  unfold peach_T
  intro b1 w2 h1
  exact ⟨b1, rfl, h1⟩
theorem each1_ok (s : S3) (l0 fv0 : Nat) (wc : World) (Q : Nat → List (Nat × Obj) → Prop) (fs : List (Nat × Obj)) (w : World) (hm : ∀ k fs, Q k fs → (fv0, Obj.cells #[.int .i64 s.i] 61 (0, 0)) ∈ fs)
    (hR : ∀ (k : Nat) (a : Int) (fs : List (Nat × Obj)) (W : World) (R : Bool → World → Prop), (memL s)[k]? = some a → Q k fs → Hold wc W fs [] → (∀ fs' W', Q (k + 1) fs' → Hold wc W' fs' [] → R true W') → Yield Tryd.prog l0 #[.int .i64 a] W R)
    (q0 : Q 0 fs) (H : Hold wc w fs []) :
    Calls Tryd.prog 84 #[.func (.yield l0) #[] #[], .pointer (some ⟨fv0, 0, none⟩)] w fun e W' => e = .returned (.tuple #[]) ∧ ∃ fs', Q (memL s).length fs' ∧ Hold wc W' fs' [] := by
  apply peach1_vc
  unfold peach1_T
  obtain ⟨h1, h2, h4⟩ := s3_bits s
  refine ⟨fun n W => ∃ fs, Hold wc W fs [] ∧ ((n = 1 ∧ Q 0 fs) ∨ (n = 2 ∧ Q (if s.no then 1 else 0) fs) ∨ (n = 4 ∧ Q ((if s.no then 1 else 0) + (if s.yes then 1 else 0)) fs) ∨ (n = 8 ∧ Q (memL s).length fs)), fun n _ => (8 - n).toNat, ⟨fs, H, .inl ⟨rfl, q0⟩⟩, ?_⟩
  rintro n W ⟨fs, H, hq⟩
  have m1 : (8 - shlI IntKind.i64 1 1).toNat < (8 - 1 : Int).toNat := by decide
  have m2 : (8 - shlI IntKind.i64 2 1).toNat < (8 - 2 : Int).toNat := by decide
  have m4 : (8 - shlI IntKind.i64 4 1).toNat < (8 - 4 : Int).toNat := by decide
  have hlen : (memL s).length = ((if s.no then 1 else 0) + (if s.yes then 1 else 0)) + (if s.null then 1 else 0) := by
    obtain ⟨a, b, c⟩ := s
    cases a <;> cases b <;> cases c <;> rfl
  refine ⟨fun hle => ?_, fun hgt => ?_⟩
  · rcases hq with ⟨rfl, q⟩ | ⟨rfl, q⟩ | ⟨rfl, q⟩ | ⟨rfl, _⟩
    · refine ⟨_, (H.blkM (hm _ _ q)).one, fun hb => ?_, fun hb => ⟨⟨fs, H, .inr (.inl ⟨by decide, ?_⟩)⟩, m1⟩⟩
      · rw [h1] at hb
        have hn : s.no = true := by revert hb; cases s.no <;> simp
        refine hR 0 1 fs W _ (by unfold memL; rw [hn]; rfl) q H fun fs' W' q' H' => ⟨fun h => (by cases h), fun _ => ⟨⟨fs', H', .inr (.inl ⟨by decide, by rw [if_pos hn]; exact q'⟩)⟩, m1⟩⟩
      · rw [h1] at hb
        have hn : s.no = false := by revert hb; cases s.no <;> simp
        rw [if_neg (by simp [hn])]; exact q
    · refine ⟨_, (H.blkM (hm _ _ q)).one, fun hb => ?_, fun hb => ⟨⟨fs, H, .inr (.inr (.inl ⟨by decide, ?_⟩))⟩, m2⟩⟩
      · rw [h2] at hb
        have hn : s.yes = true := by revert hb; cases s.yes <;> simp
        refine hR _ 2 fs W _ ?_ q H fun fs' W' q' H' => ⟨fun h => (by cases h), fun _ => ⟨⟨fs', H', .inr (.inr (.inl ⟨by decide, by rw [if_pos hn]; exact q'⟩))⟩, m2⟩⟩
        obtain ⟨a, b, c⟩ := s
        simp only at hn
        subst hn
        cases a <;> cases c <;> rfl
      · rw [h2] at hb
        have hn : s.yes = false := by revert hb; cases s.yes <;> simp
        rw [if_neg (c := s.yes = true) (by simp [hn]), Nat.add_zero]; exact q
    · refine ⟨_, (H.blkM (hm _ _ q)).one, fun hb => ?_, fun hb => ⟨⟨fs, H, .inr (.inr (.inr ⟨by decide, ?_⟩))⟩, m4⟩⟩
      · rw [h4] at hb
        have hn : s.null = true := by revert hb; cases s.null <;> simp
        refine hR _ 4 fs W _ ?_ q H fun fs' W' q' H' => ⟨fun h => (by cases h), fun _ => ⟨⟨fs', H', .inr (.inr (.inr ⟨by decide, by rw [hlen, if_pos (c := s.null = true) hn]; exact q'⟩))⟩, m4⟩⟩
        obtain ⟨a, b, c⟩ := s
        simp only at hn
        subst hn
        cases a <;> cases b <;> rfl
      · rw [h4] at hb
        have hn : s.null = false := by revert hb; cases s.null <;> simp
        rw [hlen, if_neg (c := s.null = true) (by simp [hn]), Nat.add_zero]; exact q
    · exact absurd hle (by decide)
  · rcases hq with ⟨rfl, q⟩ | ⟨rfl, q⟩ | ⟨rfl, q⟩ | ⟨rfl, q⟩
    · exact absurd hgt (by decide)
    · exact absurd hgt (by decide)
    · exact absurd hgt (by decide)
    · exact ⟨rfl, fs, q, H⟩

/-! ### both -/
def inI (t : List Int) (a o : Int) : Int := t.foldl (fun o b => bits .or .i64 o (andA a b)) o
def outI (l t : List Int) (o : Int) : Int := l.foldl (fun o a => inI t a o) o
theorem foldl_take {α β : Type} (f : β → α → β) (o : β) {l : List α} {k : Nat} {a : α} (h : l[k]? = some a) : (l.take (k + 1)).foldl f o = f ((l.take k).foldl f o) a := by
  rw [List.take_add_one, h, List.foldl_append]; rfl
theorem both_fold (s t : S3) : outI (memL s) (memL t) 0 = (s.and t).i := by
  obtain ⟨a, b, c⟩ := s
  obtain ⟨d, e, f⟩ := t
  cases a <;> cases b <;> cases c <;> cases d <;> cases e <;> cases f <;> decide +kernel
set_option maxHeartbeats 4000000 in
theorem pboth_ok (s t : S3) (w : World) : Calls Tryd.prog 43 #[.int .i64 s.i, .int .i64 t.i] w fun e w' => e = .returned (.int .i64 (s.and t).i) ∧ Ext w w' := by
  apply pboth_vc
  unfold pboth_T
  intro b1 w2 h1 b4 w5 h4
  have H := ((Hold.start (Ext.rfl (w := w))).new h1).new h4
  repeat (first
    | (intro _ _ hS; replace H := H.new hS; clear hS)
    | (intro _ hS; (first | replace H := H.put 0 rfl hS | replace H := H.put 1 rfl hS | replace H := H.put 2 rfl hS | replace H := H.put 3 rfl hS | replace H := H.put 4 rfl hS | replace H := H.put 5 rfl hS | replace H := H.put 6 rfl hS | replace H := H.put 7 rfl hS); clear hS; try simp only [setA, List.setIfInBounds_toArray, List.set_cons_zero, List.set_cons_succ, Nat.zero_add, Nat.reduceAdd] at H)
    | (intro _ hS; replace H := H.step (Drew.ext hS); clear hS)
    | (first | refine ⟨⟨_, H.get 0 rfl rfl⟩, ?_⟩ | refine ⟨⟨_, H.get 1 rfl rfl⟩, ?_⟩ | refine ⟨⟨_, H.get 2 rfl rfl⟩, ?_⟩ | refine ⟨⟨_, H.get 3 rfl rfl⟩, ?_⟩ | refine ⟨⟨_, H.get 4 rfl rfl⟩, ?_⟩ | refine ⟨⟨_, H.get 5 rfl rfl⟩, ?_⟩ | refine ⟨⟨_, H.get 6 rfl rfl⟩, ?_⟩ | refine ⟨⟨_, H.get 7 rfl rfl⟩, ?_⟩)
    | (first | refine ⟨H.frz 0 rfl, ?_⟩ | refine ⟨H.frz 1 rfl, ?_⟩ | refine ⟨H.frz 2 rfl, ?_⟩ | refine ⟨H.frz 3 rfl, ?_⟩ | refine ⟨H.frz 4 rfl, ?_⟩ | refine ⟨H.frz 5 rfl, ?_⟩ | refine ⟨H.frz 6 rfl, ?_⟩ | refine ⟨H.frz 7 rfl, ?_⟩)
    | (first | refine ⟨_, H.get 0 rfl rfl, ?_⟩ | refine ⟨_, H.get 1 rfl rfl, ?_⟩ | refine ⟨_, H.get 2 rfl rfl, ?_⟩ | refine ⟨_, H.get 3 rfl rfl, ?_⟩ | refine ⟨_, H.get 4 rfl rfl, ?_⟩ | refine ⟨_, H.get 5 rfl rfl, ?_⟩ | refine ⟨_, H.get 6 rfl rfl, ?_⟩ | refine ⟨_, H.get 7 rfl rfl, ?_⟩)
    | (first | refine ⟨_, _, _, H.get 0 rfl rfl, ?_⟩ | refine ⟨_, _, _, H.get 1 rfl rfl, ?_⟩ | refine ⟨_, _, _, H.get 2 rfl rfl, ?_⟩ | refine ⟨_, _, _, H.get 3 rfl rfl, ?_⟩ | refine ⟨_, _, _, H.get 4 rfl rfl, ?_⟩ | refine ⟨_, _, _, H.get 5 rfl rfl, ?_⟩ | refine ⟨_, _, _, H.get 6 rfl rfl, ?_⟩ | refine ⟨_, _, _, H.get 7 rfl rfl, ?_⟩))
  refine (each_ok s _).mono ?_
  rintro e W ⟨bs, rfl, hN⟩
  replace H := H.new hN
  refine ⟨_, rfl, _, _, rfl, by kernel_rfl, fun r d16 l17 w118 hB hY => ?_⟩
  replace H := H.began hB
  let F : Nat → Int → List (Nat × Obj) := fun q o => [(l17, .loop (r q)), (d16, .deferred (some [])), (bs, .cells #[.int .i64 s.i] 61 (0, 0)), (b4, .cells #[.int .i64 o] 61 (0, 0)), (b1, .cells #[.int .i64 t.i] 61 (0, 0))]
  have H : Hold w w118 (F 0 0) [] := H
  refine (each1_ok s l17 bs w (fun k fs => fs = F 0 (outI ((memL s).take k) (memL t) 0)) _ w118 (by rintro k _ rfl; simp [F]) ?_ rfl H).mono ?_
  · rintro k a fs W R ha rfl H hc
    refine hY a W R (H.loop 0 rfl) fun b24 w25 h24 => ?_
    replace H := H.new h24
    refine ⟨⟨_, (H.blk 0 rfl).one⟩, (H.blk 0 rfl).frozen _, fun w28 h28 => ?_⟩
    replace H := H.put 0 rfl h28
    refine ⟨H.loop 1 rfl, ?_⟩
    rintro _ rfl
    replace H := H.turn 1 1 rfl
    refine ⟨_, (H.blk 5 rfl).one, ?_⟩
    refine (each_ok t _).mono ?_
    rintro e W34 ⟨bt, rfl, hN⟩
    replace H := H.new hN
    refine ⟨_, rfl, _, _, rfl, by kernel_rfl, ⟨_, H.loop 2 rfl⟩, fun r41 l42 w143 hL hY2 => ?_⟩
    replace H := H.new hL
    let G : Nat → Int → List (Nat × Obj) := fun q o => (l42, .loop (r41 q)) :: (bt, .cells #[.int .i64 t.i] 61 (0, 0)) :: (b24, .cells #[.int .i64 a] 61 (0, 0)) :: F 1 o
    have H : Hold w w143 (G 0 (outI ((memL s).take k) (memL t) 0)) [] := H
    refine (each1_ok t l42 bt w (fun j fs => fs = G 0 (inI ((memL t).take j) a (outI ((memL s).take k) (memL t) 0))) _ w143 (by rintro k _ rfl; simp [G]) ?_ rfl H).mono ?_
    · rintro j b fs W46 R47 hb rfl H hc2
      refine hY2 b W46 R47 (H.loop 0 rfl) ⟨H.loop 0 rfl, ?_⟩
      rintro _ rfl
      replace H := H.turn 0 1 rfl
      intro w51 hD
      replace H := H.step (Drew.ext hD)
      refine ⟨_, (H.blk 6 rfl).one, _, (H.blk 2 rfl).one, (pand_ok _ _ w51).mono ?_⟩
      rintro e w56 ⟨rfl, e56⟩
      replace H := H.step e56
      refine ⟨_, rfl, e56.same, ⟨_, (H.blk 6 rfl).one⟩, (H.blk 6 rfl).frozen _, fun w59 h59 => ?_⟩
      replace H := H.put 6 rfl h59
      refine ⟨H.loop 0 rfl, hc2 _ _ rfl ?_⟩
      replace H := H.turn 0 0 rfl
      have e : inI ((memL t).take (j + 1)) a (outI ((memL s).take k) (memL t) 0) = bits .or .i64 (inI ((memL t).take j) a (outI ((memL s).take k) (memL t) 0)) (andA a b) := foldl_take _ _ hb
      rw [e]
      exact H
    · rintro e w66 ⟨rfl, fs', rfl, H⟩
      refine ⟨⟨_, rfl⟩, .inl ⟨H.loop 0 rfl, ?_⟩⟩
      replace H := H.turn 0 2 rfl
      refine ⟨H.loop 3 rfl, hc _ _ rfl ?_⟩
      replace H := (H.turn 3 0 rfl).tail.tail.tail
      have e : outI ((memL s).take (k + 1)) (memL t) 0 = inI (memL t) a (outI ((memL s).take k) (memL t) 0) := foldl_take _ _ ha
      rw [e]
      rw [List.take_length] at H
      exact H
  · rintro e w73 ⟨rfl, fs', rfl, H⟩
    refine ⟨⟨_, rfl⟩, .inl ⟨H.loop 0 rfl, ?_⟩⟩
    replace H := H.turn 0 2 rfl
    rw [List.take_length, both_fold] at H
    refine ⟨_, (H.blk 3 rfl).one, H.dfr 1 rfl, rfl, ?_⟩
    exact (H.shut 1 rfl).ext
end Go.Proofs.YtpjafkcmbinjiaaDoor

/- The verification conditions of the functions, evaluated: printed by program. -/
namespace Go.Proofs.YtpjafkcmbinjiaaDoor
open Go Go.Vc
set_option maxRecDepth 20000

set_option maxRecDepth 100000 in
def sisname_T (s : ByteArray) (w : World) (R : Ending → World → Prop) : Prop :=
  (s ≠ ByteArray.mk #[] ∧ (↑s.size : Int) ≤ 24 → (0 : Int) ≤ 0 ∧ 0 < (↑s.size : Int) ∧ Calls Tryd.prog 78
 #[.string (ByteArray.mk #[97, 98, 99, 100, 101, 102, 103, 104, 105, 106, 107, 108, 109, 110, 111, 112, 113, 114, 115, 116, 117, 118, 119, 120, 121, 122]), .int .u8 (bAt s 0)]
 w fun e2 w3 ↦
 ∃ n4, e2 = .returned (.int .i64 n4) ∧ (0 ≤ n4 → Calls Tryd.prog 79
 #[.string s, Value.string
 (ByteArray.mk
 #[97, 98, 99, 100, 101, 102, 103, 104, 105, 106, 107, 108, 109, 110, 111, 112, 113, 114, 115, 116, 117, 118, 119, 120, 121, 122, 48, 49, 50, 51, 52, 53, 54, 55, 56, 57, 95])]
 w3 fun e6 w7 ↦ ∃ s8, e6 = .returned (.string s8) ∧ R (.returned (.bool (sEq s8 ⟨#[]⟩))) w7) ∧ (n4 < 0 → R (.returned (.bool false)) w3)) ∧ (s = ByteArray.mk #[] ∨ 24 < (↑s.size : Int) → R (.returned (.bool false)) w)

set_option maxRecDepth 100000 in
theorem sisname_eq (s : ByteArray) (w : World) (R : Ending → World → Prop) : sisname_T s w R = vcFn Tryd.prog [] [] Tryd.f58 [.string s] w R := by kernel_rfl

set_option maxRecDepth 100000 in
theorem sisname_vc (s : ByteArray) (w : World) (R : Ending → World → Prop) (h : sisname_T s w R) : Calls Tryd.prog 58 #[.string s] w R :=
  calls_of_vc (args := [.string s]) [] [] Tryd.mixed Tryd.func58 (cast (sisname_eq _ w R) h)

set_option maxRecDepth 100000 in
def sidxb_T (s : ByteArray) (c : Int) (w : World) (R : Ending → World → Prop) : Prop :=
  Calls Tryd.prog 92 #[.string s, .int .u8 c] w fun e1 w2 ↦
 ∃ n3, e1 = .returned (.int .i64 n3) ∧ R (.returned (.int .i64 n3)) w2

set_option maxRecDepth 100000 in
theorem sidxb_eq (s : ByteArray) (c : Int) (w : World) (R : Ending → World → Prop) : sidxb_T s c w R = vcFn Tryd.prog [] [] Tryd.f78 [.string s, .int .u8 c] w R := by kernel_rfl

set_option maxRecDepth 100000 in
theorem sidxb_vc (s : ByteArray) (c : Int) (w : World) (R : Ending → World → Prop) (h : sidxb_T s c w R) : Calls Tryd.prog 78 #[.string s, .int .u8 c] w R :=
  calls_of_vc (args := [.string s, .int .u8 c]) [] [] Tryd.mixed Tryd.func78 (cast (sidxb_eq _ _ w R) h)

set_option maxRecDepth 100000 in
def slidxb_T (s : ByteArray) (c : Int) (w : World) (R : Ending → World → Prop) : Prop :=
  ∃ n1, ∃ (w'2 : World), Sem.run Tryd.prog (callFunc 104 #[.string s, .int .u8 c]) w = Result.ok (Next.value (.int .i64 n1)) w'2 ∧ R (.returned (.int .i64 n1)) w'2

set_option maxRecDepth 100000 in
theorem slidxb_eq (s : ByteArray) (c : Int) (w : World) (R : Ending → World → Prop) : slidxb_T s c w R = vcFn Tryd.prog [] [] Tryd.f92 [.string s, .int .u8 c] w R := by kernel_rfl

set_option maxRecDepth 100000 in
theorem slidxb_vc (s : ByteArray) (c : Int) (w : World) (R : Ending → World → Prop) (h : slidxb_T s c w R) : Calls Tryd.prog 92 #[.string s, .int .u8 c] w R :=
  calls_of_vc (args := [.string s, .int .u8 c]) [] [] Tryd.mixed Tryd.func92 (cast (slidxb_eq _ _ w R) h)

set_option maxRecDepth 100000 in
def strim_T (s : ByteArray) (cutset : ByteArray) (w : World) (R : Ending → World → Prop) : Prop :=
  (s = ByteArray.mk #[] ∨ cutset = ByteArray.mk #[] → R (.returned (.string s)) w) ∧ (s ≠ ByteArray.mk #[] ∧ cutset ≠ ByteArray.mk #[] → ((↑cutset.size : Int) = 1 → (0 : Int) ≤ 0 ∧ 0 < (↑cutset.size : Int) ∧ (bAt cutset 0 < 128 → ∀ w'5, Drew w w'5 → (0 : Int) ≤ 0 ∧ 0 < (↑cutset.size : Int) ∧ (0 : Int) ≤ 0 ∧ 0 < (↑cutset.size : Int) ∧ Calls Tryd.prog 94 #[.string s, .int .u8 (bAt cutset 0)] w'5 fun e7 w8 ↦
 ∃ s9, e7 = .returned (.string s9) ∧ Calls Tryd.prog 93 #[.string s9, .int .u8 (bAt cutset 0)] w8 fun e10 w11 ↦
 ∃ s12, e10 = .returned (.string s12) ∧ R (.returned (.string s12)) w11) ∧ (128 ≤ bAt cutset 0 → Calls Tryd.prog 95 #[.string cutset] w fun e14 w15 ↦
 ∃ (vs16 : Array Value), vs16.size = 256 ∧ ∃ b17, e14 = .returned (.tuple #[.agg vs16, .bool b17]) ∧ ∀ b18 w'19, New w15 (Obj.cells (zeroA Tryd.prog 133) 133) b18 w'19 → vs16.size = 256 ∧ CanPut w'19 b18 0 vs16 ∧ ∀ w'21, Put w'19 b18 0 vs16.1 w'21 → (b17 = true → Calls Tryd.prog 97 #[.string s, .pointer (some ⟨b18, 0, none⟩)] w'21 fun e24 w25 ↦
 ∃ s26, e24 = .returned (.string s26) ∧ Calls Tryd.prog 96 #[.string s26, .pointer (some ⟨b18, 0, none⟩)] w25 fun e27 w28 ↦
 ∃ s29, e27 = .returned (.string s29) ∧ R (.returned (.string s29)) w28) ∧ (b17 = false → Calls Tryd.prog 99 #[.string s, .string cutset] w'21 fun e31 w32 ↦
 ∃ s33, e31 = .returned (.string s33) ∧ Calls Tryd.prog 98 #[.string s33, .string cutset] w32 fun e34 w35 ↦
 ∃ s36, e34 = .returned (.string s36) ∧ R (.returned (.string s36)) w35))) ∧ ((↑cutset.size : Int) ≠ 1 → Calls Tryd.prog 95 #[.string cutset] w fun e38 w39 ↦
 ∃ (vs40 : Array Value), vs40.size = 256 ∧ ∃ b41, e38 = .returned (.tuple #[.agg vs40, .bool b41]) ∧ ∀ b42 w'43, New w39 (Obj.cells (zeroA Tryd.prog 133) 133) b42 w'43 → vs40.size = 256 ∧ CanPut w'43 b42 0 vs40 ∧ ∀ w'45, Put w'43 b42 0 vs40.1 w'45 → (b41 = true → Calls Tryd.prog 97 #[.string s, .pointer (some ⟨b42, 0, none⟩)] w'45 fun e48 w49 ↦
 ∃ s50, e48 = .returned (.string s50) ∧ Calls Tryd.prog 96 #[.string s50, .pointer (some ⟨b42, 0, none⟩)] w49 fun e51 w52 ↦
 ∃ s53, e51 = .returned (.string s53) ∧ R (.returned (.string s53)) w52) ∧ (b41 = false → Calls Tryd.prog 99 #[.string s, .string cutset] w'45 fun e55 w56 ↦
 ∃ s57, e55 = .returned (.string s57) ∧ Calls Tryd.prog 98 #[.string s57, .string cutset] w56 fun e58 w59 ↦
 ∃ s60, e58 = .returned (.string s60) ∧ R (.returned (.string s60)) w59)))

set_option maxRecDepth 100000 in
theorem strim_eq (s : ByteArray) (cutset : ByteArray) (w : World) (R : Ending → World → Prop) : strim_T s cutset w R = vcFn Tryd.prog [] [(4, [2, 4, 6, 10, 12, 8, 14, 16, 0])] Tryd.f79 [.string s, .string cutset] w R := by kernel_rfl

set_option maxRecDepth 100000 in
theorem strim_vc (s : ByteArray) (cutset : ByteArray) (w : World) (R : Ending → World → Prop) (h : strim_T s cutset w R) : Calls Tryd.prog 79 #[.string s, .string cutset] w R :=
  calls_of_vc (args := [.string s, .string cutset]) [] [(4, [2, 4, 6, 10, 12, 8, 14, 16, 0])] Tryd.mixed Tryd.func79 (cast (strim_eq _ _ w R) h)

set_option maxRecDepth 100000 in
def mkascii_T (chars : ByteArray) (w : World) (R : Ending → World → Prop) : Prop :=
  ∀ b1 w'2, New w (Obj.cells (zeroA Tryd.prog 133) 133) b1 w'2 → ∃ (I4 : Int → World → Prop), ∃ (M5 : Int → World → Nat), I4 0 w'2 ∧ ∀ (n6 : Int) (w'7 : World), I4 n6 w'7 → (n6 < (↑chars.size : Int) → 0 ≤ n6 ∧ n6 < (↑chars.size : Int) ∧ (128 ≤ bAt chars n6.toNat → ∃ (vs11 : Array Value), vs11.size = 256 ∧ CellsAt w'7 b1 0 vs11 ∧ vs11.size = 256 ∧ CanPut w'7 b1 0 vs11 ∧ ∀ w'12, Put w'7 b1 0 vs11.1 w'12 → ∃ (vs14 : Array Value), vs14.size = 256 ∧ CellsAt w'12 b1 0 vs14 ∧ R (.returned (.tuple #[.agg vs14, .bool false])) w'12) ∧ (bAt chars n6.toNat < 128 → 0 ≤ bAt chars n6.toNat ∧ bAt chars n6.toNat < 256 ∧ (∃ u16, w'7.cell? ⟨b1, (0 + (bAt chars n6.toNat).toNat), none⟩ = some u16) ∧ w'7.frozen? ⟨b1, (0 + (bAt chars n6.toNat).toNat), none⟩ = false ∧ ∀ w'17, Put w'7 b1 (0 + (bAt chars n6.toNat).toNat) [.bool true] w'17 → I4 (IntKind.i64.wrap (n6 + 1)) w'17 ∧ M5 (IntKind.i64.wrap (n6 + 1)) w'17 < M5 n6 w'7)) ∧ ((↑chars.size : Int) ≤ n6 → ∃ (vs20 : Array Value), vs20.size = 256 ∧ CellsAt w'7 b1 0 vs20 ∧ vs20.size = 256 ∧ CanPut w'7 b1 0 vs20 ∧ ∀ w'21, Put w'7 b1 0 vs20.1 w'21 → ∃ (vs23 : Array Value), vs23.size = 256 ∧ CellsAt w'21 b1 0 vs23 ∧ R (.returned (.tuple #[.agg vs23, .bool true])) w'21)

set_option maxRecDepth 100000 in
theorem mkascii_eq (chars : ByteArray) (w : World) (R : Ending → World → Prop) : mkascii_T chars w R = vcFn Tryd.prog [] [] Tryd.f95 [.string chars] w R := by kernel_rfl

set_option maxRecDepth 100000 in
theorem mkascii_vc (chars : ByteArray) (w : World) (R : Ending → World → Prop) (h : mkascii_T chars w R) : Calls Tryd.prog 95 #[.string chars] w R :=
  calls_of_vc (args := [.string chars]) [] [] Tryd.mixed Tryd.func95 (cast (mkascii_eq _ w R) h)

set_option maxRecDepth 100000 in
def trimla_T (s : ByteArray) («as» : Option Addr) (w : World) (R : Ending → World → Prop) : Prop :=
  ∃ (I1 : ByteArray → World → Prop), ∃ (M2 : ByteArray → World → Nat), I1 s w ∧ ∀ (s3 : ByteArray) (w'4 : World), I1 s3 w'4 → (0 < (↑s3.size : Int) → (0 : Int) ≤ 0 ∧ 0 < (↑s3.size : Int) ∧ Calls Tryd.prog 105 #[.pointer «as», .int .u8 (bAt s3 0)] w'4 fun e7 w8 ↦
 ∃ b9, e7 = .returned (.bool b9) ∧ (b9 = false → R (.returned (.string s3)) w8) ∧ (b9 = true → (0 : Int) ≤ 1 ∧ 1 ≤ (↑s3.size : Int) ∧ I1 (s3.extract 1 s3.size) w8 ∧ M2 (s3.extract 1 s3.size) w8 < M2 s3 w'4)) ∧ ((↑s3.size : Int) ≤ 0 → R (.returned (.string s3)) w'4)

set_option maxRecDepth 100000 in
theorem trimla_eq (s : ByteArray) («as» : Option Addr) (w : World) (R : Ending → World → Prop) : trimla_T s «as» w R = vcFn Tryd.prog [] [] Tryd.f96 [.string s, .pointer «as»] w R := by kernel_rfl

set_option maxRecDepth 100000 in
theorem trimla_vc (s : ByteArray) («as» : Option Addr) (w : World) (R : Ending → World → Prop) (h : trimla_T s «as» w R) : Calls Tryd.prog 96 #[.string s, .pointer «as»] w R :=
  calls_of_vc (args := [.string s, .pointer «as»]) [] [] Tryd.mixed Tryd.func96 (cast (trimla_eq _ _ w R) h)

set_option maxRecDepth 100000 in
def trimra_T (s : ByteArray) («as» : Option Addr) (w : World) (R : Ending → World → Prop) : Prop :=
  ∃ (I1 : ByteArray → World → Prop), ∃ (M2 : ByteArray → World → Nat), I1 s w ∧ ∀ (s3 : ByteArray) (w'4 : World), I1 s3 w'4 → (0 < (↑s3.size : Int) → 0 ≤ IntKind.i64.wrap ((↑s3.size : Int) - 1) ∧ IntKind.i64.wrap ((↑s3.size : Int) - 1) < (↑s3.size : Int) ∧ Calls Tryd.prog 105 #[.pointer «as», .int .u8 (bAt s3 (IntKind.i64.wrap ((↑s3.size : Int) - 1)).toNat)] w'4 fun e7 w8 ↦
 ∃ b9, e7 = .returned (.bool b9) ∧ (b9 = false → R (.returned (.string s3)) w8) ∧ (b9 = true → 0 ≤ IntKind.i64.wrap ((↑s3.size : Int) - 1) ∧ IntKind.i64.wrap ((↑s3.size : Int) - 1) ≤ (↑s3.size : Int) ∧ I1 (s3.extract 0 (IntKind.i64.wrap ((↑s3.size : Int) - 1)).toNat) w8 ∧ M2 (s3.extract 0 (IntKind.i64.wrap ((↑s3.size : Int) - 1)).toNat) w8 < M2 s3 w'4)) ∧ ((↑s3.size : Int) ≤ 0 → R (.returned (.string s3)) w'4)

set_option maxRecDepth 100000 in
theorem trimra_eq (s : ByteArray) («as» : Option Addr) (w : World) (R : Ending → World → Prop) : trimra_T s «as» w R = vcFn Tryd.prog [] [] Tryd.f97 [.string s, .pointer «as»] w R := by kernel_rfl

set_option maxRecDepth 100000 in
theorem trimra_vc (s : ByteArray) («as» : Option Addr) (w : World) (R : Ending → World → Prop) (h : trimra_T s «as» w R) : Calls Tryd.prog 97 #[.string s, .pointer «as»] w R :=
  calls_of_vc (args := [.string s, .pointer «as»]) [] [] Tryd.mixed Tryd.func97 (cast (trimra_eq _ _ w R) h)

set_option maxRecDepth 100000 in
def ascont_T («as» : Option Addr) (c : Int) (w : World) (R : Ending → World → Prop) : Prop :=
  ∃ b1, ∃ o2, «as» = some ⟨b1, o2, none⟩ ∧ 0 ≤ c ∧ c < 256 ∧ ∃ b3, w.cell? ⟨b1, (o2 + c.toNat), none⟩ = some (.bool b3) ∧ R (.returned (.bool b3)) w

set_option maxRecDepth 100000 in
theorem ascont_eq («as» : Option Addr) (c : Int) (w : World) (R : Ending → World → Prop) : ascont_T «as» c w R = vcFn Tryd.prog [] [] Tryd.f105 [.pointer «as», .int .u8 c] w R := by kernel_rfl

set_option maxRecDepth 100000 in
theorem ascont_vc («as» : Option Addr) (c : Int) (w : World) (R : Ending → World → Prop) (h : ascont_T «as» c w R) : Calls Tryd.prog 105 #[.pointer «as», .int .u8 c] w R :=
  calls_of_vc (args := [.pointer «as», .int .u8 c]) [] [] Tryd.mixed Tryd.func105 (cast (ascont_eq _ _ w R) h)

set_option maxRecDepth 100000 in
def sright_T (cols_p : Option Addr) (cols_n : Nat) (cols_c : Nat) (w : World) (R : Ending → World → Prop) : Prop :=
  ∀ b1 w'2, New w (Obj.map #[] 0) b1 w'2 → ∃ (I4 : Int → World → Prop), ∃ (M5 : Int → World → Nat), I4 0 w'2 ∧ ∀ (n6 : Int) (w'7 : World), I4 n6 w'7 → (n6 < (↑cols_n : Int) → ∃ b10, ∃ o11, cols_p = some ⟨b10, o11, none⟩ ∧ 0 ≤ n6 ∧ n6 < (↑cols_n : Int) ∧ ∃ s12, w'7.cell? ⟨b10, (o11 + n6.toNat * 3), none⟩ = some (.string s12) ∧ ∃ n13, w'7.cell? ⟨b10, (o11 + n6.toNat * 3 + 1), none⟩ = some (.int .i64 n13) ∧ ∃ b14, w'7.cell? ⟨b10, (o11 + n6.toNat * 3 + 2), none⟩ = some (.bool b14) ∧ ∀ b15 w'16, New w'7 (Obj.cells #[.string ⟨#[]⟩, .int .i64 0, .bool false] 48) b15 w'16 → (∃ u18, w'16.cell? ⟨b15, 0, none⟩ = some u18) ∧ w'16.frozen? ⟨b15, 0, none⟩ = false ∧ (∃ u19, w'16.cell? ⟨b15, 1, none⟩ = some u19) ∧ w'16.frozen? ⟨b15, 1, none⟩ = false ∧ (∃ u20, w'16.cell? ⟨b15, 2, none⟩ = some u20) ∧ w'16.frozen? ⟨b15, 2, none⟩ = false ∧ ∀ w'21, Put w'16 b15 0 [.string s12, .int .i64 n13, .bool b14] w'21 → ∃ s23, w'21.cell? ⟨b15, 0, none⟩ = some (.string s23) ∧ Calls Tryd.prog 58 #[.string s23] w'21 fun e24 w25 ↦
 ∃ b26, e24 = .returned (.bool b26) ∧ (b26 = false → R (.returned (.bool false)) w25) ∧ (b26 = true → ∃ s29, w25.cell? ⟨b15, 0, none⟩ = some (.string s29) ∧ ∃ b30, (∀ (w131 : World), Same w25 w131 → Sem.run Tryd.prog (Instr.lookup 91 (.map (some b1)) (.string s29) false) w131 = Result.ok (.bool b30) w131) ∧ (b30 = true → R (.returned (.bool false)) w25) ∧ (b30 = false → ∃ n35, w25.cell? ⟨b15, 1, none⟩ = some (.int .i64 n35) ∧ (n35 < 1 → R (.returned (.bool false)) w25) ∧ (1 ≤ n35 → ∃ n38, w25.cell? ⟨b15, 1, none⟩ = some (.int .i64 n38) ∧ (3 < n38 → R (.returned (.bool false)) w25) ∧ (n38 ≤ 3 → ∃ s41, w25.cell? ⟨b15, 0, none⟩ = some (.string s41) ∧ ∃ (w'42 : World), Sem.run Tryd.prog (Instr.mapUpdate 91 (.map (some b1)) (.string s41) (.bool true)) w25 = Result.ok () w'42 ∧ I4 (IntKind.i64.wrap (n6 + 1)) w'42 ∧ M5 (IntKind.i64.wrap (n6 + 1)) w'42 < M5 n6 w'7))))) ∧ ((↑cols_n : Int) ≤ n6 → R (.returned (.bool (decide (0 < (↑cols_n : Int)) && decide ((↑cols_n : Int) ≤ 16)))) w'7)

set_option maxRecDepth 100000 in
theorem sright_eq (cols_p : Option Addr) (cols_n : Nat) (cols_c : Nat) (w : World) (R : Ending → World → Prop) : sright_T cols_p cols_n cols_c w R = vcFn Tryd.prog [] [] Tryd.f35 [.slice cols_p cols_n cols_c] w R := by kernel_rfl

set_option maxRecDepth 100000 in
theorem sright_vc (cols_p : Option Addr) (cols_n : Nat) (cols_c : Nat) (w : World) (R : Ending → World → Prop) (h : sright_T cols_p cols_n cols_c w R) : Calls Tryd.prog 35 #[.slice cols_p cols_n cols_c] w R :=
  calls_of_vc (args := [.slice cols_p cols_n cols_c]) [] [] Tryd.mixed Tryd.func35 (cast (sright_eq _ _ _ w R) h)

set_option maxRecDepth 100000 in
def sfits_T (cols_p : Option Addr) (cols_n : Nat) (cols_c : Nat) (row_p : Option Addr) (row_n : Nat) (row_c : Nat) (w : World) (R : Ending → World → Prop) : Prop :=
  Calls Tryd.prog 35 #[.slice cols_p cols_n cols_c] w fun e1 w2 ↦
 ∃ b3, e1 = .returned (.bool b3) ∧ (b3 = true → Calls Tryd.prog 53 #[.slice cols_p cols_n cols_c, .slice row_p row_n row_c] w2 fun e5 w6 ↦
 ∃ b7, e5 = .returned (.bool b7) ∧ R (.returned (.bool b7)) w6) ∧ (b3 = false → R (.returned (.bool false)) w2)

set_option maxRecDepth 100000 in
theorem sfits_eq (cols_p : Option Addr) (cols_n : Nat) (cols_c : Nat) (row_p : Option Addr) (row_n : Nat) (row_c : Nat) (w : World) (R : Ending → World → Prop) : sfits_T cols_p cols_n cols_c row_p row_n row_c w R = vcFn Tryd.prog [] [] Tryd.f30 [.slice cols_p cols_n cols_c, .slice row_p row_n row_c] w R := by kernel_rfl

set_option maxRecDepth 100000 in
theorem sfits_vc (cols_p : Option Addr) (cols_n : Nat) (cols_c : Nat) (row_p : Option Addr) (row_n : Nat) (row_c : Nat) (w : World) (R : Ending → World → Prop) (h : sfits_T cols_p cols_n cols_c row_p row_n row_c w R) : Calls Tryd.prog 30 #[.slice cols_p cols_n cols_c, .slice row_p row_n row_c] w R :=
  calls_of_vc (args := [.slice cols_p cols_n cols_c, .slice row_p row_n row_c]) [] [] Tryd.mixed Tryd.func30 (cast (sfits_eq _ _ _ _ _ _ w R) h)

set_option maxRecDepth 100000 in
def sfits0_T (cols_p : Option Addr) (cols_n : Nat) (cols_c : Nat) (row_p : Option Addr) (row_n : Nat) (row_c : Nat) (w : World) (R : Ending → World → Prop) : Prop :=
  ∀ b1 w'2, New w (Obj.cells #[.bool false] 4) b1 w'2 → ((↑row_n : Int) ≠ (↑cols_n : Int) → (∃ u5, w'2.cell? ⟨b1, 0, none⟩ = some u5) ∧ w'2.frozen? ⟨b1, 0, none⟩ = false ∧ ∀ w'6, Put w'2 b1 0 [.bool false] w'6 → ∃ b8, w'6.cell? ⟨b1, 0, none⟩ = some (.bool b8) ∧ R (.returned (.bool b8)) w'6) ∧ ((↑row_n : Int) = (↑cols_n : Int) → Calls Tryd.prog 71 #[.slice cols_p cols_n cols_c, .slice row_p row_n row_c] w'2 fun e10 w11 ↦
 ∃ v12, e10 = .returned v12 ∧ ∃ (g13 : FuncId), ∃ (lb14 : Array Value), v12 = .func (Fn.func g13) #[] lb14 ∧ enterable Tryd.prog g13 = true ∧ ∀ (r15 : Nat → Loop) (d16 l17 : Nat) (w118 : World), Began w11 r15 d16 l17 w118 → (∀ (s20 : ByteArray) (n21 : Int) (b22 : Bool) (n23 n24 : Int) (s25 : ByteArray) (W26 : World) (R27 : Bool → World → Prop), Rec r15 l17 0 W26 → (∀ b29 w'30, New W26 (Obj.cells #[.string ⟨#[]⟩, .int .i64 0, .bool false] 48) b29 w'30 → (∃ u32, w'30.cell? ⟨b29, 0, none⟩ = some u32) ∧ w'30.frozen? ⟨b29, 0, none⟩ = false ∧ (∃ u33, w'30.cell? ⟨b29, 1, none⟩ = some u33) ∧ w'30.frozen? ⟨b29, 1, none⟩ = false ∧ (∃ u34, w'30.cell? ⟨b29, 2, none⟩ = some u34) ∧ w'30.frozen? ⟨b29, 2, none⟩ = false ∧ ∀ w'35, Put w'30 b29 0 [.string s20, .int .i64 n21, .bool b22] w'35 → ∀ b37 w'38, New w'35 (Obj.cells #[.int .i64 0, .int .i64 0, .string ⟨#[]⟩] 25) b37 w'38 → (∃ u40, w'38.cell? ⟨b37, 0, none⟩ = some u40) ∧ w'38.frozen? ⟨b37, 0, none⟩ = false ∧ (∃ u41, w'38.cell? ⟨b37, 1, none⟩ = some u41) ∧ w'38.frozen? ⟨b37, 1, none⟩ = false ∧ (∃ u42, w'38.cell? ⟨b37, 2, none⟩ = some u42) ∧ w'38.frozen? ⟨b37, 2, none⟩ = false ∧ ∀ w'43, Put w'38 b37 0 [.int .i64 n23, .int .i64 n24, .string s25] w'43 → Rec r15 l17 0 w'43 ∧ ∀ (Wb45 : World), Wb45 = turn r15 l17 1 w'43 → ∃ n47, Wb45.cell? ⟨b37, 0, none⟩ = some (.int .i64 n47) ∧ ∃ n48, Wb45.cell? ⟨b37, 1, none⟩ = some (.int .i64 n48) ∧ ∃ s49, Wb45.cell? ⟨b37, 2, none⟩ = some (.string s49) ∧ Calls Tryd.prog 38 #[.agg #[.int .i64 n47, .int .i64 n48, .string s49]] Wb45 fun e50 w51 ↦
 ∃ b52, e50 = .returned (.bool b52) ∧ (b52 = false → (∃ u54, w51.cell? ⟨b1, 0, none⟩ = some u54) ∧ w51.frozen? ⟨b1, 0, none⟩ = false ∧ ∀ w'55, Put w51 b1 0 [.bool false] w'55 → Rec r15 l17 1 w'55 ∧ R27 false (turn r15 l17 3 w'55)) ∧ (b52 = true → ∃ n58, w51.cell? ⟨b37, 0, none⟩ = some (.int .i64 n58) ∧ ∃ n59, w51.cell? ⟨b29, 1, none⟩ = some (.int .i64 n59) ∧ (n58 ≠ n59 → ∃ b61, w51.cell? ⟨b29, 2, none⟩ = some (.bool b61) ∧ (b61 = true → ∃ n63, w51.cell? ⟨b37, 0, none⟩ = some (.int .i64 n63) ∧ (n63 ≠ 0 → (∃ u65, w51.cell? ⟨b1, 0, none⟩ = some u65) ∧ w51.frozen? ⟨b1, 0, none⟩ = false ∧ ∀ w'66, Put w51 b1 0 [.bool false] w'66 → Rec r15 l17 1 w'66 ∧ R27 false (turn r15 l17 3 w'66)) ∧ (n63 = 0 → Rec r15 l17 1 w51 ∧ R27 true (turn r15 l17 0 w51))) ∧ (b61 = false → (∃ u70, w51.cell? ⟨b1, 0, none⟩ = some u70) ∧ w51.frozen? ⟨b1, 0, none⟩ = false ∧ ∀ w'71, Put w51 b1 0 [.bool false] w'71 → Rec r15 l17 1 w'71 ∧ R27 false (turn r15 l17 3 w'71))) ∧ (n58 = n59 → Rec r15 l17 1 w51 ∧ R27 true (turn r15 l17 0 w51)))) → Yield Tryd.prog l17
 #[.agg #[.string s20, .int .i64 n21, .bool b22], .agg #[.int .i64 n23, .int .i64 n24, .string s25]] W26
 fun (b75 : Bool) (w76 : World) ↦ R27 b75 w76) → Calls Tryd.prog g13 (.func (Fn.yield l17) #[] #[] :: lb14.1).toArray w118 fun e78 w79 ↦
 (∃ v80, e78 = .returned v80) ∧ ((Rec r15 l17 0 w79 ∧ (∃ u81, (turn r15 l17 2 w79).cell? ⟨b1, 0, none⟩ = some u81) ∧ (turn r15 l17 2 w79).frozen? ⟨b1, 0, none⟩ = false ∧ ∀ w'82, Put (turn r15 l17 2 w79) b1 0 [.bool true] w'82 → w'82.heap[d16]? = some (Obj.deferred (some [])) ∧ ∃ b86, (w'82.putObj d16 (Obj.deferred none)).cell? ⟨b1, 0, none⟩ = some (.bool b86) ∧ R (.returned (.bool b86)) (w'82.putObj d16 (Obj.deferred none))) ∨
 (Rec r15 l17 3 w79 ∧ (turn r15 l17 4 w79).heap[d16]? = some (Obj.deferred (some [])) ∧ ∃ b89, ((turn r15 l17 4 w79).putObj d16 (Obj.deferred none)).cell? ⟨b1, 0, none⟩ = some (.bool b89) ∧ R (.returned (.bool b89)) ((turn r15 l17 4 w79).putObj d16 (Obj.deferred none))) ∨
 False))

set_option maxRecDepth 100000 in
theorem sfits0_eq (cols_p : Option Addr) (cols_n : Nat) (cols_c : Nat) (row_p : Option Addr) (row_n : Nat) (row_c : Nat) (w : World) (R : Ending → World → Prop) : sfits0_T cols_p cols_n cols_c row_p row_n row_c w R = vcFn Tryd.prog [] [] Tryd.f53 [.slice cols_p cols_n cols_c, .slice row_p row_n row_c] w R := by kernel_rfl

set_option maxRecDepth 100000 in
theorem sfits0_vc (cols_p : Option Addr) (cols_n : Nat) (cols_c : Nat) (row_p : Option Addr) (row_n : Nat) (row_c : Nat) (w : World) (R : Ending → World → Prop) (h : sfits0_T cols_p cols_n cols_c row_p row_n row_c w R) : Calls Tryd.prog 53 #[.slice cols_p cols_n cols_c, .slice row_p row_n row_c] w R :=
  calls_of_vc (args := [.slice cols_p cols_n cols_c, .slice row_p row_n row_c]) [] [] Tryd.mixed Tryd.func53 (cast (sfits0_eq _ _ _ _ _ _ w R) h)

set_option maxRecDepth 100000 in
def spairs_T (cols_p : Option Addr) (cols_n : Nat) (cols_c : Nat) (row_p : Option Addr) (row_n : Nat) (row_c : Nat) (w : World) (R : Ending → World → Prop) : Prop :=
  ∀ b1 w'2, New w (Obj.cells #[.slice cols_p cols_n cols_c] 22) b1 w'2 → ∀ b4 w'5, New w'2 (Obj.cells #[.slice row_p row_n row_c] 32) b4 w'5 → R (.returned (.func (Fn.func 90) #[] #[.pointer (some ⟨b1, 0, none⟩), .pointer (some ⟨b4, 0, none⟩)])) w'5

set_option maxRecDepth 100000 in
theorem spairs_eq (cols_p : Option Addr) (cols_n : Nat) (cols_c : Nat) (row_p : Option Addr) (row_n : Nat) (row_c : Nat) (w : World) (R : Ending → World → Prop) : spairs_T cols_p cols_n cols_c row_p row_n row_c w R = vcFn Tryd.prog [] [] Tryd.f71 [.slice cols_p cols_n cols_c, .slice row_p row_n row_c] w R := by kernel_rfl

set_option maxRecDepth 100000 in
theorem spairs_vc (cols_p : Option Addr) (cols_n : Nat) (cols_c : Nat) (row_p : Option Addr) (row_n : Nat) (row_c : Nat) (w : World) (R : Ending → World → Prop) (h : spairs_T cols_p cols_n cols_c row_p row_n row_c w R) : Calls Tryd.prog 71 #[.slice cols_p cols_n cols_c, .slice row_p row_n row_c] w R :=
  calls_of_vc (args := [.slice cols_p cols_n cols_c, .slice row_p row_n row_c]) [] [] Tryd.mixed Tryd.func71 (cast (spairs_eq _ _ _ _ _ _ w R) h)

set_option maxRecDepth 100000 in
def spairs1_T (l0 : Nat) (fv0 : Nat) (fv1 : Nat) (w : World) (R : Ending → World → Prop) : Prop :=
  ∃ p1 n2 c3, w.cell? ⟨fv0, 0, none⟩ = some (.slice p1 n2 c3) ∧ ∃ (I4 : Int → World → Prop), ∃ (M5 : Int → World → Nat), I4 0 w ∧ ∀ (n6 : Int) (w'7 : World), I4 n6 w'7 → (n6 < (↑n2 : Int) → ∃ b10, ∃ o11, p1 = some ⟨b10, o11, none⟩ ∧ 0 ≤ n6 ∧ n6 < (↑n2 : Int) ∧ ∃ s12, w'7.cell? ⟨b10, (o11 + n6.toNat * 3), none⟩ = some (.string s12) ∧ ∃ n13, w'7.cell? ⟨b10, (o11 + n6.toNat * 3 + 1), none⟩ = some (.int .i64 n13) ∧ ∃ b14, w'7.cell? ⟨b10, (o11 + n6.toNat * 3 + 2), none⟩ = some (.bool b14) ∧ ∀ b15 w'16, New w'7 (Obj.cells #[.string ⟨#[]⟩, .int .i64 0, .bool false] 48) b15 w'16 → (∃ u18, w'16.cell? ⟨b15, 0, none⟩ = some u18) ∧ w'16.frozen? ⟨b15, 0, none⟩ = false ∧ (∃ u19, w'16.cell? ⟨b15, 1, none⟩ = some u19) ∧ w'16.frozen? ⟨b15, 1, none⟩ = false ∧ (∃ u20, w'16.cell? ⟨b15, 2, none⟩ = some u20) ∧ w'16.frozen? ⟨b15, 2, none⟩ = false ∧ ∀ w'21, Put w'16 b15 0 [.string s12, .int .i64 n13, .bool b14] w'21 → ∀ w'23, Drew w'21 w'23 → ∃ s25, w'23.cell? ⟨b15, 0, none⟩ = some (.string s25) ∧ ∃ n26, w'23.cell? ⟨b15, 1, none⟩ = some (.int .i64 n26) ∧ ∃ b27, w'23.cell? ⟨b15, 2, none⟩ = some (.bool b27) ∧ ∃ p28 n29 c30, w'23.cell? ⟨fv1, 0, none⟩ = some (.slice p28 n29 c30) ∧ ∃ b31, ∃ o32, p28 = some ⟨b31, o32, none⟩ ∧ 0 ≤ n6 ∧ n6 < (↑n29 : Int) ∧ ∃ n33, w'23.cell? ⟨b31, (o32 + n6.toNat * 3), none⟩ = some (.int .i64 n33) ∧ ∃ n34, w'23.cell? ⟨b31, (o32 + n6.toNat * 3 + 1), none⟩ = some (.int .i64 n34) ∧ ∃ s35, w'23.cell? ⟨b31, (o32 + n6.toNat * 3 + 2), none⟩ = some (.string s35) ∧ Yield Tryd.prog l0
 #[.agg #[.string s25, .int .i64 n26, .bool b27], .agg #[.int .i64 n33, .int .i64 n34, .string s35]] w'23
 fun (b36 : Bool) (w37 : World) ↦
 (b36 = false → R (.returned (.tuple #[])) w37) ∧ (b36 = true → I4 (IntKind.i64.wrap (n6 + 1)) w37 ∧ M5 (IntKind.i64.wrap (n6 + 1)) w37 < M5 n6 w'7)) ∧ ((↑n2 : Int) ≤ n6 → R (.returned (.tuple #[])) w'7)

set_option maxRecDepth 100000 in
theorem spairs1_eq (l0 : Nat) (fv0 : Nat) (fv1 : Nat) (w : World) (R : Ending → World → Prop) : spairs1_T l0 fv0 fv1 w R = vcFn Tryd.prog [] [(3, [2, 4, 6, 8, 10, 12, 14, 16, 0])] Tryd.f90 [.func (Fn.yield l0) #[] #[], .pointer (some ⟨fv0, 0, none⟩), .pointer (some ⟨fv1, 0, none⟩)] w R := by kernel_rfl

set_option maxRecDepth 100000 in
theorem spairs1_vc (l0 : Nat) (fv0 : Nat) (fv1 : Nat) (w : World) (R : Ending → World → Prop) (h : spairs1_T l0 fv0 fv1 w R) : Calls Tryd.prog 90 #[.func (Fn.yield l0) #[] #[], .pointer (some ⟨fv0, 0, none⟩), .pointer (some ⟨fv1, 0, none⟩)] w R :=
  calls_of_vc (args := [.func (Fn.yield l0) #[] #[], .pointer (some ⟨fv0, 0, none⟩), .pointer (some ⟨fv1, 0, none⟩)]) [] [(3, [2, 4, 6, 8, 10, 12, 14, 16, 0])] Tryd.mixed Tryd.func90 (cast (spairs1_eq _ _ _ w R) h)

set_option maxRecDepth 100000 in
def sfind_T (cols_p : Option Addr) (cols_n : Nat) (cols_c : Nat) (name : ByteArray) (w : World) (R : Ending → World → Prop) : Prop :=
  ∀ b1 w'2, New w (Obj.cells #[.string name] 9) b1 w'2 → Calls Tryd.prog 72 #[.slice cols_p cols_n cols_c, .func (Fn.func 73) #[] #[.pointer (some ⟨b1, 0, none⟩)]] w'2 fun e4 w5 ↦
 ∃ n6, e4 = .returned (.int .i64 n6) ∧ R (.returned (.int .i64 n6)) w5

set_option maxRecDepth 100000 in
theorem sfind_eq (cols_p : Option Addr) (cols_n : Nat) (cols_c : Nat) (name : ByteArray) (w : World) (R : Ending → World → Prop) : sfind_T cols_p cols_n cols_c name w R = vcFn Tryd.prog [] [] Tryd.f54 [.slice cols_p cols_n cols_c, .string name] w R := by kernel_rfl

set_option maxRecDepth 100000 in
theorem sfind_vc (cols_p : Option Addr) (cols_n : Nat) (cols_c : Nat) (name : ByteArray) (w : World) (R : Ending → World → Prop) (h : sfind_T cols_p cols_n cols_c name w R) : Calls Tryd.prog 54 #[.slice cols_p cols_n cols_c, .string name] w R :=
  calls_of_vc (args := [.slice cols_p cols_n cols_c, .string name]) [] [] Tryd.mixed Tryd.func54 (cast (sfind_eq _ _ _ _ w R) h)

set_option maxRecDepth 100000 in
def sfind1_T (c0 : ByteArray) (c1 : Int) (c2 : Bool) (fv0 : Nat) (w : World) (R : Ending → World → Prop) : Prop :=
  ∀ b1 w'2, New w (Obj.cells #[.string c0, .int .i64 c1, .bool c2] 48) b1 w'2 → ∃ s4, w'2.cell? ⟨b1, 0, none⟩ = some (.string s4) ∧ ∃ s5, w'2.cell? ⟨fv0, 0, none⟩ = some (.string s5) ∧ R (.returned (.bool (sEq s4 s5))) w'2

set_option maxRecDepth 100000 in
theorem sfind1_eq (c0 : ByteArray) (c1 : Int) (c2 : Bool) (fv0 : Nat) (w : World) (R : Ending → World → Prop) : sfind1_T c0 c1 c2 fv0 w R = vcFn Tryd.prog [] [] Tryd.f73 [.agg #[.string c0, .int .i64 c1, .bool c2], .pointer (some ⟨fv0, 0, none⟩)] w R := by kernel_rfl

set_option maxRecDepth 100000 in
theorem sfind1_vc (c0 : ByteArray) (c1 : Int) (c2 : Bool) (fv0 : Nat) (w : World) (R : Ending → World → Prop) (h : sfind1_T c0 c1 c2 fv0 w R) : Calls Tryd.prog 73 #[.agg #[.string c0, .int .i64 c1, .bool c2], .pointer (some ⟨fv0, 0, none⟩)] w R :=
  calls_of_vc (args := [.agg #[.string c0, .int .i64 c1, .bool c2], .pointer (some ⟨fv0, 0, none⟩)]) [] [] Tryd.mixed Tryd.func73 (cast (sfind1_eq _ _ _ _ w R) h)

set_option maxRecDepth 100000 in
def ifcol_T (s_p : Option Addr) (s_n : Nat) (s_c : Nat) (cv1_0 : Nat) (w : World) (R : Ending → World → Prop) : Prop :=
  ∃ (I1 : Int → World → Prop), ∃ (M2 : Int → World → Nat), I1 0 w ∧ ∀ (n3 : Int) (w'4 : World), I1 n3 w'4 → (n3 < (↑s_n : Int) → ∃ b7, ∃ o8, s_p = some ⟨b7, o8, none⟩ ∧ 0 ≤ n3 ∧ n3 < (↑s_n : Int) ∧ ∃ s9, w'4.cell? ⟨b7, (o8 + n3.toNat * 3), none⟩ = some (.string s9) ∧ ∃ n10, w'4.cell? ⟨b7, (o8 + n3.toNat * 3 + 1), none⟩ = some (.int .i64 n10) ∧ ∃ b11, w'4.cell? ⟨b7, (o8 + n3.toNat * 3 + 2), none⟩ = some (.bool b11) ∧ Calls Tryd.prog 73 #[.agg #[.string s9, .int .i64 n10, .bool b11], .pointer (some ⟨cv1_0, 0, none⟩)] w'4
 fun e12 w13 ↦
 ∃ b14, e12 = .returned (.bool b14) ∧ (b14 = true → R (.returned (.int .i64 n3)) w13) ∧ (b14 = false → I1 (IntKind.i64.wrap (n3 + 1)) w13 ∧ M2 (IntKind.i64.wrap (n3 + 1)) w13 < M2 n3 w'4)) ∧ ((↑s_n : Int) ≤ n3 → R (.returned (.int .i64 (-1))) w'4)

set_option maxRecDepth 100000 in
theorem ifcol_eq (s_p : Option Addr) (s_n : Nat) (s_c : Nat) (cv1_0 : Nat) (w : World) (R : Ending → World → Prop) : ifcol_T s_p s_n s_c cv1_0 w R = vcFn Tryd.prog [] [] Tryd.f72 [.slice s_p s_n s_c, .func (Fn.func 73) #[] #[.pointer (some ⟨cv1_0, 0, none⟩)]] w R := by kernel_rfl

set_option maxRecDepth 100000 in
theorem ifcol_vc (s_p : Option Addr) (s_n : Nat) (s_c : Nat) (cv1_0 : Nat) (w : World) (R : Ending → World → Prop) (h : ifcol_T s_p s_n s_c cv1_0 w R) : Calls Tryd.prog 72 #[.slice s_p s_n s_c, .func (Fn.func 73) #[] #[.pointer (some ⟨cv1_0, 0, none⟩)]] w R :=
  calls_of_vc (args := [.slice s_p s_n s_c, .func (Fn.func 73) #[] #[.pointer (some ⟨cv1_0, 0, none⟩)]]) [] [] Tryd.mixed Tryd.func72 (cast (ifcol_eq _ _ _ _ w R) h)

set_option maxRecDepth 100000 in
def r5isname_T (s : ByteArray) (w : World) (R : Ending → World → Prop) : Prop :=
  ∃ (I1 : Int → World → Prop), ∃ (M2 : Int → World → Nat), I1 0 w ∧ ∀ (n3 : Int) (w'4 : World), I1 n3 w'4 → (n3 < (↑s.size : Int) → 0 ≤ n3 ∧ n3 < (↑s.size : Int) ∧ (97 ≤ bAt s n3.toNat → 0 ≤ n3 ∧ n3 < (↑s.size : Int) ∧ 0 ≤ n3 ∧ n3 < (↑s.size : Int) ∧ (48 ≤ bAt s n3.toNat → 0 ≤ n3 ∧ n3 < (↑s.size : Int) ∧ (bAt s n3.toNat ≤ 57 → (122 < bAt s n3.toNat → (n3 = 0 → R (.returned (.bool false)) w'4) ∧ (n3 ≠ 0 → I1 (IntKind.i64.wrap (n3 + 1)) w'4 ∧ M2 (IntKind.i64.wrap (n3 + 1)) w'4 < M2 n3 w'4)) ∧ (bAt s n3.toNat ≤ 122 → I1 (IntKind.i64.wrap (n3 + 1)) w'4 ∧ M2 (IntKind.i64.wrap (n3 + 1)) w'4 < M2 n3 w'4)) ∧ (57 < bAt s n3.toNat → 0 ≤ n3 ∧ n3 < (↑s.size : Int) ∧ (122 < bAt s n3.toNat → (bAt s n3.toNat ≠ 95 ∨ n3 = 0 → R (.returned (.bool false)) w'4) ∧ (bAt s n3.toNat = 95 ∧ n3 ≠ 0 → I1 (IntKind.i64.wrap (n3 + 1)) w'4 ∧ M2 (IntKind.i64.wrap (n3 + 1)) w'4 < M2 n3 w'4)) ∧ (bAt s n3.toNat ≤ 122 → I1 (IntKind.i64.wrap (n3 + 1)) w'4 ∧ M2 (IntKind.i64.wrap (n3 + 1)) w'4 < M2 n3 w'4))) ∧ (bAt s n3.toNat < 48 → 0 ≤ n3 ∧ n3 < (↑s.size : Int) ∧ (122 < bAt s n3.toNat → (bAt s n3.toNat ≠ 95 ∨ n3 = 0 → R (.returned (.bool false)) w'4) ∧ (bAt s n3.toNat = 95 ∧ n3 ≠ 0 → I1 (IntKind.i64.wrap (n3 + 1)) w'4 ∧ M2 (IntKind.i64.wrap (n3 + 1)) w'4 < M2 n3 w'4)) ∧ (bAt s n3.toNat ≤ 122 → I1 (IntKind.i64.wrap (n3 + 1)) w'4 ∧ M2 (IntKind.i64.wrap (n3 + 1)) w'4 < M2 n3 w'4))) ∧ (bAt s n3.toNat < 97 → 0 ≤ n3 ∧ n3 < (↑s.size : Int) ∧ (48 ≤ bAt s n3.toNat → 0 ≤ n3 ∧ n3 < (↑s.size : Int) ∧ (bAt s n3.toNat ≤ 57 → (n3 = 0 → R (.returned (.bool false)) w'4) ∧ (n3 ≠ 0 → I1 (IntKind.i64.wrap (n3 + 1)) w'4 ∧ M2 (IntKind.i64.wrap (n3 + 1)) w'4 < M2 n3 w'4)) ∧ (57 < bAt s n3.toNat → 0 ≤ n3 ∧ n3 < (↑s.size : Int) ∧ (bAt s n3.toNat ≠ 95 ∨ n3 = 0 → R (.returned (.bool false)) w'4) ∧ (bAt s n3.toNat = 95 ∧ n3 ≠ 0 → I1 (IntKind.i64.wrap (n3 + 1)) w'4 ∧ M2 (IntKind.i64.wrap (n3 + 1)) w'4 < M2 n3 w'4))) ∧ (bAt s n3.toNat < 48 → 0 ≤ n3 ∧ n3 < (↑s.size : Int) ∧ (bAt s n3.toNat ≠ 95 ∨ n3 = 0 → R (.returned (.bool false)) w'4) ∧ (bAt s n3.toNat = 95 ∧ n3 ≠ 0 → I1 (IntKind.i64.wrap (n3 + 1)) w'4 ∧ M2 (IntKind.i64.wrap (n3 + 1)) w'4 < M2 n3 w'4)))) ∧ ((↑s.size : Int) ≤ n3 → R (.returned (.bool (decide (1 ≤ (↑s.size : Int)) && decide ((↑s.size : Int) ≤ 24)))) w'4)

set_option maxRecDepth 100000 in
theorem r5isname_eq (s : ByteArray) (w : World) (R : Ending → World → Prop) : r5isname_T s w R = vcFn Tryd.prog [] [] Tryd.f32 [.string s] w R := by kernel_rfl

set_option maxRecDepth 100000 in
theorem r5isname_vc (s : ByteArray) (w : World) (R : Ending → World → Prop) (h : r5isname_T s w R) : Calls Tryd.prog 32 #[.string s] w R :=
  calls_of_vc (args := [.string s]) [] [] Tryd.mixed Tryd.func32 (cast (r5isname_eq _ w R) h)

set_option maxRecDepth 100000 in
def r5find_T (cols_p : Option Addr) (cols_n : Nat) (cols_c : Nat) (name : ByteArray) (w : World) (R : Ending → World → Prop) : Prop :=
  ∃ (I1 : Int → World → Prop), ∃ (M2 : Int → World → Nat), I1 0 w ∧ ∀ (n3 : Int) (w'4 : World), I1 n3 w'4 → (n3 < (↑cols_n : Int) → ∃ b7, ∃ o8, cols_p = some ⟨b7, o8, none⟩ ∧ 0 ≤ n3 ∧ n3 < (↑cols_n : Int) ∧ ∃ s9, w'4.cell? ⟨b7, (o8 + n3.toNat * 3), none⟩ = some (.string s9) ∧ (s9 = name → R (.returned (.int .i64 n3)) w'4) ∧ (s9 ≠ name → I1 (IntKind.i64.wrap (n3 + 1)) w'4 ∧ M2 (IntKind.i64.wrap (n3 + 1)) w'4 < M2 n3 w'4)) ∧ ((↑cols_n : Int) ≤ n3 → R (.returned (.int .i64 (-1))) w'4)

set_option maxRecDepth 100000 in
theorem r5find_eq (cols_p : Option Addr) (cols_n : Nat) (cols_c : Nat) (name : ByteArray) (w : World) (R : Ending → World → Prop) : r5find_T cols_p cols_n cols_c name w R = vcFn Tryd.prog [] [] Tryd.f33 [.slice cols_p cols_n cols_c, .string name] w R := by kernel_rfl

set_option maxRecDepth 100000 in
theorem r5find_vc (cols_p : Option Addr) (cols_n : Nat) (cols_c : Nat) (name : ByteArray) (w : World) (R : Ending → World → Prop) (h : r5find_T cols_p cols_n cols_c name w R) : Calls Tryd.prog 33 #[.slice cols_p cols_n cols_c, .string name] w R :=
  calls_of_vc (args := [.slice cols_p cols_n cols_c, .string name]) [] [] Tryd.mixed Tryd.func33 (cast (r5find_eq _ _ _ _ w R) h)

set_option maxRecDepth 100000 in
def r5right_T (cols_p : Option Addr) (cols_n : Nat) (cols_c : Nat) (w : World) (R : Ending → World → Prop) : Prop :=
  ((↑cols_n : Int) < 1 ∨ 16 < (↑cols_n : Int) → R (.returned (.bool false)) w) ∧ (1 ≤ (↑cols_n : Int) ∧ (↑cols_n : Int) ≤ 16 → ∃ (I3 : Int → World → Prop), ∃ (M4 : Int → World → Nat), I3 0 w ∧ ∀ (n5 : Int) (w'6 : World), I3 n5 w'6 → (n5 < (↑cols_n : Int) → ∃ b9, ∃ o10, cols_p = some ⟨b9, o10, none⟩ ∧ 0 ≤ n5 ∧ n5 < (↑cols_n : Int) ∧ ∃ s11, w'6.cell? ⟨b9, (o10 + n5.toNat * 3), none⟩ = some (.string s11) ∧ Calls Tryd.prog 32 #[.string s11] w'6 fun e12 w13 ↦
 ∃ b14, e12 = .returned (.bool b14) ∧ (b14 = false → R (.returned (.bool false)) w13) ∧ (b14 = true → ∃ b17, ∃ o18, cols_p = some ⟨b17, o18, none⟩ ∧ 0 ≤ n5 ∧ n5 < (↑cols_n : Int) ∧ ∃ s19, w13.cell? ⟨b17, (o18 + n5.toNat * 3), none⟩ = some (.string s19) ∧ Calls Tryd.prog 33 #[.slice cols_p cols_n cols_c, .string s19] w13 fun e20 w21 ↦
 ∃ n22, e20 = .returned (.int .i64 n22) ∧ (n22 ≠ n5 → R (.returned (.bool false)) w21) ∧ (n22 = n5 → ∃ b25, ∃ o26, cols_p = some ⟨b25, o26, none⟩ ∧ 0 ≤ n5 ∧ n5 < (↑cols_n : Int) ∧ ∃ n27, w21.cell? ⟨b25, (o26 + n5.toNat * 3 + 1), none⟩ = some (.int .i64 n27) ∧ (n27 < 1 → R (.returned (.bool false)) w21) ∧ (1 ≤ n27 → ∃ b30, ∃ o31, cols_p = some ⟨b30, o31, none⟩ ∧ 0 ≤ n5 ∧ n5 < (↑cols_n : Int) ∧ ∃ n32, w21.cell? ⟨b30, (o31 + n5.toNat * 3 + 1), none⟩ = some (.int .i64 n32) ∧ (3 < n32 → R (.returned (.bool false)) w21) ∧ (n32 ≤ 3 → I3 (IntKind.i64.wrap (n5 + 1)) w21 ∧ M4 (IntKind.i64.wrap (n5 + 1)) w21 < M4 n5 w'6))))) ∧ ((↑cols_n : Int) ≤ n5 → R (.returned (.bool true)) w'6))

set_option maxRecDepth 100000 in
theorem r5right_eq (cols_p : Option Addr) (cols_n : Nat) (cols_c : Nat) (w : World) (R : Ending → World → Prop) : r5right_T cols_p cols_n cols_c w R = vcFn Tryd.prog [] [] Tryd.f17 [.slice cols_p cols_n cols_c] w R := by kernel_rfl

set_option maxRecDepth 100000 in
theorem r5right_vc (cols_p : Option Addr) (cols_n : Nat) (cols_c : Nat) (w : World) (R : Ending → World → Prop) (h : r5right_T cols_p cols_n cols_c w R) : Calls Tryd.prog 17 #[.slice cols_p cols_n cols_c] w R :=
  calls_of_vc (args := [.slice cols_p cols_n cols_c]) [] [] Tryd.mixed Tryd.func17 (cast (r5right_eq _ _ _ w R) h)

set_option maxRecDepth 100000 in
def r5fits_T (cols_p : Option Addr) (cols_n : Nat) (cols_c : Nat) (row_p : Option Addr) (row_n : Nat) (row_c : Nat) (w : World) (R : Ending → World → Prop) : Prop :=
  Calls Tryd.prog 17 #[.slice cols_p cols_n cols_c] w fun e1 w2 ↦
 ∃ b3, e1 = .returned (.bool b3) ∧ (b3 = false ∨ (↑row_n : Int) ≠ (↑cols_n : Int) → R (.returned (.bool false)) w2) ∧ (b3 = true ∧ (↑row_n : Int) = (↑cols_n : Int) → ∃ (I6 : Int → World → Prop), ∃ (M7 : Int → World → Nat), I6 0 w2 ∧ ∀ (n8 : Int) (w'9 : World), I6 n8 w'9 → (n8 < (↑row_n : Int) → ∃ b12, ∃ o13, row_p = some ⟨b12, o13, none⟩ ∧ 0 ≤ n8 ∧ n8 < (↑row_n : Int) ∧ ∃ n14, w'9.cell? ⟨b12, (o13 + n8.toNat * 3), none⟩ = some (.int .i64 n14) ∧ ∃ n15, w'9.cell? ⟨b12, (o13 + n8.toNat * 3 + 1), none⟩ = some (.int .i64 n15) ∧ ∃ s16, w'9.cell? ⟨b12, (o13 + n8.toNat * 3 + 2), none⟩ = some (.string s16) ∧ Calls Tryd.prog 18 #[.agg #[.int .i64 n14, .int .i64 n15, .string s16]] w'9 fun e17 w18 ↦
 ∃ b19, e17 = .returned (.bool b19) ∧ ∀ w'20, Drew w18 w'20 → (b19 = false → R (.returned (.bool false)) w'20) ∧ (b19 = true → ∃ b24, ∃ o25, row_p = some ⟨b24, o25, none⟩ ∧ 0 ≤ n8 ∧ n8 < (↑row_n : Int) ∧ ∃ n26, w'20.cell? ⟨b24, (o25 + n8.toNat * 3), none⟩ = some (.int .i64 n26) ∧ ∃ b27, ∃ o28, cols_p = some ⟨b27, o28, none⟩ ∧ 0 ≤ n8 ∧ n8 < (↑cols_n : Int) ∧ ∃ n29, w'20.cell? ⟨b27, (o28 + n8.toNat * 3 + 1), none⟩ = some (.int .i64 n29) ∧ (n26 ≠ n29 → ∃ b31, ∃ o32, row_p = some ⟨b31, o32, none⟩ ∧ 0 ≤ n8 ∧ n8 < (↑row_n : Int) ∧ ∃ n33, w'20.cell? ⟨b31, (o32 + n8.toNat * 3), none⟩ = some (.int .i64 n33) ∧ (n33 ≠ 0 → R (.returned (.bool false)) w'20) ∧ (n33 = 0 → ∃ b36, ∃ o37, cols_p = some ⟨b36, o37, none⟩ ∧ 0 ≤ n8 ∧ n8 < (↑cols_n : Int) ∧ ∃ b38, w'20.cell? ⟨b36, (o37 + n8.toNat * 3 + 2), none⟩ = some (.bool b38) ∧ (b38 = false → R (.returned (.bool false)) w'20) ∧ (b38 = true → I6 (IntKind.i64.wrap (n8 + 1)) w'20 ∧ M7 (IntKind.i64.wrap (n8 + 1)) w'20 < M7 n8 w'9))) ∧ (n26 = n29 → I6 (IntKind.i64.wrap (n8 + 1)) w'20 ∧ M7 (IntKind.i64.wrap (n8 + 1)) w'20 < M7 n8 w'9))) ∧ ((↑row_n : Int) ≤ n8 → R (.returned (.bool true)) w'9))

set_option maxRecDepth 100000 in
theorem r5fits_eq (cols_p : Option Addr) (cols_n : Nat) (cols_c : Nat) (row_p : Option Addr) (row_n : Nat) (row_c : Nat) (w : World) (R : Ending → World → Prop) : r5fits_T cols_p cols_n cols_c row_p row_n row_c w R = vcFn Tryd.prog [] [(8, [2, 4, 6, 8, 10, 12, 14, 16, 18, 20, 22, 24, 26, 28, 30, 32, 34, 36, 38, 40, 42, 44, 46, 48, 50, 52, 54, 56, 58, 60, 62, 0])] Tryd.f8 [.slice cols_p cols_n cols_c, .slice row_p row_n row_c] w R := by kernel_rfl

set_option maxRecDepth 100000 in
theorem r5fits_vc (cols_p : Option Addr) (cols_n : Nat) (cols_c : Nat) (row_p : Option Addr) (row_n : Nat) (row_c : Nat) (w : World) (R : Ending → World → Prop) (h : r5fits_T cols_p cols_n cols_c row_p row_n row_c w R) : Calls Tryd.prog 8 #[.slice cols_p cols_n cols_c, .slice row_p row_n row_c] w R :=
  calls_of_vc (args := [.slice cols_p cols_n cols_c, .slice row_p row_n row_c]) [] [(8, [2, 4, 6, 8, 10, 12, 14, 16, 18, 20, 22, 24, 26, 28, 30, 32, 34, 36, 38, 40, 42, 44, 46, 48, 50, 52, 54, 56, 58, 60, 62, 0])] Tryd.mixed Tryd.func8 (cast (r5fits_eq _ _ _ _ _ _ w R) h)


end Go.Proofs.YtpjafkcmbinjiaaDoor

/- Big arrays in memory, told as one. -/
namespace Go.Vc
open Go Go.RowKit

theorem setA_get : ∀ (vs : List Value) (cs : Array Value) (o i : Nat), (setA cs o vs)[i]? = if o ≤ i ∧ i < o + vs.length ∧ i < cs.size then vs[i - o]? else cs[i]?
  | [], cs, o, i => by unfold setA; simp; omega
  | v :: vs, cs, o, i => by
    unfold setA
    rw [setA_get vs, Array.getElem?_setIfInBounds, Array.size_setIfInBounds]
    simp only [List.length_cons]
    by_cases h : o = i
    · subst h
      rw [if_neg (by omega), if_pos rfl]
      split
      · rw [if_pos (by omega)]; simp
      · rw [if_neg (by omega), Array.getElem?_eq_none (by omega)]
    · rw [if_neg h]
      by_cases h2 : o ≤ i ∧ i < o + (vs.length + 1) ∧ i < cs.size
      · rw [if_pos (by omega), if_pos h2, show i - o = (i - (o + 1)) + 1 by omega, List.getElem?_cons_succ]
      · rw [if_neg (by omega), if_neg h2]
theorem setA_size : ∀ (vs : List Value) (cs : Array Value) (o : Nat), (setA cs o vs).size = cs.size
  | [], _, _ => rfl
  | v :: vs, cs, o => by unfold setA; rw [setA_size vs]; simp
/-- All cells are stored anew. -/
theorem setA_all {cs vs : Array Value} (h : vs.size = cs.size) : setA cs 0 vs.toList = vs := by
  apply Array.ext_getElem?
  intro i
  rw [setA_get]
  by_cases hi : i < cs.size
  · rw [if_pos (by simp; omega)]; simp
  · rw [if_neg (by omega), Array.getElem?_eq_none (by omega), Array.getElem?_eq_none (by omega)]
section
variable {w w' w0 W W' : World} {b : Nat} {t : TypeId} {cs vs : Array Value} {fs : List (Nat × Obj)} {ms : List Row}
theorem Blk.cellsAt (h : Blk w b t cs) : CellsAt w b 0 cs := fun k v hk => by rw [Nat.zero_add, h.cell]; exact hk
theorem Blk.canPut (h : Blk w b t cs) (hs : vs.size = cs.size) (h1 : ∀ (k : Nat) v, vs[k]? = some v → v.oneCell' = true) : CanPut w b 0 vs := fun k v hk => by
  have hk' := (Array.getElem?_eq_some_iff.1 hk).1
  exact ⟨h1 k v hk, ⟨cs[k]'(by omega), by rw [Nat.zero_add, h.cell]; exact Array.getElem?_eq_getElem _⟩, h.frozen _⟩
theorem Hold.putAll (h : Hold w0 W fs ms) (i : Nat) (hi : fs[i]? = some (b, .cells cs t (0, 0))) (hs : vs.size = cs.size) (e : Put W b 0 vs.toList W') : Hold w0 W' (fs.set i (b, .cells vs t (0, 0))) ms := by
  have := h.put i hi e
  rwa [setA_all hs] at this
end

theorem anyDrop {α : Type} {f : α → Bool} {l : List α} {k : Nat} {x : α} (h : l[k]? = some x) : (l.drop k).any f = (f x || (l.drop (k + 1)).any f) := by
  obtain ⟨hk, rfl⟩ := List.getElem?_eq_some_iff.1 h
  rw [List.drop_eq_getElem_cons hk]; rfl
theorem allDrop {α : Type} {f : α → Bool} {l : List α} {k : Nat} {x : α} (h : l[k]? = some x) : (l.drop k).all f = (f x && (l.drop (k + 1)).all f) := by
  obtain ⟨hk, rfl⟩ := List.getElem?_eq_some_iff.1 h
  rw [List.drop_eq_getElem_cons hk]; rfl
end Go.Vc

/- The contracts of package schema: names. -/
namespace Go.Proofs.YtpjafkcmbinjiaaDoor
open Go Go.Vc Go.RowKit
set_option maxRecDepth 20000

theorem idxbyte_ok (s : ByteArray) (c : Int) (w : World) : Calls Tryd.prog 78 #[.string s, .int .u8 c] w fun e w' => e = .returned (.int .i64 (Lib.indexByte (tB s) c.toNat.toUInt8)) ∧ w' = w := by
  apply sidxb_vc
  unfold sidxb_T
  apply slidxb_vc
  unfold slidxb_T
  refine ⟨_, _, ?_, _, rfl, rfl, rfl⟩
  rw [run_callFunc_extern Tryd.func104 (by kernel_rfl) (by kernel_rfl) (by kernel_rfl) (e := Extern.BytealgIndexByte.indexByte) (by kernel_rfl), Lib.run_indexByteString]
  rfl

theorem zero_set : zeroA Tryd.prog 133 = Array.replicate 256 (.bool false) := by kernel_rfl
/-- The cells of a set of bytes. -/
def SetC (cs : Array Value) (f : UInt8 → Bool) : Prop := cs.size = 256 ∧ ∀ x : UInt8, cs[x.toNat]? = some (.bool (f x))
theorem SetC.one {cs : Array Value} {f : UInt8 → Bool} (h : SetC cs f) (k : Nat) (v : Value) (hk : cs[k]? = some v) : v.oneCell' = true := by
  have hlt := (Array.getElem?_eq_some_iff.1 hk).1
  have := h.2 (UInt8.ofNat k)
  rw [h.1] at hlt
  rw [UInt8.toNat_ofNat', Nat.mod_eq_of_lt (by omega), hk] at this
  cases this; rfl
theorem bAt_u8 (s : ByteArray) {i : Nat} (h : i < s.size) : ∃ x : UInt8, (tB s)[i]? = some x ∧ bAt s i = (x.toNat : Int) :=
  ⟨(tB s)[i]'(by rw [tB_length]; exact h), List.getElem?_eq_getElem _, bAt_eq s i h⟩

theorem mkascii_ok (s : ByteArray) (w : World) (hs : s.size < 9223372036854775807) (ha : ∀ x ∈ tB s, x.toNat < 128) :
    Calls Tryd.prog 95 #[.string s] w fun e w' => ∃ cs, e = .returned (.tuple #[.agg cs, .bool true]) ∧ SetC cs (fun x => (tB s).contains x) ∧ Ext w w' := by
  apply mkascii_vc
  unfold mkascii_T
  intro b1 w2 h1
  rw [zero_set] at h1
  have H1 := (Hold.start (Ext.rfl (w := w))).new h1
  refine ⟨fun i w' => ∃ (k : Nat) (cs : Array Value), i = (k : Int) ∧ k ≤ s.size ∧ SetC cs (fun x => ((tB s).take k).contains x) ∧ Hold w w' [(b1, .cells cs 133 (0, 0))] [], fun i _ => s.size - i.toNat, ⟨0, _, rfl, Nat.zero_le _, ⟨by simp, fun x => ?_⟩, H1⟩, ?_⟩
  · have := x.toNat_lt
    rw [Array.getElem?_eq_getElem (by simp; omega)]; simp
  rintro i w7 ⟨k, cs, rfl, hk, hc, H⟩
  have B := H.blk 0 rfl
  simp only [Int.toNat_natCast, Nat.zero_add]
  refine ⟨fun hlt => ?_, fun hge => ?_⟩
  · obtain ⟨x, hx, hb⟩ := bAt_u8 s (i := k) (by omega)
    have hx8 := ha x (List.mem_of_getElem? hx)
    rw [hb]
    refine ⟨by omega, by omega, fun h => by omega, fun _ => ⟨by omega, by omega, ⟨_, by rw [Int.toNat_natCast, B.cell]; exact hc.2 x⟩, B.frozen _, fun w17 h17 => ?_⟩⟩
    rw [Int.toNat_natCast] at h17
    have H17 := H.put 0 rfl h17
    rw [i64_next (by omega)]
    refine ⟨⟨k + 1, _, rfl, by omega, ⟨by rw [setA_size]; exact hc.1, fun y => ?_⟩, H17⟩, by simp only [Int.toNat_natCast]; omega⟩
    have htk : (tB s).take (k + 1) = (tB s).take k ++ [x] := by
      rw [List.take_add_one, hx]; rfl
    show _ = some (Value.bool (((tB s).take (k + 1)).contains y))
    rw [setA_get, hc.1, htk]
    have hy := y.toNat_lt
    by_cases hxy : x = y
    · subst hxy
      rw [if_pos (by simp; omega)]
      simp
    · have hn : x.toNat ≠ y.toNat := fun e => hxy (UInt8.toNat_inj.1 e)
      rw [if_neg (by simp; omega), hc.2 y]
      simp [Ne.symm hxy]
  · refine ⟨cs, hc.1, B.cellsAt, hc.1, B.canPut rfl hc.one, fun w21 h21 => ?_⟩
    have H21 := H.putAll 0 rfl rfl h21
    have B21 : Blk w21 b1 133 cs := H21.blk 0 rfl
    refine ⟨cs, hc.1, B21.cellsAt, cs, rfl, ?_, H21.ext⟩
    have : (tB s).take k = tB s := List.take_of_length_le (by rw [tB_length]; omega)
    rw [this] at hc
    exact hc

section
variable {w : World} {b : Nat} {cs : Array Value} {f : UInt8 → Bool}
theorem ascont_ok (h : Blk w b 133 cs) (hc : SetC cs f) (x : UInt8) : Calls Tryd.prog 105 #[.pointer (some ⟨b, 0, none⟩), .int .u8 (x.toNat : Int)] w fun e w' => e = .returned (.bool (f x)) ∧ Ext w w' := by
  apply ascont_vc
  unfold ascont_T
  have hx := x.toNat_lt
  exact ⟨b, 0, rfl, by omega, by omega, _, by rw [Int.toNat_natCast, Nat.zero_add, h.cell]; exact hc.2 x, rfl, .rfl⟩
theorem trimra_ok (s : ByteArray) (hs : s.size ≤ 9223372036854775807) (h : Blk w b 133 cs) (hc : SetC cs f) :
    Calls Tryd.prog 97 #[.string s, .pointer (some ⟨b, 0, none⟩)] w fun e w' => ∃ r, e = .returned (.string r) ∧ r.size ≤ s.size ∧ (tB r).all f = (tB s).all f ∧ Ext w w' := by
  apply trimra_vc
  unfold trimra_T
  refine ⟨fun r w' => r.size ≤ s.size ∧ (tB r).all f = (tB s).all f ∧ Ext w w', fun r _ => r.size, ⟨Nat.le_refl _, rfl, .rfl⟩, ?_⟩
  rintro r w4 ⟨hr, ha, hx⟩
  refine ⟨fun h0 => ?_, fun _ => ⟨r, rfl, hr, ha, hx⟩⟩
  rw [i64_fit (by omega) (by omega)]
  have e1 : ((r.size : Int) - 1) = ((r.size - 1 : Nat) : Int) := by omega
  rw [e1]
  simp only [Int.toNat_natCast]
  obtain ⟨x, hx', hb⟩ := bAt_u8 r (i := r.size - 1) (by omega)
  rw [hb]
  refine ⟨by omega, by omega, (ascont_ok (h.ext hx) hc x).mono ?_⟩
  rintro e w8 ⟨rfl, e8⟩
  have hx8 := hx.trans e8
  refine ⟨_, rfl, fun _ => ⟨r, rfl, hr, ha, hx8⟩, fun hf => ⟨by omega, by omega, ⟨?_, ?_, hx8⟩, ?_⟩⟩
  · rw [← tB_length, tB_extract]; simp; omega
  · rw [tB_extract, List.drop_zero, ← ha]
    have : tB r = (tB r).take (r.size - 1) ++ [x] := by
      have := List.take_add_one (l := tB r) (i := r.size - 1)
      rw [hx', List.take_of_length_le (by rw [tB_length]; omega)] at this
      exact this
    conv => rhs; rw [this, List.all_append]
    simp [hf]
  · rw [← tB_length, tB_extract]; simp [tB_length]; omega
theorem trimla_ok (s : ByteArray) (hs : s.size ≤ 9223372036854775807) (h : Blk w b 133 cs) (hc : SetC cs f) :
    Calls Tryd.prog 96 #[.string s, .pointer (some ⟨b, 0, none⟩)] w fun e w' => ∃ r, e = .returned (.string r) ∧ (tB r = [] ↔ (tB s).all f = true) ∧ Ext w w' := by
  apply trimla_vc
  unfold trimla_T
  refine ⟨fun r w' => (tB r).all f = (tB s).all f ∧ Ext w w', fun r _ => r.size, ⟨rfl, .rfl⟩, ?_⟩
  rintro r w4 ⟨ha, hx⟩
  refine ⟨fun h0 => ?_, fun h0 => ⟨r, rfl, ?_, hx⟩⟩
  · obtain ⟨x, hx', hb⟩ := bAt_u8 r (i := 0) (by omega)
    rw [hb]
    refine ⟨by omega, by omega, (ascont_ok (h.ext hx) hc x).mono ?_⟩
    rintro e w8 ⟨rfl, e8⟩
    have hx8 := hx.trans e8
    cases hr : tB r with
    | nil => rw [hr] at hx'; simp at hx'
    | cons y l =>
      rw [hr] at hx'
      cases hx'
      refine ⟨_, rfl, fun hf => ⟨r, rfl, ?_, hx8⟩, fun hf => ⟨by omega, by omega, ⟨?_, hx8⟩, ?_⟩⟩
      · rw [hr, ← ha, hr]; simp [hf]
      · rw [tB_extract, List.take_of_length_le (by rw [tB_length]; omega), ← ha, hr]; simp [hf]
      · show (r.extract 1 r.size).size < r.size
        rw [← tB_length, tB_extract]; simp [tB_length]; omega
  · have : tB r = [] := List.length_eq_zero_iff.1 (by rw [tB_length]; omega)
    rw [← ha, this]; simp
end

theorem ba_nil {s : ByteArray} : s = ⟨#[]⟩ ↔ tB s = [] := by rw [← tB_inj]; rfl
theorem trim_ok (s : ByteArray) (hs : s.size ≤ 9223372036854775807) {c : ByteArray} (hc : 2 ≤ c.size) (hc' : c.size < 9223372036854775807) (ha : ∀ x ∈ tB c, x.toNat < 128) (w : World) :
    Calls Tryd.prog 79 #[.string s, .string c] w fun e w' => ∃ r, e = .returned (.string r) ∧ (r = ⟨#[]⟩ ↔ (tB s).all (fun x => (tB c).contains x) = true) ∧ Ext w w' := by
  apply strim_vc
  unfold strim_T
  refine ⟨fun h => ?_, fun _ => ⟨fun h => by omega, fun _ => (mkascii_ok c w hc' ha).mono ?_⟩⟩
  · rcases h with h | h
    · exact ⟨s, rfl, by rw [h]; simp [tB], .rfl⟩
    · rw [h] at hc; cases hc
  · rintro e w39 ⟨cs, rfl, hs', e39⟩
    refine ⟨cs, hs'.1, true, rfl, fun b42 w43 h43 => ?_⟩
    rw [zero_set] at h43
    have H43 := (Hold.start e39).new h43
    have B43 := H43.blk 0 rfl
    refine ⟨hs'.1, B43.canPut (by rw [hs'.1]; simp) hs'.one, fun w45 h45 => ⟨fun _ => ?_, fun h => by cases h⟩⟩
    have H45 := H43.putAll 0 rfl (by rw [hs'.1]; simp) h45
    have B45 : Blk w45 b42 133 cs := H45.blk 0 rfl
    refine (trimra_ok s hs B45 hs').mono ?_
    rintro e w49 ⟨r, rfl, hrs, hr, e49⟩
    refine ⟨r, rfl, (trimla_ok r (by omega) (B45.ext e49) hs').mono ?_⟩
    rintro e w52 ⟨q, rfl, hq, e52⟩
    exact ⟨q, rfl, q, rfl, by rw [ba_nil, hq, hr], (H45.step (e49.trans e52)).ext⟩

def letC : ByteArray := ⟨#[97, 98, 99, 100, 101, 102, 103, 104, 105, 106, 107, 108, 109, 110, 111, 112, 113, 114, 115, 116, 117, 118, 119, 120, 121, 122]⟩
def othC : ByteArray := ⟨#[97, 98, 99, 100, 101, 102, 103, 104, 105, 106, 107, 108, 109, 110, 111, 112, 113, 114, 115, 116, 117, 118, 119, 120, 121, 122, 48, 49, 50, 51, 52, 53, 54, 55, 56, 57, 95]⟩
theorem let_all : ∀ i : Fin 256, decide (0 ≤ Lib.indexByte (tB letC) (UInt8.ofNat i.1)) = letterB (UInt8.ofNat i.1) := by decide +kernel
theorem oth_all : ∀ i : Fin 256, (tB othC).contains (UInt8.ofNat i.1) = otherB (UInt8.ofNat i.1) := by decide +kernel
theorem let_eq (x : UInt8) : 0 ≤ Lib.indexByte (tB letC) x ↔ letterB x = true := by
  have := let_all ⟨x.toNat, x.toNat_lt⟩
  rw [UInt8.ofNat_toNat] at this
  rw [← this, decide_eq_true_eq]
theorem oth_eq (x : UInt8) : (tB othC).contains x = otherB x := by
  have := oth_all ⟨x.toNat, x.toNat_lt⟩
  rwa [UInt8.ofNat_toNat] at this
theorem oth_ascii : ∀ x ∈ tB othC, x.toNat < 128 := by decide +kernel

theorem sisname_ok (s : ByteArray) (w : World) : Calls Tryd.prog 58 #[.string s] w fun e w' => e = .returned (.bool (isName s)) ∧ Ext w w' := by
  apply sisname_vc
  unfold sisname_T
  refine ⟨fun ⟨hne, hle⟩ => ?_, fun h => ⟨?_, .rfl⟩⟩
  · have h0 : 0 < s.size := by
      rcases Nat.eq_zero_or_pos s.size with h | h
      · exact absurd (ba_nil.2 (List.length_eq_zero_iff.1 (by rw [tB_length]; exact h))) hne
      · exact h
    obtain ⟨x, hx, hb⟩ := bAt_u8 s h0
    refine ⟨by omega, by omega, ?_⟩
    rw [hb]
    refine (idxbyte_ok letC (x.toNat : Int) w).mono ?_
    rintro e w3 ⟨rfl, rfl⟩
    have hxx : ((x.toNat : Int)).toNat.toUInt8 = x := by simp
    rw [hxx]
    cases hl : tB s with
    | nil => rw [hl] at hx; simp at hx
    | cons y l =>
      rw [hl] at hx
      cases hx
      have hlen : l.length + 1 ≤ 24 := by have := tB_length s; rw [hl] at this; simp at this; omega
      refine ⟨_, rfl, fun hge => ?_, fun hlt => ⟨?_, .rfl⟩⟩
      · refine (trim_ok s (by omega) (c := othC) (by decide) (by decide) oth_ascii _).mono ?_
        rintro e w7 ⟨r, rfl, hr, e7⟩
        refine ⟨r, rfl, ?_, e7⟩
        have : sEq r ⟨#[]⟩ = isName s := by
          rw [Bool.eq_iff_iff, sEq_iff, hr, hl]
          unfold isName isNameL
          rw [hl]
          have hx1 := (let_eq x).1 hge
          have hx2 : otherB x = true := by unfold otherB; rw [hx1]; rfl
          simp only [List.all_cons, oth_eq, hx1, hx2, Bool.true_and, List.length_cons, Bool.and_eq_true, decide_eq_true_eq]
          exact ⟨fun h => ⟨h, hlen⟩, fun h => h.1⟩
        rw [this]
      · have : isName s = false := by
          unfold isName isNameL
          rw [hl]
          have : letterB x = false := by
            rw [← Bool.not_eq_true, ← let_eq]; omega
          simp [this]
        rw [this]
  · have : isName s = false := by
      unfold isName isNameL
      rcases h with h | h
      · rw [h]; rfl
      · cases hl : tB s with
        | nil => rfl
        | cons y l =>
          have := tB_length s
          rw [hl] at this
          have hb : ¬ ((y :: l).length ≤ 24) := by omega
          simp only [hb, decide_false, Bool.and_false]
    rw [this]
end Go.Proofs.YtpjafkcmbinjiaaDoor

/- The contracts of package schema: schemas, and columns by name; the document's answer for them. -/
namespace Go.Proofs.YtpjafkcmbinjiaaDoor
open Go Go.Vc Go.RowKit
set_option maxRecDepth 20000

/-- What is asked of byte k of a name. -/
def nameB (k : Nat) (x : UInt8) : Bool := if k = 0 then letterB x else otherB x
theorem nameB_iff {k : Nat} {x : UInt8} : nameB k x = true ↔ (97 ≤ x.toNat ∧ x.toNat ≤ 122) ∨ (k ≠ 0 ∧ ((48 ≤ x.toNat ∧ x.toNat ≤ 57) ∨ x.toNat = 95)) := by
  unfold nameB otherB letterB
  split
  · simp only [decide_eq_true_eq]; omega
  · simp only [Bool.or_eq_true, decide_eq_true_eq]; omega
theorem isName_iff (s : ByteArray) : isName s = true ↔ 1 ≤ s.size ∧ s.size ≤ 24 ∧ ∀ (j : Nat) x, (tB s)[j]? = some x → nameB j x = true := by
  have hlen := tB_length s
  unfold isName
  cases hl : tB s with
  | nil => rw [hl] at hlen; simp at hlen; simp [isNameL]; omega
  | cons y l =>
    rw [hl] at hlen
    simp only [List.length_cons] at hlen
    unfold isNameL
    simp only [List.length_cons, Bool.and_eq_true, decide_eq_true_eq, List.all_eq_true]
    constructor
    · rintro ⟨⟨h1, h2⟩, h3⟩
      refine ⟨by omega, by omega, fun j x hj => ?_⟩
      cases j with
      | zero => cases hj; simpa [nameB] using h1
      | succ j => have := h2 x (List.mem_of_getElem? (show l[j]? = some x by simpa using hj)); simpa [nameB] using this
    · rintro ⟨h1, h2, h3⟩
      refine ⟨⟨by simpa [nameB] using h3 0 y rfl, fun z hz => ?_⟩, by omega⟩
      obtain ⟨j, hj⟩ := List.mem_iff_getElem?.1 hz
      simpa [nameB] using h3 (j + 1) z (by simpa using hj)

section
variable {w : World} {p rp : Option Addr} {n c rn rc : Nat} {cols : List Col} {row : List Val}

theorem r5isname_ok (s : ByteArray) (hs : s.size ≤ 9223372036854775807) (w : World) : Calls Tryd.prog 32 #[.string s] w fun e w' => e = .returned (.bool (isName s)) ∧ Ext w w' := by
  apply r5isname_vc
  unfold r5isname_T
  refine ⟨fun i w' => ∃ k : Nat, i = (k : Int) ∧ k ≤ s.size ∧ (∀ (j : Nat) x, j < k → (tB s)[j]? = some x → nameB j x = true) ∧ Ext w w', fun i _ => s.size - i.toNat, ⟨0, rfl, Nat.zero_le _, fun j x h => by omega, .rfl⟩, ?_⟩
  rintro i w4 ⟨k, rfl, hk, hg, hx⟩
  refine ⟨fun hlt => ?_, fun hge => ⟨?_, hx⟩⟩
  · obtain ⟨x, hx', hb⟩ := bAt_u8 s (i := k) (by omega)
    simp only [Int.toNat_natCast]
    rw [hb]
    have bad : ¬ ((97 ≤ x.toNat ∧ x.toNat ≤ 122) ∨ (k ≠ 0 ∧ ((48 ≤ x.toNat ∧ x.toNat ≤ 57) ∨ x.toNat = 95))) → Ending.returned (Value.bool false) = Ending.returned (Value.bool (isName s)) ∧ Ext w w4 := by
      intro h
      refine ⟨?_, hx⟩
      have : isName s = false := by
        rw [← Bool.not_eq_true, isName_iff]
        rintro ⟨_, _, h3⟩
        exact h (nameB_iff.1 (h3 k x hx'))
      rw [this]
    have good : ((97 ≤ x.toNat ∧ x.toNat ≤ 122) ∨ (k ≠ 0 ∧ ((48 ≤ x.toNat ∧ x.toNat ≤ 57) ∨ x.toNat = 95))) → (∃ k' : Nat, IntKind.i64.wrap ((k : Int) + 1) = (k' : Int) ∧ k' ≤ s.size ∧ (∀ (j : Nat) x, j < k' → (tB s)[j]? = some x → nameB j x = true) ∧ Ext w w4) ∧
        s.size - (IntKind.i64.wrap ((k : Int) + 1)).toNat < s.size - k := by
      intro h
      rw [i64_next (by omega)]
      refine ⟨⟨k + 1, rfl, by omega, fun j y hj hy => ?_, hx⟩, by simp only [Int.toNat_natCast]; omega⟩
      by_cases hjk : j = k
      · subst hjk
        rw [hx'] at hy
        cases hy
        exact nameB_iff.2 h
      · exact hg j y (by omega) hy
    clear hg
    repeat' first
      | exact good (by omega)
      | exact bad (by omega)
      | omega
      | intro _
      | refine And.intro ?_ ?_
  · have hk' : k = s.size := by omega
    have : (decide ((1 : Int) ≤ (s.size : Int)) && decide ((s.size : Int) ≤ 24)) = isName s := by
      rw [Bool.eq_iff_iff, isName_iff, Bool.and_eq_true, decide_eq_true_eq, decide_eq_true_eq]
      refine ⟨fun h => ⟨by omega, by omega, fun j x hj => hg j x ?_ hj⟩, fun h => by omega⟩
      have := (List.getElem?_eq_some_iff.1 hj).1
      rw [tB_length] at this
      omega
    rw [this]

/-! ### Find -/
theorem sfind1_ok (x : Col) {fv : Nat} {name : ByteArray} (h : w.cell? ⟨fv, 0, none⟩ = some (.string name)) :
    Calls Tryd.prog 73 #[.agg #[.string x.name, .int .i64 x.kind, .bool x.null], .pointer (some ⟨fv, 0, none⟩)] w fun e w' => e = .returned (.bool (decide (x.name = name))) ∧ Ext w w' := by
  apply sfind1_vc
  unfold sfind1_T
  intro b1 w2 h1
  refine ⟨_, by rw [(Blk.new h1).cell]; rfl, _, cell_ext h h1.ext, ?_, h1.ext⟩
  have : sEq x.name name = decide (x.name = name) := by rw [Bool.eq_iff_iff, sEq_iff, decide_eq_true_eq]
  rw [this]
theorem findC_drop {l : List Col} {s : ByteArray} {k : Nat} {x : Col} (hx : l[k]? = some x) (hn : x.name = s) (hb : ∀ (j : Nat) y, j < k → l[j]? = some y → y.name ≠ s) : findC l s = (k : Int) := findC_at hx hn hb
theorem ifcol_ok (h : Cols w p n c cols) {fv : Nat} {name : ByteArray} (hf : w.cell? ⟨fv, 0, none⟩ = some (.string name)) :
    Calls Tryd.prog 72 #[.slice p n c, .func (.func 73) #[] #[.pointer (some ⟨fv, 0, none⟩)]] w fun e w' => e = .returned (.int .i64 (findC cols name)) ∧ Ext w w' := by
  apply ifcol_vc
  unfold ifcol_T
  have hl := h.len
  have hm : n ≤ 9223372036854775807 := h.le
  refine ⟨fun i w' => ∃ k : Nat, i = (k : Int) ∧ k ≤ n ∧ (∀ (j : Nat) y, j < k → cols[j]? = some y → y.name ≠ name) ∧ Ext w w', fun i _ => n - i.toNat, ⟨0, rfl, Nat.zero_le _, fun j y hj => by omega, .rfl⟩, ?_⟩
  rintro i w4 ⟨k, rfl, hk, hb, hx⟩
  refine ⟨fun hlt => ?_, fun hge => ⟨?_, hx⟩⟩
  · have g : cols[k]? = some (cols[k]'(by omega)) := List.getElem?_eq_getElem _
    generalize cols[k]'(by omega) = x at g
    obtain ⟨b, o, hp, c0, c1, c2⟩ := (h.ext hx).col g
    simp only [Int.toNat_natCast]
    refine ⟨b, o, hp, by omega, by omega, _, c0, _, c1, _, c2, (sfind1_ok x (cell_ext hf hx)).mono ?_⟩
    rintro e w13 ⟨rfl, e13⟩
    refine ⟨_, rfl, fun hd => ⟨?_, hx.trans e13⟩, fun hd => ?_⟩
    · rw [findC_at g (of_decide_eq_true hd) hb]
    · rw [i64_next (by omega)]
      refine ⟨⟨k + 1, rfl, by omega, fun j y hj hy => ?_, hx.trans e13⟩, by simp only [Int.toNat_natCast]; omega⟩
      by_cases hjk : j = k
      · subst hjk; rw [g] at hy; cases hy; exact of_decide_eq_false hd
      · exact hb j y (by omega) hy
  · rw [findC_none fun x hx => ?_]
    obtain ⟨j, hj⟩ := List.mem_iff_getElem?.1 hx
    exact hb j x (by have := (List.getElem?_eq_some_iff.1 hj).1; omega) hj
theorem sfind_ok (h : Cols w p n c cols) (name : ByteArray) : Calls Tryd.prog 54 #[.slice p n c, .string name] w fun e w' => e = .returned (.int .i64 (findC cols name)) ∧ Ext w w' := by
  apply sfind_vc
  unfold sfind_T
  intro b1 w2 h1
  refine (ifcol_ok (h.ext h1.ext) (Blk.new h1).one).mono ?_
  rintro e w5 ⟨rfl, e5⟩
  exact ⟨_, rfl, rfl, h1.ext.trans e5⟩
theorem r5find_ok (h : Cols w p n c cols) (name : ByteArray) : Calls Tryd.prog 33 #[.slice p n c, .string name] w fun e w' => e = .returned (.int .i64 (findC cols name)) ∧ Ext w w' := by
  apply r5find_vc
  unfold r5find_T
  have hl := h.len
  have hm : n ≤ 9223372036854775807 := h.le
  refine ⟨fun i w' => ∃ k : Nat, i = (k : Int) ∧ k ≤ n ∧ (∀ (j : Nat) y, j < k → cols[j]? = some y → y.name ≠ name) ∧ Ext w w', fun i _ => n - i.toNat, ⟨0, rfl, Nat.zero_le _, fun j y hj => by omega, .rfl⟩, ?_⟩
  rintro i w4 ⟨k, rfl, hk, hb, hx⟩
  refine ⟨fun hlt => ?_, fun hge => ⟨?_, hx⟩⟩
  · have g : cols[k]? = some (cols[k]'(by omega)) := List.getElem?_eq_getElem _
    generalize cols[k]'(by omega) = x at g
    obtain ⟨b, o, hp, c0, c1, c2⟩ := (h.ext hx).col g
    simp only [Int.toNat_natCast]
    refine ⟨b, o, hp, by omega, by omega, _, c0, fun hd => ⟨?_, hx⟩, fun hd => ?_⟩
    · rw [findC_at g hd hb]
    · rw [i64_next (by omega)]
      refine ⟨⟨k + 1, rfl, by omega, fun j y hj hy => ?_, hx⟩, by simp only [Int.toNat_natCast]; omega⟩
      by_cases hjk : j = k
      · subst hjk; rw [g] at hy; cases hy; exact hd
      · exact hb j y (by omega) hy
  · rw [findC_none fun x hx => ?_]
    obtain ⟨j, hj⟩ := List.mem_iff_getElem?.1 hx
    exact hb j x (by have := (List.getElem?_eq_some_iff.1 hj).1; omega) hj

/-! ### Right -/
/-- The map of names that were met. -/
def metL (l : List Col) : List (ByteArray × Value) := l.foldl (fun m x => setS m x.name (.bool true)) []
theorem metL_snoc (l : List Col) (x : Col) : metL (l ++ [x]) = setS (metL l) x.name (.bool true) := by simp [metL]
theorem metL_look (l : List Col) (s : ByteArray) : (lookS (metL l) s).getD (.bool false) = .bool ((l.map Col.name).contains s) := by
  have key : ∀ (l : List Col) (m : List (ByteArray × Value)), lookS (l.foldl (fun m x => setS m x.name (.bool true)) m) s = if (l.map Col.name).contains s then some (.bool true) else lookS m s := by
    intro l
    induction l with
    | nil => intro m; simp
    | cons x l ih =>
      intro m
      rw [List.foldl_cons, ih, lookS_setS, List.map_cons]
      by_cases hx : x.name = s
      · subst hx; simp
      · simp [hx, Ne.symm hx]
  unfold metL
  rw [key]
  cases (l.map Col.name).contains s <;> rfl
theorem sright_ok (h : Cols w p n c cols) : Calls Tryd.prog 35 #[.slice p n c] w fun e w' => e = .returned (.bool (rightC cols)) ∧ Ext w w' := by
  apply sright_vc
  unfold sright_T
  intro b1 w2 h1
  have hl := h.len
  have hm : n ≤ 9223372036854775807 := h.le
  have H1 := (Hold.start (Ext.rfl (w := w))).new h1
  refine ⟨fun i w' => ∃ (k : Nat) (es : Array MapEntry) (clock : Nat), i = (k : Int) ∧ k ≤ n ∧ colsOk [] (cols.take k) = true ∧ MapL es (metL (cols.take k)) ∧ Hold w w' [(b1, .map es clock)] [], fun i _ => n - i.toNat, ⟨0, _, _, rfl, Nat.zero_le _, by simp [colsOk], by simp [metL, MapL], H1⟩, ?_⟩
  rintro i w7 ⟨k, es, clock, rfl, hk, hok, hmap, H⟩
  refine ⟨fun hlt => ?_, fun hge => ⟨?_, H.ext⟩⟩
  · have g : cols[k]? = some (cols[k]'(by omega)) := List.getElem?_eq_getElem _
    generalize cols[k]'(by omega) = x at g
    obtain ⟨b, o, hp, c0, c1, c2⟩ := (h.ext H.ext).col g
    have hdec : colOk ((cols.take k).map Col.name) x = false → rightC cols = false := by
      intro hv
      unfold rightC
      have hc : cols = cols.take k ++ x :: cols.drop (k + 1) := by
        obtain ⟨hk', rfl⟩ := List.getElem?_eq_some_iff.1 g
        rw [← List.drop_eq_getElem_cons hk', List.take_append_drop]
      have : colsOk [] cols = false := by
        conv => lhs; rw [hc, colsOk_append]
        rw [hok, List.nil_append]
        unfold colsOk
        rw [hv]; rfl
      rw [this, Bool.and_false]
    simp only [Int.toNat_natCast]
    refine ⟨b, o, hp, by omega, by omega, _, c0, _, c1, _, c2, fun b15 w16 h16 => ?_⟩
    have H16 := H.new h16
    obtain ⟨q0, q1, q2⟩ := (H16.blk 0 rfl).c3
    refine ⟨⟨_, q0⟩, (H16.blk 0 rfl).frozen _, ⟨_, q1⟩, (H16.blk 0 rfl).frozen _, ⟨_, q2⟩, (H16.blk 0 rfl).frozen _, fun w21 h21 => ?_⟩
    have H21 := H16.put 0 rfl h21
    have B : Blk w21 b15 48 #[.string x.name, .int .i64 x.kind, .bool x.null] := H21.blk 0 rfl
    obtain ⟨q0, q1, q2⟩ := B.c3
    refine ⟨_, q0, (sisname_ok x.name w21).mono ?_⟩
    rintro e w25 ⟨rfl, e25⟩
    have H25 := H21.step e25
    have B25 := B.ext e25
    obtain ⟨q0, q1, q2⟩ := B25.c3
    have hM : w25.heap[b1]? = some (.map es clock) := H25.holds 1 _ rfl
    refine ⟨_, rfl, fun hn => ⟨?_, H25.ext⟩, fun hn => ⟨_, q0, ((cols.take k).map Col.name).contains x.name, fun w1 hs => ?_, fun hin => ⟨?_, H25.ext⟩, fun hin => ⟨_, q1, fun hlow => ⟨?_, H25.ext⟩, fun hge => ⟨_, q1, fun hhi => ⟨?_, H25.ext⟩, fun hle => ⟨_, q0, ?_⟩⟩⟩⟩⟩
    · rw [hdec (by unfold colOk; rw [hn]; rfl)]
    · rw [← metL_look]
      exact map_look (kt := 9) (e := 4) (by kernel_rfl) (by kernel_rfl) (run_zeroOf (by kernel_rfl) w1) ((hs b1 (H25.lt 1 rfl)).trans hM) hmap
    · rw [hdec (by unfold colOk; rw [hn, hin]; rfl)]
    · rw [hdec (by unfold colOk; rw [hn, hin, decide_eq_false (by omega)]; rfl)]
    · rw [hdec (by unfold colOk; rw [hn, hin, decide_eq_false (by omega)]; rfl)]
    · obtain ⟨w42, es', clock', hrun, hobj, hmap', hbut, hsz⟩ := map_set (P := Tryd.prog) (t := 91) (kt := 9) (e := 4) (s := x.name) (by kernel_rfl) (by kernel_rfl) hM hmap (.bool true)
      refine ⟨w42, hrun, ?_⟩
      rw [i64_next (by omega)]
      have htk : cols.take (k + 1) = cols.take k ++ [x] := by rw [List.take_add_one, g]; rfl
      refine ⟨⟨k + 1, es', clock', rfl, by omega, ?_, ?_, (H25.upd 1 rfl hbut hobj).tail⟩, by simp only [Int.toNat_natCast]; omega⟩
      · rw [htk, colsOk_append, hok, List.nil_append]
        unfold colsOk colOk
        rw [hn, hin, decide_eq_true (by omega)]; rfl
      · rw [htk, metL_snoc]; exact hmap'
  · have hk' : k = n := by omega
    subst hk'
    rw [List.take_of_length_le (by omega)] at hok
    have : (decide ((0 : Int) < (k : Int)) && decide ((k : Int) ≤ 16)) = rightC cols := by
      unfold rightC
      rw [hok, Bool.and_true, Bool.eq_iff_iff, Bool.and_eq_true, decide_eq_true_eq, decide_eq_true_eq, decide_eq_true_eq]
      omega
    rw [this]
end
end Go.Proofs.YtpjafkcmbinjiaaDoor

/- A kid's cells, where they lie. -/
namespace Go.Vc
open Go Go.RowKit
theorem ExAt.kid {w : World} {x : Ex} {o a b c d : Value} {p : Option Addr} {n m : Nat} (h : ExAt w x [o, a, b, c, d, .slice p n m]) {i : Nat} {k : Ex} (hk : x.kids[i]? = some k) :
    ∃ (q r : Nat) (kp : Option Addr) (kn kc : Nat), p = some ⟨q, r, none⟩ ∧ i < n ∧ ExAt w k [.int .i64 k.op, .string k.name, .int .i64 k.v.k, .int .i64 k.v.n, .string k.v.s, .slice kp kn kc] ∧ ∀ {w' : World}, Ext w w' →
      w'.cell? ⟨q, r + i * 6, none⟩ = some (.int .i64 k.op) ∧ w'.cell? ⟨q, r + i * 6 + 1, none⟩ = some (.string k.name) ∧ w'.cell? ⟨q, r + i * 6 + 2, none⟩ = some (.int .i64 k.v.k) ∧ w'.cell? ⟨q, r + i * 6 + 3, none⟩ = some (.int .i64 k.v.n) ∧
      w'.cell? ⟨q, r + i * 6 + 4, none⟩ = some (.string k.v.s) ∧ w'.cell? ⟨q, r + i * 6 + 5, none⟩ = some (.slice kp kn kc) := by
  obtain ⟨op, name, v, kids⟩ := x
  unfold ExAt at h
  obtain ⟨p', n', c', css, h1, h2, h3, h4, h5, h6, h7⟩ := h
  simp only [List.cons.injEq, Value.slice.injEq, and_true] at h1
  obtain ⟨_, _, _, _, _, rfl, rfl, rfl⟩ := h1
  obtain ⟨kc, hkc, hx⟩ := h7.get hk
  have hi : i < css.length := (List.getElem?_eq_some_iff.1 hkc).1
  have hg : ∀ j, j < 6 → css.flatten[i * 6 + j]? = kc[j]? := fun j hj => by rw [flatten_get h5 hj, hkc]; rfl
  obtain ⟨kp, kn, kcap, rfl, _⟩ := hx.six
  rcases h6 with h6 | ⟨q, r, hp, hc⟩
  · exfalso
    have := hg 0 (by decide)
    rw [h6] at this
    simp at this
  · have hcell : ∀ {w' : World}, Ext w w' → ∀ j v, j < 6 → ([Value.int .i64 k.op, .string k.name, .int .i64 k.v.k, .int .i64 k.v.n, .string k.v.s, .slice kp kn kcap])[j]? = some v → w'.cell? ⟨q, r + i * 6 + j, none⟩ = some v := fun {w'} e j v hj hv => by
      rw [Nat.add_assoc]
      exact cell_ext (hc _ _ ((hg j hj).trans hv)) e
    exact ⟨q, r, kp, kn, kcap, hp, by omega, hx, fun {w'} e => ⟨hcell e 0 _ (by decide) rfl, hcell e 1 _ (by decide) rfl, hcell e 2 _ (by decide) rfl, hcell e 3 _ (by decide) rfl, hcell e 4 _ (by decide) rfl, hcell e 5 _ (by decide) rfl⟩⟩
end Go.Vc

/- The contracts of package prune: sides, comparisons, bare. -/
namespace Go.Proofs.YtpjafkcmbinjiaaDoor
open Go Go.Vc Go.RowKit
set_option maxRecDepth 20000
attribute [local irreducible] Calls Put Drew New

abbrev Zns := Ls Zn.cs
theorem _root_.Go.Vc.Ls.zone {w : World} {p : Option Addr} {n c : Nat} {l : List Zn} (h : Zns w p n c l) {i : Nat} {z : Zn} (hi : l[i]? = some z) :
    ∃ b o, p = some ⟨b, o, none⟩ ∧ w.cell? ⟨b, o + i * 7, none⟩ = some (.int .i64 z.nulls) ∧ w.cell? ⟨b, o + i * 7 + 1, none⟩ = some (.int .i64 z.lo.k) ∧ w.cell? ⟨b, o + i * 7 + 2, none⟩ = some (.int .i64 z.lo.n) ∧ w.cell? ⟨b, o + i * 7 + 3, none⟩ = some (.string z.lo.s) ∧
      w.cell? ⟨b, o + i * 7 + 4, none⟩ = some (.int .i64 z.hi.k) ∧ w.cell? ⟨b, o + i * 7 + 5, none⟩ = some (.int .i64 z.hi.n) ∧ w.cell? ⟨b, o + i * 7 + 6, none⟩ = some (.string z.hi.s) := by
  obtain ⟨b, o, hp, hc⟩ := h.lies.things Zn.cs_length (by decide) hi
  refine ⟨b, o, hp, by have := hc 0 _ rfl; simpa [Nat.add_assoc] using this, ?_, ?_, ?_, ?_, ?_, ?_⟩
  · have := hc 1 _ rfl; rwa [← Nat.add_assoc] at this
  · have := hc 2 _ rfl; rwa [← Nat.add_assoc] at this
  · have := hc 3 _ rfl; rwa [← Nat.add_assoc] at this
  · have := hc 4 _ rfl; rwa [← Nat.add_assoc] at this
  · have := hc 5 _ rfl; rwa [← Nat.add_assoc] at this
  · have := hc 6 _ rfl; rwa [← Nat.add_assoc] at this

theorem pbare_ok : ∀ (N : Nat) (x : Ex) {w : World} {cs : List Value}, depthT x ≤ N → ExAt w x cs →
    Calls Tryd.prog 27 #[.agg cs.toArray] w fun e w' => e = .returned (.bool (bareF x)) ∧ Ext w w' := by
  intro N
  induction N with
  | zero => intro x w cs hd; cases x; unfold depthT at hd; omega
  | succ N ih =>
  intro x w cs hd hx
  obtain ⟨xp, xn, xc, rfl, hkl, hxn, hkid⟩ := hx.six
  apply pbare_vc
  unfold pbare_T
  intro b1 w2 h1
  have H := (Hold.start (Ext.rfl (w := w))).new h1
  repeat (first
    | (intro _ _ hS; replace H := H.new hS; clear hS)
    | (intro _ hS; (first | replace H := H.put 0 rfl hS | replace H := H.put 1 rfl hS | replace H := H.put 2 rfl hS | replace H := H.put 3 rfl hS | replace H := H.put 4 rfl hS | replace H := H.put 5 rfl hS | replace H := H.put 6 rfl hS | replace H := H.put 7 rfl hS); clear hS; try simp only [setA, List.setIfInBounds_toArray, List.set_cons_zero, List.set_cons_succ, Nat.zero_add, Nat.reduceAdd] at H)
    | (intro _ hS; replace H := H.step (Drew.ext hS); clear hS)
    | (first | refine ⟨⟨_, H.get 0 rfl rfl⟩, ?_⟩ | refine ⟨⟨_, H.get 1 rfl rfl⟩, ?_⟩ | refine ⟨⟨_, H.get 2 rfl rfl⟩, ?_⟩ | refine ⟨⟨_, H.get 3 rfl rfl⟩, ?_⟩ | refine ⟨⟨_, H.get 4 rfl rfl⟩, ?_⟩ | refine ⟨⟨_, H.get 5 rfl rfl⟩, ?_⟩ | refine ⟨⟨_, H.get 6 rfl rfl⟩, ?_⟩ | refine ⟨⟨_, H.get 7 rfl rfl⟩, ?_⟩)
    | (first | refine ⟨H.frz 0 rfl, ?_⟩ | refine ⟨H.frz 1 rfl, ?_⟩ | refine ⟨H.frz 2 rfl, ?_⟩ | refine ⟨H.frz 3 rfl, ?_⟩ | refine ⟨H.frz 4 rfl, ?_⟩ | refine ⟨H.frz 5 rfl, ?_⟩ | refine ⟨H.frz 6 rfl, ?_⟩ | refine ⟨H.frz 7 rfl, ?_⟩)
    | (first | refine ⟨_, H.get 0 rfl rfl, ?_⟩ | refine ⟨_, H.get 1 rfl rfl, ?_⟩ | refine ⟨_, H.get 2 rfl rfl, ?_⟩ | refine ⟨_, H.get 3 rfl rfl, ?_⟩ | refine ⟨_, H.get 4 rfl rfl, ?_⟩ | refine ⟨_, H.get 5 rfl rfl, ?_⟩ | refine ⟨_, H.get 6 rfl rfl, ?_⟩ | refine ⟨_, H.get 7 rfl rfl, ?_⟩)
    | (first | refine ⟨_, _, _, H.get 0 rfl rfl, ?_⟩ | refine ⟨_, _, _, H.get 1 rfl rfl, ?_⟩ | refine ⟨_, _, _, H.get 2 rfl rfl, ?_⟩ | refine ⟨_, _, _, H.get 3 rfl rfl, ?_⟩ | refine ⟨_, _, _, H.get 4 rfl rfl, ?_⟩ | refine ⟨_, _, _, H.get 5 rfl rfl, ?_⟩ | refine ⟨_, _, _, H.get 6 rfl rfl, ?_⟩ | refine ⟨_, _, _, H.get 7 rfl rfl, ?_⟩))
  refine ⟨fun i W => ∃ j : Nat, i = (j : Int) ∧ j ≤ xn ∧ (x.kids.take j).all bareF = true ∧ Hold w W [(b1, .cells #[.int .i64 x.op, .string x.name, .int .i64 x.v.k, .int .i64 x.v.n, .string x.v.s, .slice xp xn xc] 28 (0, 0))] [], fun i _ => xn - i.toNat, ⟨0, rfl, Nat.zero_le _, rfl, H⟩, ?_⟩
  rintro i W ⟨j, rfl, hj, hall, H⟩
  refine ⟨fun hlt => ?_, fun hge => ?_⟩
  · have g : x.kids[j]? = some (x.kids[j]'(by omega)) := List.getElem?_eq_getElem _
    generalize x.kids[j]'(by omega) = k at g
    obtain ⟨kc, b, o, hk, hp, hcell⟩ := hkid H.ext g
    obtain ⟨kp, kn, kcap, hkc, _⟩ := hk.six
    simp only [Int.toNat_natCast]
    have e0 := hcell 0 _ (by rw [hkc]; rfl)
    have e1 := hcell 1 _ (by rw [hkc]; rfl)
    have e2 := hcell 2 _ (by rw [hkc]; rfl)
    have e3 := hcell 3 _ (by rw [hkc]; rfl)
    have e4 := hcell 4 _ (by rw [hkc]; rfl)
    have e5 := hcell 5 _ (by rw [hkc]; rfl)
    refine ⟨b, o, hp, by omega, by omega, _, e0, _, e1, _, e2, _, e3, _, e4, _, _, _, e5, ?_⟩
    repeat (first
      | (intro _ _ hS; replace H := H.new hS; clear hS)
      | (intro _ hS; (first | replace H := H.put 0 rfl hS | replace H := H.put 1 rfl hS | replace H := H.put 2 rfl hS | replace H := H.put 3 rfl hS | replace H := H.put 4 rfl hS | replace H := H.put 5 rfl hS | replace H := H.put 6 rfl hS | replace H := H.put 7 rfl hS); clear hS; try simp only [setA, List.setIfInBounds_toArray, List.set_cons_zero, List.set_cons_succ, Nat.zero_add, Nat.reduceAdd] at H)
      | (intro _ hS; replace H := H.step (Drew.ext hS); clear hS)
      | (first | refine ⟨⟨_, H.get 0 rfl rfl⟩, ?_⟩ | refine ⟨⟨_, H.get 1 rfl rfl⟩, ?_⟩ | refine ⟨⟨_, H.get 2 rfl rfl⟩, ?_⟩ | refine ⟨⟨_, H.get 3 rfl rfl⟩, ?_⟩ | refine ⟨⟨_, H.get 4 rfl rfl⟩, ?_⟩ | refine ⟨⟨_, H.get 5 rfl rfl⟩, ?_⟩ | refine ⟨⟨_, H.get 6 rfl rfl⟩, ?_⟩ | refine ⟨⟨_, H.get 7 rfl rfl⟩, ?_⟩)
      | (first | refine ⟨H.frz 0 rfl, ?_⟩ | refine ⟨H.frz 1 rfl, ?_⟩ | refine ⟨H.frz 2 rfl, ?_⟩ | refine ⟨H.frz 3 rfl, ?_⟩ | refine ⟨H.frz 4 rfl, ?_⟩ | refine ⟨H.frz 5 rfl, ?_⟩ | refine ⟨H.frz 6 rfl, ?_⟩ | refine ⟨H.frz 7 rfl, ?_⟩)
      | (first | refine ⟨_, H.get 0 rfl rfl, ?_⟩ | refine ⟨_, H.get 1 rfl rfl, ?_⟩ | refine ⟨_, H.get 2 rfl rfl, ?_⟩ | refine ⟨_, H.get 3 rfl rfl, ?_⟩ | refine ⟨_, H.get 4 rfl rfl, ?_⟩ | refine ⟨_, H.get 5 rfl rfl, ?_⟩ | refine ⟨_, H.get 6 rfl rfl, ?_⟩ | refine ⟨_, H.get 7 rfl rfl, ?_⟩)
      | (first | refine ⟨_, _, _, H.get 0 rfl rfl, ?_⟩ | refine ⟨_, _, _, H.get 1 rfl rfl, ?_⟩ | refine ⟨_, _, _, H.get 2 rfl rfl, ?_⟩ | refine ⟨_, _, _, H.get 3 rfl rfl, ?_⟩ | refine ⟨_, _, _, H.get 4 rfl rfl, ?_⟩ | refine ⟨_, _, _, H.get 5 rfl rfl, ?_⟩ | refine ⟨_, _, _, H.get 6 rfl rfl, ?_⟩ | refine ⟨_, _, _, H.get 7 rfl rfl, ?_⟩))
    subst hkc
    refine (ih k (by have := kid_depth g; omega) (hk.ext H.ext)).mono ?_
    rintro e W2 ⟨rfl, eS⟩
    replace H := H.step eS
    have hb : (x.kids.take (j + 1)).all bareF = bareF k := by
      rw [List.take_add_one, g, List.all_append, hall]; simp
    refine ⟨_, rfl, fun hb0 => ⟨?_, H.ext⟩, fun hb1 => ?_⟩
    · rw [bareF_eq]
      have : x.kids.all bareF = false := by
        rw [List.all_eq_false]
        exact ⟨k, List.mem_of_getElem? g, by simp [hb0]⟩
      rw [this, Bool.and_false]
    · rw [i64_next (by omega)]
      exact ⟨⟨j + 1, rfl, by omega, by rw [hb, hb1], H.tail⟩, by simp only [Int.toNat_natCast]; omega⟩
  · have hjn : j = xn := by omega
    subst hjn
    rw [List.take_of_length_le (by omega)] at hall
    repeat (first
      | (intro _ _ hS; replace H := H.new hS; clear hS)
      | (intro _ hS; (first | replace H := H.put 0 rfl hS | replace H := H.put 1 rfl hS | replace H := H.put 2 rfl hS | replace H := H.put 3 rfl hS | replace H := H.put 4 rfl hS | replace H := H.put 5 rfl hS | replace H := H.put 6 rfl hS | replace H := H.put 7 rfl hS); clear hS; try simp only [setA, List.setIfInBounds_toArray, List.set_cons_zero, List.set_cons_succ, Nat.zero_add, Nat.reduceAdd] at H)
      | (intro _ hS; replace H := H.step (Drew.ext hS); clear hS)
      | (first | refine ⟨⟨_, H.get 0 rfl rfl⟩, ?_⟩ | refine ⟨⟨_, H.get 1 rfl rfl⟩, ?_⟩ | refine ⟨⟨_, H.get 2 rfl rfl⟩, ?_⟩ | refine ⟨⟨_, H.get 3 rfl rfl⟩, ?_⟩ | refine ⟨⟨_, H.get 4 rfl rfl⟩, ?_⟩ | refine ⟨⟨_, H.get 5 rfl rfl⟩, ?_⟩ | refine ⟨⟨_, H.get 6 rfl rfl⟩, ?_⟩ | refine ⟨⟨_, H.get 7 rfl rfl⟩, ?_⟩)
      | (first | refine ⟨H.frz 0 rfl, ?_⟩ | refine ⟨H.frz 1 rfl, ?_⟩ | refine ⟨H.frz 2 rfl, ?_⟩ | refine ⟨H.frz 3 rfl, ?_⟩ | refine ⟨H.frz 4 rfl, ?_⟩ | refine ⟨H.frz 5 rfl, ?_⟩ | refine ⟨H.frz 6 rfl, ?_⟩ | refine ⟨H.frz 7 rfl, ?_⟩)
      | (first | refine ⟨_, H.get 0 rfl rfl, ?_⟩ | refine ⟨_, H.get 1 rfl rfl, ?_⟩ | refine ⟨_, H.get 2 rfl rfl, ?_⟩ | refine ⟨_, H.get 3 rfl rfl, ?_⟩ | refine ⟨_, H.get 4 rfl rfl, ?_⟩ | refine ⟨_, H.get 5 rfl rfl, ?_⟩ | refine ⟨_, H.get 6 rfl rfl, ?_⟩ | refine ⟨_, H.get 7 rfl rfl, ?_⟩)
      | (first | refine ⟨_, _, _, H.get 0 rfl rfl, ?_⟩ | refine ⟨_, _, _, H.get 1 rfl rfl, ?_⟩ | refine ⟨_, _, _, H.get 2 rfl rfl, ?_⟩ | refine ⟨_, _, _, H.get 3 rfl rfl, ?_⟩ | refine ⟨_, _, _, H.get 4 rfl rfl, ?_⟩ | refine ⟨_, _, _, H.get 5 rfl rfl, ?_⟩ | refine ⟨_, _, _, H.get 6 rfl rfl, ?_⟩ | refine ⟨_, _, _, H.get 7 rfl rfl, ?_⟩))
    rw [bareF_eq, hall, Bool.and_true]
    refine ⟨fun h => ⟨?_, H.ext⟩, fun h => ?_⟩
    · rw [decide_eq_false (by omega)]; rfl
    · repeat (first
        | (intro _ _ hS; replace H := H.new hS; clear hS)
        | (intro _ hS; (first | replace H := H.put 0 rfl hS | replace H := H.put 1 rfl hS | replace H := H.put 2 rfl hS | replace H := H.put 3 rfl hS | replace H := H.put 4 rfl hS | replace H := H.put 5 rfl hS | replace H := H.put 6 rfl hS | replace H := H.put 7 rfl hS); clear hS; try simp only [setA, List.setIfInBounds_toArray, List.set_cons_zero, List.set_cons_succ, Nat.zero_add, Nat.reduceAdd] at H)
        | (intro _ hS; replace H := H.step (Drew.ext hS); clear hS)
        | (first | refine ⟨⟨_, H.get 0 rfl rfl⟩, ?_⟩ | refine ⟨⟨_, H.get 1 rfl rfl⟩, ?_⟩ | refine ⟨⟨_, H.get 2 rfl rfl⟩, ?_⟩ | refine ⟨⟨_, H.get 3 rfl rfl⟩, ?_⟩ | refine ⟨⟨_, H.get 4 rfl rfl⟩, ?_⟩ | refine ⟨⟨_, H.get 5 rfl rfl⟩, ?_⟩ | refine ⟨⟨_, H.get 6 rfl rfl⟩, ?_⟩ | refine ⟨⟨_, H.get 7 rfl rfl⟩, ?_⟩)
        | (first | refine ⟨H.frz 0 rfl, ?_⟩ | refine ⟨H.frz 1 rfl, ?_⟩ | refine ⟨H.frz 2 rfl, ?_⟩ | refine ⟨H.frz 3 rfl, ?_⟩ | refine ⟨H.frz 4 rfl, ?_⟩ | refine ⟨H.frz 5 rfl, ?_⟩ | refine ⟨H.frz 6 rfl, ?_⟩ | refine ⟨H.frz 7 rfl, ?_⟩)
        | (first | refine ⟨_, H.get 0 rfl rfl, ?_⟩ | refine ⟨_, H.get 1 rfl rfl, ?_⟩ | refine ⟨_, H.get 2 rfl rfl, ?_⟩ | refine ⟨_, H.get 3 rfl rfl, ?_⟩ | refine ⟨_, H.get 4 rfl rfl, ?_⟩ | refine ⟨_, H.get 5 rfl rfl, ?_⟩ | refine ⟨_, H.get 6 rfl rfl, ?_⟩ | refine ⟨_, H.get 7 rfl rfl, ?_⟩)
        | (first | refine ⟨_, _, _, H.get 0 rfl rfl, ?_⟩ | refine ⟨_, _, _, H.get 1 rfl rfl, ?_⟩ | refine ⟨_, _, _, H.get 2 rfl rfl, ?_⟩ | refine ⟨_, _, _, H.get 3 rfl rfl, ?_⟩ | refine ⟨_, _, _, H.get 4 rfl rfl, ?_⟩ | refine ⟨_, _, _, H.get 5 rfl rfl, ?_⟩ | refine ⟨_, _, _, H.get 6 rfl rfl, ?_⟩ | refine ⟨_, _, _, H.get 7 rfl rfl, ?_⟩))
      refine ⟨?_, H.ext⟩
      by_cases h8 : 8 < x.op
      · rw [decide_eq_true h8, decide_eq_false (by omega)]; rfl
      · rw [decide_eq_false h8, decide_eq_true (by omega)]; rfl

/-- What a side's cells say. -/
structure SdAt (s : Sd) (lo hi : Val) (nulls m : Int) : Prop where
  lo : lo = s.lo
  hi : hi = s.hi
  null : s.null = decide (0 < nulls)
  full : s.full = decide (nulls ≠ m)
  le : nulls ≤ m
theorem cmp_when {op : Int} {a b : Sd} (hf : a.full = true) (hg : b.full = true) : S3.i (cmpS3 op a b) =
    bits .or .i64 (bits .or .i64 (if (a.null || b.null) then 4 else 0) (if (if op = 9 then decide (cmpV a.lo b.hi ≤ 0) && decide (0 ≤ cmpV a.hi b.lo) else if op = 10 then decide (cmpV a.lo b.hi < 0) else decide (cmpV a.lo b.hi ≤ 0)) then 2 else 0))
      (if (if op = 9 then !decide (cmpV a.lo b.hi = 0) || !decide (cmpV a.hi b.lo = 0) else if op = 10 then decide (0 ≤ cmpV a.hi b.lo) else decide (0 < cmpV a.hi b.lo)) then 1 else 0) := by
  rw [s3_make]
  unfold cmpS3
  rw [if_neg (by rw [hf, hg]; decide)]
  by_cases h9 : op = 9
  · simp [h9]
  · by_cases h10 : op = 10
    · simp [h10]
    · simp [h9, h10]
set_option maxHeartbeats 4000000 in
theorem pcompared_ok {op : Int} {a b : Sd} {al ah bl bh : Val} {an am bn bm : Int} (ha : SdAt a al ah an am) (hb : SdAt b bl bh bn bm) (w : World) :
    Calls Tryd.prog 44 #[.int .i64 op, .agg #[.int .i64 al.k, .int .i64 al.n, .string al.s, .int .i64 ah.k, .int .i64 ah.n, .string ah.s, .int .i64 an, .int .i64 am], .agg #[.int .i64 bl.k, .int .i64 bl.n, .string bl.s, .int .i64 bh.k, .int .i64 bh.n, .string bh.s, .int .i64 bn, .int .i64 bm]] w
      fun e w' => e = .returned (.int .i64 (cmpS3 op a b).i) ∧ Ext w w' := by
  obtain ⟨rfl, rfl, na, fa, _⟩ := ha
  obtain ⟨rfl, rfl, nb, fb, _⟩ := hb
  have notfull : (a.full = false ∨ b.full = false) → (cmpS3 op a b).i = if (a.null || b.null) = true then 4 else 0 := by
    intro h
    have : (!a.full || !b.full) = true := by rcases h with h | h <;> simp [h]
    unfold cmpS3
    rw [if_pos this]
    cases (a.null || b.null) <;> rfl
  have isfull : an ≠ am → bn ≠ bm → a.full = true ∧ b.full = true := fun h1 h2 => by rw [fa, fb]; exact ⟨decide_eq_true h1, decide_eq_true h2⟩
  apply pcompared_vc
  unfold pcompared_T
  have H := Hold.start (Ext.rfl (w := w))
  repeat' (first
    | refine And.intro (fun hq => ?_) (fun hq => ?_)
    | (intro _ _ hS; replace H := H.new hS; clear hS)
    | (intro _ hS; replace H := H.step (Drew.ext hS); clear hS)
    | (first | refine ⟨_, H.get 0 rfl rfl, ?_⟩ | refine ⟨_, H.get 1 rfl rfl, ?_⟩)
    | (refine (pwhen_ok _ _ _).mono ?_
       rintro e W ⟨rfl, eX⟩
       replace H := H.step eX
       refine ⟨_, rfl, ?_⟩)
    | (refine (vcompare_ok _ _ _).mono ?_
       rintro e W ⟨rfl, eX⟩
       replace H := H.step eX
       refine ⟨_, rfl, ?_⟩
       try refine And.intro eX.same ?_)
    | (refine And.intro ?_ H.ext))
  all_goals (
    apply congrArg Ending.returned; apply congrArg (Value.int .i64)
    have hnull : (if (a.null || b.null) = true then (4 : Int) else 0) = if 0 < an then 4 else if 0 < bn then 4 else 0 := by
      rw [na, nb]
      by_cases h1 : 0 < an
      · simp [h1]
      · simp [h1]
    first
    | (rw [notfull (by first | exact .inl (by rw [fa]; exact decide_eq_false (by omega)) | exact .inr (by rw [fb]; exact decide_eq_false (by omega))), hnull]
       clear notfull isfull hnull H
       by_cases h1 : 0 < an <;> by_cases h2 : 0 < bn <;> first | (exfalso; omega) | simp [h1, h2])
    | (obtain ⟨q1, q2⟩ := isfull (by assumption) (by assumption)
       rw [cmp_when q1 q2, hnull]
       clear notfull isfull hnull H
       by_cases h9 : op = 9 <;> by_cases h10 : op = 10 <;> by_cases h1 : 0 < an <;> by_cases h2 : 0 < bn <;> first | (exfalso; omega) | simp [h9, h10, h1, h2]))

set_option maxHeartbeats 4000000 in
theorem pside_ok {cols : List Col} {zones : List Zn} {m : Int} {x : Ex} {w : World} {p zp : Option Addr} {n c zn zc : Nat} {cs : List Value} (hc : Cols w p n c cols) (hz : Zns w zp zn zc zones) (hzo : zonesL cols zones m = true) (hx : ExAt w x cs)
    (ho : NodeOk x) (hk : (kindF cols x).2 = 0) :
    Calls Tryd.prog 41 #[.agg #[.slice p n c, .slice zp zn zc, .int .i64 m], .agg cs.toArray] w fun e w' => ∃ (lo hi : Val) (nulls k : Int),
      e = .returned (.tuple #[.agg #[.int .i64 lo.k, .int .i64 lo.n, .string lo.s, .int .i64 hi.k, .int .i64 hi.n, .string hi.s, .int .i64 nulls, .int .i64 k], .bool (sideF cols zones m x).isSome]) ∧
      (∀ s, sideF cols zones m x = some s → SdAt s lo hi nulls k) ∧ Ext w w' := by
  obtain ⟨xp, xn, xc, rfl, _⟩ := hx.six
  apply pside_vc
  unfold pside_T
  have H := Hold.start (Ext.rfl (w := w))
  repeat (first
    | (intro _ _ hS; replace H := H.new hS; clear hS)
    | (intro _ hS; (first | replace H := H.put 0 rfl hS | replace H := H.put 1 rfl hS | replace H := H.put 2 rfl hS | replace H := H.put 3 rfl hS | replace H := H.put 4 rfl hS | replace H := H.put 5 rfl hS | replace H := H.put 6 rfl hS | replace H := H.put 7 rfl hS); clear hS; try simp only [setA, List.setIfInBounds_toArray, List.set_cons_zero, List.set_cons_succ, Nat.zero_add, Nat.reduceAdd] at H)
    | (intro _ hS; replace H := H.step (Drew.ext hS); clear hS)
    | (first | refine ⟨⟨_, H.get 0 rfl rfl⟩, ?_⟩ | refine ⟨⟨_, H.get 1 rfl rfl⟩, ?_⟩ | refine ⟨⟨_, H.get 2 rfl rfl⟩, ?_⟩ | refine ⟨⟨_, H.get 3 rfl rfl⟩, ?_⟩ | refine ⟨⟨_, H.get 4 rfl rfl⟩, ?_⟩ | refine ⟨⟨_, H.get 5 rfl rfl⟩, ?_⟩ | refine ⟨⟨_, H.get 6 rfl rfl⟩, ?_⟩ | refine ⟨⟨_, H.get 7 rfl rfl⟩, ?_⟩)
    | (first | refine ⟨H.frz 0 rfl, ?_⟩ | refine ⟨H.frz 1 rfl, ?_⟩ | refine ⟨H.frz 2 rfl, ?_⟩ | refine ⟨H.frz 3 rfl, ?_⟩ | refine ⟨H.frz 4 rfl, ?_⟩ | refine ⟨H.frz 5 rfl, ?_⟩ | refine ⟨H.frz 6 rfl, ?_⟩ | refine ⟨H.frz 7 rfl, ?_⟩)
    | (first | refine ⟨_, H.get 0 rfl rfl, ?_⟩ | refine ⟨_, H.get 1 rfl rfl, ?_⟩ | refine ⟨_, H.get 2 rfl rfl, ?_⟩ | refine ⟨_, H.get 3 rfl rfl, ?_⟩ | refine ⟨_, H.get 4 rfl rfl, ?_⟩ | refine ⟨_, H.get 5 rfl rfl, ?_⟩ | refine ⟨_, H.get 6 rfl rfl, ?_⟩ | refine ⟨_, H.get 7 rfl rfl, ?_⟩)
    | (first | refine ⟨_, _, _, H.get 0 rfl rfl, ?_⟩ | refine ⟨_, _, _, H.get 1 rfl rfl, ?_⟩ | refine ⟨_, _, _, H.get 2 rfl rfl, ?_⟩ | refine ⟨_, _, _, H.get 3 rfl rfl, ?_⟩ | refine ⟨_, _, _, H.get 4 rfl rfl, ?_⟩ | refine ⟨_, _, _, H.get 5 rfl rfl, ?_⟩ | refine ⟨_, _, _, H.get 6 rfl rfl, ?_⟩ | refine ⟨_, _, _, H.get 7 rfl rfl, ?_⟩))
  have hvo : x.v.Ok := ho.2.2.2
  refine ⟨fun h2 => ?_, fun h2 => ?_⟩
  · have hs : sideF cols zones m x = some ⟨decide (x.v.k = 0), decide (x.v.k ≠ 0), x.v, x.v⟩ := by unfold sideF; rw [if_pos h2]
    repeat (first
      | (intro _ _ hS; replace H := H.new hS; clear hS)
      | (intro _ hS; (first | replace H := H.put 0 rfl hS | replace H := H.put 1 rfl hS | replace H := H.put 2 rfl hS | replace H := H.put 3 rfl hS | replace H := H.put 4 rfl hS | replace H := H.put 5 rfl hS | replace H := H.put 6 rfl hS | replace H := H.put 7 rfl hS); clear hS; try simp only [setA, List.setIfInBounds_toArray, List.set_cons_zero, List.set_cons_succ, Nat.zero_add, Nat.reduceAdd] at H)
      | (intro _ hS; replace H := H.step (Drew.ext hS); clear hS)
      | (first | refine ⟨⟨_, H.get 0 rfl rfl⟩, ?_⟩ | refine ⟨⟨_, H.get 1 rfl rfl⟩, ?_⟩ | refine ⟨⟨_, H.get 2 rfl rfl⟩, ?_⟩ | refine ⟨⟨_, H.get 3 rfl rfl⟩, ?_⟩ | refine ⟨⟨_, H.get 4 rfl rfl⟩, ?_⟩ | refine ⟨⟨_, H.get 5 rfl rfl⟩, ?_⟩ | refine ⟨⟨_, H.get 6 rfl rfl⟩, ?_⟩ | refine ⟨⟨_, H.get 7 rfl rfl⟩, ?_⟩)
      | (first | refine ⟨H.frz 0 rfl, ?_⟩ | refine ⟨H.frz 1 rfl, ?_⟩ | refine ⟨H.frz 2 rfl, ?_⟩ | refine ⟨H.frz 3 rfl, ?_⟩ | refine ⟨H.frz 4 rfl, ?_⟩ | refine ⟨H.frz 5 rfl, ?_⟩ | refine ⟨H.frz 6 rfl, ?_⟩ | refine ⟨H.frz 7 rfl, ?_⟩)
      | (first | refine ⟨_, H.get 0 rfl rfl, ?_⟩ | refine ⟨_, H.get 1 rfl rfl, ?_⟩ | refine ⟨_, H.get 2 rfl rfl, ?_⟩ | refine ⟨_, H.get 3 rfl rfl, ?_⟩ | refine ⟨_, H.get 4 rfl rfl, ?_⟩ | refine ⟨_, H.get 5 rfl rfl, ?_⟩ | refine ⟨_, H.get 6 rfl rfl, ?_⟩ | refine ⟨_, H.get 7 rfl rfl, ?_⟩)
      | (first | refine ⟨_, _, _, H.get 0 rfl rfl, ?_⟩ | refine ⟨_, _, _, H.get 1 rfl rfl, ?_⟩ | refine ⟨_, _, _, H.get 2 rfl rfl, ?_⟩ | refine ⟨_, _, _, H.get 3 rfl rfl, ?_⟩ | refine ⟨_, _, _, H.get 4 rfl rfl, ?_⟩ | refine ⟨_, _, _, H.get 5 rfl rfl, ?_⟩ | refine ⟨_, _, _, H.get 6 rfl rfl, ?_⟩ | refine ⟨_, _, _, H.get 7 rfl rfl, ?_⟩))
    refine ⟨fun hzero => ?_, fun hnz => ?_⟩
    · repeat (first
        | (intro _ _ hS; replace H := H.new hS; clear hS)
        | (intro _ hS; (first | replace H := H.put 0 rfl hS | replace H := H.put 1 rfl hS | replace H := H.put 2 rfl hS | replace H := H.put 3 rfl hS | replace H := H.put 4 rfl hS | replace H := H.put 5 rfl hS | replace H := H.put 6 rfl hS | replace H := H.put 7 rfl hS); clear hS; try simp only [setA, List.setIfInBounds_toArray, List.set_cons_zero, List.set_cons_succ, Nat.zero_add, Nat.reduceAdd] at H)
        | (intro _ hS; replace H := H.step (Drew.ext hS); clear hS)
        | (first | refine ⟨⟨_, H.get 0 rfl rfl⟩, ?_⟩ | refine ⟨⟨_, H.get 1 rfl rfl⟩, ?_⟩ | refine ⟨⟨_, H.get 2 rfl rfl⟩, ?_⟩ | refine ⟨⟨_, H.get 3 rfl rfl⟩, ?_⟩ | refine ⟨⟨_, H.get 4 rfl rfl⟩, ?_⟩ | refine ⟨⟨_, H.get 5 rfl rfl⟩, ?_⟩ | refine ⟨⟨_, H.get 6 rfl rfl⟩, ?_⟩ | refine ⟨⟨_, H.get 7 rfl rfl⟩, ?_⟩)
        | (first | refine ⟨H.frz 0 rfl, ?_⟩ | refine ⟨H.frz 1 rfl, ?_⟩ | refine ⟨H.frz 2 rfl, ?_⟩ | refine ⟨H.frz 3 rfl, ?_⟩ | refine ⟨H.frz 4 rfl, ?_⟩ | refine ⟨H.frz 5 rfl, ?_⟩ | refine ⟨H.frz 6 rfl, ?_⟩ | refine ⟨H.frz 7 rfl, ?_⟩)
        | (first | refine ⟨_, H.get 0 rfl rfl, ?_⟩ | refine ⟨_, H.get 1 rfl rfl, ?_⟩ | refine ⟨_, H.get 2 rfl rfl, ?_⟩ | refine ⟨_, H.get 3 rfl rfl, ?_⟩ | refine ⟨_, H.get 4 rfl rfl, ?_⟩ | refine ⟨_, H.get 5 rfl rfl, ?_⟩ | refine ⟨_, H.get 6 rfl rfl, ?_⟩ | refine ⟨_, H.get 7 rfl rfl, ?_⟩)
        | (first | refine ⟨_, _, _, H.get 0 rfl rfl, ?_⟩ | refine ⟨_, _, _, H.get 1 rfl rfl, ?_⟩ | refine ⟨_, _, _, H.get 2 rfl rfl, ?_⟩ | refine ⟨_, _, _, H.get 3 rfl rfl, ?_⟩ | refine ⟨_, _, _, H.get 4 rfl rfl, ?_⟩ | refine ⟨_, _, _, H.get 5 rfl rfl, ?_⟩ | refine ⟨_, _, _, H.get 6 rfl rfl, ?_⟩ | refine ⟨_, _, _, H.get 7 rfl rfl, ?_⟩))
      refine ⟨x.v, x.v, 1, 1, by rw [hs]; rfl, fun s h => ?_, H.ext⟩
      rw [hs] at h; cases h
      exact ⟨rfl, rfl, by rw [decide_eq_true hzero.1]; rfl, by simp [hzero.1], by decide⟩
    · repeat (first
        | (intro _ _ hS; replace H := H.new hS; clear hS)
        | (intro _ hS; (first | replace H := H.put 0 rfl hS | replace H := H.put 1 rfl hS | replace H := H.put 2 rfl hS | replace H := H.put 3 rfl hS | replace H := H.put 4 rfl hS | replace H := H.put 5 rfl hS | replace H := H.put 6 rfl hS | replace H := H.put 7 rfl hS); clear hS; try simp only [setA, List.setIfInBounds_toArray, List.set_cons_zero, List.set_cons_succ, Nat.zero_add, Nat.reduceAdd] at H)
        | (intro _ hS; replace H := H.step (Drew.ext hS); clear hS)
        | (first | refine ⟨⟨_, H.get 0 rfl rfl⟩, ?_⟩ | refine ⟨⟨_, H.get 1 rfl rfl⟩, ?_⟩ | refine ⟨⟨_, H.get 2 rfl rfl⟩, ?_⟩ | refine ⟨⟨_, H.get 3 rfl rfl⟩, ?_⟩ | refine ⟨⟨_, H.get 4 rfl rfl⟩, ?_⟩ | refine ⟨⟨_, H.get 5 rfl rfl⟩, ?_⟩ | refine ⟨⟨_, H.get 6 rfl rfl⟩, ?_⟩ | refine ⟨⟨_, H.get 7 rfl rfl⟩, ?_⟩)
        | (first | refine ⟨H.frz 0 rfl, ?_⟩ | refine ⟨H.frz 1 rfl, ?_⟩ | refine ⟨H.frz 2 rfl, ?_⟩ | refine ⟨H.frz 3 rfl, ?_⟩ | refine ⟨H.frz 4 rfl, ?_⟩ | refine ⟨H.frz 5 rfl, ?_⟩ | refine ⟨H.frz 6 rfl, ?_⟩ | refine ⟨H.frz 7 rfl, ?_⟩)
        | (first | refine ⟨_, H.get 0 rfl rfl, ?_⟩ | refine ⟨_, H.get 1 rfl rfl, ?_⟩ | refine ⟨_, H.get 2 rfl rfl, ?_⟩ | refine ⟨_, H.get 3 rfl rfl, ?_⟩ | refine ⟨_, H.get 4 rfl rfl, ?_⟩ | refine ⟨_, H.get 5 rfl rfl, ?_⟩ | refine ⟨_, H.get 6 rfl rfl, ?_⟩ | refine ⟨_, H.get 7 rfl rfl, ?_⟩)
        | (first | refine ⟨_, _, _, H.get 0 rfl rfl, ?_⟩ | refine ⟨_, _, _, H.get 1 rfl rfl, ?_⟩ | refine ⟨_, _, _, H.get 2 rfl rfl, ?_⟩ | refine ⟨_, _, _, H.get 3 rfl rfl, ?_⟩ | refine ⟨_, _, _, H.get 4 rfl rfl, ?_⟩ | refine ⟨_, _, _, H.get 5 rfl rfl, ?_⟩ | refine ⟨_, _, _, H.get 6 rfl rfl, ?_⟩ | refine ⟨_, _, _, H.get 7 rfl rfl, ?_⟩))
      refine ⟨x.v, x.v, 0, 1, by rw [hs]; rfl, fun s h => ?_, H.ext⟩
      rw [hs] at h; cases h
      have hne : x.v.k ≠ 0 := by
        intro h0
        unfold Val.Ok at hvo
        rcases hvo with ⟨_, a, b⟩ | h | h | h
        · rcases hnz with q | q | q
          · exact q h0
          · exact q a
          · exact q b
        · omega
        · omega
        · omega
      exact ⟨rfl, rfl, by simp [hne], by simp [hne], by decide⟩
  · refine ⟨fun h1 => ?_, fun h1 => ?_⟩
    · obtain ⟨col, hcol, _⟩ := col_node h1 ho hk
      obtain ⟨z, hzi, hzok⟩ := zone_get hzo hcol
      obtain ⟨zb, zo, hzp, _⟩ := hz.zone hzi
      have hlen := hz.len
      have hlt := (List.getElem?_eq_some_iff.1 hzi).1
      have h0 : 0 ≤ findC cols x.name := by
        obtain ⟨_, hk2⟩ := kids_kinds hk
        rw [hk2] at hk
        unfold kindN at hk
        rw [show wantOf x.op = 0 by rw [h1]; rfl, if_neg (by simp), if_pos h1] at hk
        split at hk
        · exact absurd hk (by decide)
        · omega
      have hs : sideF cols zones m x = some ⟨decide (0 < z.nulls), decide (z.nulls < m), z.lo, z.hi⟩ := by unfold sideF; rw [if_neg h2, if_pos h1, hzi]; rfl
      have hle : 0 ≤ z.nulls ∧ z.nulls ≤ m := by
        unfold zoneOk at hzok
        rw [Bool.and_eq_true, decide_eq_true_eq] at hzok
        exact ⟨hzok.1.2.2.1, hzok.1.2.2.2.1⟩
      repeat' (first
        | (refine And.intro ?_ (fun _ _ hS => ?_)
           rotate_left
           have eX := hS.ext; replace H := H.new hS
           (try refine And.intro eX.same ?_)
           rotate_left)
        | (intro _ _ hS
           have eX := hS.ext; replace H := H.new hS
           (try refine And.intro eX.same ?_))
        | (intro _ hS; replace H := H.step (Drew.ext hS); clear hS)
        | (intro _ hS
           (first | replace H := H.put 0 rfl hS | replace H := H.put 1 rfl hS | replace H := H.put 2 rfl hS)
           clear hS
           try simp only [setA, List.setIfInBounds_toArray, List.set_cons_zero, List.set_cons_succ, Nat.zero_add, Nat.reduceAdd] at H)
        | (first | refine ⟨⟨_, H.get 0 rfl rfl⟩, ?_⟩ | refine ⟨⟨_, H.get 1 rfl rfl⟩, ?_⟩ | refine ⟨⟨_, H.get 2 rfl rfl⟩, ?_⟩)
        | (first | refine ⟨H.frz 0 rfl, ?_⟩ | refine ⟨H.frz 1 rfl, ?_⟩ | refine ⟨H.frz 2 rfl, ?_⟩)
        | (first | refine ⟨_, H.get 0 rfl rfl, ?_⟩ | refine ⟨_, H.get 1 rfl rfl, ?_⟩ | refine ⟨_, H.get 2 rfl rfl, ?_⟩ | refine ⟨_, H.get 3 rfl rfl, ?_⟩ | refine ⟨_, H.get 4 rfl rfl, ?_⟩)
        | (first | refine ⟨_, _, _, H.get 0 rfl rfl, ?_⟩ | refine ⟨_, _, _, H.get 1 rfl rfl, ?_⟩ | refine ⟨_, _, _, H.get 2 rfl rfl, ?_⟩ | refine ⟨_, _, _, H.get 3 rfl rfl, ?_⟩ | refine ⟨_, _, _, H.get 4 rfl rfl, ?_⟩)
        | (refine (sfind_ok (hc.ext H.ext) x.name).mono ?_
           rintro e W ⟨rfl, eX⟩
           replace H := H.step eX
           refine ⟨_, rfl, ?_⟩
           (try refine And.intro eX.same ?_))
        | (obtain ⟨zb, zo, hzp, z0, z1, z2, z3, z4, z5, z6⟩ := (hz.ext H.ext).zone hzi
           refine ⟨zb, zo, hzp, h0, by omega, _, z0, _, z1, _, z2, _, z3, _, z4, _, z5, _, z6, ?_⟩))
      all_goals (
        refine ⟨z.lo, z.hi, z.nulls, m, by rw [hs]; rfl, fun s h => ?_, H.ext⟩
        rw [hs] at h; cases h
        exact ⟨rfl, rfl, rfl, by rw [decide_eq_decide]; omega, hle.2⟩)
    · have hs : sideF cols zones m x = none := by unfold sideF; rw [if_neg h2, if_neg h1]
      repeat (first
        | (intro _ _ hS; replace H := H.new hS; clear hS)
        | (intro _ hS; (first | replace H := H.put 0 rfl hS | replace H := H.put 1 rfl hS | replace H := H.put 2 rfl hS | replace H := H.put 3 rfl hS | replace H := H.put 4 rfl hS | replace H := H.put 5 rfl hS | replace H := H.put 6 rfl hS | replace H := H.put 7 rfl hS); clear hS; try simp only [setA, List.setIfInBounds_toArray, List.set_cons_zero, List.set_cons_succ, Nat.zero_add, Nat.reduceAdd] at H)
        | (intro _ hS; replace H := H.step (Drew.ext hS); clear hS)
        | (first | refine ⟨⟨_, H.get 0 rfl rfl⟩, ?_⟩ | refine ⟨⟨_, H.get 1 rfl rfl⟩, ?_⟩ | refine ⟨⟨_, H.get 2 rfl rfl⟩, ?_⟩ | refine ⟨⟨_, H.get 3 rfl rfl⟩, ?_⟩ | refine ⟨⟨_, H.get 4 rfl rfl⟩, ?_⟩ | refine ⟨⟨_, H.get 5 rfl rfl⟩, ?_⟩ | refine ⟨⟨_, H.get 6 rfl rfl⟩, ?_⟩ | refine ⟨⟨_, H.get 7 rfl rfl⟩, ?_⟩)
        | (first | refine ⟨H.frz 0 rfl, ?_⟩ | refine ⟨H.frz 1 rfl, ?_⟩ | refine ⟨H.frz 2 rfl, ?_⟩ | refine ⟨H.frz 3 rfl, ?_⟩ | refine ⟨H.frz 4 rfl, ?_⟩ | refine ⟨H.frz 5 rfl, ?_⟩ | refine ⟨H.frz 6 rfl, ?_⟩ | refine ⟨H.frz 7 rfl, ?_⟩)
        | (first | refine ⟨_, H.get 0 rfl rfl, ?_⟩ | refine ⟨_, H.get 1 rfl rfl, ?_⟩ | refine ⟨_, H.get 2 rfl rfl, ?_⟩ | refine ⟨_, H.get 3 rfl rfl, ?_⟩ | refine ⟨_, H.get 4 rfl rfl, ?_⟩ | refine ⟨_, H.get 5 rfl rfl, ?_⟩ | refine ⟨_, H.get 6 rfl rfl, ?_⟩ | refine ⟨_, H.get 7 rfl rfl, ?_⟩)
        | (first | refine ⟨_, _, _, H.get 0 rfl rfl, ?_⟩ | refine ⟨_, _, _, H.get 1 rfl rfl, ?_⟩ | refine ⟨_, _, _, H.get 2 rfl rfl, ?_⟩ | refine ⟨_, _, _, H.get 3 rfl rfl, ?_⟩ | refine ⟨_, _, _, H.get 4 rfl rfl, ?_⟩ | refine ⟨_, _, _, H.get 5 rfl rfl, ?_⟩ | refine ⟨_, _, _, H.get 6 rfl rfl, ?_⟩ | refine ⟨_, _, _, H.get 7 rfl rfl, ?_⟩))
      refine ⟨nullV, nullV, 0, 0, by rw [hs]; rfl, fun s h => ?_, H.ext⟩
      rw [hs] at h; cases h
end Go.Proofs.YtpjafkcmbinjiaaDoor

/- The contracts of package prune: the answers. -/
namespace Go.Proofs.YtpjafkcmbinjiaaDoor
open Go Go.Vc Go.RowKit
set_option maxRecDepth 20000
attribute [local irreducible] Calls Put Drew New

theorem s3_make2 (a b c : Bool) : bits .or .i64 (bits .or .i64 (if a then 4 else 0) (if b then 1 else 0)) (if c then 2 else 0) = S3.i ⟨b, c, a⟩ := by
  cases a <;> cases b <;> cases c <;> decide +kernel
theorem s3_make3 (a b : Bool) : bits .or .i64 (if a then 2 else 0) (if b then 1 else 0) = S3.i ⟨b, a, false⟩ := by
  cases a <;> cases b <;> decide +kernel
theorem s3_own {v : Val} (hv : v.Ok) (hk : v.k = 2 ∨ v.k = 0) : bits .or .i64 (if decide (v.k = 0) = true then 4 else 0) (if decide (v.k = 2) = true then shlI .i64 1 v.n.toNat else 0) = (ownS v).i := by
  have hg : GoodV 2 v := ⟨hv, by unfold Val.Ok at hv; unfold fitI; omega, by omega⟩
  rcases three_truths hg with rfl | rfl | rfl <;> decide +kernel
set_option maxHeartbeats 8000000 in
theorem panswers_ok {cols : List Col} {zones : List Zn} {m : Int} (hzo : zonesL cols zones m = true) : ∀ (N : Nat) (x : Ex) {w : World} {p zp : Option Addr} {n c zn zc : Nat} {cs : List Value}, depthT x ≤ N → (∀ y ∈ nodesT x, NodeOk y) → (kindF cols x).2 = 0 → ((kindF cols x).1 = 2 ∨ (kindF cols x).1 = 0) →
    Cols w p n c cols → Zns w zp zn zc zones → ExAt w x cs →
    Calls Tryd.prog 23 #[.agg #[.slice p n c, .slice zp zn zc, .int .i64 m], .agg cs.toArray] w fun e w' => e = .returned (.int .i64 (ansF cols zones m x).i) ∧ Ext w w' := by
  intro N
  induction N with
  | zero => intro x w p zp n c zn zc cs hd; cases x; unfold depthT at hd; omega
  | succ N ih =>
  intro x w p zp n c zn zc cs hd hno hkind hkk hc hz hx
  have ho := hno x (self_node x)
  obtain ⟨hk1, hk2⟩ := kids_kinds hkind
  obtain ⟨xp, xn, xc, rfl, hkl, _⟩ := hx.six
  have hmany := ho.1
  have hsub : ∀ (i : Nat) k, x.kids[i]? = some k → (kindF cols k).2 = 0 ∧ depthT k ≤ N ∧ (∀ y ∈ nodesT k, NodeOk y) := fun i k hi => ⟨(runL_get hk1 hi).1, by have := kid_depth hi; omega, fun y hy => hno y (kid_node hi hy)⟩
  apply panswers_vc
  unfold panswers_T
  have H := Hold.start (Ext.rfl (w := w))
  repeat (first
    | (intro _ _ hS; replace H := H.new hS; clear hS)
    | (intro _ hS; (first | replace H := H.put 0 rfl hS | replace H := H.put 1 rfl hS | replace H := H.put 2 rfl hS | replace H := H.put 3 rfl hS | replace H := H.put 4 rfl hS | replace H := H.put 5 rfl hS | replace H := H.put 6 rfl hS | replace H := H.put 7 rfl hS); clear hS; try simp only [setA, List.setIfInBounds_toArray, List.set_cons_zero, List.set_cons_succ, Nat.zero_add, Nat.reduceAdd] at H)
    | (intro _ hS; replace H := H.step (Drew.ext hS); clear hS)
    | (first | refine ⟨⟨_, H.get 0 rfl rfl⟩, ?_⟩ | refine ⟨⟨_, H.get 1 rfl rfl⟩, ?_⟩ | refine ⟨⟨_, H.get 2 rfl rfl⟩, ?_⟩ | refine ⟨⟨_, H.get 3 rfl rfl⟩, ?_⟩ | refine ⟨⟨_, H.get 4 rfl rfl⟩, ?_⟩ | refine ⟨⟨_, H.get 5 rfl rfl⟩, ?_⟩ | refine ⟨⟨_, H.get 6 rfl rfl⟩, ?_⟩ | refine ⟨⟨_, H.get 7 rfl rfl⟩, ?_⟩)
    | (first | refine ⟨H.frz 0 rfl, ?_⟩ | refine ⟨H.frz 1 rfl, ?_⟩ | refine ⟨H.frz 2 rfl, ?_⟩ | refine ⟨H.frz 3 rfl, ?_⟩ | refine ⟨H.frz 4 rfl, ?_⟩ | refine ⟨H.frz 5 rfl, ?_⟩ | refine ⟨H.frz 6 rfl, ?_⟩ | refine ⟨H.frz 7 rfl, ?_⟩)
    | (first | refine ⟨_, H.get 0 rfl rfl, ?_⟩ | refine ⟨_, H.get 1 rfl rfl, ?_⟩ | refine ⟨_, H.get 2 rfl rfl, ?_⟩ | refine ⟨_, H.get 3 rfl rfl, ?_⟩ | refine ⟨_, H.get 4 rfl rfl, ?_⟩ | refine ⟨_, H.get 5 rfl rfl, ?_⟩ | refine ⟨_, H.get 6 rfl rfl, ?_⟩ | refine ⟨_, H.get 7 rfl rfl, ?_⟩)
    | (first | refine ⟨_, _, _, H.get 0 rfl rfl, ?_⟩ | refine ⟨_, _, _, H.get 1 rfl rfl, ?_⟩ | refine ⟨_, _, _, H.get 2 rfl rfl, ?_⟩ | refine ⟨_, _, _, H.get 3 rfl rfl, ?_⟩ | refine ⟨_, _, _, H.get 4 rfl rfl, ?_⟩ | refine ⟨_, _, _, H.get 5 rfl rfl, ?_⟩ | refine ⟨_, _, _, H.get 6 rfl rfl, ?_⟩ | refine ⟨_, _, _, H.get 7 rfl rfl, ?_⟩))
  rw [ansF_eq]
  unfold nodeS
  refine ⟨fun h2 => ?_, fun h2 => ?_⟩
  · have hvk : x.v.k = 2 ∨ x.v.k = 0 := by
      have : kindF cols x = (x.v.k, 0) := by
        rw [hk2]; unfold kindN
        rw [show wantOf x.op = 0 by rw [h2]; rfl, if_neg (by simp), if_neg (by omega), if_pos h2]
      rw [this] at hkk; exact hkk
    have hvn : 0 ≤ x.v.n := by have := ho.2.2.2; unfold Val.Ok at this; omega
    rw [if_pos h2]
    repeat (first
      | (intro _ _ hS; replace H := H.new hS; clear hS)
      | (intro _ hS; (first | replace H := H.put 0 rfl hS | replace H := H.put 1 rfl hS | replace H := H.put 2 rfl hS | replace H := H.put 3 rfl hS | replace H := H.put 4 rfl hS | replace H := H.put 5 rfl hS | replace H := H.put 6 rfl hS | replace H := H.put 7 rfl hS); clear hS; try simp only [setA, List.setIfInBounds_toArray, List.set_cons_zero, List.set_cons_succ, Nat.zero_add, Nat.reduceAdd] at H)
      | (intro _ hS; replace H := H.step (Drew.ext hS); clear hS)
      | (first | refine ⟨⟨_, H.get 0 rfl rfl⟩, ?_⟩ | refine ⟨⟨_, H.get 1 rfl rfl⟩, ?_⟩ | refine ⟨⟨_, H.get 2 rfl rfl⟩, ?_⟩ | refine ⟨⟨_, H.get 3 rfl rfl⟩, ?_⟩ | refine ⟨⟨_, H.get 4 rfl rfl⟩, ?_⟩ | refine ⟨⟨_, H.get 5 rfl rfl⟩, ?_⟩ | refine ⟨⟨_, H.get 6 rfl rfl⟩, ?_⟩ | refine ⟨⟨_, H.get 7 rfl rfl⟩, ?_⟩)
      | (first | refine ⟨H.frz 0 rfl, ?_⟩ | refine ⟨H.frz 1 rfl, ?_⟩ | refine ⟨H.frz 2 rfl, ?_⟩ | refine ⟨H.frz 3 rfl, ?_⟩ | refine ⟨H.frz 4 rfl, ?_⟩ | refine ⟨H.frz 5 rfl, ?_⟩ | refine ⟨H.frz 6 rfl, ?_⟩ | refine ⟨H.frz 7 rfl, ?_⟩)
      | (first | refine ⟨_, H.get 0 rfl rfl, ?_⟩ | refine ⟨_, H.get 1 rfl rfl, ?_⟩ | refine ⟨_, H.get 2 rfl rfl, ?_⟩ | refine ⟨_, H.get 3 rfl rfl, ?_⟩ | refine ⟨_, H.get 4 rfl rfl, ?_⟩ | refine ⟨_, H.get 5 rfl rfl, ?_⟩ | refine ⟨_, H.get 6 rfl rfl, ?_⟩ | refine ⟨_, H.get 7 rfl rfl, ?_⟩)
      | (first | refine ⟨_, _, _, H.get 0 rfl rfl, ?_⟩ | refine ⟨_, _, _, H.get 1 rfl rfl, ?_⟩ | refine ⟨_, _, _, H.get 2 rfl rfl, ?_⟩ | refine ⟨_, _, _, H.get 3 rfl rfl, ?_⟩ | refine ⟨_, _, _, H.get 4 rfl rfl, ?_⟩ | refine ⟨_, _, _, H.get 5 rfl rfl, ?_⟩ | refine ⟨_, _, _, H.get 6 rfl rfl, ?_⟩ | refine ⟨_, _, _, H.get 7 rfl rfl, ?_⟩))
    refine ⟨hvn, (pwhen_ok _ _ _).mono ?_⟩
    rintro e W ⟨rfl, eX⟩
    replace H := H.step eX
    refine ⟨_, rfl, eX.same, (pwhen_ok _ _ _).mono ?_⟩
    rintro e W ⟨rfl, eX⟩
    replace H := H.step eX
    exact ⟨_, rfl, by rw [← s3_own ho.2.2.2 hvk]; rfl, H.ext⟩
  rw [if_neg h2]
  refine ⟨fun h1 => ?_, fun h1 => ?_⟩
  · rw [if_pos h1]
    obtain ⟨col, hcol, _⟩ := col_node h1 ho hkind
    obtain ⟨z, hzi, hzok⟩ := zone_get hzo hcol
    rw [hzi]
    have hs : sideF cols zones m x = some ⟨decide (0 < z.nulls), decide (z.nulls < m), z.lo, z.hi⟩ := by unfold sideF; rw [if_neg h2, if_pos h1, hzi]; rfl
    repeat (first
      | (intro _ _ hS; replace H := H.new hS; clear hS)
      | (intro _ hS; (first | replace H := H.put 0 rfl hS | replace H := H.put 1 rfl hS | replace H := H.put 2 rfl hS | replace H := H.put 3 rfl hS | replace H := H.put 4 rfl hS | replace H := H.put 5 rfl hS | replace H := H.put 6 rfl hS | replace H := H.put 7 rfl hS); clear hS; try simp only [setA, List.setIfInBounds_toArray, List.set_cons_zero, List.set_cons_succ, Nat.zero_add, Nat.reduceAdd] at H)
      | (intro _ hS; replace H := H.step (Drew.ext hS); clear hS)
      | (first | refine ⟨⟨_, H.get 0 rfl rfl⟩, ?_⟩ | refine ⟨⟨_, H.get 1 rfl rfl⟩, ?_⟩ | refine ⟨⟨_, H.get 2 rfl rfl⟩, ?_⟩ | refine ⟨⟨_, H.get 3 rfl rfl⟩, ?_⟩ | refine ⟨⟨_, H.get 4 rfl rfl⟩, ?_⟩ | refine ⟨⟨_, H.get 5 rfl rfl⟩, ?_⟩ | refine ⟨⟨_, H.get 6 rfl rfl⟩, ?_⟩ | refine ⟨⟨_, H.get 7 rfl rfl⟩, ?_⟩)
      | (first | refine ⟨H.frz 0 rfl, ?_⟩ | refine ⟨H.frz 1 rfl, ?_⟩ | refine ⟨H.frz 2 rfl, ?_⟩ | refine ⟨H.frz 3 rfl, ?_⟩ | refine ⟨H.frz 4 rfl, ?_⟩ | refine ⟨H.frz 5 rfl, ?_⟩ | refine ⟨H.frz 6 rfl, ?_⟩ | refine ⟨H.frz 7 rfl, ?_⟩)
      | (first | refine ⟨_, H.get 0 rfl rfl, ?_⟩ | refine ⟨_, H.get 1 rfl rfl, ?_⟩ | refine ⟨_, H.get 2 rfl rfl, ?_⟩ | refine ⟨_, H.get 3 rfl rfl, ?_⟩ | refine ⟨_, H.get 4 rfl rfl, ?_⟩ | refine ⟨_, H.get 5 rfl rfl, ?_⟩ | refine ⟨_, H.get 6 rfl rfl, ?_⟩ | refine ⟨_, H.get 7 rfl rfl, ?_⟩)
      | (first | refine ⟨_, _, _, H.get 0 rfl rfl, ?_⟩ | refine ⟨_, _, _, H.get 1 rfl rfl, ?_⟩ | refine ⟨_, _, _, H.get 2 rfl rfl, ?_⟩ | refine ⟨_, _, _, H.get 3 rfl rfl, ?_⟩ | refine ⟨_, _, _, H.get 4 rfl rfl, ?_⟩ | refine ⟨_, _, _, H.get 5 rfl rfl, ?_⟩ | refine ⟨_, _, _, H.get 6 rfl rfl, ?_⟩ | refine ⟨_, _, _, H.get 7 rfl rfl, ?_⟩))
    refine (pside_ok (hc.ext H.ext) (hz.ext H.ext) hzo (hx.ext H.ext) ho hkind).mono ?_
    rintro e W ⟨lo, hi, nulls, k, rfl, hsd, eX⟩
    replace H := H.step eX
    obtain ⟨rfl, rfl, hn, hf, hle⟩ := hsd _ hs
    have hlt : nulls < k ↔ z.nulls < m := by
      have : decide (z.nulls < m) = decide (nulls ≠ k) := hf
      rw [decide_eq_decide] at this
      omega
    have hnn : decide (0 < nulls) = decide (0 < z.nulls) := hn.symm
    refine ⟨_, _, _, _, _, _, _, _, _, rfl, ?_⟩
    repeat (first
      | (intro _ _ hS; replace H := H.new hS; clear hS)
      | (intro _ hS; (first | replace H := H.put 0 rfl hS | replace H := H.put 1 rfl hS | replace H := H.put 2 rfl hS | replace H := H.put 3 rfl hS | replace H := H.put 4 rfl hS | replace H := H.put 5 rfl hS | replace H := H.put 6 rfl hS | replace H := H.put 7 rfl hS); clear hS; try simp only [setA, List.setIfInBounds_toArray, List.set_cons_zero, List.set_cons_succ, Nat.zero_add, Nat.reduceAdd] at H)
      | (intro _ hS; replace H := H.step (Drew.ext hS); clear hS)
      | (first | refine ⟨⟨_, H.get 0 rfl rfl⟩, ?_⟩ | refine ⟨⟨_, H.get 1 rfl rfl⟩, ?_⟩ | refine ⟨⟨_, H.get 2 rfl rfl⟩, ?_⟩ | refine ⟨⟨_, H.get 3 rfl rfl⟩, ?_⟩ | refine ⟨⟨_, H.get 4 rfl rfl⟩, ?_⟩ | refine ⟨⟨_, H.get 5 rfl rfl⟩, ?_⟩ | refine ⟨⟨_, H.get 6 rfl rfl⟩, ?_⟩ | refine ⟨⟨_, H.get 7 rfl rfl⟩, ?_⟩)
      | (first | refine ⟨H.frz 0 rfl, ?_⟩ | refine ⟨H.frz 1 rfl, ?_⟩ | refine ⟨H.frz 2 rfl, ?_⟩ | refine ⟨H.frz 3 rfl, ?_⟩ | refine ⟨H.frz 4 rfl, ?_⟩ | refine ⟨H.frz 5 rfl, ?_⟩ | refine ⟨H.frz 6 rfl, ?_⟩ | refine ⟨H.frz 7 rfl, ?_⟩)
      | (first | refine ⟨_, H.get 0 rfl rfl, ?_⟩ | refine ⟨_, H.get 1 rfl rfl, ?_⟩ | refine ⟨_, H.get 2 rfl rfl, ?_⟩ | refine ⟨_, H.get 3 rfl rfl, ?_⟩ | refine ⟨_, H.get 4 rfl rfl, ?_⟩ | refine ⟨_, H.get 5 rfl rfl, ?_⟩ | refine ⟨_, H.get 6 rfl rfl, ?_⟩ | refine ⟨_, H.get 7 rfl rfl, ?_⟩)
      | (first | refine ⟨_, _, _, H.get 0 rfl rfl, ?_⟩ | refine ⟨_, _, _, H.get 1 rfl rfl, ?_⟩ | refine ⟨_, _, _, H.get 2 rfl rfl, ?_⟩ | refine ⟨_, _, _, H.get 3 rfl rfl, ?_⟩ | refine ⟨_, _, _, H.get 4 rfl rfl, ?_⟩ | refine ⟨_, _, _, H.get 5 rfl rfl, ?_⟩ | refine ⟨_, _, _, H.get 6 rfl rfl, ?_⟩ | refine ⟨_, _, _, H.get 7 rfl rfl, ?_⟩))
    refine (pwhen_ok _ _ _).mono ?_
    rintro e W ⟨rfl, eX⟩
    replace H := H.step eX
    refine ⟨_, rfl, eX.same, ?_⟩
    repeat' (first
      | refine And.intro (fun hq => ?_) (fun hq => ?_)
      | (first | refine ⟨_, H.get 0 rfl rfl, ?_⟩)
      | (refine (pwhen_ok _ _ _).mono ?_
         rintro e W ⟨rfl, eX⟩
         replace H := H.step eX
         refine ⟨_, rfl, ?_⟩
         try refine And.intro eX.same ?_)
      | (refine And.intro ?_ H.ext))
    all_goals (first
      | (exfalso; omega)
      | (apply congrArg Ending.returned; apply congrArg (Value.int .i64)
         have e := s3_make2 (decide (0 < z.nulls)) (decide (z.nulls < m ∧ z.lo.n = 0)) (decide (z.nulls < m ∧ z.hi.n = 1))
         unfold colS
         rw [← e, ← hnn]
         by_cases hq1 : z.nulls < m
         · have := hlt.2 hq1
           first | (exfalso; omega) | simp [hq1]
         · have : ¬ nulls < k := fun h => hq1 (hlt.1 h)
           first | (exfalso; omega) | simp [hq1]))
  rw [if_neg h1]
  refine ⟨fun h14 => ?_, fun h14 => ?_⟩
  · rw [if_pos h14]
    have hlen : x.kids.length = 1 := by have : manyOf x.op = 1 := by rw [h14]; rfl
                                        omega
    have g0 : x.kids[0]? = some (x.kids[0]'(by omega)) := List.getElem?_eq_getElem _
    generalize x.kids[0]'(by omega) = k0 at g0
    obtain ⟨s1, s2, s3⟩ := hsub 0 k0 g0
    have e0 : (x.kids.map (ansF cols zones m)).getD 0 .all = ansF cols zones m k0 := by rw [List.getD_eq_getElem?_getD, List.getElem?_map, g0]; rfl
    rw [e0]
    repeat (first
      | (intro _ _ hS; replace H := H.new hS; clear hS)
      | (intro _ hS; (first | replace H := H.put 0 rfl hS | replace H := H.put 1 rfl hS | replace H := H.put 2 rfl hS | replace H := H.put 3 rfl hS | replace H := H.put 4 rfl hS | replace H := H.put 5 rfl hS | replace H := H.put 6 rfl hS | replace H := H.put 7 rfl hS); clear hS; try simp only [setA, List.setIfInBounds_toArray, List.set_cons_zero, List.set_cons_succ, Nat.zero_add, Nat.reduceAdd] at H)
      | (intro _ hS; replace H := H.step (Drew.ext hS); clear hS)
      | (first | refine ⟨⟨_, H.get 0 rfl rfl⟩, ?_⟩ | refine ⟨⟨_, H.get 1 rfl rfl⟩, ?_⟩ | refine ⟨⟨_, H.get 2 rfl rfl⟩, ?_⟩ | refine ⟨⟨_, H.get 3 rfl rfl⟩, ?_⟩ | refine ⟨⟨_, H.get 4 rfl rfl⟩, ?_⟩ | refine ⟨⟨_, H.get 5 rfl rfl⟩, ?_⟩ | refine ⟨⟨_, H.get 6 rfl rfl⟩, ?_⟩ | refine ⟨⟨_, H.get 7 rfl rfl⟩, ?_⟩)
      | (first | refine ⟨H.frz 0 rfl, ?_⟩ | refine ⟨H.frz 1 rfl, ?_⟩ | refine ⟨H.frz 2 rfl, ?_⟩ | refine ⟨H.frz 3 rfl, ?_⟩ | refine ⟨H.frz 4 rfl, ?_⟩ | refine ⟨H.frz 5 rfl, ?_⟩ | refine ⟨H.frz 6 rfl, ?_⟩ | refine ⟨H.frz 7 rfl, ?_⟩)
      | (first | refine ⟨_, H.get 0 rfl rfl, ?_⟩ | refine ⟨_, H.get 1 rfl rfl, ?_⟩ | refine ⟨_, H.get 2 rfl rfl, ?_⟩ | refine ⟨_, H.get 3 rfl rfl, ?_⟩ | refine ⟨_, H.get 4 rfl rfl, ?_⟩ | refine ⟨_, H.get 5 rfl rfl, ?_⟩ | refine ⟨_, H.get 6 rfl rfl, ?_⟩ | refine ⟨_, H.get 7 rfl rfl, ?_⟩)
      | (first | refine ⟨_, _, _, H.get 0 rfl rfl, ?_⟩ | refine ⟨_, _, _, H.get 1 rfl rfl, ?_⟩ | refine ⟨_, _, _, H.get 2 rfl rfl, ?_⟩ | refine ⟨_, _, _, H.get 3 rfl rfl, ?_⟩ | refine ⟨_, _, _, H.get 4 rfl rfl, ?_⟩ | refine ⟨_, _, _, H.get 5 rfl rfl, ?_⟩ | refine ⟨_, _, _, H.get 6 rfl rfl, ?_⟩ | refine ⟨_, _, _, H.get 7 rfl rfl, ?_⟩))
    obtain ⟨b, o, kp, kn, kc, hp, hi, hk, hcell⟩ := (hx.ext H.ext).kid g0
    obtain ⟨c0, c1, c2, c3, c4, c5⟩ := hcell Ext.rfl
    refine ⟨b, o, hp, by omega, by omega, _, by simpa using c0, _, by simpa using c1, _, by simpa using c2, _, by simpa using c3, _, by simpa using c4, _, _, _, by simpa using c5, ?_⟩
    refine (ih k0 s2 s3 s1 (kid_kind (by omega) hkind g0) (hc.ext H.ext) (hz.ext H.ext) hk).mono ?_
    rintro e W ⟨rfl, eX⟩
    replace H := H.step eX
    refine ⟨_, rfl, (pnot_ok _ _).mono ?_⟩
    rintro e W ⟨rfl, eX⟩
    exact ⟨_, rfl, rfl, (H.step eX).ext⟩
  rw [if_neg h14]
  have htwo : x.op = 12 ∨ x.op = 13 ∨ x.op = 9 ∨ x.op = 10 ∨ x.op = 11 → x.kids.length = 2 := by
    intro h
    have : manyOf x.op = 2 := by unfold manyOf; rw [if_neg (by omega), if_neg (by omega), if_pos (by omega)]
    omega
  refine ⟨fun h12 => ?_, fun h12 => ?_⟩
  · rw [if_pos h12]
    have hlen := htwo (by omega)
    have g0 : x.kids[0]? = some (x.kids[0]'(by omega)) := List.getElem?_eq_getElem _
    have g1 : x.kids[1]? = some (x.kids[1]'(by omega)) := List.getElem?_eq_getElem _
    generalize x.kids[0]'(by omega) = k0 at g0
    generalize x.kids[1]'(by omega) = k1 at g1
    obtain ⟨s1, s2, s3⟩ := hsub 0 k0 g0
    obtain ⟨t1, t2, t3⟩ := hsub 1 k1 g1
    have e0 : (x.kids.map (ansF cols zones m)).getD 0 .all = ansF cols zones m k0 := by rw [List.getD_eq_getElem?_getD, List.getElem?_map, g0]; rfl
    have e1 : (x.kids.map (ansF cols zones m)).getD 1 .all = ansF cols zones m k1 := by rw [List.getD_eq_getElem?_getD, List.getElem?_map, g1]; rfl
    rw [e0, e1]
    repeat (first
      | (intro _ _ hS; replace H := H.new hS; clear hS)
      | (intro _ hS; (first | replace H := H.put 0 rfl hS | replace H := H.put 1 rfl hS | replace H := H.put 2 rfl hS | replace H := H.put 3 rfl hS | replace H := H.put 4 rfl hS | replace H := H.put 5 rfl hS | replace H := H.put 6 rfl hS | replace H := H.put 7 rfl hS); clear hS; try simp only [setA, List.setIfInBounds_toArray, List.set_cons_zero, List.set_cons_succ, Nat.zero_add, Nat.reduceAdd] at H)
      | (intro _ hS; replace H := H.step (Drew.ext hS); clear hS)
      | (first | refine ⟨⟨_, H.get 0 rfl rfl⟩, ?_⟩ | refine ⟨⟨_, H.get 1 rfl rfl⟩, ?_⟩ | refine ⟨⟨_, H.get 2 rfl rfl⟩, ?_⟩ | refine ⟨⟨_, H.get 3 rfl rfl⟩, ?_⟩ | refine ⟨⟨_, H.get 4 rfl rfl⟩, ?_⟩ | refine ⟨⟨_, H.get 5 rfl rfl⟩, ?_⟩ | refine ⟨⟨_, H.get 6 rfl rfl⟩, ?_⟩ | refine ⟨⟨_, H.get 7 rfl rfl⟩, ?_⟩)
      | (first | refine ⟨H.frz 0 rfl, ?_⟩ | refine ⟨H.frz 1 rfl, ?_⟩ | refine ⟨H.frz 2 rfl, ?_⟩ | refine ⟨H.frz 3 rfl, ?_⟩ | refine ⟨H.frz 4 rfl, ?_⟩ | refine ⟨H.frz 5 rfl, ?_⟩ | refine ⟨H.frz 6 rfl, ?_⟩ | refine ⟨H.frz 7 rfl, ?_⟩)
      | (first | refine ⟨_, H.get 0 rfl rfl, ?_⟩ | refine ⟨_, H.get 1 rfl rfl, ?_⟩ | refine ⟨_, H.get 2 rfl rfl, ?_⟩ | refine ⟨_, H.get 3 rfl rfl, ?_⟩ | refine ⟨_, H.get 4 rfl rfl, ?_⟩ | refine ⟨_, H.get 5 rfl rfl, ?_⟩ | refine ⟨_, H.get 6 rfl rfl, ?_⟩ | refine ⟨_, H.get 7 rfl rfl, ?_⟩)
      | (first | refine ⟨_, _, _, H.get 0 rfl rfl, ?_⟩ | refine ⟨_, _, _, H.get 1 rfl rfl, ?_⟩ | refine ⟨_, _, _, H.get 2 rfl rfl, ?_⟩ | refine ⟨_, _, _, H.get 3 rfl rfl, ?_⟩ | refine ⟨_, _, _, H.get 4 rfl rfl, ?_⟩ | refine ⟨_, _, _, H.get 5 rfl rfl, ?_⟩ | refine ⟨_, _, _, H.get 6 rfl rfl, ?_⟩ | refine ⟨_, _, _, H.get 7 rfl rfl, ?_⟩))
    obtain ⟨b, o, kp, kn, kc, hp, hi, hk, hcell⟩ := (hx.ext H.ext).kid g0
    obtain ⟨c0, c1, c2, c3, c4, c5⟩ := hcell Ext.rfl
    refine ⟨b, o, hp, by omega, by omega, _, by simpa using c0, _, by simpa using c1, _, by simpa using c2, _, by simpa using c3, _, by simpa using c4, _, _, _, by simpa using c5, ?_⟩
    repeat (first
      | (intro _ _ hS; replace H := H.new hS; clear hS)
      | (intro _ hS; (first | replace H := H.put 0 rfl hS | replace H := H.put 1 rfl hS | replace H := H.put 2 rfl hS | replace H := H.put 3 rfl hS | replace H := H.put 4 rfl hS | replace H := H.put 5 rfl hS | replace H := H.put 6 rfl hS | replace H := H.put 7 rfl hS); clear hS; try simp only [setA, List.setIfInBounds_toArray, List.set_cons_zero, List.set_cons_succ, Nat.zero_add, Nat.reduceAdd] at H)
      | (intro _ hS; replace H := H.step (Drew.ext hS); clear hS)
      | (first | refine ⟨⟨_, H.get 0 rfl rfl⟩, ?_⟩ | refine ⟨⟨_, H.get 1 rfl rfl⟩, ?_⟩ | refine ⟨⟨_, H.get 2 rfl rfl⟩, ?_⟩ | refine ⟨⟨_, H.get 3 rfl rfl⟩, ?_⟩ | refine ⟨⟨_, H.get 4 rfl rfl⟩, ?_⟩ | refine ⟨⟨_, H.get 5 rfl rfl⟩, ?_⟩ | refine ⟨⟨_, H.get 6 rfl rfl⟩, ?_⟩ | refine ⟨⟨_, H.get 7 rfl rfl⟩, ?_⟩)
      | (first | refine ⟨H.frz 0 rfl, ?_⟩ | refine ⟨H.frz 1 rfl, ?_⟩ | refine ⟨H.frz 2 rfl, ?_⟩ | refine ⟨H.frz 3 rfl, ?_⟩ | refine ⟨H.frz 4 rfl, ?_⟩ | refine ⟨H.frz 5 rfl, ?_⟩ | refine ⟨H.frz 6 rfl, ?_⟩ | refine ⟨H.frz 7 rfl, ?_⟩)
      | (first | refine ⟨_, H.get 0 rfl rfl, ?_⟩ | refine ⟨_, H.get 1 rfl rfl, ?_⟩ | refine ⟨_, H.get 2 rfl rfl, ?_⟩ | refine ⟨_, H.get 3 rfl rfl, ?_⟩ | refine ⟨_, H.get 4 rfl rfl, ?_⟩ | refine ⟨_, H.get 5 rfl rfl, ?_⟩ | refine ⟨_, H.get 6 rfl rfl, ?_⟩ | refine ⟨_, H.get 7 rfl rfl, ?_⟩)
      | (first | refine ⟨_, _, _, H.get 0 rfl rfl, ?_⟩ | refine ⟨_, _, _, H.get 1 rfl rfl, ?_⟩ | refine ⟨_, _, _, H.get 2 rfl rfl, ?_⟩ | refine ⟨_, _, _, H.get 3 rfl rfl, ?_⟩ | refine ⟨_, _, _, H.get 4 rfl rfl, ?_⟩ | refine ⟨_, _, _, H.get 5 rfl rfl, ?_⟩ | refine ⟨_, _, _, H.get 6 rfl rfl, ?_⟩ | refine ⟨_, _, _, H.get 7 rfl rfl, ?_⟩))
    obtain ⟨b', o', lp, ln, lc, hp', hi', hl, hcell'⟩ := (hx.ext H.ext).kid g1
    obtain ⟨d0, d1, d2, d3, d4, d5⟩ := hcell' Ext.rfl
    refine ⟨b', o', hp', by omega, by omega, _, by simpa using d0, _, by simpa using d1, _, by simpa using d2, _, by simpa using d3, _, by simpa using d4, _, _, _, by simpa using d5, ?_⟩
    refine (ih k0 s2 s3 s1 (kid_kind (by omega) hkind g0) (hc.ext H.ext) (hz.ext H.ext) hk).mono ?_
    rintro e W ⟨rfl, eX⟩
    replace H := H.step eX
    refine ⟨_, rfl, eX.same, (ih k1 t2 t3 t1 (kid_kind (by omega) hkind g1) (hc.ext H.ext) (hz.ext H.ext) (hl.ext eX)).mono ?_⟩
    rintro e W ⟨rfl, eX⟩
    replace H := H.step eX
    refine ⟨_, rfl, (pboth_ok _ _ _).mono ?_⟩
    rintro e W ⟨rfl, eX⟩
    exact ⟨_, rfl, rfl, (H.step eX).ext⟩
  rw [if_neg h12]
  refine ⟨fun h13 => ?_, fun h13 => ?_⟩
  · rw [if_pos h13]
    have hlen := htwo (by omega)
    have g0 : x.kids[0]? = some (x.kids[0]'(by omega)) := List.getElem?_eq_getElem _
    have g1 : x.kids[1]? = some (x.kids[1]'(by omega)) := List.getElem?_eq_getElem _
    generalize x.kids[0]'(by omega) = k0 at g0
    generalize x.kids[1]'(by omega) = k1 at g1
    obtain ⟨s1, s2, s3⟩ := hsub 0 k0 g0
    obtain ⟨t1, t2, t3⟩ := hsub 1 k1 g1
    have e0 : (x.kids.map (ansF cols zones m)).getD 0 .all = ansF cols zones m k0 := by rw [List.getD_eq_getElem?_getD, List.getElem?_map, g0]; rfl
    have e1 : (x.kids.map (ansF cols zones m)).getD 1 .all = ansF cols zones m k1 := by rw [List.getD_eq_getElem?_getD, List.getElem?_map, g1]; rfl
    rw [e0, e1]
    repeat (first
      | (intro _ _ hS; replace H := H.new hS; clear hS)
      | (intro _ hS; (first | replace H := H.put 0 rfl hS | replace H := H.put 1 rfl hS | replace H := H.put 2 rfl hS | replace H := H.put 3 rfl hS | replace H := H.put 4 rfl hS | replace H := H.put 5 rfl hS | replace H := H.put 6 rfl hS | replace H := H.put 7 rfl hS); clear hS; try simp only [setA, List.setIfInBounds_toArray, List.set_cons_zero, List.set_cons_succ, Nat.zero_add, Nat.reduceAdd] at H)
      | (intro _ hS; replace H := H.step (Drew.ext hS); clear hS)
      | (first | refine ⟨⟨_, H.get 0 rfl rfl⟩, ?_⟩ | refine ⟨⟨_, H.get 1 rfl rfl⟩, ?_⟩ | refine ⟨⟨_, H.get 2 rfl rfl⟩, ?_⟩ | refine ⟨⟨_, H.get 3 rfl rfl⟩, ?_⟩ | refine ⟨⟨_, H.get 4 rfl rfl⟩, ?_⟩ | refine ⟨⟨_, H.get 5 rfl rfl⟩, ?_⟩ | refine ⟨⟨_, H.get 6 rfl rfl⟩, ?_⟩ | refine ⟨⟨_, H.get 7 rfl rfl⟩, ?_⟩)
      | (first | refine ⟨H.frz 0 rfl, ?_⟩ | refine ⟨H.frz 1 rfl, ?_⟩ | refine ⟨H.frz 2 rfl, ?_⟩ | refine ⟨H.frz 3 rfl, ?_⟩ | refine ⟨H.frz 4 rfl, ?_⟩ | refine ⟨H.frz 5 rfl, ?_⟩ | refine ⟨H.frz 6 rfl, ?_⟩ | refine ⟨H.frz 7 rfl, ?_⟩)
      | (first | refine ⟨_, H.get 0 rfl rfl, ?_⟩ | refine ⟨_, H.get 1 rfl rfl, ?_⟩ | refine ⟨_, H.get 2 rfl rfl, ?_⟩ | refine ⟨_, H.get 3 rfl rfl, ?_⟩ | refine ⟨_, H.get 4 rfl rfl, ?_⟩ | refine ⟨_, H.get 5 rfl rfl, ?_⟩ | refine ⟨_, H.get 6 rfl rfl, ?_⟩ | refine ⟨_, H.get 7 rfl rfl, ?_⟩)
      | (first | refine ⟨_, _, _, H.get 0 rfl rfl, ?_⟩ | refine ⟨_, _, _, H.get 1 rfl rfl, ?_⟩ | refine ⟨_, _, _, H.get 2 rfl rfl, ?_⟩ | refine ⟨_, _, _, H.get 3 rfl rfl, ?_⟩ | refine ⟨_, _, _, H.get 4 rfl rfl, ?_⟩ | refine ⟨_, _, _, H.get 5 rfl rfl, ?_⟩ | refine ⟨_, _, _, H.get 6 rfl rfl, ?_⟩ | refine ⟨_, _, _, H.get 7 rfl rfl, ?_⟩))
    obtain ⟨b, o, kp, kn, kc, hp, hi, hk, hcell⟩ := (hx.ext H.ext).kid g0
    obtain ⟨c0, c1, c2, c3, c4, c5⟩ := hcell Ext.rfl
    refine ⟨b, o, hp, by omega, by omega, _, by simpa using c0, _, by simpa using c1, _, by simpa using c2, _, by simpa using c3, _, by simpa using c4, _, _, _, by simpa using c5, ?_⟩
    repeat (first
      | (intro _ _ hS; replace H := H.new hS; clear hS)
      | (intro _ hS; (first | replace H := H.put 0 rfl hS | replace H := H.put 1 rfl hS | replace H := H.put 2 rfl hS | replace H := H.put 3 rfl hS | replace H := H.put 4 rfl hS | replace H := H.put 5 rfl hS | replace H := H.put 6 rfl hS | replace H := H.put 7 rfl hS); clear hS; try simp only [setA, List.setIfInBounds_toArray, List.set_cons_zero, List.set_cons_succ, Nat.zero_add, Nat.reduceAdd] at H)
      | (intro _ hS; replace H := H.step (Drew.ext hS); clear hS)
      | (first | refine ⟨⟨_, H.get 0 rfl rfl⟩, ?_⟩ | refine ⟨⟨_, H.get 1 rfl rfl⟩, ?_⟩ | refine ⟨⟨_, H.get 2 rfl rfl⟩, ?_⟩ | refine ⟨⟨_, H.get 3 rfl rfl⟩, ?_⟩ | refine ⟨⟨_, H.get 4 rfl rfl⟩, ?_⟩ | refine ⟨⟨_, H.get 5 rfl rfl⟩, ?_⟩ | refine ⟨⟨_, H.get 6 rfl rfl⟩, ?_⟩ | refine ⟨⟨_, H.get 7 rfl rfl⟩, ?_⟩)
      | (first | refine ⟨H.frz 0 rfl, ?_⟩ | refine ⟨H.frz 1 rfl, ?_⟩ | refine ⟨H.frz 2 rfl, ?_⟩ | refine ⟨H.frz 3 rfl, ?_⟩ | refine ⟨H.frz 4 rfl, ?_⟩ | refine ⟨H.frz 5 rfl, ?_⟩ | refine ⟨H.frz 6 rfl, ?_⟩ | refine ⟨H.frz 7 rfl, ?_⟩)
      | (first | refine ⟨_, H.get 0 rfl rfl, ?_⟩ | refine ⟨_, H.get 1 rfl rfl, ?_⟩ | refine ⟨_, H.get 2 rfl rfl, ?_⟩ | refine ⟨_, H.get 3 rfl rfl, ?_⟩ | refine ⟨_, H.get 4 rfl rfl, ?_⟩ | refine ⟨_, H.get 5 rfl rfl, ?_⟩ | refine ⟨_, H.get 6 rfl rfl, ?_⟩ | refine ⟨_, H.get 7 rfl rfl, ?_⟩)
      | (first | refine ⟨_, _, _, H.get 0 rfl rfl, ?_⟩ | refine ⟨_, _, _, H.get 1 rfl rfl, ?_⟩ | refine ⟨_, _, _, H.get 2 rfl rfl, ?_⟩ | refine ⟨_, _, _, H.get 3 rfl rfl, ?_⟩ | refine ⟨_, _, _, H.get 4 rfl rfl, ?_⟩ | refine ⟨_, _, _, H.get 5 rfl rfl, ?_⟩ | refine ⟨_, _, _, H.get 6 rfl rfl, ?_⟩ | refine ⟨_, _, _, H.get 7 rfl rfl, ?_⟩))
    obtain ⟨b', o', lp, ln, lc, hp', hi', hl, hcell'⟩ := (hx.ext H.ext).kid g1
    obtain ⟨d0, d1, d2, d3, d4, d5⟩ := hcell' Ext.rfl
    refine ⟨b', o', hp', by omega, by omega, _, by simpa using d0, _, by simpa using d1, _, by simpa using d2, _, by simpa using d3, _, by simpa using d4, _, _, _, by simpa using d5, ?_⟩
    refine (ih k0 s2 s3 s1 (kid_kind (by omega) hkind g0) (hc.ext H.ext) (hz.ext H.ext) hk).mono ?_
    rintro e W ⟨rfl, eX⟩
    replace H := H.step eX
    have hl := hl.ext eX
    refine ⟨_, rfl, eX.same, (pnot_ok _ _).mono ?_⟩
    rintro e W ⟨rfl, eX⟩
    replace H := H.step eX
    refine ⟨_, rfl, eX.same, (ih k1 t2 t3 t1 (kid_kind (by omega) hkind g1) (hc.ext H.ext) (hz.ext H.ext) (hl.ext eX)).mono ?_⟩
    rintro e W ⟨rfl, eX⟩
    replace H := H.step eX
    refine ⟨_, rfl, (pnot_ok _ _).mono ?_⟩
    rintro e W ⟨rfl, eX⟩
    replace H := H.step eX
    refine ⟨_, rfl, (pboth_ok _ _ _).mono ?_⟩
    rintro e W ⟨rfl, eX⟩
    replace H := H.step eX
    refine ⟨_, rfl, (pnot_ok _ _).mono ?_⟩
    rintro e W ⟨rfl, eX⟩
    exact ⟨_, rfl, rfl, (H.step eX).ext⟩
  rw [if_neg h13]
  refine ⟨fun h15 => ?_, fun h15 => ?_⟩
  · rw [if_pos h15]
    have hlen : x.kids.length = 1 := by have : manyOf x.op = 1 := by rw [h15]; rfl
                                        omega
    have g0 : x.kids[0]? = some (x.kids[0]'(by omega)) := List.getElem?_eq_getElem _
    generalize x.kids[0]'(by omega) = k0 at g0
    obtain ⟨b0, o0, kp0, kn0, kc0, hp0, hi0, hx0, hcell0⟩ := hx.kid g0
    rw [g0, Option.bind_some]
    repeat' (first
    | (refine And.intro ?_ (fun _ _ hS => ?_)
       rotate_left
       have eX := hS.ext; replace H := H.new hS
       (try refine And.intro eX.same ?_)
       rotate_left)
    | (refine And.intro (fun hq => ?_) (fun hq => ?_) <;> (try (exfalso; omega)))
    | (intro _ _ hS
       have eX := hS.ext; replace H := H.new hS
       (try refine And.intro eX.same ?_))
    | (intro _ hS
       (first | replace H := H.put 0 rfl hS | replace H := H.put 1 rfl hS | replace H := H.put 2 rfl hS)
       clear hS
       try simp only [setA, List.setIfInBounds_toArray, List.set_cons_zero, List.set_cons_succ, Nat.zero_add, Nat.reduceAdd] at H)
    | (intro _ hS; replace H := H.step (Drew.ext hS); clear hS)
    | (first | refine ⟨⟨_, H.get 0 rfl rfl⟩, ?_⟩ | refine ⟨⟨_, H.get 1 rfl rfl⟩, ?_⟩)
    | (first | refine ⟨H.frz 0 rfl, ?_⟩ | refine ⟨H.frz 1 rfl, ?_⟩)
    | (first | refine ⟨_, H.get 0 rfl rfl, ?_⟩ | refine ⟨_, H.get 1 rfl rfl, ?_⟩ | refine ⟨_, H.get 2 rfl rfl, ?_⟩ | refine ⟨_, H.get 3 rfl rfl, ?_⟩)
    | (first | refine ⟨_, _, _, H.get 0 rfl rfl, ?_⟩ | refine ⟨_, _, _, H.get 1 rfl rfl, ?_⟩ | refine ⟨_, _, _, H.get 2 rfl rfl, ?_⟩ | refine ⟨_, _, _, H.get 3 rfl rfl, ?_⟩)
    | (obtain ⟨c0, c1, c2, c3, c4, c5⟩ := hcell0 H.ext
       refine ⟨b0, o0, hp0, by omega, by omega, _, by simpa using c0, _, by simpa using c1, _, by simpa using c2, _, by simpa using c3, _, by simpa using c4, _, _, _, by simpa using c5, ?_⟩)
    | (refine (pside_ok (x := k0) (hc.ext H.ext) (hz.ext H.ext) hzo (hx0.ext H.ext) (hno k0 (kid_node g0 (self_node k0))) (hsub 0 k0 g0).1).mono ?_
       rintro e W ⟨lo0, hi0, nu0, m0, rfl, hsd0, eX⟩
       replace H := H.step eX
       refine ⟨_, _, _, _, _, _, _, _, _, rfl, ?_⟩
       (try refine And.intro eX.same ?_))
    | (refine (pwhen_ok _ _ _).mono ?_
       rintro e W ⟨rfl, eX⟩
       replace H := H.step eX
       refine ⟨_, rfl, ?_⟩
       try refine And.intro eX.same ?_)
    | (refine And.intro ?_ H.ext))
    all_goals (first
      | (obtain ⟨s, hs⟩ := Option.isSome_iff_exists.1 hq
         obtain ⟨rfl, rfl, hn, hf, hle⟩ := hsd0 s hs
         apply congrArg Ending.returned; apply congrArg (Value.int .i64)
         rw [hs]
         show _ = S3.i ⟨s.full, s.null, false⟩
         rw [← s3_make3, hn, hf]
         have : decide (nu0 < m0) = decide (nu0 ≠ m0) := by rw [decide_eq_decide]; omega
         rw [this]; rfl)
      | (have hs : sideF cols zones m k0 = none := by
           cases h : sideF cols zones m k0 with
           | none => rfl
           | some s => rw [h] at hq; cases hq
         rw [hs]; rfl))
  rw [if_neg h15]
  by_cases hcmp : x.op = 9 ∨ x.op = 10 ∨ x.op = 11
  · rw [if_pos hcmp]
    have hlen := htwo (by omega)
    have g0 : x.kids[0]? = some (x.kids[0]'(by omega)) := List.getElem?_eq_getElem _
    have g1 : x.kids[1]? = some (x.kids[1]'(by omega)) := List.getElem?_eq_getElem _
    generalize x.kids[0]'(by omega) = k0 at g0
    generalize x.kids[1]'(by omega) = k1 at g1
    obtain ⟨b0, o0, kp0, kn0, kc0, hp0, hi0, hx0, hcell0⟩ := hx.kid g0
    obtain ⟨b1, o1, kp1, kn1, kc1, hp1, hi1, hx1, hcell1⟩ := hx.kid g1
    rw [g0, g1, Option.bind_some, Option.bind_some]
    repeat' (first
    | (refine And.intro ?_ (fun _ _ hS => ?_)
       rotate_left
       have eX := hS.ext; replace H := H.new hS
       (try refine And.intro eX.same ?_)
       rotate_left)
    | (refine And.intro (fun hq => ?_) (fun hq => ?_) <;> (try (exfalso; omega)))
    | (intro _ _ hS
       have eX := hS.ext; replace H := H.new hS
       (try refine And.intro eX.same ?_))
    | (intro _ hS
       (first | replace H := H.put 0 rfl hS | replace H := H.put 1 rfl hS | replace H := H.put 2 rfl hS)
       clear hS
       try simp only [setA, List.setIfInBounds_toArray, List.set_cons_zero, List.set_cons_succ, Nat.zero_add, Nat.reduceAdd] at H)
    | (intro _ hS; replace H := H.step (Drew.ext hS); clear hS)
    | (first | refine ⟨⟨_, H.get 0 rfl rfl⟩, ?_⟩ | refine ⟨⟨_, H.get 1 rfl rfl⟩, ?_⟩)
    | (first | refine ⟨H.frz 0 rfl, ?_⟩ | refine ⟨H.frz 1 rfl, ?_⟩)
    | (first | refine ⟨_, H.get 0 rfl rfl, ?_⟩ | refine ⟨_, H.get 1 rfl rfl, ?_⟩ | refine ⟨_, H.get 2 rfl rfl, ?_⟩ | refine ⟨_, H.get 3 rfl rfl, ?_⟩)
    | (first | refine ⟨_, _, _, H.get 0 rfl rfl, ?_⟩ | refine ⟨_, _, _, H.get 1 rfl rfl, ?_⟩ | refine ⟨_, _, _, H.get 2 rfl rfl, ?_⟩ | refine ⟨_, _, _, H.get 3 rfl rfl, ?_⟩)
    | (obtain ⟨c0, c1, c2, c3, c4, c5⟩ := hcell0 H.ext
       refine ⟨b0, o0, hp0, by omega, by omega, _, by simpa using c0, _, by simpa using c1, _, by simpa using c2, _, by simpa using c3, _, by simpa using c4, _, _, _, by simpa using c5, ?_⟩)
    | (obtain ⟨c0, c1, c2, c3, c4, c5⟩ := hcell1 H.ext
       refine ⟨b1, o1, hp1, by omega, by omega, _, by simpa using c0, _, by simpa using c1, _, by simpa using c2, _, by simpa using c3, _, by simpa using c4, _, _, _, by simpa using c5, ?_⟩)
    | (refine (pside_ok (x := k0) (hc.ext H.ext) (hz.ext H.ext) hzo (hx0.ext H.ext) (hno k0 (kid_node g0 (self_node k0))) (hsub 0 k0 g0).1).mono ?_
       rintro e W ⟨lo0, hi0, nu0, m0, rfl, hsd0, eX⟩
       replace H := H.step eX
       refine ⟨_, _, _, _, _, _, _, _, _, rfl, ?_⟩
       (try refine And.intro eX.same ?_))
    | (refine (pside_ok (x := k1) (hc.ext H.ext) (hz.ext H.ext) hzo (hx1.ext H.ext) (hno k1 (kid_node g1 (self_node k1))) (hsub 1 k1 g1).1).mono ?_
       rintro e W ⟨lo1, hi1, nu1, m1, rfl, hsd1, eX⟩
       replace H := H.step eX
       refine ⟨_, _, _, _, _, _, _, _, _, rfl, ?_⟩
       (try refine And.intro eX.same ?_))
    | (obtain ⟨s0, hs0⟩ := Option.isSome_iff_exists.1 hq.1
       obtain ⟨s1, hs1⟩ := Option.isSome_iff_exists.1 hq.2
       refine (pcompared_ok (op := x.op) (hsd0 s0 hs0) (hsd1 s1 hs1) _).mono ?_
       rintro e W ⟨rfl, eX⟩
       replace H := H.step eX
       refine ⟨_, rfl, ?_, H.ext⟩
       rw [hs0, hs1])
    | (refine And.intro ?_ H.ext))
    all_goals (
      cases h0 : sideF cols zones m k0 with
      | none => rfl
      | some s0 =>
        cases h1 : sideF cols zones m k1 with
        | none => rfl
        | some s1 => rw [h0, h1] at hq; simp at hq)
  · rw [if_neg hcmp]
    repeat' (first
    | (refine And.intro (fun hq => ?_) (fun hq => ?_) <;> (try (exfalso; omega)))
    | (refine And.intro ?_ H.ext))
    all_goals rfl
end Go.Proofs.YtpjafkcmbinjiaaDoor

/- The verification conditions of the functions, evaluated: printed by program. -/
namespace Go.Proofs.YtpjafkcmbinjiaaDoor
open Go Go.Vc
set_option maxRecDepth 20000

set_option maxRecDepth 100000 in
def many_T (op : Int) (w : World) (R : Ending → World → Prop) : Prop :=
  (op = 1 → (op = 1 → R (.returned (.int .i64 0)) w) ∧ (op ≠ 1 → (op = 8 → (op = 8 → R (.returned (.int .i64 1)) w) ∧ (op ≠ 8 → (op = 3 → (op = 3 → R (.returned (.int .i64 2)) w) ∧ (op ≠ 3 → R (.returned (.int .i64 (-1))) w)) ∧ (op ≠ 3 → (op = 4 → (op = 4 → R (.returned (.int .i64 2)) w) ∧ (op ≠ 4 → R (.returned (.int .i64 (-1))) w)) ∧ (op ≠ 4 → (op = 5 → (op = 5 → R (.returned (.int .i64 2)) w) ∧ (op ≠ 5 → R (.returned (.int .i64 (-1))) w)) ∧ (op ≠ 5 → (op = 6 → (op = 6 → R (.returned (.int .i64 2)) w) ∧ (op ≠ 6 → R (.returned (.int .i64 (-1))) w)) ∧ (op ≠ 6 → (op = 7 → (op = 7 → R (.returned (.int .i64 2)) w) ∧ (op ≠ 7 → R (.returned (.int .i64 (-1))) w)) ∧ (op ≠ 7 → (op = 9 → (op = 9 → R (.returned (.int .i64 2)) w) ∧ (op ≠ 9 → R (.returned (.int .i64 (-1))) w)) ∧ (op ≠ 9 → (op = 10 → (op = 10 → R (.returned (.int .i64 2)) w) ∧ (op ≠ 10 → R (.returned (.int .i64 (-1))) w)) ∧ (op ≠ 10 → (op = 11 → (op = 11 → R (.returned (.int .i64 2)) w) ∧ (op ≠ 11 → R (.returned (.int .i64 (-1))) w)) ∧ (op ≠ 11 → (op = 12 → (op = 12 → R (.returned (.int .i64 2)) w) ∧ (op ≠ 12 → R (.returned (.int .i64 (-1))) w)) ∧ (op ≠ 12 → (op = 13 → R (.returned (.int .i64 2)) w) ∧ (op ≠ 13 → R (.returned (.int .i64 (-1))) w)))))))))))) ∧ (op ≠ 8 → (op = 14 → (op = 14 → R (.returned (.int .i64 1)) w) ∧ (op ≠ 14 → (op = 3 → (op = 3 → R (.returned (.int .i64 2)) w) ∧ (op ≠ 3 → R (.returned (.int .i64 (-1))) w)) ∧ (op ≠ 3 → (op = 4 → (op = 4 → R (.returned (.int .i64 2)) w) ∧ (op ≠ 4 → R (.returned (.int .i64 (-1))) w)) ∧ (op ≠ 4 → (op = 5 → (op = 5 → R (.returned (.int .i64 2)) w) ∧ (op ≠ 5 → R (.returned (.int .i64 (-1))) w)) ∧ (op ≠ 5 → (op = 6 → (op = 6 → R (.returned (.int .i64 2)) w) ∧ (op ≠ 6 → R (.returned (.int .i64 (-1))) w)) ∧ (op ≠ 6 → (op = 7 → (op = 7 → R (.returned (.int .i64 2)) w) ∧ (op ≠ 7 → R (.returned (.int .i64 (-1))) w)) ∧ (op ≠ 7 → (op = 9 → (op = 9 → R (.returned (.int .i64 2)) w) ∧ (op ≠ 9 → R (.returned (.int .i64 (-1))) w)) ∧ (op ≠ 9 → (op = 10 → (op = 10 → R (.returned (.int .i64 2)) w) ∧ (op ≠ 10 → R (.returned (.int .i64 (-1))) w)) ∧ (op ≠ 10 → (op = 11 → (op = 11 → R (.returned (.int .i64 2)) w) ∧ (op ≠ 11 → R (.returned (.int .i64 (-1))) w)) ∧ (op ≠ 11 → (op = 12 → (op = 12 → R (.returned (.int .i64 2)) w) ∧ (op ≠ 12 → R (.returned (.int .i64 (-1))) w)) ∧ (op ≠ 12 → (op = 13 → R (.returned (.int .i64 2)) w) ∧ (op ≠ 13 → R (.returned (.int .i64 (-1))) w)))))))))))) ∧ (op ≠ 14 → (op = 15 → (op = 15 → R (.returned (.int .i64 1)) w) ∧ (op ≠ 15 → (op = 3 → (op = 3 → R (.returned (.int .i64 2)) w) ∧ (op ≠ 3 → R (.returned (.int .i64 (-1))) w)) ∧ (op ≠ 3 → (op = 4 → (op = 4 → R (.returned (.int .i64 2)) w) ∧ (op ≠ 4 → R (.returned (.int .i64 (-1))) w)) ∧ (op ≠ 4 → (op = 5 → (op = 5 → R (.returned (.int .i64 2)) w) ∧ (op ≠ 5 → R (.returned (.int .i64 (-1))) w)) ∧ (op ≠ 5 → (op = 6 → (op = 6 → R (.returned (.int .i64 2)) w) ∧ (op ≠ 6 → R (.returned (.int .i64 (-1))) w)) ∧ (op ≠ 6 → (op = 7 → (op = 7 → R (.returned (.int .i64 2)) w) ∧ (op ≠ 7 → R (.returned (.int .i64 (-1))) w)) ∧ (op ≠ 7 → (op = 9 → (op = 9 → R (.returned (.int .i64 2)) w) ∧ (op ≠ 9 → R (.returned (.int .i64 (-1))) w)) ∧ (op ≠ 9 → (op = 10 → (op = 10 → R (.returned (.int .i64 2)) w) ∧ (op ≠ 10 → R (.returned (.int .i64 (-1))) w)) ∧ (op ≠ 10 → (op = 11 → (op = 11 → R (.returned (.int .i64 2)) w) ∧ (op ≠ 11 → R (.returned (.int .i64 (-1))) w)) ∧ (op ≠ 11 → (op = 12 → (op = 12 → R (.returned (.int .i64 2)) w) ∧ (op ≠ 12 → R (.returned (.int .i64 (-1))) w)) ∧ (op ≠ 12 → (op = 13 → R (.returned (.int .i64 2)) w) ∧ (op ≠ 13 → R (.returned (.int .i64 (-1))) w)))))))))))) ∧ (op ≠ 15 → (op = 16 → R (.returned (.int .i64 1)) w) ∧ (op ≠ 16 → (op = 3 → (op = 3 → R (.returned (.int .i64 2)) w) ∧ (op ≠ 3 → R (.returned (.int .i64 (-1))) w)) ∧ (op ≠ 3 → (op = 4 → (op = 4 → R (.returned (.int .i64 2)) w) ∧ (op ≠ 4 → R (.returned (.int .i64 (-1))) w)) ∧ (op ≠ 4 → (op = 5 → (op = 5 → R (.returned (.int .i64 2)) w) ∧ (op ≠ 5 → R (.returned (.int .i64 (-1))) w)) ∧ (op ≠ 5 → (op = 6 → (op = 6 → R (.returned (.int .i64 2)) w) ∧ (op ≠ 6 → R (.returned (.int .i64 (-1))) w)) ∧ (op ≠ 6 → (op = 7 → (op = 7 → R (.returned (.int .i64 2)) w) ∧ (op ≠ 7 → R (.returned (.int .i64 (-1))) w)) ∧ (op ≠ 7 → (op = 9 → (op = 9 → R (.returned (.int .i64 2)) w) ∧ (op ≠ 9 → R (.returned (.int .i64 (-1))) w)) ∧ (op ≠ 9 → (op = 10 → (op = 10 → R (.returned (.int .i64 2)) w) ∧ (op ≠ 10 → R (.returned (.int .i64 (-1))) w)) ∧ (op ≠ 10 → (op = 11 → (op = 11 → R (.returned (.int .i64 2)) w) ∧ (op ≠ 11 → R (.returned (.int .i64 (-1))) w)) ∧ (op ≠ 11 → (op = 12 → (op = 12 → R (.returned (.int .i64 2)) w) ∧ (op ≠ 12 → R (.returned (.int .i64 (-1))) w)) ∧ (op ≠ 12 → (op = 13 → R (.returned (.int .i64 2)) w) ∧ (op ≠ 13 → R (.returned (.int .i64 (-1))) w)))))))))))))))) ∧ (op ≠ 1 → (op = 2 → R (.returned (.int .i64 0)) w) ∧ (op ≠ 2 → (op = 8 → (op = 8 → R (.returned (.int .i64 1)) w) ∧ (op ≠ 8 → (op = 3 → (op = 3 → R (.returned (.int .i64 2)) w) ∧ (op ≠ 3 → R (.returned (.int .i64 (-1))) w)) ∧ (op ≠ 3 → (op = 4 → (op = 4 → R (.returned (.int .i64 2)) w) ∧ (op ≠ 4 → R (.returned (.int .i64 (-1))) w)) ∧ (op ≠ 4 → (op = 5 → (op = 5 → R (.returned (.int .i64 2)) w) ∧ (op ≠ 5 → R (.returned (.int .i64 (-1))) w)) ∧ (op ≠ 5 → (op = 6 → (op = 6 → R (.returned (.int .i64 2)) w) ∧ (op ≠ 6 → R (.returned (.int .i64 (-1))) w)) ∧ (op ≠ 6 → (op = 7 → (op = 7 → R (.returned (.int .i64 2)) w) ∧ (op ≠ 7 → R (.returned (.int .i64 (-1))) w)) ∧ (op ≠ 7 → (op = 9 → (op = 9 → R (.returned (.int .i64 2)) w) ∧ (op ≠ 9 → R (.returned (.int .i64 (-1))) w)) ∧ (op ≠ 9 → (op = 10 → (op = 10 → R (.returned (.int .i64 2)) w) ∧ (op ≠ 10 → R (.returned (.int .i64 (-1))) w)) ∧ (op ≠ 10 → (op = 11 → (op = 11 → R (.returned (.int .i64 2)) w) ∧ (op ≠ 11 → R (.returned (.int .i64 (-1))) w)) ∧ (op ≠ 11 → (op = 12 → (op = 12 → R (.returned (.int .i64 2)) w) ∧ (op ≠ 12 → R (.returned (.int .i64 (-1))) w)) ∧ (op ≠ 12 → (op = 13 → R (.returned (.int .i64 2)) w) ∧ (op ≠ 13 → R (.returned (.int .i64 (-1))) w)))))))))))) ∧ (op ≠ 8 → (op = 14 → (op = 14 → R (.returned (.int .i64 1)) w) ∧ (op ≠ 14 → (op = 3 → (op = 3 → R (.returned (.int .i64 2)) w) ∧ (op ≠ 3 → R (.returned (.int .i64 (-1))) w)) ∧ (op ≠ 3 → (op = 4 → (op = 4 → R (.returned (.int .i64 2)) w) ∧ (op ≠ 4 → R (.returned (.int .i64 (-1))) w)) ∧ (op ≠ 4 → (op = 5 → (op = 5 → R (.returned (.int .i64 2)) w) ∧ (op ≠ 5 → R (.returned (.int .i64 (-1))) w)) ∧ (op ≠ 5 → (op = 6 → (op = 6 → R (.returned (.int .i64 2)) w) ∧ (op ≠ 6 → R (.returned (.int .i64 (-1))) w)) ∧ (op ≠ 6 → (op = 7 → (op = 7 → R (.returned (.int .i64 2)) w) ∧ (op ≠ 7 → R (.returned (.int .i64 (-1))) w)) ∧ (op ≠ 7 → (op = 9 → (op = 9 → R (.returned (.int .i64 2)) w) ∧ (op ≠ 9 → R (.returned (.int .i64 (-1))) w)) ∧ (op ≠ 9 → (op = 10 → (op = 10 → R (.returned (.int .i64 2)) w) ∧ (op ≠ 10 → R (.returned (.int .i64 (-1))) w)) ∧ (op ≠ 10 → (op = 11 → (op = 11 → R (.returned (.int .i64 2)) w) ∧ (op ≠ 11 → R (.returned (.int .i64 (-1))) w)) ∧ (op ≠ 11 → (op = 12 → (op = 12 → R (.returned (.int .i64 2)) w) ∧ (op ≠ 12 → R (.returned (.int .i64 (-1))) w)) ∧ (op ≠ 12 → (op = 13 → R (.returned (.int .i64 2)) w) ∧ (op ≠ 13 → R (.returned (.int .i64 (-1))) w)))))))))))) ∧ (op ≠ 14 → (op = 15 → (op = 15 → R (.returned (.int .i64 1)) w) ∧ (op ≠ 15 → (op = 3 → (op = 3 → R (.returned (.int .i64 2)) w) ∧ (op ≠ 3 → R (.returned (.int .i64 (-1))) w)) ∧ (op ≠ 3 → (op = 4 → (op = 4 → R (.returned (.int .i64 2)) w) ∧ (op ≠ 4 → R (.returned (.int .i64 (-1))) w)) ∧ (op ≠ 4 → (op = 5 → (op = 5 → R (.returned (.int .i64 2)) w) ∧ (op ≠ 5 → R (.returned (.int .i64 (-1))) w)) ∧ (op ≠ 5 → (op = 6 → (op = 6 → R (.returned (.int .i64 2)) w) ∧ (op ≠ 6 → R (.returned (.int .i64 (-1))) w)) ∧ (op ≠ 6 → (op = 7 → (op = 7 → R (.returned (.int .i64 2)) w) ∧ (op ≠ 7 → R (.returned (.int .i64 (-1))) w)) ∧ (op ≠ 7 → (op = 9 → (op = 9 → R (.returned (.int .i64 2)) w) ∧ (op ≠ 9 → R (.returned (.int .i64 (-1))) w)) ∧ (op ≠ 9 → (op = 10 → (op = 10 → R (.returned (.int .i64 2)) w) ∧ (op ≠ 10 → R (.returned (.int .i64 (-1))) w)) ∧ (op ≠ 10 → (op = 11 → (op = 11 → R (.returned (.int .i64 2)) w) ∧ (op ≠ 11 → R (.returned (.int .i64 (-1))) w)) ∧ (op ≠ 11 → (op = 12 → (op = 12 → R (.returned (.int .i64 2)) w) ∧ (op ≠ 12 → R (.returned (.int .i64 (-1))) w)) ∧ (op ≠ 12 → (op = 13 → R (.returned (.int .i64 2)) w) ∧ (op ≠ 13 → R (.returned (.int .i64 (-1))) w)))))))))))) ∧ (op ≠ 15 → (op = 16 → R (.returned (.int .i64 1)) w) ∧ (op ≠ 16 → (op = 3 → (op = 3 → R (.returned (.int .i64 2)) w) ∧ (op ≠ 3 → R (.returned (.int .i64 (-1))) w)) ∧ (op ≠ 3 → (op = 4 → (op = 4 → R (.returned (.int .i64 2)) w) ∧ (op ≠ 4 → R (.returned (.int .i64 (-1))) w)) ∧ (op ≠ 4 → (op = 5 → (op = 5 → R (.returned (.int .i64 2)) w) ∧ (op ≠ 5 → R (.returned (.int .i64 (-1))) w)) ∧ (op ≠ 5 → (op = 6 → (op = 6 → R (.returned (.int .i64 2)) w) ∧ (op ≠ 6 → R (.returned (.int .i64 (-1))) w)) ∧ (op ≠ 6 → (op = 7 → (op = 7 → R (.returned (.int .i64 2)) w) ∧ (op ≠ 7 → R (.returned (.int .i64 (-1))) w)) ∧ (op ≠ 7 → (op = 9 → (op = 9 → R (.returned (.int .i64 2)) w) ∧ (op ≠ 9 → R (.returned (.int .i64 (-1))) w)) ∧ (op ≠ 9 → (op = 10 → (op = 10 → R (.returned (.int .i64 2)) w) ∧ (op ≠ 10 → R (.returned (.int .i64 (-1))) w)) ∧ (op ≠ 10 → (op = 11 → (op = 11 → R (.returned (.int .i64 2)) w) ∧ (op ≠ 11 → R (.returned (.int .i64 (-1))) w)) ∧ (op ≠ 11 → (op = 12 → (op = 12 → R (.returned (.int .i64 2)) w) ∧ (op ≠ 12 → R (.returned (.int .i64 (-1))) w)) ∧ (op ≠ 12 → (op = 13 → R (.returned (.int .i64 2)) w) ∧ (op ≠ 13 → R (.returned (.int .i64 (-1))) w))))))))))))))))

set_option maxRecDepth 100000 in
theorem many_eq (op : Int) (w : World) (R : Ending → World → Prop) : many_T op w R = vcFn Tryd.prog [] [] Tryd.f85 [.int .i64 op] w R := by kernel_rfl

set_option maxRecDepth 100000 in
theorem many_vc (op : Int) (w : World) (R : Ending → World → Prop) (h : many_T op w R) : Calls Tryd.prog 85 #[.int .i64 op] w R :=
  calls_of_vc (args := [.int .i64 op]) [] [] Tryd.mixed Tryd.func85 (cast (many_eq _ w R) h)

set_option maxRecDepth 100000 in
def rformed_T (x0 : Int) (x1 : ByteArray) (x2 : Int) (x3 : Int) (x4 : ByteArray) (x5_p : Option Addr) (x5_n : Nat) (x5_c : Nat) (depth : Int) (left : Int) (w : World) (R : Ending → World → Prop) : Prop :=
  ∀ b1 w'2, New w (Obj.cells #[.int .i64 x0, .string x1, .int .i64 x2, .int .i64 x3, .string x4, .slice x5_p x5_n x5_c] 28) b1
 w'2 → ∃ n4, w'2.cell? ⟨b1, 2, none⟩ = some (.int .i64 n4) ∧ ∃ n5, w'2.cell? ⟨b1, 3, none⟩ = some (.int .i64 n5) ∧ ∃ s6, w'2.cell? ⟨b1, 4, none⟩ = some (.string s6) ∧ Calls Tryd.prog 18 #[.agg #[.int .i64 n4, .int .i64 n5, .string s6]] w'2 fun e7 w8 ↦
 ∃ b9, e7 = .returned (.bool b9) ∧ ∀ w'10, Drew w8 w'10 → (depth < 1 ∨ left < 1 → SameTo w'10 w'10 w'10 ∧ R (.returned (.int .i64 (-1))) w'10) ∧ (1 ≤ depth ∧ 1 ≤ left → ∃ p14 n15 c16, w'10.cell? ⟨b1, 5, none⟩ = some (.slice p14 n15 c16) ∧ ∃ n17, w'10.cell? ⟨b1, 0, none⟩ = some (.int .i64 n17) ∧ Calls Tryd.prog 85 #[.int .i64 n17] w'10 fun e18 w19 ↦
 ∃ n20, e18 = .returned (.int .i64 n20) ∧ SameTo w'10 w'10 w19 ∧ ((↑n15 : Int) ≠ n20 ∨ b9 = false → R (.returned (.int .i64 (-1))) w19) ∧ ((↑n15 : Int) = n20 ∧ b9 = true → ∃ n23, w19.cell? ⟨b1, 0, none⟩ = some (.int .i64 n23) ∧ (n23 ≠ 1 → ∃ s25, w19.cell? ⟨b1, 1, none⟩ = some (.string s25) ∧ (s25 ≠ ByteArray.mk #[] → R (.returned (.int .i64 (-1))) w19) ∧ (s25 = ByteArray.mk #[] → ∃ n28, w19.cell? ⟨b1, 0, none⟩ = some (.int .i64 n28) ∧ (n28 ≠ 2 → ∃ n30, w19.cell? ⟨b1, 2, none⟩ = some (.int .i64 n30) ∧ ∃ n31, w19.cell? ⟨b1, 3, none⟩ = some (.int .i64 n31) ∧ ∃ s32, w19.cell? ⟨b1, 4, none⟩ = some (.string s32) ∧ (n30 ≠ 0 ∨ n31 ≠ 0 ∨ s32 ≠ ByteArray.mk #[] → R (.returned (.int .i64 (-1))) w19) ∧ (n30 = 0 ∧ n31 = 0 ∧ s32 = ByteArray.mk #[] → ∃ (I35 : Int → Int → World → Prop), ∃ (M36 : Int → Int → World → Nat), I35 (IntKind.i64.wrap (left - 1)) 0 w19 ∧ ∀ (n37 n38 : Int) (w'39 : World), I35 n37 n38 w'39 → ∃ p41 n42 c43, w'39.cell? ⟨b1, 5, none⟩ = some (.slice p41 n42 c43) ∧ (n38 < (↑n42 : Int) ∧ 0 ≤ n37 → ∃ p45 n46 c47, w'39.cell? ⟨b1, 5, none⟩ = some (.slice p45 n46 c47) ∧ ∃ b48, ∃ o49, p45 = some ⟨b48, o49, none⟩ ∧ 0 ≤ n38 ∧ n38 < (↑n46 : Int) ∧ ∃ n50, w'39.cell? ⟨b48, (o49 + n38.toNat * 6), none⟩ = some (.int .i64 n50) ∧ ∃ s51, w'39.cell? ⟨b48, (o49 + n38.toNat * 6 + 1), none⟩ = some (.string s51) ∧ ∃ n52, w'39.cell? ⟨b48, (o49 + n38.toNat * 6 + 2), none⟩ = some (.int .i64 n52) ∧ ∃ n53, w'39.cell? ⟨b48, (o49 + n38.toNat * 6 + 3), none⟩ = some (.int .i64 n53) ∧ ∃ s54, w'39.cell? ⟨b48, (o49 + n38.toNat * 6 + 4), none⟩ = some (.string s54) ∧ ∃ p55 n56 c57, w'39.cell? ⟨b48, (o49 + n38.toNat * 6 + 5), none⟩ = some (.slice p55 n56 c57) ∧ Calls Tryd.prog 67
 #[.agg #[.int .i64 n50, .string s51, .int .i64 n52, .int .i64 n53, .string s54, .slice p55 n56 c57], .int .i64 (IntKind.i64.wrap (depth - 1)), .int .i64 n37]
 w'39 fun e58 w59 ↦
 ∃ n60, e58 = .returned (.int .i64 n60) ∧ I35 n60 (IntKind.i64.wrap (n38 + 1)) w59 ∧ M36 n60 (IntKind.i64.wrap (n38 + 1)) w59 < M36 n37 n38 w'39) ∧ ((↑n42 : Int) ≤ n38 ∨ n37 < 0 → R (.returned (.int .i64 n37)) w'39))) ∧ (n28 = 2 → ∃ (I63 : Int → Int → World → Prop), ∃ (M64 : Int → Int → World → Nat), I63 (IntKind.i64.wrap (left - 1)) 0 w19 ∧ ∀ (n65 n66 : Int) (w'67 : World), I63 n65 n66 w'67 → ∃ p69 n70 c71, w'67.cell? ⟨b1, 5, none⟩ = some (.slice p69 n70 c71) ∧ (n66 < (↑n70 : Int) ∧ 0 ≤ n65 → ∃ p73 n74 c75, w'67.cell? ⟨b1, 5, none⟩ = some (.slice p73 n74 c75) ∧ ∃ b76, ∃ o77, p73 = some ⟨b76, o77, none⟩ ∧ 0 ≤ n66 ∧ n66 < (↑n74 : Int) ∧ ∃ n78, w'67.cell? ⟨b76, (o77 + n66.toNat * 6), none⟩ = some (.int .i64 n78) ∧ ∃ s79, w'67.cell? ⟨b76, (o77 + n66.toNat * 6 + 1), none⟩ = some (.string s79) ∧ ∃ n80, w'67.cell? ⟨b76, (o77 + n66.toNat * 6 + 2), none⟩ = some (.int .i64 n80) ∧ ∃ n81, w'67.cell? ⟨b76, (o77 + n66.toNat * 6 + 3), none⟩ = some (.int .i64 n81) ∧ ∃ s82, w'67.cell? ⟨b76, (o77 + n66.toNat * 6 + 4), none⟩ = some (.string s82) ∧ ∃ p83 n84 c85, w'67.cell? ⟨b76, (o77 + n66.toNat * 6 + 5), none⟩ = some (.slice p83 n84 c85) ∧ Calls Tryd.prog 67
 #[.agg #[.int .i64 n78, .string s79, .int .i64 n80, .int .i64 n81, .string s82, .slice p83 n84 c85], .int .i64 (IntKind.i64.wrap (depth - 1)), .int .i64 n65]
 w'67 fun e86 w87 ↦
 ∃ n88, e86 = .returned (.int .i64 n88) ∧ I63 n88 (IntKind.i64.wrap (n66 + 1)) w87 ∧ M64 n88 (IntKind.i64.wrap (n66 + 1)) w87 < M64 n65 n66 w'67) ∧ ((↑n70 : Int) ≤ n66 ∨ n65 < 0 → R (.returned (.int .i64 n65)) w'67)))) ∧ (n23 = 1 → ∃ n91, w19.cell? ⟨b1, 0, none⟩ = some (.int .i64 n91) ∧ (n91 ≠ 2 → ∃ n93, w19.cell? ⟨b1, 2, none⟩ = some (.int .i64 n93) ∧ ∃ n94, w19.cell? ⟨b1, 3, none⟩ = some (.int .i64 n94) ∧ ∃ s95, w19.cell? ⟨b1, 4, none⟩ = some (.string s95) ∧ (n93 ≠ 0 ∨ n94 ≠ 0 ∨ s95 ≠ ByteArray.mk #[] → R (.returned (.int .i64 (-1))) w19) ∧ (n93 = 0 ∧ n94 = 0 ∧ s95 = ByteArray.mk #[] → ∃ (I98 : Int → Int → World → Prop), ∃ (M99 : Int → Int → World → Nat), I98 (IntKind.i64.wrap (left - 1)) 0 w19 ∧ ∀ (n100 n101 : Int) (w'102 : World), I98 n100 n101 w'102 → ∃ p104 n105 c106, w'102.cell? ⟨b1, 5, none⟩ = some (.slice p104 n105 c106) ∧ (n101 < (↑n105 : Int) ∧ 0 ≤ n100 → ∃ p108 n109 c110, w'102.cell? ⟨b1, 5, none⟩ = some (.slice p108 n109 c110) ∧ ∃ b111, ∃ o112, p108 = some ⟨b111, o112, none⟩ ∧ 0 ≤ n101 ∧ n101 < (↑n109 : Int) ∧ ∃ n113, w'102.cell? ⟨b111, (o112 + n101.toNat * 6), none⟩ = some (.int .i64 n113) ∧ ∃ s114, w'102.cell? ⟨b111, (o112 + n101.toNat * 6 + 1), none⟩ = some (.string s114) ∧ ∃ n115, w'102.cell? ⟨b111, (o112 + n101.toNat * 6 + 2), none⟩ = some (.int .i64 n115) ∧ ∃ n116, w'102.cell? ⟨b111, (o112 + n101.toNat * 6 + 3), none⟩ = some (.int .i64 n116) ∧ ∃ s117, w'102.cell? ⟨b111, (o112 + n101.toNat * 6 + 4), none⟩ = some (.string s117) ∧ ∃ p118 n119 c120, w'102.cell? ⟨b111, (o112 + n101.toNat * 6 + 5), none⟩ = some (.slice p118 n119 c120) ∧ Calls Tryd.prog 67
 #[.agg #[.int .i64 n113, .string s114, .int .i64 n115, .int .i64 n116, .string s117, .slice p118 n119 c120], .int .i64 (IntKind.i64.wrap (depth - 1)), .int .i64 n100]
 w'102 fun e121 w122 ↦
 ∃ n123, e121 = .returned (.int .i64 n123) ∧ I98 n123 (IntKind.i64.wrap (n101 + 1)) w122 ∧ M99 n123 (IntKind.i64.wrap (n101 + 1)) w122 < M99 n100 n101 w'102) ∧ ((↑n105 : Int) ≤ n101 ∨ n100 < 0 → R (.returned (.int .i64 n100)) w'102))) ∧ (n91 = 2 → ∃ (I126 : Int → Int → World → Prop), ∃ (M127 : Int → Int → World → Nat), I126 (IntKind.i64.wrap (left - 1)) 0 w19 ∧ ∀ (n128 n129 : Int) (w'130 : World), I126 n128 n129 w'130 → ∃ p132 n133 c134, w'130.cell? ⟨b1, 5, none⟩ = some (.slice p132 n133 c134) ∧ (n129 < (↑n133 : Int) ∧ 0 ≤ n128 → ∃ p136 n137 c138, w'130.cell? ⟨b1, 5, none⟩ = some (.slice p136 n137 c138) ∧ ∃ b139, ∃ o140, p136 = some ⟨b139, o140, none⟩ ∧ 0 ≤ n129 ∧ n129 < (↑n137 : Int) ∧ ∃ n141, w'130.cell? ⟨b139, (o140 + n129.toNat * 6), none⟩ = some (.int .i64 n141) ∧ ∃ s142, w'130.cell? ⟨b139, (o140 + n129.toNat * 6 + 1), none⟩ = some (.string s142) ∧ ∃ n143, w'130.cell? ⟨b139, (o140 + n129.toNat * 6 + 2), none⟩ = some (.int .i64 n143) ∧ ∃ n144, w'130.cell? ⟨b139, (o140 + n129.toNat * 6 + 3), none⟩ = some (.int .i64 n144) ∧ ∃ s145, w'130.cell? ⟨b139, (o140 + n129.toNat * 6 + 4), none⟩ = some (.string s145) ∧ ∃ p146 n147 c148, w'130.cell? ⟨b139, (o140 + n129.toNat * 6 + 5), none⟩ = some (.slice p146 n147 c148) ∧ Calls Tryd.prog 67
 #[.agg #[.int .i64 n141, .string s142, .int .i64 n143, .int .i64 n144, .string s145, .slice p146 n147 c148], .int .i64 (IntKind.i64.wrap (depth - 1)), .int .i64 n128]
 w'130 fun e149 w150 ↦
 ∃ n151, e149 = .returned (.int .i64 n151) ∧ I126 n151 (IntKind.i64.wrap (n129 + 1)) w150 ∧ M127 n151 (IntKind.i64.wrap (n129 + 1)) w150 < M127 n128 n129 w'130) ∧ ((↑n133 : Int) ≤ n129 ∨ n128 < 0 → R (.returned (.int .i64 n128)) w'130)))))

set_option maxRecDepth 100000 in
theorem rformed_eq (x0 : Int) (x1 : ByteArray) (x2 : Int) (x3 : Int) (x4 : ByteArray) (x5_p : Option Addr) (x5_n : Nat) (x5_c : Nat) (depth : Int) (left : Int) (w : World) (R : Ending → World → Prop) : rformed_T x0 x1 x2 x3 x4 x5_p x5_n x5_c depth left w R = vcFn Tryd.prog [] [(2, [2, 4, 6, 8, 10, 12, 14, 16, 18, 20, 22, 24, 27, 28, 30, 32, 34, 36, 38, 40, 42, 44, 46, 48, 50, 52, 54, 56, 58, 60, 62, 64, 66, 68, 70, 72, 74, 76, 78, 80, 0])] Tryd.f67 [Value.agg
 #[.int .i64 x0, .string x1, .int .i64 x2, .int .i64 x3, .string x4, .slice x5_p x5_n x5_c], .int .i64 depth, .int .i64 left] w R := by kernel_rfl

set_option maxRecDepth 100000 in
theorem rformed_vc (x0 : Int) (x1 : ByteArray) (x2 : Int) (x3 : Int) (x4 : ByteArray) (x5_p : Option Addr) (x5_n : Nat) (x5_c : Nat) (depth : Int) (left : Int) (w : World) (R : Ending → World → Prop) (h : rformed_T x0 x1 x2 x3 x4 x5_p x5_n x5_c depth left w R) : Calls Tryd.prog 67 #[Value.agg
 #[.int .i64 x0, .string x1, .int .i64 x2, .int .i64 x3, .string x4, .slice x5_p x5_n x5_c], .int .i64 depth, .int .i64 left] w R :=
  calls_of_vc (args := [Value.agg
 #[.int .i64 x0, .string x1, .int .i64 x2, .int .i64 x3, .string x4, .slice x5_p x5_n x5_c], .int .i64 depth, .int .i64 left]) [] [(2, [2, 4, 6, 8, 10, 12, 14, 16, 18, 20, 22, 24, 27, 28, 30, 32, 34, 36, 38, 40, 42, 44, 46, 48, 50, 52, 54, 56, 58, 60, 62, 64, 66, 68, 70, 72, 74, 76, 78, 80, 0])] Tryd.mixed Tryd.func67 (cast (rformed_eq _ _ _ _ _ _ _ _ _ _ w R) h)

set_option maxRecDepth 100000 in
def rFormed_T (x0 : Int) (x1 : ByteArray) (x2 : Int) (x3 : Int) (x4 : ByteArray) (x5_p : Option Addr) (x5_n : Nat) (x5_c : Nat) (w : World) (R : Ending → World → Prop) : Prop :=
  ∀ b1 w'2, New w (Obj.cells #[.int .i64 x0, .string x1, .int .i64 x2, .int .i64 x3, .string x4, .slice x5_p x5_n x5_c] 28) b1
 w'2 → ∃ n4, w'2.cell? ⟨b1, 0, none⟩ = some (.int .i64 n4) ∧ ∃ s5, w'2.cell? ⟨b1, 1, none⟩ = some (.string s5) ∧ ∃ n6, w'2.cell? ⟨b1, 2, none⟩ = some (.int .i64 n6) ∧ ∃ n7, w'2.cell? ⟨b1, 3, none⟩ = some (.int .i64 n7) ∧ ∃ s8, w'2.cell? ⟨b1, 4, none⟩ = some (.string s8) ∧ ∃ p9 n10 c11, w'2.cell? ⟨b1, 5, none⟩ = some (.slice p9 n10 c11) ∧ Calls Tryd.prog 67
 #[.agg #[.int .i64 n4, .string s5, .int .i64 n6, .int .i64 n7, .string s8, .slice p9 n10 c11], .int .i64 40, .int .i64 400]
 w'2 fun e12 w13 ↦ ∃ n14, e12 = .returned (.int .i64 n14) ∧ R (.returned (.bool (decide (0 ≤ n14)))) w13

set_option maxRecDepth 100000 in
theorem rFormed_eq (x0 : Int) (x1 : ByteArray) (x2 : Int) (x3 : Int) (x4 : ByteArray) (x5_p : Option Addr) (x5_n : Nat) (x5_c : Nat) (w : World) (R : Ending → World → Prop) : rFormed_T x0 x1 x2 x3 x4 x5_p x5_n x5_c w R = vcFn Tryd.prog [] [] Tryd.f45 [Value.agg
 #[.int .i64 x0, .string x1, .int .i64 x2, .int .i64 x3, .string x4, .slice x5_p x5_n x5_c]] w R := by kernel_rfl

set_option maxRecDepth 100000 in
theorem rFormed_vc (x0 : Int) (x1 : ByteArray) (x2 : Int) (x3 : Int) (x4 : ByteArray) (x5_p : Option Addr) (x5_n : Nat) (x5_c : Nat) (w : World) (R : Ending → World → Prop) (h : rFormed_T x0 x1 x2 x3 x4 x5_p x5_n x5_c w R) : Calls Tryd.prog 45 #[Value.agg
 #[.int .i64 x0, .string x1, .int .i64 x2, .int .i64 x3, .string x4, .slice x5_p x5_n x5_c]] w R :=
  calls_of_vc (args := [Value.agg
 #[.int .i64 x0, .string x1, .int .i64 x2, .int .i64 x3, .string x4, .slice x5_p x5_n x5_c]]) [] [] Tryd.mixed Tryd.func45 (cast (rFormed_eq _ _ _ _ _ _ _ _ w R) h)

set_option maxRecDepth 100000 in
def wants_T (op : Int) (w : World) (R : Ending → World → Prop) : Prop :=
  (op = 12 → (op = 12 → R (.returned (.int .i64 2)) w) ∧ (op ≠ 12 → (op = 16 → R (.returned (.int .i64 3)) w) ∧ (op ≠ 16 → (op = 3 → (op = 3 → R (.returned (.int .i64 1)) w) ∧ (op ≠ 3 → R (.returned (.int .i64 0)) w)) ∧ (op ≠ 3 → (op = 4 → (op = 4 → R (.returned (.int .i64 1)) w) ∧ (op ≠ 4 → R (.returned (.int .i64 0)) w)) ∧ (op ≠ 4 → (op = 5 → (op = 5 → R (.returned (.int .i64 1)) w) ∧ (op ≠ 5 → R (.returned (.int .i64 0)) w)) ∧ (op ≠ 5 → (op = 6 → (op = 6 → R (.returned (.int .i64 1)) w) ∧ (op ≠ 6 → R (.returned (.int .i64 0)) w)) ∧ (op ≠ 6 → (op = 7 → (op = 7 → R (.returned (.int .i64 1)) w) ∧ (op ≠ 7 → R (.returned (.int .i64 0)) w)) ∧ (op ≠ 7 → (op = 8 → R (.returned (.int .i64 1)) w) ∧ (op ≠ 8 → R (.returned (.int .i64 0)) w))))))))) ∧ (op ≠ 12 → (op = 13 → (op = 13 → R (.returned (.int .i64 2)) w) ∧ (op ≠ 13 → (op = 16 → R (.returned (.int .i64 3)) w) ∧ (op ≠ 16 → (op = 3 → (op = 3 → R (.returned (.int .i64 1)) w) ∧ (op ≠ 3 → R (.returned (.int .i64 0)) w)) ∧ (op ≠ 3 → (op = 4 → (op = 4 → R (.returned (.int .i64 1)) w) ∧ (op ≠ 4 → R (.returned (.int .i64 0)) w)) ∧ (op ≠ 4 → (op = 5 → (op = 5 → R (.returned (.int .i64 1)) w) ∧ (op ≠ 5 → R (.returned (.int .i64 0)) w)) ∧ (op ≠ 5 → (op = 6 → (op = 6 → R (.returned (.int .i64 1)) w) ∧ (op ≠ 6 → R (.returned (.int .i64 0)) w)) ∧ (op ≠ 6 → (op = 7 → (op = 7 → R (.returned (.int .i64 1)) w) ∧ (op ≠ 7 → R (.returned (.int .i64 0)) w)) ∧ (op ≠ 7 → (op = 8 → R (.returned (.int .i64 1)) w) ∧ (op ≠ 8 → R (.returned (.int .i64 0)) w))))))))) ∧ (op ≠ 13 → (op = 14 → R (.returned (.int .i64 2)) w) ∧ (op ≠ 14 → (op = 16 → R (.returned (.int .i64 3)) w) ∧ (op ≠ 16 → (op = 3 → (op = 3 → R (.returned (.int .i64 1)) w) ∧ (op ≠ 3 → R (.returned (.int .i64 0)) w)) ∧ (op ≠ 3 → (op = 4 → (op = 4 → R (.returned (.int .i64 1)) w) ∧ (op ≠ 4 → R (.returned (.int .i64 0)) w)) ∧ (op ≠ 4 → (op = 5 → (op = 5 → R (.returned (.int .i64 1)) w) ∧ (op ≠ 5 → R (.returned (.int .i64 0)) w)) ∧ (op ≠ 5 → (op = 6 → (op = 6 → R (.returned (.int .i64 1)) w) ∧ (op ≠ 6 → R (.returned (.int .i64 0)) w)) ∧ (op ≠ 6 → (op = 7 → (op = 7 → R (.returned (.int .i64 1)) w) ∧ (op ≠ 7 → R (.returned (.int .i64 0)) w)) ∧ (op ≠ 7 → (op = 8 → R (.returned (.int .i64 1)) w) ∧ (op ≠ 8 → R (.returned (.int .i64 0)) w))))))))))

set_option maxRecDepth 100000 in
theorem wants_eq (op : Int) (w : World) (R : Ending → World → Prop) : wants_T op w R = vcFn Tryd.prog [] [] Tryd.f68 [.int .i64 op] w R := by kernel_rfl

set_option maxRecDepth 100000 in
theorem wants_vc (op : Int) (w : World) (R : Ending → World → Prop) (h : wants_T op w R) : Calls Tryd.prog 68 #[.int .i64 op] w R :=
  calls_of_vc (args := [.int .i64 op]) [] [] Tryd.mixed Tryd.func68 (cast (wants_eq _ w R) h)

set_option maxRecDepth 100000 in
def rkind_T (cols_p : Option Addr) (cols_n : Nat) (cols_c : Nat) (x0 : Int) (x1 : ByteArray) (x2 : Int) (x3 : Int) (x4 : ByteArray) (x5_p : Option Addr) (x5_n : Nat) (x5_c : Nat) (w : World) (R : Ending → World → Prop) : Prop :=
  ∀ b1 w'2, New w (Obj.cells #[.int .i64 x0, .string x1, .int .i64 x2, .int .i64 x3, .string x4, .slice x5_p x5_n x5_c] 28) b1
 w'2 → ∃ (I4 : Option Addr → Nat → Nat → Int → World → Prop), ∃ (M5 : Option Addr → Nat → Nat → Int → World → Nat), I4 none 0 0 0 w'2 ∧ ∀ (p6 : Option Addr) (n7 c8 : Nat) (n9 : Int) (w'10 : World), I4 p6 n7 c8 n9 w'10 → ∃ p12 n13 c14, w'10.cell? ⟨b1, 5, none⟩ = some (.slice p12 n13 c14) ∧ (n9 < (↑n13 : Int) → ∃ p16 n17 c18, w'10.cell? ⟨b1, 5, none⟩ = some (.slice p16 n17 c18) ∧ ∃ b19, ∃ o20, p16 = some ⟨b19, o20, none⟩ ∧ 0 ≤ n9 ∧ n9 < (↑n17 : Int) ∧ ∃ n21, w'10.cell? ⟨b19, (o20 + n9.toNat * 6), none⟩ = some (.int .i64 n21) ∧ ∃ s22, w'10.cell? ⟨b19, (o20 + n9.toNat * 6 + 1), none⟩ = some (.string s22) ∧ ∃ n23, w'10.cell? ⟨b19, (o20 + n9.toNat * 6 + 2), none⟩ = some (.int .i64 n23) ∧ ∃ n24, w'10.cell? ⟨b19, (o20 + n9.toNat * 6 + 3), none⟩ = some (.int .i64 n24) ∧ ∃ s25, w'10.cell? ⟨b19, (o20 + n9.toNat * 6 + 4), none⟩ = some (.string s25) ∧ ∃ p26 n27 c28, w'10.cell? ⟨b19, (o20 + n9.toNat * 6 + 5), none⟩ = some (.slice p26 n27 c28) ∧ Calls Tryd.prog 46
 #[.slice cols_p cols_n cols_c, .agg #[.int .i64 n21, .string s22, .int .i64 n23, .int .i64 n24, .string s25, .slice p26 n27 c28]]
 w'10 fun e29 w30 ↦
 ∃ n31, ∃ n32, e29 = .returned (.tuple #[.int .i64 n31, .int .i64 n32]) ∧ (n32 ≠ 0 → R (.returned (.tuple #[.int .i64 0, .int .i64 n32])) w30) ∧ (n32 = 0 → ∀ b35 w'36, New w30 (Obj.cells #[.int .i64 n31] 3) b35 w'36 → ∃ p38 n39 c40, ∃ (w'41 : World), Sem.run Tryd.prog (Builtin.append_ #[108, 108] 108 #[.slice p6 n7 c8, .slice (some ⟨b35, 0, none⟩) 1 1]) w'36 = Result.ok (.slice p38 n39 c40) w'41 ∧ I4 p38 n39 c40 (IntKind.i64.wrap (n9 + 1)) w'41 ∧ M5 p38 n39 c40 (IntKind.i64.wrap (n9 + 1)) w'41 < M5 p6 n7 c8 n9 w'10)) ∧ ((↑n13 : Int) ≤ n9 → ∃ n43, w'10.cell? ⟨b1, 0, none⟩ = some (.int .i64 n43) ∧ Calls Tryd.prog 68 #[.int .i64 n43] w'10 fun e44 w45 ↦
 ∃ n46, e44 = .returned (.int .i64 n46) ∧ ∃ (I47 : Int → World → Prop), ∃ (M48 : Int → World → Nat), I47 0 w45 ∧ ∀ (n49 : Int) (w'50 : World), I47 n49 w'50 → (n49 < (↑n7 : Int) → (n46 ≠ 0 → ∃ b54, ∃ o55, p6 = some ⟨b54, o55, none⟩ ∧ 0 ≤ n49 ∧ n49 < (↑n7 : Int) ∧ ∃ n56, w'50.cell? ⟨b54, (o55 + n49.toNat), none⟩ = some (.int .i64 n56) ∧ (n56 ≠ n46 → ∃ b58, ∃ o59, p6 = some ⟨b58, o59, none⟩ ∧ 0 ≤ n49 ∧ n49 < (↑n7 : Int) ∧ ∃ n60, w'50.cell? ⟨b58, (o59 + n49.toNat), none⟩ = some (.int .i64 n60) ∧ (n60 ≠ 0 → R (.returned (.tuple #[.int .i64 0, .int .i64 121])) w'50) ∧ (n60 = 0 → I47 (IntKind.i64.wrap (n49 + 1)) w'50 ∧ M48 (IntKind.i64.wrap (n49 + 1)) w'50 < M48 n49 w'50)) ∧ (n56 = n46 → I47 (IntKind.i64.wrap (n49 + 1)) w'50 ∧ M48 (IntKind.i64.wrap (n49 + 1)) w'50 < M48 n49 w'50)) ∧ (n46 = 0 → I47 (IntKind.i64.wrap (n49 + 1)) w'50 ∧ M48 (IntKind.i64.wrap (n49 + 1)) w'50 < M48 n49 w'50)) ∧ ((↑n7 : Int) ≤ n49 → ∃ n66, w'50.cell? ⟨b1, 0, none⟩ = some (.int .i64 n66) ∧ (n66 = 1 → ∃ s68, w'50.cell? ⟨b1, 1, none⟩ = some (.string s68) ∧ Calls Tryd.prog 33 #[.slice cols_p cols_n cols_c, .string s68] w'50 fun e69 w70 ↦
 ∃ n71, e69 = .returned (.int .i64 n71) ∧ (n71 < 0 → R (.returned (.tuple #[.int .i64 0, .int .i64 120])) w70) ∧ (0 ≤ n71 → ∃ b74, ∃ o75, cols_p = some ⟨b74, o75, none⟩ ∧ 0 ≤ n71 ∧ n71 < (↑cols_n : Int) ∧ ∃ n76, w70.cell? ⟨b74, (o75 + n71.toNat * 3 + 1), none⟩ = some (.int .i64 n76) ∧ R (.returned (.tuple #[.int .i64 n76, .int .i64 0])) w70)) ∧ (n66 ≠ 1 → (n66 = 2 → ∃ n79, w'50.cell? ⟨b1, 2, none⟩ = some (.int .i64 n79) ∧ R (.returned (.tuple #[.int .i64 n79, .int .i64 0])) w'50) ∧ (n66 ≠ 2 → (n66 = 9 → (n66 = 9 → ∀ w'83, Drew w'50 w'83 → ∃ b85, ∃ o86, p6 = some ⟨b85, o86, none⟩ ∧ (0 : Int) ≤ 0 ∧ 0 < (↑n7 : Int) ∧ ∃ n87, w'83.cell? ⟨b85, (o86 + 0), none⟩ = some (.int .i64 n87) ∧ ∃ b88, ∃ o89, p6 = some ⟨b88, o89, none⟩ ∧ (0 : Int) ≤ 1 ∧ 1 < (↑n7 : Int) ∧ ∃ n90, w'83.cell? ⟨b88, (o89 + 1), none⟩ = some (.int .i64 n90) ∧ (n87 ≠ n90 → ∃ b92, ∃ o93, p6 = some ⟨b92, o93, none⟩ ∧ (0 : Int) ≤ 0 ∧ 0 < (↑n7 : Int) ∧ ∃ n94, w'83.cell? ⟨b92, (o93 + 0), none⟩ = some (.int .i64 n94) ∧ (n94 ≠ 0 → ∃ b96, ∃ o97, p6 = some ⟨b96, o97, none⟩ ∧ (0 : Int) ≤ 1 ∧ 1 < (↑n7 : Int) ∧ ∃ n98, w'83.cell? ⟨b96, (o97 + 1), none⟩ = some (.int .i64 n98) ∧ (n98 ≠ 0 → R (.returned (.tuple #[.int .i64 0, .int .i64 121])) w'83) ∧ (n98 = 0 → R (.returned (.tuple #[.int .i64 2, .int .i64 0])) w'83)) ∧ (n94 = 0 → R (.returned (.tuple #[.int .i64 2, .int .i64 0])) w'83)) ∧ (n87 = n90 → R (.returned (.tuple #[.int .i64 2, .int .i64 0])) w'83)) ∧ (n66 ≠ 9 → (n66 = 12 → (n66 = 12 → R (.returned (.tuple #[.int .i64 2, .int .i64 0])) w'50) ∧ (n66 ≠ 12 → R (.returned (.tuple #[.int .i64 1, .int .i64 0])) w'50)) ∧ (n66 ≠ 12 → (n66 = 13 → (n66 = 13 → R (.returned (.tuple #[.int .i64 2, .int .i64 0])) w'50) ∧ (n66 ≠ 13 → R (.returned (.tuple #[.int .i64 1, .int .i64 0])) w'50)) ∧ (n66 ≠ 13 → (n66 = 14 → (n66 = 14 → R (.returned (.tuple #[.int .i64 2, .int .i64 0])) w'50) ∧ (n66 ≠ 14 → R (.returned (.tuple #[.int .i64 1, .int .i64 0])) w'50)) ∧ (n66 ≠ 14 → (n66 = 15 → R (.returned (.tuple #[.int .i64 2, .int .i64 0])) w'50) ∧ (n66 ≠ 15 → R (.returned (.tuple #[.int .i64 1, .int .i64 0])) w'50)))))) ∧ (n66 ≠ 9 → (n66 = 10 → (n66 = 10 → ∀ w'121, Drew w'50 w'121 → ∃ b123, ∃ o124, p6 = some ⟨b123, o124, none⟩ ∧ (0 : Int) ≤ 0 ∧ 0 < (↑n7 : Int) ∧ ∃ n125, w'121.cell? ⟨b123, (o124 + 0), none⟩ = some (.int .i64 n125) ∧ ∃ b126, ∃ o127, p6 = some ⟨b126, o127, none⟩ ∧ (0 : Int) ≤ 1 ∧ 1 < (↑n7 : Int) ∧ ∃ n128, w'121.cell? ⟨b126, (o127 + 1), none⟩ = some (.int .i64 n128) ∧ (n125 ≠ n128 → ∃ b130, ∃ o131, p6 = some ⟨b130, o131, none⟩ ∧ (0 : Int) ≤ 0 ∧ 0 < (↑n7 : Int) ∧ ∃ n132, w'121.cell? ⟨b130, (o131 + 0), none⟩ = some (.int .i64 n132) ∧ (n132 ≠ 0 → ∃ b134, ∃ o135, p6 = some ⟨b134, o135, none⟩ ∧ (0 : Int) ≤ 1 ∧ 1 < (↑n7 : Int) ∧ ∃ n136, w'121.cell? ⟨b134, (o135 + 1), none⟩ = some (.int .i64 n136) ∧ (n136 ≠ 0 → R (.returned (.tuple #[.int .i64 0, .int .i64 121])) w'121) ∧ (n136 = 0 → R (.returned (.tuple #[.int .i64 2, .int .i64 0])) w'121)) ∧ (n132 = 0 → R (.returned (.tuple #[.int .i64 2, .int .i64 0])) w'121)) ∧ (n125 = n128 → R (.returned (.tuple #[.int .i64 2, .int .i64 0])) w'121)) ∧ (n66 ≠ 10 → (n66 = 12 → (n66 = 12 → R (.returned (.tuple #[.int .i64 2, .int .i64 0])) w'50) ∧ (n66 ≠ 12 → R (.returned (.tuple #[.int .i64 1, .int .i64 0])) w'50)) ∧ (n66 ≠ 12 → (n66 = 13 → (n66 = 13 → R (.returned (.tuple #[.int .i64 2, .int .i64 0])) w'50) ∧ (n66 ≠ 13 → R (.returned (.tuple #[.int .i64 1, .int .i64 0])) w'50)) ∧ (n66 ≠ 13 → (n66 = 14 → (n66 = 14 → R (.returned (.tuple #[.int .i64 2, .int .i64 0])) w'50) ∧ (n66 ≠ 14 → R (.returned (.tuple #[.int .i64 1, .int .i64 0])) w'50)) ∧ (n66 ≠ 14 → (n66 = 15 → R (.returned (.tuple #[.int .i64 2, .int .i64 0])) w'50) ∧ (n66 ≠ 15 → R (.returned (.tuple #[.int .i64 1, .int .i64 0])) w'50)))))) ∧ (n66 ≠ 10 → (n66 = 11 → ∀ w'158, Drew w'50 w'158 → ∃ b160, ∃ o161, p6 = some ⟨b160, o161, none⟩ ∧ (0 : Int) ≤ 0 ∧ 0 < (↑n7 : Int) ∧ ∃ n162, w'158.cell? ⟨b160, (o161 + 0), none⟩ = some (.int .i64 n162) ∧ ∃ b163, ∃ o164, p6 = some ⟨b163, o164, none⟩ ∧ (0 : Int) ≤ 1 ∧ 1 < (↑n7 : Int) ∧ ∃ n165, w'158.cell? ⟨b163, (o164 + 1), none⟩ = some (.int .i64 n165) ∧ (n162 ≠ n165 → ∃ b167, ∃ o168, p6 = some ⟨b167, o168, none⟩ ∧ (0 : Int) ≤ 0 ∧ 0 < (↑n7 : Int) ∧ ∃ n169, w'158.cell? ⟨b167, (o168 + 0), none⟩ = some (.int .i64 n169) ∧ (n169 ≠ 0 → ∃ b171, ∃ o172, p6 = some ⟨b171, o172, none⟩ ∧ (0 : Int) ≤ 1 ∧ 1 < (↑n7 : Int) ∧ ∃ n173, w'158.cell? ⟨b171, (o172 + 1), none⟩ = some (.int .i64 n173) ∧ (n173 ≠ 0 → R (.returned (.tuple #[.int .i64 0, .int .i64 121])) w'158) ∧ (n173 = 0 → R (.returned (.tuple #[.int .i64 2, .int .i64 0])) w'158)) ∧ (n169 = 0 → R (.returned (.tuple #[.int .i64 2, .int .i64 0])) w'158)) ∧ (n162 = n165 → R (.returned (.tuple #[.int .i64 2, .int .i64 0])) w'158)) ∧ (n66 ≠ 11 → (n66 = 12 → (n66 = 12 → R (.returned (.tuple #[.int .i64 2, .int .i64 0])) w'50) ∧ (n66 ≠ 12 → R (.returned (.tuple #[.int .i64 1, .int .i64 0])) w'50)) ∧ (n66 ≠ 12 → (n66 = 13 → (n66 = 13 → R (.returned (.tuple #[.int .i64 2, .int .i64 0])) w'50) ∧ (n66 ≠ 13 → R (.returned (.tuple #[.int .i64 1, .int .i64 0])) w'50)) ∧ (n66 ≠ 13 → (n66 = 14 → (n66 = 14 → R (.returned (.tuple #[.int .i64 2, .int .i64 0])) w'50) ∧ (n66 ≠ 14 → R (.returned (.tuple #[.int .i64 1, .int .i64 0])) w'50)) ∧ (n66 ≠ 14 → (n66 = 15 → R (.returned (.tuple #[.int .i64 2, .int .i64 0])) w'50) ∧ (n66 ≠ 15 → R (.returned (.tuple #[.int .i64 1, .int .i64 0])) w'50)))))))))))

set_option maxRecDepth 100000 in
theorem rkind_eq (cols_p : Option Addr) (cols_n : Nat) (cols_c : Nat) (x0 : Int) (x1 : ByteArray) (x2 : Int) (x3 : Int) (x4 : ByteArray) (x5_p : Option Addr) (x5_n : Nat) (x5_c : Nat) (w : World) (R : Ending → World → Prop) : rkind_T cols_p cols_n cols_c x0 x1 x2 x3 x4 x5_p x5_n x5_c w R = vcFn Tryd.prog [] [(26, [2, 4, 6, 8, 10, 12, 14, 16, 18, 20, 22, 24, 26, 28, 30, 32, 34, 36, 38, 0])] Tryd.f46 [.slice cols_p cols_n cols_c, Value.agg
 #[.int .i64 x0, .string x1, .int .i64 x2, .int .i64 x3, .string x4, .slice x5_p x5_n x5_c]] w R := by kernel_rfl

set_option maxRecDepth 100000 in
theorem rkind_vc (cols_p : Option Addr) (cols_n : Nat) (cols_c : Nat) (x0 : Int) (x1 : ByteArray) (x2 : Int) (x3 : Int) (x4 : ByteArray) (x5_p : Option Addr) (x5_n : Nat) (x5_c : Nat) (w : World) (R : Ending → World → Prop) (h : rkind_T cols_p cols_n cols_c x0 x1 x2 x3 x4 x5_p x5_n x5_c w R) : Calls Tryd.prog 46 #[.slice cols_p cols_n cols_c, Value.agg
 #[.int .i64 x0, .string x1, .int .i64 x2, .int .i64 x3, .string x4, .slice x5_p x5_n x5_c]] w R :=
  calls_of_vc (args := [.slice cols_p cols_n cols_c, Value.agg
 #[.int .i64 x0, .string x1, .int .i64 x2, .int .i64 x3, .string x4, .slice x5_p x5_n x5_c]]) [] [(26, [2, 4, 6, 8, 10, 12, 14, 16, 18, 20, 22, 24, 26, 28, 30, 32, 34, 36, 38, 0])] Tryd.mixed Tryd.func46 (cast (rkind_eq _ _ _ _ _ _ _ _ _ _ _ w R) h)

set_option maxRecDepth 100000 in
def rtype_T (cols_p : Option Addr) (cols_n : Nat) (cols_c : Nat) (x0 : Int) (x1 : ByteArray) (x2 : Int) (x3 : Int) (x4 : ByteArray) (x5_p : Option Addr) (x5_n : Nat) (x5_c : Nat) (w : World) (R : Ending → World → Prop) : Prop :=
  ∀ b1 w'2, New w (Obj.cells #[.int .i64 x0, .string x1, .int .i64 x2, .int .i64 x3, .string x4, .slice x5_p x5_n x5_c] 28) b1
 w'2 → Calls Tryd.prog 17 #[.slice cols_p cols_n cols_c] w'2 fun e4 w5 ↦
 ∃ b6, e4 = .returned (.bool b6) ∧ (b6 = false → R (.returned (.tuple #[.int .i64 0, .int .i64 50])) w5) ∧ (b6 = true → ∃ n9, w5.cell? ⟨b1, 0, none⟩ = some (.int .i64 n9) ∧ ∃ s10, w5.cell? ⟨b1, 1, none⟩ = some (.string s10) ∧ ∃ n11, w5.cell? ⟨b1, 2, none⟩ = some (.int .i64 n11) ∧ ∃ n12, w5.cell? ⟨b1, 3, none⟩ = some (.int .i64 n12) ∧ ∃ s13, w5.cell? ⟨b1, 4, none⟩ = some (.string s13) ∧ ∃ p14 n15 c16, w5.cell? ⟨b1, 5, none⟩ = some (.slice p14 n15 c16) ∧ Calls Tryd.prog 45
 #[.agg #[.int .i64 n9, .string s10, .int .i64 n11, .int .i64 n12, .string s13, .slice p14 n15 c16]] w5
 fun e17 w18 ↦
 ∃ b19, e17 = .returned (.bool b19) ∧ (b19 = false → R (.returned (.tuple #[.int .i64 0, .int .i64 122])) w18) ∧ (b19 = true → ∃ n22, w18.cell? ⟨b1, 0, none⟩ = some (.int .i64 n22) ∧ ∃ s23, w18.cell? ⟨b1, 1, none⟩ = some (.string s23) ∧ ∃ n24, w18.cell? ⟨b1, 2, none⟩ = some (.int .i64 n24) ∧ ∃ n25, w18.cell? ⟨b1, 3, none⟩ = some (.int .i64 n25) ∧ ∃ s26, w18.cell? ⟨b1, 4, none⟩ = some (.string s26) ∧ ∃ p27 n28 c29, w18.cell? ⟨b1, 5, none⟩ = some (.slice p27 n28 c29) ∧ Calls Tryd.prog 46
 #[.slice cols_p cols_n cols_c, .agg #[.int .i64 n22, .string s23, .int .i64 n24, .int .i64 n25, .string s26, .slice p27 n28 c29]]
 w18 fun e30 w31 ↦
 ∃ n32, ∃ n33, e30 = .returned (.tuple #[.int .i64 n32, .int .i64 n33]) ∧ R (.returned (.tuple #[.int .i64 n32, .int .i64 n33])) w31))

set_option maxRecDepth 100000 in
theorem rtype_eq (cols_p : Option Addr) (cols_n : Nat) (cols_c : Nat) (x0 : Int) (x1 : ByteArray) (x2 : Int) (x3 : Int) (x4 : ByteArray) (x5_p : Option Addr) (x5_n : Nat) (x5_c : Nat) (w : World) (R : Ending → World → Prop) : rtype_T cols_p cols_n cols_c x0 x1 x2 x3 x4 x5_p x5_n x5_c w R = vcFn Tryd.prog [] [] Tryd.f24 [.slice cols_p cols_n cols_c, Value.agg
 #[.int .i64 x0, .string x1, .int .i64 x2, .int .i64 x3, .string x4, .slice x5_p x5_n x5_c]] w R := by kernel_rfl

set_option maxRecDepth 100000 in
theorem rtype_vc (cols_p : Option Addr) (cols_n : Nat) (cols_c : Nat) (x0 : Int) (x1 : ByteArray) (x2 : Int) (x3 : Int) (x4 : ByteArray) (x5_p : Option Addr) (x5_n : Nat) (x5_c : Nat) (w : World) (R : Ending → World → Prop) (h : rtype_T cols_p cols_n cols_c x0 x1 x2 x3 x4 x5_p x5_n x5_c w R) : Calls Tryd.prog 24 #[.slice cols_p cols_n cols_c, Value.agg
 #[.int .i64 x0, .string x1, .int .i64 x2, .int .i64 x3, .string x4, .slice x5_p x5_n x5_c]] w R :=
  calls_of_vc (args := [.slice cols_p cols_n cols_c, Value.agg
 #[.int .i64 x0, .string x1, .int .i64 x2, .int .i64 x3, .string x4, .slice x5_p x5_n x5_c]]) [] [] Tryd.mixed Tryd.func24 (cast (rtype_eq _ _ _ _ _ _ _ _ _ _ _ w R) h)

set_option maxRecDepth 100000 in
def rtruth_T (b : Bool) (w : World) (R : Ending → World → Prop) : Prop :=
  ∀ b1 w'2, New w (Obj.cells #[.int .i64 0, .int .i64 0, .string ⟨#[]⟩] 25) b1 w'2 → ∀ b4 w'5, New w'2 (Obj.cells #[.int .i64 0, .int .i64 0, .string ⟨#[]⟩] 25) b4 w'5 → (∃ u7, w'5.cell? ⟨b4, 0, none⟩ = some u7) ∧ w'5.frozen? ⟨b4, 0, none⟩ = false ∧ (∃ u8, w'5.cell? ⟨b4, 1, none⟩ = some u8) ∧ w'5.frozen? ⟨b4, 1, none⟩ = false ∧ (∃ u9, w'5.cell? ⟨b4, 2, none⟩ = some u9) ∧ w'5.frozen? ⟨b4, 2, none⟩ = false ∧ ∀ w'10, Put w'5 b4 0 [.int .i64 2, .int .i64 0, .string ⟨#[]⟩] w'10 → (b = true → (∃ u13, w'10.cell? ⟨b4, 1, none⟩ = some u13) ∧ w'10.frozen? ⟨b4, 1, none⟩ = false ∧ ∀ w'14, Put w'10 b4 1 [.int .i64 1] w'14 → ∃ n16, w'14.cell? ⟨b4, 0, none⟩ = some (.int .i64 n16) ∧ ∃ n17, w'14.cell? ⟨b4, 1, none⟩ = some (.int .i64 n17) ∧ ∃ s18, w'14.cell? ⟨b4, 2, none⟩ = some (.string s18) ∧ (∃ u19, w'14.cell? ⟨b1, 0, none⟩ = some u19) ∧ w'14.frozen? ⟨b1, 0, none⟩ = false ∧ (∃ u20, w'14.cell? ⟨b1, 1, none⟩ = some u20) ∧ w'14.frozen? ⟨b1, 1, none⟩ = false ∧ (∃ u21, w'14.cell? ⟨b1, 2, none⟩ = some u21) ∧ w'14.frozen? ⟨b1, 2, none⟩ = false ∧ ∀ w'22, Put w'14 b1 0 [.int .i64 n16, .int .i64 n17, .string s18] w'22 → ∃ n24, w'22.cell? ⟨b1, 0, none⟩ = some (.int .i64 n24) ∧ ∃ n25, w'22.cell? ⟨b1, 1, none⟩ = some (.int .i64 n25) ∧ ∃ s26, w'22.cell? ⟨b1, 2, none⟩ = some (.string s26) ∧ R (.returned (.agg #[.int .i64 n24, .int .i64 n25, .string s26])) w'22) ∧ (b = false → ∃ n28, w'10.cell? ⟨b4, 0, none⟩ = some (.int .i64 n28) ∧ ∃ n29, w'10.cell? ⟨b4, 1, none⟩ = some (.int .i64 n29) ∧ ∃ s30, w'10.cell? ⟨b4, 2, none⟩ = some (.string s30) ∧ (∃ u31, w'10.cell? ⟨b1, 0, none⟩ = some u31) ∧ w'10.frozen? ⟨b1, 0, none⟩ = false ∧ (∃ u32, w'10.cell? ⟨b1, 1, none⟩ = some u32) ∧ w'10.frozen? ⟨b1, 1, none⟩ = false ∧ (∃ u33, w'10.cell? ⟨b1, 2, none⟩ = some u33) ∧ w'10.frozen? ⟨b1, 2, none⟩ = false ∧ ∀ w'34, Put w'10 b1 0 [.int .i64 n28, .int .i64 n29, .string s30] w'34 → ∃ n36, w'34.cell? ⟨b1, 0, none⟩ = some (.int .i64 n36) ∧ ∃ n37, w'34.cell? ⟨b1, 1, none⟩ = some (.int .i64 n37) ∧ ∃ s38, w'34.cell? ⟨b1, 2, none⟩ = some (.string s38) ∧ R (.returned (.agg #[.int .i64 n36, .int .i64 n37, .string s38])) w'34)

set_option maxRecDepth 100000 in
theorem rtruth_eq (b : Bool) (w : World) (R : Ending → World → Prop) : rtruth_T b w R = vcFn Tryd.prog [] [] Tryd.f87 [.bool b] w R := by kernel_rfl

set_option maxRecDepth 100000 in
theorem rtruth_vc (b : Bool) (w : World) (R : Ending → World → Prop) (h : rtruth_T b w R) : Calls Tryd.prog 87 #[.bool b] w R :=
  calls_of_vc (args := [.bool b]) [] [] Tryd.mixed Tryd.func87 (cast (rtruth_eq _ w R) h)

set_option maxRecDepth 100000 in
def rnumber_T (n : Int) (w : World) (R : Ending → World → Prop) : Prop :=
  ∀ b1 w'2, New w (Obj.cells #[.int .i64 0, .int .i64 0, .string ⟨#[]⟩] 25) b1 w'2 → (∃ u4, w'2.cell? ⟨b1, 0, none⟩ = some u4) ∧ w'2.frozen? ⟨b1, 0, none⟩ = false ∧ (∃ u5, w'2.cell? ⟨b1, 1, none⟩ = some u5) ∧ w'2.frozen? ⟨b1, 1, none⟩ = false ∧ (∃ u6, w'2.cell? ⟨b1, 2, none⟩ = some u6) ∧ w'2.frozen? ⟨b1, 2, none⟩ = false ∧ ∀ w'7, Put w'2 b1 0 [.int .i64 1, .int .i64 n, .string ⟨#[]⟩] w'7 → ∃ n9, w'7.cell? ⟨b1, 0, none⟩ = some (.int .i64 n9) ∧ ∃ n10, w'7.cell? ⟨b1, 1, none⟩ = some (.int .i64 n10) ∧ ∃ s11, w'7.cell? ⟨b1, 2, none⟩ = some (.string s11) ∧ R (.returned (.agg #[.int .i64 n9, .int .i64 n10, .string s11])) w'7

set_option maxRecDepth 100000 in
theorem rnumber_eq (n : Int) (w : World) (R : Ending → World → Prop) : rnumber_T n w R = vcFn Tryd.prog [] [] Tryd.f89 [.int .i64 n] w R := by kernel_rfl

set_option maxRecDepth 100000 in
theorem rnumber_vc (n : Int) (w : World) (R : Ending → World → Prop) (h : rnumber_T n w R) : Calls Tryd.prog 89 #[.int .i64 n] w R :=
  calls_of_vc (args := [.int .i64 n]) [] [] Tryd.mixed Tryd.func89 (cast (rnumber_eq _ w R) h)

set_option maxRecDepth 100000 in
def rproduct_T (a : Int) (b : Int) (w : World) (R : Ending → World → Prop) : Prop :=
  (a = 0 ∨ b = 0 → R (.returned (.tuple #[.int .i64 0, .bool true])) w) ∧ (a ≠ 0 ∧ b ≠ 0 → (a = -1 ∧ b = -9223372036854775808 → R (.returned (.tuple #[.int .i64 0, .bool false])) w) ∧ (a ≠ -1 ∨ b ≠ -9223372036854775808 → (b = -1 ∧ a = -9223372036854775808 → R (.returned (.tuple #[.int .i64 0, .bool false])) w) ∧ (b ≠ -1 ∨ a ≠ -9223372036854775808 → ∀ w'7, Drew w w'7 → b ≠ 0 ∧ R (.returned (.tuple #[.int .i64 (IntKind.i64.wrap (a * b)), .bool (decide (quoI IntKind.i64 (IntKind.i64.wrap (a * b)) b = a))])) w'7)))

set_option maxRecDepth 100000 in
theorem rproduct_eq (a : Int) (b : Int) (w : World) (R : Ending → World → Prop) : rproduct_T a b w R = vcFn Tryd.prog [] [(6, [2, 4, 6, 8, 10, 12, 14, 16, 0])] Tryd.f101 [.int .i64 a, .int .i64 b] w R := by kernel_rfl

set_option maxRecDepth 100000 in
theorem rproduct_vc (a : Int) (b : Int) (w : World) (R : Ending → World → Prop) (h : rproduct_T a b w R) : Calls Tryd.prog 101 #[.int .i64 a, .int .i64 b] w R :=
  calls_of_vc (args := [.int .i64 a, .int .i64 b]) [] [(6, [2, 4, 6, 8, 10, 12, 14, 16, 0])] Tryd.mixed Tryd.func101 (cast (rproduct_eq _ _ w R) h)

set_option maxRecDepth 100000 in
def reckoned_T (op : Int) (a : Int) (b : Int) (w : World) (R : Ending → World → Prop) : Prop :=
  (op = 3 → (0 ≤ b ∧ a ≤ IntKind.i64.wrap (a + b) → R (.returned (.tuple #[.int .i64 (IntKind.i64.wrap (a + b)), .int .i64 0])) w) ∧ (b < 0 ∨ IntKind.i64.wrap (a + b) < a → (0 ≤ b ∨ a ≤ IntKind.i64.wrap (a + b) → R (.returned (.tuple #[.int .i64 0, .int .i64 100])) w) ∧ (b < 0 ∧ IntKind.i64.wrap (a + b) < a → R (.returned (.tuple #[.int .i64 (IntKind.i64.wrap (a + b)), .int .i64 0])) w))) ∧ (op ≠ 3 → (op = 4 → (0 ≤ b ∧ IntKind.i64.wrap (a - b) ≤ a → R (.returned (.tuple #[.int .i64 (IntKind.i64.wrap (a - b)), .int .i64 0])) w) ∧ (b < 0 ∨ a < IntKind.i64.wrap (a - b) → (0 ≤ b ∨ IntKind.i64.wrap (a - b) ≤ a → R (.returned (.tuple #[.int .i64 0, .int .i64 100])) w) ∧ (b < 0 ∧ a < IntKind.i64.wrap (a - b) → R (.returned (.tuple #[.int .i64 (IntKind.i64.wrap (a - b)), .int .i64 0])) w))) ∧ (op ≠ 4 → (op = 5 → Calls Tryd.prog 101 #[.int .i64 a, .int .i64 b] w fun e14 w15 ↦
 ∃ n16, ∃ b17, e14 = .returned (.tuple #[.int .i64 n16, .bool b17]) ∧ (b17 = false → R (.returned (.tuple #[.int .i64 0, .int .i64 100])) w15) ∧ (b17 = true → R (.returned (.tuple #[.int .i64 n16, .int .i64 0])) w15)) ∧ (op ≠ 5 → (op = 6 → (b = 0 → R (.returned (.tuple #[.int .i64 0, .int .i64 101])) w) ∧ (b ≠ 0 → (b = -1 → (a = -9223372036854775808 → R (.returned (.tuple #[.int .i64 0, .int .i64 100])) w) ∧ (a ≠ -9223372036854775808 → R (.returned (.tuple #[.int .i64 (IntKind.i64.wrap (0 - a)), .int .i64 0])) w)) ∧ (b ≠ -1 → b ≠ 0 ∧ R (.returned (.tuple #[.int .i64 (quoI IntKind.i64 a b), .int .i64 0])) w))) ∧ (op ≠ 6 → (b = 0 → R (.returned (.tuple #[.int .i64 0, .int .i64 101])) w) ∧ (b ≠ 0 → (b ≠ -1 → b ≠ 0 ∧ R (.returned (.tuple #[.int .i64 (remI a b), .int .i64 0])) w) ∧ (b = -1 → R (.returned (.tuple #[.int .i64 0, .int .i64 0])) w))))))

set_option maxRecDepth 100000 in
theorem reckoned_eq (op : Int) (a : Int) (b : Int) (w : World) (R : Ending → World → Prop) : reckoned_T op a b w R = vcFn Tryd.prog [] [] Tryd.f88 [.int .i64 op, .int .i64 a, .int .i64 b] w R := by kernel_rfl

set_option maxRecDepth 100000 in
theorem reckoned_vc (op : Int) (a : Int) (b : Int) (w : World) (R : Ending → World → Prop) (h : reckoned_T op a b w R) : Calls Tryd.prog 88 #[.int .i64 op, .int .i64 a, .int .i64 b] w R :=
  calls_of_vc (args := [.int .i64 op, .int .i64 a, .int .i64 b]) [] [] Tryd.mixed Tryd.func88 (cast (reckoned_eq _ _ _ w R) h)

set_option maxRecDepth 100000 in
def rboth_T (a0 : Int) (a1 : Int) (a2 : ByteArray) (b0 : Int) (b1 : Int) (b2 : ByteArray) (strong : Int) (w : World) (R : Ending → World → Prop) : Prop :=
  ∀ b1_1 w'2, New w (Obj.cells #[.int .i64 a0, .int .i64 a1, .string a2] 25) b1_1 w'2 → ∀ b4 w'5, New w'2 (Obj.cells #[.int .i64 b0, .int .i64 b1, .string b2] 25) b4 w'5 → ∀ b7 w'8, New w'5 (Obj.cells #[.int .i64 0, .int .i64 0, .string ⟨#[]⟩] 25) b7 w'8 → ∃ n10, w'8.cell? ⟨b1_1, 0, none⟩ = some (.int .i64 n10) ∧ (n10 = 2 → ∃ n12, w'8.cell? ⟨b1_1, 1, none⟩ = some (.int .i64 n12) ∧ (n12 = strong → Calls Tryd.prog 87 #[.bool (decide (strong = 1))] w'8 fun e14 w15 ↦
 ∃ n16, ∃ n17, ∃ s18, e14 = .returned (.agg #[.int .i64 n16, .int .i64 n17, .string s18]) ∧ (∃ u19, w15.cell? ⟨b7, 0, none⟩ = some u19) ∧ w15.frozen? ⟨b7, 0, none⟩ = false ∧ (∃ u20, w15.cell? ⟨b7, 1, none⟩ = some u20) ∧ w15.frozen? ⟨b7, 1, none⟩ = false ∧ (∃ u21, w15.cell? ⟨b7, 2, none⟩ = some u21) ∧ w15.frozen? ⟨b7, 2, none⟩ = false ∧ ∀ w'22, Put w15 b7 0 [.int .i64 n16, .int .i64 n17, .string s18] w'22 → ∃ n24, w'22.cell? ⟨b7, 0, none⟩ = some (.int .i64 n24) ∧ ∃ n25, w'22.cell? ⟨b7, 1, none⟩ = some (.int .i64 n25) ∧ ∃ s26, w'22.cell? ⟨b7, 2, none⟩ = some (.string s26) ∧ R (.returned (.agg #[.int .i64 n24, .int .i64 n25, .string s26])) w'22) ∧ (n12 ≠ strong → ∃ n28, w'8.cell? ⟨b4, 0, none⟩ = some (.int .i64 n28) ∧ (n28 = 2 → ∃ n30, w'8.cell? ⟨b4, 1, none⟩ = some (.int .i64 n30) ∧ (n30 = strong → Calls Tryd.prog 87 #[.bool (decide (strong = 1))] w'8 fun e32 w33 ↦
 ∃ n34, ∃ n35, ∃ s36, e32 = .returned (.agg #[.int .i64 n34, .int .i64 n35, .string s36]) ∧ (∃ u37, w33.cell? ⟨b7, 0, none⟩ = some u37) ∧ w33.frozen? ⟨b7, 0, none⟩ = false ∧ (∃ u38, w33.cell? ⟨b7, 1, none⟩ = some u38) ∧ w33.frozen? ⟨b7, 1, none⟩ = false ∧ (∃ u39, w33.cell? ⟨b7, 2, none⟩ = some u39) ∧ w33.frozen? ⟨b7, 2, none⟩ = false ∧ ∀ w'40, Put w33 b7 0 [.int .i64 n34, .int .i64 n35, .string s36] w'40 → ∃ n42, w'40.cell? ⟨b7, 0, none⟩ = some (.int .i64 n42) ∧ ∃ n43, w'40.cell? ⟨b7, 1, none⟩ = some (.int .i64 n43) ∧ ∃ s44, w'40.cell? ⟨b7, 2, none⟩ = some (.string s44) ∧ R (.returned (.agg #[.int .i64 n42, .int .i64 n43, .string s44])) w'40) ∧ (n30 ≠ strong → ∃ n46, w'8.cell? ⟨b1_1, 0, none⟩ = some (.int .i64 n46) ∧ (n46 = 0 → (∃ u48, w'8.cell? ⟨b7, 0, none⟩ = some u48) ∧ w'8.frozen? ⟨b7, 0, none⟩ = false ∧ (∃ u49, w'8.cell? ⟨b7, 1, none⟩ = some u49) ∧ w'8.frozen? ⟨b7, 1, none⟩ = false ∧ (∃ u50, w'8.cell? ⟨b7, 2, none⟩ = some u50) ∧ w'8.frozen? ⟨b7, 2, none⟩ = false ∧ ∀ w'51, Put w'8 b7 0 [.int .i64 0, .int .i64 0, .string ⟨#[]⟩] w'51 → ∃ n53, w'51.cell? ⟨b7, 0, none⟩ = some (.int .i64 n53) ∧ ∃ n54, w'51.cell? ⟨b7, 1, none⟩ = some (.int .i64 n54) ∧ ∃ s55, w'51.cell? ⟨b7, 2, none⟩ = some (.string s55) ∧ R (.returned (.agg #[.int .i64 n53, .int .i64 n54, .string s55])) w'51) ∧ (n46 ≠ 0 → ∃ n57, w'8.cell? ⟨b4, 0, none⟩ = some (.int .i64 n57) ∧ (n57 = 0 → (∃ u59, w'8.cell? ⟨b7, 0, none⟩ = some u59) ∧ w'8.frozen? ⟨b7, 0, none⟩ = false ∧ (∃ u60, w'8.cell? ⟨b7, 1, none⟩ = some u60) ∧ w'8.frozen? ⟨b7, 1, none⟩ = false ∧ (∃ u61, w'8.cell? ⟨b7, 2, none⟩ = some u61) ∧ w'8.frozen? ⟨b7, 2, none⟩ = false ∧ ∀ w'62, Put w'8 b7 0 [.int .i64 0, .int .i64 0, .string ⟨#[]⟩] w'62 → ∃ n64, w'62.cell? ⟨b7, 0, none⟩ = some (.int .i64 n64) ∧ ∃ n65, w'62.cell? ⟨b7, 1, none⟩ = some (.int .i64 n65) ∧ ∃ s66, w'62.cell? ⟨b7, 2, none⟩ = some (.string s66) ∧ R (.returned (.agg #[.int .i64 n64, .int .i64 n65, .string s66])) w'62) ∧ (n57 ≠ 0 → Calls Tryd.prog 87 #[.bool (decide (strong = 0))] w'8 fun e68 w69 ↦
 ∃ n70, ∃ n71, ∃ s72, e68 = .returned (.agg #[.int .i64 n70, .int .i64 n71, .string s72]) ∧ (∃ u73, w69.cell? ⟨b7, 0, none⟩ = some u73) ∧ w69.frozen? ⟨b7, 0, none⟩ = false ∧ (∃ u74, w69.cell? ⟨b7, 1, none⟩ = some u74) ∧ w69.frozen? ⟨b7, 1, none⟩ = false ∧ (∃ u75, w69.cell? ⟨b7, 2, none⟩ = some u75) ∧ w69.frozen? ⟨b7, 2, none⟩ = false ∧ ∀ w'76, Put w69 b7 0 [.int .i64 n70, .int .i64 n71, .string s72] w'76 → ∃ n78, w'76.cell? ⟨b7, 0, none⟩ = some (.int .i64 n78) ∧ ∃ n79, w'76.cell? ⟨b7, 1, none⟩ = some (.int .i64 n79) ∧ ∃ s80, w'76.cell? ⟨b7, 2, none⟩ = some (.string s80) ∧ R (.returned (.agg #[.int .i64 n78, .int .i64 n79, .string s80])) w'76)))) ∧ (n28 ≠ 2 → ∃ n82, w'8.cell? ⟨b1_1, 0, none⟩ = some (.int .i64 n82) ∧ (n82 = 0 → (∃ u84, w'8.cell? ⟨b7, 0, none⟩ = some u84) ∧ w'8.frozen? ⟨b7, 0, none⟩ = false ∧ (∃ u85, w'8.cell? ⟨b7, 1, none⟩ = some u85) ∧ w'8.frozen? ⟨b7, 1, none⟩ = false ∧ (∃ u86, w'8.cell? ⟨b7, 2, none⟩ = some u86) ∧ w'8.frozen? ⟨b7, 2, none⟩ = false ∧ ∀ w'87, Put w'8 b7 0 [.int .i64 0, .int .i64 0, .string ⟨#[]⟩] w'87 → ∃ n89, w'87.cell? ⟨b7, 0, none⟩ = some (.int .i64 n89) ∧ ∃ n90, w'87.cell? ⟨b7, 1, none⟩ = some (.int .i64 n90) ∧ ∃ s91, w'87.cell? ⟨b7, 2, none⟩ = some (.string s91) ∧ R (.returned (.agg #[.int .i64 n89, .int .i64 n90, .string s91])) w'87) ∧ (n82 ≠ 0 → ∃ n93, w'8.cell? ⟨b4, 0, none⟩ = some (.int .i64 n93) ∧ (n93 = 0 → (∃ u95, w'8.cell? ⟨b7, 0, none⟩ = some u95) ∧ w'8.frozen? ⟨b7, 0, none⟩ = false ∧ (∃ u96, w'8.cell? ⟨b7, 1, none⟩ = some u96) ∧ w'8.frozen? ⟨b7, 1, none⟩ = false ∧ (∃ u97, w'8.cell? ⟨b7, 2, none⟩ = some u97) ∧ w'8.frozen? ⟨b7, 2, none⟩ = false ∧ ∀ w'98, Put w'8 b7 0 [.int .i64 0, .int .i64 0, .string ⟨#[]⟩] w'98 → ∃ n100, w'98.cell? ⟨b7, 0, none⟩ = some (.int .i64 n100) ∧ ∃ n101, w'98.cell? ⟨b7, 1, none⟩ = some (.int .i64 n101) ∧ ∃ s102, w'98.cell? ⟨b7, 2, none⟩ = some (.string s102) ∧ R (.returned (.agg #[.int .i64 n100, .int .i64 n101, .string s102])) w'98) ∧ (n93 ≠ 0 → Calls Tryd.prog 87 #[.bool (decide (strong = 0))] w'8 fun e104 w105 ↦
 ∃ n106, ∃ n107, ∃ s108, e104 = .returned (.agg #[.int .i64 n106, .int .i64 n107, .string s108]) ∧ (∃ u109, w105.cell? ⟨b7, 0, none⟩ = some u109) ∧ w105.frozen? ⟨b7, 0, none⟩ = false ∧ (∃ u110, w105.cell? ⟨b7, 1, none⟩ = some u110) ∧ w105.frozen? ⟨b7, 1, none⟩ = false ∧ (∃ u111, w105.cell? ⟨b7, 2, none⟩ = some u111) ∧ w105.frozen? ⟨b7, 2, none⟩ = false ∧ ∀ w'112, Put w105 b7 0 [.int .i64 n106, .int .i64 n107, .string s108] w'112 → ∃ n114, w'112.cell? ⟨b7, 0, none⟩ = some (.int .i64 n114) ∧ ∃ n115, w'112.cell? ⟨b7, 1, none⟩ = some (.int .i64 n115) ∧ ∃ s116, w'112.cell? ⟨b7, 2, none⟩ = some (.string s116) ∧ R (.returned (.agg #[.int .i64 n114, .int .i64 n115, .string s116])) w'112))))) ∧ (n10 ≠ 2 → ∃ n118, w'8.cell? ⟨b4, 0, none⟩ = some (.int .i64 n118) ∧ (n118 = 2 → ∃ n120, w'8.cell? ⟨b4, 1, none⟩ = some (.int .i64 n120) ∧ (n120 = strong → Calls Tryd.prog 87 #[.bool (decide (strong = 1))] w'8 fun e122 w123 ↦
 ∃ n124, ∃ n125, ∃ s126, e122 = .returned (.agg #[.int .i64 n124, .int .i64 n125, .string s126]) ∧ (∃ u127, w123.cell? ⟨b7, 0, none⟩ = some u127) ∧ w123.frozen? ⟨b7, 0, none⟩ = false ∧ (∃ u128, w123.cell? ⟨b7, 1, none⟩ = some u128) ∧ w123.frozen? ⟨b7, 1, none⟩ = false ∧ (∃ u129, w123.cell? ⟨b7, 2, none⟩ = some u129) ∧ w123.frozen? ⟨b7, 2, none⟩ = false ∧ ∀ w'130, Put w123 b7 0 [.int .i64 n124, .int .i64 n125, .string s126] w'130 → ∃ n132, w'130.cell? ⟨b7, 0, none⟩ = some (.int .i64 n132) ∧ ∃ n133, w'130.cell? ⟨b7, 1, none⟩ = some (.int .i64 n133) ∧ ∃ s134, w'130.cell? ⟨b7, 2, none⟩ = some (.string s134) ∧ R (.returned (.agg #[.int .i64 n132, .int .i64 n133, .string s134])) w'130) ∧ (n120 ≠ strong → ∃ n136, w'8.cell? ⟨b1_1, 0, none⟩ = some (.int .i64 n136) ∧ (n136 = 0 → (∃ u138, w'8.cell? ⟨b7, 0, none⟩ = some u138) ∧ w'8.frozen? ⟨b7, 0, none⟩ = false ∧ (∃ u139, w'8.cell? ⟨b7, 1, none⟩ = some u139) ∧ w'8.frozen? ⟨b7, 1, none⟩ = false ∧ (∃ u140, w'8.cell? ⟨b7, 2, none⟩ = some u140) ∧ w'8.frozen? ⟨b7, 2, none⟩ = false ∧ ∀ w'141, Put w'8 b7 0 [.int .i64 0, .int .i64 0, .string ⟨#[]⟩] w'141 → ∃ n143, w'141.cell? ⟨b7, 0, none⟩ = some (.int .i64 n143) ∧ ∃ n144, w'141.cell? ⟨b7, 1, none⟩ = some (.int .i64 n144) ∧ ∃ s145, w'141.cell? ⟨b7, 2, none⟩ = some (.string s145) ∧ R (.returned (.agg #[.int .i64 n143, .int .i64 n144, .string s145])) w'141) ∧ (n136 ≠ 0 → ∃ n147, w'8.cell? ⟨b4, 0, none⟩ = some (.int .i64 n147) ∧ (n147 = 0 → (∃ u149, w'8.cell? ⟨b7, 0, none⟩ = some u149) ∧ w'8.frozen? ⟨b7, 0, none⟩ = false ∧ (∃ u150, w'8.cell? ⟨b7, 1, none⟩ = some u150) ∧ w'8.frozen? ⟨b7, 1, none⟩ = false ∧ (∃ u151, w'8.cell? ⟨b7, 2, none⟩ = some u151) ∧ w'8.frozen? ⟨b7, 2, none⟩ = false ∧ ∀ w'152, Put w'8 b7 0 [.int .i64 0, .int .i64 0, .string ⟨#[]⟩] w'152 → ∃ n154, w'152.cell? ⟨b7, 0, none⟩ = some (.int .i64 n154) ∧ ∃ n155, w'152.cell? ⟨b7, 1, none⟩ = some (.int .i64 n155) ∧ ∃ s156, w'152.cell? ⟨b7, 2, none⟩ = some (.string s156) ∧ R (.returned (.agg #[.int .i64 n154, .int .i64 n155, .string s156])) w'152) ∧ (n147 ≠ 0 → Calls Tryd.prog 87 #[.bool (decide (strong = 0))] w'8 fun e158 w159 ↦
 ∃ n160, ∃ n161, ∃ s162, e158 = .returned (.agg #[.int .i64 n160, .int .i64 n161, .string s162]) ∧ (∃ u163, w159.cell? ⟨b7, 0, none⟩ = some u163) ∧ w159.frozen? ⟨b7, 0, none⟩ = false ∧ (∃ u164, w159.cell? ⟨b7, 1, none⟩ = some u164) ∧ w159.frozen? ⟨b7, 1, none⟩ = false ∧ (∃ u165, w159.cell? ⟨b7, 2, none⟩ = some u165) ∧ w159.frozen? ⟨b7, 2, none⟩ = false ∧ ∀ w'166, Put w159 b7 0 [.int .i64 n160, .int .i64 n161, .string s162] w'166 → ∃ n168, w'166.cell? ⟨b7, 0, none⟩ = some (.int .i64 n168) ∧ ∃ n169, w'166.cell? ⟨b7, 1, none⟩ = some (.int .i64 n169) ∧ ∃ s170, w'166.cell? ⟨b7, 2, none⟩ = some (.string s170) ∧ R (.returned (.agg #[.int .i64 n168, .int .i64 n169, .string s170])) w'166)))) ∧ (n118 ≠ 2 → ∃ n172, w'8.cell? ⟨b1_1, 0, none⟩ = some (.int .i64 n172) ∧ (n172 = 0 → (∃ u174, w'8.cell? ⟨b7, 0, none⟩ = some u174) ∧ w'8.frozen? ⟨b7, 0, none⟩ = false ∧ (∃ u175, w'8.cell? ⟨b7, 1, none⟩ = some u175) ∧ w'8.frozen? ⟨b7, 1, none⟩ = false ∧ (∃ u176, w'8.cell? ⟨b7, 2, none⟩ = some u176) ∧ w'8.frozen? ⟨b7, 2, none⟩ = false ∧ ∀ w'177, Put w'8 b7 0 [.int .i64 0, .int .i64 0, .string ⟨#[]⟩] w'177 → ∃ n179, w'177.cell? ⟨b7, 0, none⟩ = some (.int .i64 n179) ∧ ∃ n180, w'177.cell? ⟨b7, 1, none⟩ = some (.int .i64 n180) ∧ ∃ s181, w'177.cell? ⟨b7, 2, none⟩ = some (.string s181) ∧ R (.returned (.agg #[.int .i64 n179, .int .i64 n180, .string s181])) w'177) ∧ (n172 ≠ 0 → ∃ n183, w'8.cell? ⟨b4, 0, none⟩ = some (.int .i64 n183) ∧ (n183 = 0 → (∃ u185, w'8.cell? ⟨b7, 0, none⟩ = some u185) ∧ w'8.frozen? ⟨b7, 0, none⟩ = false ∧ (∃ u186, w'8.cell? ⟨b7, 1, none⟩ = some u186) ∧ w'8.frozen? ⟨b7, 1, none⟩ = false ∧ (∃ u187, w'8.cell? ⟨b7, 2, none⟩ = some u187) ∧ w'8.frozen? ⟨b7, 2, none⟩ = false ∧ ∀ w'188, Put w'8 b7 0 [.int .i64 0, .int .i64 0, .string ⟨#[]⟩] w'188 → ∃ n190, w'188.cell? ⟨b7, 0, none⟩ = some (.int .i64 n190) ∧ ∃ n191, w'188.cell? ⟨b7, 1, none⟩ = some (.int .i64 n191) ∧ ∃ s192, w'188.cell? ⟨b7, 2, none⟩ = some (.string s192) ∧ R (.returned (.agg #[.int .i64 n190, .int .i64 n191, .string s192])) w'188) ∧ (n183 ≠ 0 → Calls Tryd.prog 87 #[.bool (decide (strong = 0))] w'8 fun e194 w195 ↦
 ∃ n196, ∃ n197, ∃ s198, e194 = .returned (.agg #[.int .i64 n196, .int .i64 n197, .string s198]) ∧ (∃ u199, w195.cell? ⟨b7, 0, none⟩ = some u199) ∧ w195.frozen? ⟨b7, 0, none⟩ = false ∧ (∃ u200, w195.cell? ⟨b7, 1, none⟩ = some u200) ∧ w195.frozen? ⟨b7, 1, none⟩ = false ∧ (∃ u201, w195.cell? ⟨b7, 2, none⟩ = some u201) ∧ w195.frozen? ⟨b7, 2, none⟩ = false ∧ ∀ w'202, Put w195 b7 0 [.int .i64 n196, .int .i64 n197, .string s198] w'202 → ∃ n204, w'202.cell? ⟨b7, 0, none⟩ = some (.int .i64 n204) ∧ ∃ n205, w'202.cell? ⟨b7, 1, none⟩ = some (.int .i64 n205) ∧ ∃ s206, w'202.cell? ⟨b7, 2, none⟩ = some (.string s206) ∧ R (.returned (.agg #[.int .i64 n204, .int .i64 n205, .string s206])) w'202))))

set_option maxRecDepth 100000 in
theorem rboth_eq (a0 : Int) (a1 : Int) (a2 : ByteArray) (b0 : Int) (b1 : Int) (b2 : ByteArray) (strong : Int) (w : World) (R : Ending → World → Prop) : rboth_T a0 a1 a2 b0 b1 b2 strong w R = vcFn Tryd.prog [] [] Tryd.f86 [.agg #[.int .i64 a0, .int .i64 a1, .string a2], .agg #[.int .i64 b0, .int .i64 b1, .string b2], .int .i64 strong] w R := by kernel_rfl

set_option maxRecDepth 100000 in
theorem rboth_vc (a0 : Int) (a1 : Int) (a2 : ByteArray) (b0 : Int) (b1 : Int) (b2 : ByteArray) (strong : Int) (w : World) (R : Ending → World → Prop) (h : rboth_T a0 a1 a2 b0 b1 b2 strong w R) : Calls Tryd.prog 86 #[.agg #[.int .i64 a0, .int .i64 a1, .string a2], .agg #[.int .i64 b0, .int .i64 b1, .string b2], .int .i64 strong] w R :=
  calls_of_vc (args := [.agg #[.int .i64 a0, .int .i64 a1, .string a2], .agg #[.int .i64 b0, .int .i64 b1, .string b2], .int .i64 strong]) [] [] Tryd.mixed Tryd.func86 (cast (rboth_eq _ _ _ _ _ _ _ w R) h)

set_option maxRecDepth 100000 in
def rtwo_T (op : Int) (a0 : Int) (a1 : Int) (a2 : ByteArray) (b0 : Int) (b1 : Int) (b2 : ByteArray) (w : World) (R : Ending → World → Prop) : Prop :=
  ∀ b1_1 w'2, New w (Obj.cells #[.int .i64 a0, .int .i64 a1, .string a2] 25) b1_1 w'2 → ∀ b4 w'5, New w'2 (Obj.cells #[.int .i64 b0, .int .i64 b1, .string b2] 25) b4 w'5 → ∀ b7 w'8, New w'5 (Obj.cells #[.int .i64 0, .int .i64 0, .string ⟨#[]⟩] 25) b7 w'8 → (op = 12 → ∃ n11, w'8.cell? ⟨b1_1, 0, none⟩ = some (.int .i64 n11) ∧ ∃ n12, w'8.cell? ⟨b1_1, 1, none⟩ = some (.int .i64 n12) ∧ ∃ s13, w'8.cell? ⟨b1_1, 2, none⟩ = some (.string s13) ∧ ∃ n14, w'8.cell? ⟨b4, 0, none⟩ = some (.int .i64 n14) ∧ ∃ n15, w'8.cell? ⟨b4, 1, none⟩ = some (.int .i64 n15) ∧ ∃ s16, w'8.cell? ⟨b4, 2, none⟩ = some (.string s16) ∧ Calls Tryd.prog 86
 #[.agg #[.int .i64 n11, .int .i64 n12, .string s13], .agg #[.int .i64 n14, .int .i64 n15, .string s16], .int .i64 0]
 w'8 fun e17 w18 ↦
 ∃ n19, ∃ n20, ∃ s21, e17 = .returned (.agg #[.int .i64 n19, .int .i64 n20, .string s21]) ∧ (∃ u22, w18.cell? ⟨b7, 0, none⟩ = some u22) ∧ w18.frozen? ⟨b7, 0, none⟩ = false ∧ (∃ u23, w18.cell? ⟨b7, 1, none⟩ = some u23) ∧ w18.frozen? ⟨b7, 1, none⟩ = false ∧ (∃ u24, w18.cell? ⟨b7, 2, none⟩ = some u24) ∧ w18.frozen? ⟨b7, 2, none⟩ = false ∧ ∀ w'25, Put w18 b7 0 [.int .i64 n19, .int .i64 n20, .string s21] w'25 → ∃ n27, w'25.cell? ⟨b7, 0, none⟩ = some (.int .i64 n27) ∧ ∃ n28, w'25.cell? ⟨b7, 1, none⟩ = some (.int .i64 n28) ∧ ∃ s29, w'25.cell? ⟨b7, 2, none⟩ = some (.string s29) ∧ R (.returned (.tuple #[.agg #[.int .i64 n27, .int .i64 n28, .string s29], .int .i64 0])) w'25) ∧ (op ≠ 12 → (op = 13 → ∃ n32, w'8.cell? ⟨b1_1, 0, none⟩ = some (.int .i64 n32) ∧ ∃ n33, w'8.cell? ⟨b1_1, 1, none⟩ = some (.int .i64 n33) ∧ ∃ s34, w'8.cell? ⟨b1_1, 2, none⟩ = some (.string s34) ∧ ∃ n35, w'8.cell? ⟨b4, 0, none⟩ = some (.int .i64 n35) ∧ ∃ n36, w'8.cell? ⟨b4, 1, none⟩ = some (.int .i64 n36) ∧ ∃ s37, w'8.cell? ⟨b4, 2, none⟩ = some (.string s37) ∧ Calls Tryd.prog 86
 #[.agg #[.int .i64 n32, .int .i64 n33, .string s34], .agg #[.int .i64 n35, .int .i64 n36, .string s37], .int .i64 1]
 w'8 fun e38 w39 ↦
 ∃ n40, ∃ n41, ∃ s42, e38 = .returned (.agg #[.int .i64 n40, .int .i64 n41, .string s42]) ∧ (∃ u43, w39.cell? ⟨b7, 0, none⟩ = some u43) ∧ w39.frozen? ⟨b7, 0, none⟩ = false ∧ (∃ u44, w39.cell? ⟨b7, 1, none⟩ = some u44) ∧ w39.frozen? ⟨b7, 1, none⟩ = false ∧ (∃ u45, w39.cell? ⟨b7, 2, none⟩ = some u45) ∧ w39.frozen? ⟨b7, 2, none⟩ = false ∧ ∀ w'46, Put w39 b7 0 [.int .i64 n40, .int .i64 n41, .string s42] w'46 → ∃ n48, w'46.cell? ⟨b7, 0, none⟩ = some (.int .i64 n48) ∧ ∃ n49, w'46.cell? ⟨b7, 1, none⟩ = some (.int .i64 n49) ∧ ∃ s50, w'46.cell? ⟨b7, 2, none⟩ = some (.string s50) ∧ R (.returned (.tuple #[.agg #[.int .i64 n48, .int .i64 n49, .string s50], .int .i64 0])) w'46) ∧ (op ≠ 13 → ∃ n52, w'8.cell? ⟨b1_1, 0, none⟩ = some (.int .i64 n52) ∧ (n52 = 0 → (∃ u54, w'8.cell? ⟨b7, 0, none⟩ = some u54) ∧ w'8.frozen? ⟨b7, 0, none⟩ = false ∧ (∃ u55, w'8.cell? ⟨b7, 1, none⟩ = some u55) ∧ w'8.frozen? ⟨b7, 1, none⟩ = false ∧ (∃ u56, w'8.cell? ⟨b7, 2, none⟩ = some u56) ∧ w'8.frozen? ⟨b7, 2, none⟩ = false ∧ ∀ w'57, Put w'8 b7 0 [.int .i64 0, .int .i64 0, .string ⟨#[]⟩] w'57 → ∃ n59, w'57.cell? ⟨b7, 0, none⟩ = some (.int .i64 n59) ∧ ∃ n60, w'57.cell? ⟨b7, 1, none⟩ = some (.int .i64 n60) ∧ ∃ s61, w'57.cell? ⟨b7, 2, none⟩ = some (.string s61) ∧ R (.returned (.tuple #[.agg #[.int .i64 n59, .int .i64 n60, .string s61], .int .i64 0])) w'57) ∧ (n52 ≠ 0 → ∃ n63, w'8.cell? ⟨b4, 0, none⟩ = some (.int .i64 n63) ∧ (n63 = 0 → (∃ u65, w'8.cell? ⟨b7, 0, none⟩ = some u65) ∧ w'8.frozen? ⟨b7, 0, none⟩ = false ∧ (∃ u66, w'8.cell? ⟨b7, 1, none⟩ = some u66) ∧ w'8.frozen? ⟨b7, 1, none⟩ = false ∧ (∃ u67, w'8.cell? ⟨b7, 2, none⟩ = some u67) ∧ w'8.frozen? ⟨b7, 2, none⟩ = false ∧ ∀ w'68, Put w'8 b7 0 [.int .i64 0, .int .i64 0, .string ⟨#[]⟩] w'68 → ∃ n70, w'68.cell? ⟨b7, 0, none⟩ = some (.int .i64 n70) ∧ ∃ n71, w'68.cell? ⟨b7, 1, none⟩ = some (.int .i64 n71) ∧ ∃ s72, w'68.cell? ⟨b7, 2, none⟩ = some (.string s72) ∧ R (.returned (.tuple #[.agg #[.int .i64 n70, .int .i64 n71, .string s72], .int .i64 0])) w'68) ∧ (n63 ≠ 0 → ∃ n74, w'8.cell? ⟨b1_1, 0, none⟩ = some (.int .i64 n74) ∧ ∃ n75, w'8.cell? ⟨b1_1, 1, none⟩ = some (.int .i64 n75) ∧ ∃ s76, w'8.cell? ⟨b1_1, 2, none⟩ = some (.string s76) ∧ ∃ n77, w'8.cell? ⟨b4, 0, none⟩ = some (.int .i64 n77) ∧ ∃ n78, w'8.cell? ⟨b4, 1, none⟩ = some (.int .i64 n78) ∧ ∃ s79, w'8.cell? ⟨b4, 2, none⟩ = some (.string s79) ∧ Calls Tryd.prog 34
 #[.agg #[.int .i64 n74, .int .i64 n75, .string s76], .agg #[.int .i64 n77, .int .i64 n78, .string s79]]
 w'8 fun e80 w81 ↦
 ∃ n82, e80 = .returned (.int .i64 n82) ∧ (op = 9 → Calls Tryd.prog 87 #[.bool (decide (n82 = 0))] w81 fun e84 w85 ↦
 ∃ n86, ∃ n87, ∃ s88, e84 = .returned (.agg #[.int .i64 n86, .int .i64 n87, .string s88]) ∧ (∃ u89, w85.cell? ⟨b7, 0, none⟩ = some u89) ∧ w85.frozen? ⟨b7, 0, none⟩ = false ∧ (∃ u90, w85.cell? ⟨b7, 1, none⟩ = some u90) ∧ w85.frozen? ⟨b7, 1, none⟩ = false ∧ (∃ u91, w85.cell? ⟨b7, 2, none⟩ = some u91) ∧ w85.frozen? ⟨b7, 2, none⟩ = false ∧ ∀ w'92, Put w85 b7 0 [.int .i64 n86, .int .i64 n87, .string s88] w'92 → ∃ n94, w'92.cell? ⟨b7, 0, none⟩ = some (.int .i64 n94) ∧ ∃ n95, w'92.cell? ⟨b7, 1, none⟩ = some (.int .i64 n95) ∧ ∃ s96, w'92.cell? ⟨b7, 2, none⟩ = some (.string s96) ∧ R (.returned (.tuple #[.agg #[.int .i64 n94, .int .i64 n95, .string s96], .int .i64 0])) w'92) ∧ (op ≠ 9 → (op = 10 → Calls Tryd.prog 87 #[.bool (decide (n82 < 0))] w81 fun e99 w100 ↦
 ∃ n101, ∃ n102, ∃ s103, e99 = .returned (.agg #[.int .i64 n101, .int .i64 n102, .string s103]) ∧ (∃ u104, w100.cell? ⟨b7, 0, none⟩ = some u104) ∧ w100.frozen? ⟨b7, 0, none⟩ = false ∧ (∃ u105, w100.cell? ⟨b7, 1, none⟩ = some u105) ∧ w100.frozen? ⟨b7, 1, none⟩ = false ∧ (∃ u106, w100.cell? ⟨b7, 2, none⟩ = some u106) ∧ w100.frozen? ⟨b7, 2, none⟩ = false ∧ ∀ w'107, Put w100 b7 0 [.int .i64 n101, .int .i64 n102, .string s103] w'107 → ∃ n109, w'107.cell? ⟨b7, 0, none⟩ = some (.int .i64 n109) ∧ ∃ n110, w'107.cell? ⟨b7, 1, none⟩ = some (.int .i64 n110) ∧ ∃ s111, w'107.cell? ⟨b7, 2, none⟩ = some (.string s111) ∧ R (.returned (.tuple #[.agg #[.int .i64 n109, .int .i64 n110, .string s111], .int .i64 0])) w'107) ∧ (op ≠ 10 → (op = 11 → Calls Tryd.prog 87 #[.bool (decide (n82 ≤ 0))] w81 fun e114 w115 ↦
 ∃ n116, ∃ n117, ∃ s118, e114 = .returned (.agg #[.int .i64 n116, .int .i64 n117, .string s118]) ∧ (∃ u119, w115.cell? ⟨b7, 0, none⟩ = some u119) ∧ w115.frozen? ⟨b7, 0, none⟩ = false ∧ (∃ u120, w115.cell? ⟨b7, 1, none⟩ = some u120) ∧ w115.frozen? ⟨b7, 1, none⟩ = false ∧ (∃ u121, w115.cell? ⟨b7, 2, none⟩ = some u121) ∧ w115.frozen? ⟨b7, 2, none⟩ = false ∧ ∀ w'122, Put w115 b7 0 [.int .i64 n116, .int .i64 n117, .string s118] w'122 → ∃ n124, w'122.cell? ⟨b7, 0, none⟩ = some (.int .i64 n124) ∧ ∃ n125, w'122.cell? ⟨b7, 1, none⟩ = some (.int .i64 n125) ∧ ∃ s126, w'122.cell? ⟨b7, 2, none⟩ = some (.string s126) ∧ R (.returned (.tuple #[.agg #[.int .i64 n124, .int .i64 n125, .string s126], .int .i64 0])) w'122) ∧ (op ≠ 11 → ∃ n128, w81.cell? ⟨b1_1, 1, none⟩ = some (.int .i64 n128) ∧ ∃ n129, w81.cell? ⟨b4, 1, none⟩ = some (.int .i64 n129) ∧ Calls Tryd.prog 88 #[.int .i64 op, .int .i64 n128, .int .i64 n129] w81 fun e130 w131 ↦
 ∃ n132, ∃ n133, e130 = .returned (.tuple #[.int .i64 n132, .int .i64 n133]) ∧ (n133 ≠ 0 → (∃ u135, w131.cell? ⟨b7, 0, none⟩ = some u135) ∧ w131.frozen? ⟨b7, 0, none⟩ = false ∧ (∃ u136, w131.cell? ⟨b7, 1, none⟩ = some u136) ∧ w131.frozen? ⟨b7, 1, none⟩ = false ∧ (∃ u137, w131.cell? ⟨b7, 2, none⟩ = some u137) ∧ w131.frozen? ⟨b7, 2, none⟩ = false ∧ ∀ w'138, Put w131 b7 0 [.int .i64 0, .int .i64 0, .string ⟨#[]⟩] w'138 → ∃ n140, w'138.cell? ⟨b7, 0, none⟩ = some (.int .i64 n140) ∧ ∃ n141, w'138.cell? ⟨b7, 1, none⟩ = some (.int .i64 n141) ∧ ∃ s142, w'138.cell? ⟨b7, 2, none⟩ = some (.string s142) ∧ R (.returned (.tuple #[.agg #[.int .i64 n140, .int .i64 n141, .string s142], .int .i64 n133])) w'138) ∧ (n133 = 0 → Calls Tryd.prog 89 #[.int .i64 n132] w131 fun e144 w145 ↦
 ∃ n146, ∃ n147, ∃ s148, e144 = .returned (.agg #[.int .i64 n146, .int .i64 n147, .string s148]) ∧ (∃ u149, w145.cell? ⟨b7, 0, none⟩ = some u149) ∧ w145.frozen? ⟨b7, 0, none⟩ = false ∧ (∃ u150, w145.cell? ⟨b7, 1, none⟩ = some u150) ∧ w145.frozen? ⟨b7, 1, none⟩ = false ∧ (∃ u151, w145.cell? ⟨b7, 2, none⟩ = some u151) ∧ w145.frozen? ⟨b7, 2, none⟩ = false ∧ ∀ w'152, Put w145 b7 0 [.int .i64 n146, .int .i64 n147, .string s148] w'152 → ∃ n154, w'152.cell? ⟨b7, 0, none⟩ = some (.int .i64 n154) ∧ ∃ n155, w'152.cell? ⟨b7, 1, none⟩ = some (.int .i64 n155) ∧ ∃ s156, w'152.cell? ⟨b7, 2, none⟩ = some (.string s156) ∧ R (.returned (.tuple #[.agg #[.int .i64 n154, .int .i64 n155, .string s156], .int .i64 0])) w'152))))))))

set_option maxRecDepth 100000 in
theorem rtwo_eq (op : Int) (a0 : Int) (a1 : Int) (a2 : ByteArray) (b0 : Int) (b1 : Int) (b2 : ByteArray) (w : World) (R : Ending → World → Prop) : rtwo_T op a0 a1 a2 b0 b1 b2 w R = vcFn Tryd.prog [] [] Tryd.f69 [.int .i64 op, .agg #[.int .i64 a0, .int .i64 a1, .string a2], .agg #[.int .i64 b0, .int .i64 b1, .string b2]] w R := by kernel_rfl

set_option maxRecDepth 100000 in
theorem rtwo_vc (op : Int) (a0 : Int) (a1 : Int) (a2 : ByteArray) (b0 : Int) (b1 : Int) (b2 : ByteArray) (w : World) (R : Ending → World → Prop) (h : rtwo_T op a0 a1 a2 b0 b1 b2 w R) : Calls Tryd.prog 69 #[.int .i64 op, .agg #[.int .i64 a0, .int .i64 a1, .string a2], .agg #[.int .i64 b0, .int .i64 b1, .string b2]] w R :=
  calls_of_vc (args := [.int .i64 op, .agg #[.int .i64 a0, .int .i64 a1, .string a2], .agg #[.int .i64 b0, .int .i64 b1, .string b2]]) [] [] Tryd.mixed Tryd.func69 (cast (rtwo_eq _ _ _ _ _ _ _ w R) h)


end Go.Proofs.YtpjafkcmbinjiaaDoor
