/- The contracts of package value, of the document's answer for it, and of the words that hold rows against one another. -/
import Derived.Test.YtdephmdfdgclpaaDoorVV
import Derived.Test.YtdephmdfdgclpaaDoorVl
namespace Go.Proofs.YtdephmdfdgclpaaDoor
open Go Go.Vc Go.RowKit

theorem strcmp0_ok (a b : ByteArray) (w : World) : Calls Tryd.prog 114 #[.string a, .string b] w fun e w' => e = .returned (.int .i64 (cmpS a b)) ∧ w' = w := by
  apply strcmp0_vc
  unfold strcmp0_T
  refine ⟨_, _, ?_, rfl, rfl⟩
  rw [run_callFunc_extern Tryd.func120 (by kernel_rfl) (by kernel_rfl) (by kernel_rfl) (e := Extern.BytealgCompare.compare) (by kernel_rfl), Lib.run_compareString]
  rfl
theorem strcmp_ok (a b : ByteArray) (w : World) : Calls Tryd.prog 103 #[.string a, .string b] w fun e w' => e = .returned (.int .i64 (cmpS a b)) ∧ Ext w w' := by
  apply strcmp_vc
  unfold strcmp_T
  refine (strcmp0_ok a b w).mono ?_
  rintro e w' ⟨rfl, rfl⟩
  exact ⟨_, rfl, rfl, .rfl⟩
theorem isnani_ok (x : Int) (w : World) : Calls Tryd.prog 112 #[.int .i64 x] w fun e w' => e = .returned (.bool false) ∧ Ext w w' := by
  apply isnani_vc
  unfold isnani_T
  exact ⟨by simp, .rfl⟩
theorem isnani64_ok (x : Int) (w : World) : Calls Tryd.prog 113 #[.int .i64 x] w fun e w' => e = .returned (.bool false) ∧ Ext w w' := by
  apply isnani64_vc
  unfold isnani64_T
  exact ⟨by simp, .rfl⟩
theorem cmpint_ok (x y : Int) (w : World) : Calls Tryd.prog 101 #[.int .i64 x, .int .i64 y] w fun e w' => e = .returned (.int .i64 (cmpI x y)) ∧ Ext w w' := by
  apply cmpint_vc
  unfold cmpint_T
  refine (isnani_ok x w).mono ?_
  rintro e w1 ⟨rfl, e1⟩
  refine ⟨_, rfl, (isnani_ok y w1).mono ?_⟩
  rintro e w2 ⟨rfl, e2⟩
  have e12 := e1.trans e2
  refine ⟨_, rfl, ⟨fun h => (by cases h), fun _ => ⟨fun h => (by cases h), fun _ => ⟨fun h => ⟨?_, e12⟩, fun h => ⟨fun h' => ⟨?_, e12⟩, fun h' => ⟨?_, e12⟩⟩⟩⟩⟩⟩
  · unfold cmpI; rw [if_pos h]
  · unfold cmpI; rw [if_neg (by omega), if_pos h']
  · unfold cmpI; rw [if_neg (by omega), if_neg (by omega)]
theorem cmpint64_ok (x y : Int) (w : World) : Calls Tryd.prog 102 #[.int .i64 x, .int .i64 y] w fun e w' => e = .returned (.int .i64 (cmpI x y)) ∧ Ext w w' := by
  apply cmpint64_vc
  unfold cmpint64_T
  refine (isnani64_ok x w).mono ?_
  rintro e w1 ⟨rfl, e1⟩
  refine ⟨_, rfl, (isnani64_ok y w1).mono ?_⟩
  rintro e w2 ⟨rfl, e2⟩
  have e12 := e1.trans e2
  refine ⟨_, rfl, ⟨fun h => (by cases h), fun _ => ⟨fun h => (by cases h), fun _ => ⟨fun h => ⟨?_, e12⟩, fun h => ⟨fun h' => ⟨?_, e12⟩, fun h' => ⟨?_, e12⟩⟩⟩⟩⟩⟩
  · unfold cmpI; rw [if_pos h]
  · unfold cmpI; rw [if_neg (by omega), if_pos h']
  · unfold cmpI; rw [if_neg (by omega), if_neg (by omega)]

/-- The first of the numbers that is not 0. -/
def orI : List Int → Int
  | [] => 0
  | x :: l => if x ≠ 0 then x else orI l
theorem orI_drop {l : List Int} {k : Nat} {x : Int} (h : l[k]? = some x) : orI (l.drop k) = if x ≠ 0 then x else orI (l.drop (k + 1)) := by
  obtain ⟨hk, rfl⟩ := List.getElem?_eq_some_iff.1 h
  rw [List.drop_eq_getElem_cons hk, orI]
theorem cmpor_ok (w : World) {p : Option Addr} {n c : Nat} {l : List Int} (hl : l.length = n) (hn : n < 9223372036854775807) (h : At w p (vI .i64 l)) : Calls Tryd.prog 100 #[.slice p n c] w fun e w' => e = .returned (.int .i64 (orI l)) ∧ Ext w w' := by
  apply cmpor_vc
  unfold cmpor_T
  refine ⟨fun i w' => ∃ k : Nat, i = (k : Int) ∧ k ≤ n ∧ orI (l.drop k) = orI l ∧ Ext w w', fun i _ => n - i.toNat, ⟨0, rfl, Nat.zero_le _, rfl, .rfl⟩, ?_⟩
  rintro i w' ⟨k, rfl, hk, ho, hx⟩
  refine ⟨fun hlt => ?_, fun hge => ⟨?_, hx⟩⟩
  · obtain ⟨b, o, hp, hc⟩ := (h.ext hx).getI (i := k) (by omega)
    have hd := orI_drop (l := l) (k := k) (List.getElem?_eq_getElem (by omega))
    refine ⟨b, o, hp, by omega, by omega, _, by rw [Int.toNat_natCast]; exact hc, fun hne => ⟨?_, hx⟩, fun he => ?_⟩
    · rw [← ho, hd, if_pos hne]
    · rw [i64_next (by omega)]
      refine ⟨⟨k + 1, rfl, by omega, ?_, hx⟩, by simp only [Int.toNat_natCast]; omega⟩
      rw [← ho, hd, if_neg (by simpa using he)]
  · rw [← ho, List.drop_eq_nil_of_le (by omega)]; rfl

theorem nil_size : (ByteArray.mk #[]).size = 0 := rfl
theorem vright_ok (v : Val) (w : World) : Calls Tryd.prog 43 #[v.agg] w fun e w' => e = .returned (.bool v.right) ∧ Ext w w' := by
  apply vright_vc
  unfold vright_T
  intro b1 w2 h1
  have H1 := (Hold.start (Ext.rfl (w := w))).new h1
  obtain ⟨p0, p1, p2⟩ := (H1.blk 0 rfl).c3
  refine ⟨_, p0, fun b5 w6 h5 => ?_⟩
  have H5 := H1.new h5
  obtain ⟨q0, q1, q2⟩ := (H5.blk 0 rfl).c3
  refine ⟨⟨_, q0⟩, (H5.blk 0 rfl).frozen _, ⟨_, q1⟩, (H5.blk 0 rfl).frozen _, ⟨_, q2⟩, (H5.blk 0 rfl).frozen _, fun w11 h11 => ?_⟩
  have H11 := H5.put 0 rfl h11
  have B1 : Blk w11 b1 26 #[.int .i64 v.k, .int .i64 v.n, .string v.s] := H11.blk 1 rfl
  have B5 : Blk w11 b5 26 #[.int .i64 v.k, .int .i64 0, .string ⟨#[]⟩] := H11.blk 0 rfl
  obtain ⟨a0, a1, a2⟩ := B1.c3
  obtain ⟨d0, d1, d2⟩ := B5.c3
  have hx := H11.ext
  have key : ∀ (b : Bool) w', Ext w w' → (b = true ↔ v.Ok) → Ending.returned (Value.bool b) = Ending.returned (Value.bool v.right) ∧ Ext w w' := by
    intro b w' hx hb
    refine ⟨?_, hx⟩
    have : b = v.right := by unfold Val.right; rw [Bool.eq_iff_iff, hb]; simp
    rw [this]
  refine ⟨_, a0, fun hk => ?_, fun hk0 => ⟨fun hk => ?_, fun hk1 => ⟨fun hk => ?_, fun hk2 => ⟨fun hk => ?_, fun hk3 => ?_⟩⟩⟩⟩
  · refine ⟨_, a0, fun _ => ⟨_, a0, fun _ => ⟨_, a0, _, a1, _, a2, _, d0, _, d1, _, d2, fun he => ⟨_, a2, key _ _ hx ?_⟩, fun he => key _ _ hx ?_⟩, fun _ => by omega⟩, fun _ => by omega⟩
    · unfold Val.Ok; rw [he.2.2]; simp [hk, he.2.1, nil_size]
    · unfold Val.Ok; constructor
      · intro h; cases h
      · intro h; rcases h with h | h | h | h
        · rcases he with e | e | e
          · exact absurd rfl e
          · exact absurd h.2.1 e
          · exact absurd h.2.2 e
        · omega
        · omega
        · omega
  · refine ⟨_, a1, ⟨_, d1⟩, B5.frozen _, fun w34 h34 => ?_⟩
    have H34 := H11.put 0 rfl h34
    have B1' : Blk w34 b1 26 #[.int .i64 v.k, .int .i64 v.n, .string v.s] := H34.blk 1 rfl
    have B5' : Blk w34 b5 26 #[.int .i64 v.k, .int .i64 v.n, .string ⟨#[]⟩] := H34.blk 0 rfl
    obtain ⟨a0, a1, a2⟩ := B1'.c3
    obtain ⟨d0, d1, d2⟩ := B5'.c3
    refine ⟨_, a0, fun _ => ⟨_, a0, fun _ => ⟨_, a0, _, a1, _, a2, _, d0, _, d1, _, d2, fun he => ⟨_, a2, key _ _ H34.ext ?_⟩, fun he => key _ _ H34.ext ?_⟩, fun _ => by omega⟩, fun _ => by omega⟩
    · unfold Val.Ok; rw [he.2.2]; simp [hk, nil_size]
    · unfold Val.Ok; constructor
      · intro h; cases h
      · intro h; rcases h with h | h | h | h
        · omega
        · rcases he with e | e | e
          · exact absurd rfl e
          · exact absurd rfl e
          · exact absurd h.2 e
        · omega
        · omega
  · refine ⟨_, a1, ⟨_, d1⟩, B5.frozen _, fun w34 h34 => ?_⟩
    have H34 := H11.put 0 rfl h34
    have B1' : Blk w34 b1 26 #[.int .i64 v.k, .int .i64 v.n, .string v.s] := H34.blk 1 rfl
    have B5' : Blk w34 b5 26 #[.int .i64 v.k, .int .i64 (bits .and .i64 v.n 1), .string ⟨#[]⟩] := H34.blk 0 rfl
    rw [and1_i64] at B5'
    obtain ⟨a0, a1, a2⟩ := B1'.c3
    obtain ⟨d0, d1, d2⟩ := B5'.c3
    refine ⟨_, a0, fun _ => ⟨_, a0, fun _ => ⟨_, a0, _, a1, _, a2, _, d0, _, d1, _, d2, fun he => ⟨_, a2, key _ _ H34.ext ?_⟩, fun he => key _ _ H34.ext ?_⟩, fun _ => by omega⟩, fun _ => by omega⟩
    · unfold Val.Ok
      have : v.n = 0 ∨ v.n = 1 := by omega
      rw [he.2.2]; simp [hk, this, nil_size]
    · unfold Val.Ok; constructor
      · intro h; cases h
      · intro h; rcases h with h | h | h | h
        · omega
        · omega
        · rcases he with e | e | e
          · exact absurd rfl e
          · omega
          · exact absurd h.2.2 e
        · omega
  · refine ⟨_, a2, ⟨_, d2⟩, B5.frozen _, fun w34 h34 => ?_⟩
    have H34 := H11.put 0 rfl h34
    have B1' : Blk w34 b1 26 #[.int .i64 v.k, .int .i64 v.n, .string v.s] := H34.blk 1 rfl
    have B5' : Blk w34 b5 26 #[.int .i64 v.k, .int .i64 0, .string v.s] := H34.blk 0 rfl
    obtain ⟨a0, a1, a2⟩ := B1'.c3
    obtain ⟨d0, d1, d2⟩ := B5'.c3
    refine ⟨_, a0, fun _ => ⟨_, a0, fun _ => ⟨_, a0, _, a1, _, a2, _, d0, _, d1, _, d2, fun he => ⟨_, a2, key _ _ H34.ext ?_⟩, fun he => key _ _ H34.ext ?_⟩, fun _ => by omega⟩, fun _ => by omega⟩
    · unfold Val.Ok; simp only [decide_eq_true_eq]
      constructor
      · intro h; exact .inr (.inr (.inr ⟨hk, he.2.1, by omega⟩))
      · intro h; rcases h with h | h | h | h <;> omega
    · unfold Val.Ok; constructor
      · intro h; cases h
      · intro h; rcases h with h | h | h | h
        · omega
        · omega
        · omega
        · rcases he with e | e | e
          · exact absurd rfl e
          · exact absurd h.2.1 e
          · exact absurd rfl e
  · have no : ¬ v.Ok := by unfold Val.Ok; omega
    refine ⟨_, a0, fun _ => ⟨_, a0, fun _ => ⟨_, a0, _, a1, _, a2, _, d0, _, d1, _, d2, fun he => by omega, fun he => key _ _ hx (by simp [no])⟩, fun _ => key _ _ hx (by simp [no])⟩, fun _ => key _ _ hx (by simp [no])⟩

theorem rvright_ok (v : Val) (w : World) : Calls Tryd.prog 30 #[v.agg] w fun e w' => e = .returned (.bool v.right) ∧ Ext w w' := by
  apply rvright_vc
  unfold rvright_T
  intro b1 w2 h1
  have hx := h1.ext
  obtain ⟨p0, p1, p2⟩ := (Blk.new h1).c3
  have key : ∀ (b : Bool) w', Ext w w' → (b = true ↔ v.Ok) → Ending.returned (Value.bool b) = Ending.returned (Value.bool v.right) ∧ Ext w w' := by
    intro b w' hx hb
    refine ⟨?_, hx⟩
    have : b = v.right := by unfold Val.right; rw [Bool.eq_iff_iff, hb]; simp
    rw [this]
  have f : ∀ {b : Bool}, b = false → ¬ v.Ok → (b = true ↔ v.Ok) := fun hb hn => by simp [hb, hn]
  refine ⟨_, p0, fun hk => ⟨_, p1, fun hn => ⟨_, p2, key _ _ hx ?_⟩, fun hn => key _ _ hx ?_⟩, fun hk0 => ⟨fun hk => ⟨_, p2, key _ _ hx ?_⟩, fun hk1 => ⟨fun hk => ⟨_, p1, fun hn => ⟨_, p2, key _ _ hx ?_⟩, fun hn => ⟨_, p1, fun hn1 => ⟨_, p2, key _ _ hx ?_⟩, fun hn1 => key _ _ hx ?_⟩⟩,
    fun hk2 => ⟨fun hk => ⟨_, p1, fun hn => ⟨_, p2, key _ _ hx ?_⟩, fun hn => key _ _ hx ?_⟩, fun hk3 => key _ _ hx ?_⟩⟩⟩⟩
  all_goals (unfold Val.Ok; try rw [sEq_iff])
  · exact ⟨fun h => .inl ⟨hk, hn, h⟩, fun h => by rcases h with h | h | h | h <;> first | exact h.2.2 | omega⟩
  · exact ⟨fun h => (by cases h), fun h => by omega⟩
  · exact ⟨fun h => .inr (.inl ⟨hk, h⟩), fun h => by rcases h with h | h | h | h <;> first | exact h.2 | omega⟩
  · exact ⟨fun h => .inr (.inr (.inl ⟨hk, .inl hn, h⟩)), fun h => by rcases h with h | h | h | h <;> first | exact h.2.2 | omega⟩
  · exact ⟨fun h => .inr (.inr (.inl ⟨hk, .inr hn1, h⟩)), fun h => by rcases h with h | h | h | h <;> first | exact h.2.2 | omega⟩
  · exact ⟨fun h => (by cases h), fun h => by omega⟩
  · rw [decide_eq_true_eq]
    exact ⟨fun h => .inr (.inr (.inr ⟨hk, hn, by omega⟩)), fun h => by rcases h with h | h | h | h <;> omega⟩
  · exact ⟨fun h => (by cases h), fun h => by omega⟩
  · exact ⟨fun h => (by cases h), fun h => by omega⟩

theorem vcompare_ok (a b : Val) (w : World) : Calls Tryd.prog 79 #[a.agg, b.agg] w fun e w' => e = .returned (.int .i64 (cmpV a b)) ∧ Ext w w' := by
  apply vcompare_vc
  unfold vcompare_T
  intro b1 w2 h1 b4 w5 h4 w7 h7
  have H := (((Hold.start (Ext.rfl (w := w))).new h1).new h4).step h7.ext
  obtain ⟨p0, p1, p2⟩ := (H.blk 1 rfl).c3
  obtain ⟨q0, q1, q2⟩ := (H.blk 0 rfl).c3
  refine ⟨_, p0, _, q0, _, p1, _, q1, _, p2, _, q2, (cmpint_ok _ _ w7).mono ?_⟩
  rintro e w16 ⟨rfl, e16⟩
  refine ⟨_, rfl, e16.same, (cmpint64_ok _ _ w16).mono ?_⟩
  rintro e w19 ⟨rfl, e19⟩
  refine ⟨_, rfl, e19.same, (strcmp_ok _ _ w19).mono ?_⟩
  rintro e w22 ⟨rfl, e22⟩
  refine ⟨_, rfl, fun b24 w25 h24 => ?_⟩
  have H25 := ((H.step e16).step e19).step e22
  have H26 := H25.new h24
  refine (cmpor_ok (l := [cmpI a.k b.k, cmpI a.n b.n, cmpS a.s b.s]) w25 rfl (by simp) h24.at).mono ?_
  rintro e w28 ⟨rfl, e28⟩
  refine ⟨_, rfl, ?_, (H26.step e28).ext⟩
  have : orI [cmpI a.k b.k, cmpI a.n b.n, cmpS a.s b.s] = cmpV a b := by
    rw [cmpV_def]
    simp only [orI]
    congr 1
    congr 1
    by_cases h : cmpS a.s b.s = 0 <;> simp [h]
  rw [this]

theorem rvless_ok (a b : Val) (w : World) : Calls Tryd.prog 105 #[a.agg, b.agg] w fun e w' => e = .returned (.bool (lessV a b)) ∧ Ext w w' := by
  apply rvless_vc
  unfold rvless_T
  intro b1 w2 h1 b4 w5 h4
  have H := ((Hold.start (Ext.rfl (w := w))).new h1).new h4
  obtain ⟨p0, p1, p2⟩ := (H.blk 1 rfl).c3
  obtain ⟨q0, q1, q2⟩ := (H.blk 0 rfl).c3
  refine ⟨_, p0, _, q0, fun hk => ⟨_, p0, _, q0, ?_, H.ext⟩, fun hk => ⟨_, p0, fun h3 => ⟨_, p2, _, q2, ?_, H.ext⟩, fun h3 => ⟨_, p1, _, q1, ?_, H.ext⟩⟩⟩
  · unfold lessV; rw [if_pos hk]
  · unfold lessV; rw [if_neg (by simpa using hk), if_pos h3]
  · unfold lessV; rw [if_neg (by simpa using hk), if_neg h3]
theorem rvcompare_ok (a b : Val) (w : World) : Calls Tryd.prog 83 #[a.agg, b.agg] w fun e w' => e = .returned (.int .i64 (rcmpV a b)) ∧ Ext w w' := by
  apply rvcompare_vc
  unfold rvcompare_T
  intro b1 w2 h1 b4 w5 h4
  have H := ((Hold.start (Ext.rfl (w := w))).new h1).new h4
  obtain ⟨p0, p1, p2⟩ := (H.blk 1 rfl).c3
  obtain ⟨q0, q1, q2⟩ := (H.blk 0 rfl).c3
  refine ⟨_, p0, _, p1, _, p2, _, q0, _, q1, _, q2, (rvless_ok a b w5).mono ?_⟩
  rintro e w8 ⟨rfl, e8⟩
  have H8 := H.step e8
  obtain ⟨p0, p1, p2⟩ := (H8.blk 1 rfl).c3
  obtain ⟨q0, q1, q2⟩ := (H8.blk 0 rfl).c3
  refine ⟨_, rfl, _, q0, _, q1, _, q2, _, p0, _, p1, _, p2, (rvless_ok b a w8).mono ?_⟩
  rintro e w9 ⟨rfl, e9⟩
  have hx := (H8.step e9).ext
  refine ⟨_, rfl, fun h => ⟨?_, hx⟩, fun h => ⟨fun h' => ⟨?_, hx⟩, fun h' => ⟨?_, hx⟩⟩⟩
  · unfold rcmpV; rw [if_pos h]
  · unfold rcmpV; rw [if_neg (by simp [h]), if_pos h']
  · unfold rcmpV; rw [if_neg (by simp [h]), if_neg (by simp [h'])]

end Go.Proofs.YtdephmdfdgclpaaDoor
