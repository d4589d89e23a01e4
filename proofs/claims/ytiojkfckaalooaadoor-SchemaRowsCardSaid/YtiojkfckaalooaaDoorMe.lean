/- Texts of the proof, one behind the other. -/
import Derived.Test.YtiojkfckaalooaaDoorMd
import Derived.Lib.LaidTab
import Derived.Test.YtiojkfckaalooaaDoorRows
import Derived.JoinedOf
set_option linter.unusedVariables false
set_option linter.unusedSimpArgs false
/- The contracts of rows' bytes: taking, by the program and by the document. Printed by mksl4.py. -/
namespace Go.Vc
open Go Go.RowKit
def takeRV (l : List UInt8) (cols : List Col) (pos : Int) : List (List Val) × Int × Int :=
  if rightC cols then (match takeRws l cols pos with
    | some (R, k) => (R, (k : Int), 0)
    | none => ([], 0, 52)) else ([], 0, 50)
def rowEn (r : List Val) : List Value := r.flatMap Val.cs
theorem flatVals_len (r : List Val) : (r.flatMap Val.cs).length = r.length * 3 := by
  induction r with
  | nil => rfl
  | cons c r ih => rw [List.flatMap_cons, List.length_append, ih, List.length_cons]; show 3 + _ = _; omega
end Go.Vc
namespace Go.Proofs.YtiojkfckaalooaaDoor
open Go Go.Vc Go.RowKit
set_option maxRecDepth 20000
attribute [local irreducible] Calls Put Drew New

theorem undRow : Tryd.prog.underlying 24 = some (.slice 65) := by kernel_rfl
theorem undRows : Tryd.prog.underlying 39 = some (.slice 24) := by kernel_rfl
theorem tyVal : tyOf Tryd.prog 65 = some { agg := true, ls := [.int .i64, .int .i64, .str], zero := .agg #[.int .i64 0, .int .i64 0, .string ⟨#[]⟩], bytes := 32, big := false, n := 3 } := by kernel_rfl
theorem tyRow : tyOf Tryd.prog 24 = some { agg := false, ls := [.slc], zero := .slice none 0 0, bytes := 24, big := false, n := 1 } := by kernel_rfl
theorem pts_rws {w0 W : World} {p : Option Addr} {n c : Nat} {R : List (List Val)} (h : Pts 65 24 3 rowEn w0 W p n c R) : ∃ hs, Rws W p n c hs R := by
  obtain ⟨hs, h1, h2, h3, h4⟩ := h.heads
  exact ⟨hs, h2.ls Sl.cs_length (by decide), fun i x r hx hr => (h4 i x r hx hr).ls Val.cs_length (by decide), h3⟩

set_option maxHeartbeats 4000000 in
theorem stakerows_ok (w : World) {p cp : Option Addr} {n c cn cc : Nat} {l : List UInt8} {cols : List Col} (h : In w p n c l) (hc : Cols w cp cn cc cols) (hcs : ∀ x ∈ cols, x.name.size ≤ 9223372036854775807) {pos : Int} (hpos : pos ≤ 9223372036854775807) :
    Calls Tryd.prog 26 #[.slice p n c, .int .i64 pos, .slice cp cn cc] w fun e w' => ∃ p' n' c' hs, e = .returned (.tuple #[.slice p' n' c', .int .i64 (takeRV l cols pos).2.1, .int .i64 (takeRV l cols pos).2.2]) ∧ Rws w' p' n' c' hs (takeRV l cols pos).1 ∧ Ext w w' := by
  have hl := h.len
  have hcl := hc.len
  have hn : n ≤ 9223372036854775807 := h.le
  have bad : ∀ {W : World} {x : Int}, Ext w W → takeRV l cols pos = ([], 0, x) → ∃ p' n' c' hs, Ending.returned (Value.tuple #[.slice none 0 0, .int .i64 0, .int .i64 x]) = .returned (.tuple #[.slice p' n' c', .int .i64 (takeRV l cols pos).2.1, .int .i64 (takeRV l cols pos).2.2]) ∧ Rws W p' n' c' hs (takeRV l cols pos).1 ∧ Ext w W := by
    intro W x hx e
    rw [e]
    exact ⟨none, 0, 0, [], rfl, Rws.nothing _, hx⟩
  apply stakerows_vc
  unfold stakerows_T
  refine (sright_ok hc).mono ?_
  rintro e w2 ⟨rfl, e1⟩
  refine ⟨_, rfl, fun hf => bad e1 (by unfold takeRV; rw [hf]; rfl), fun ht => ?_⟩
  obtain ⟨r1, r2, _⟩ := right_all ht
  have hV : takeRV l cols pos = (match takeRws l cols pos with | some (R, k) => (R, (k : Int), 0) | none => ([], 0, 52)) := by unfold takeRV; rw [if_pos ht]
  have bad2 : ∀ {W : World}, Ext w W → takeRws l cols pos = none → ∃ p' n' c' hs, Ending.returned (Value.tuple #[.slice none 0 0, .int .i64 0, .int .i64 52]) = .returned (.tuple #[.slice p' n' c', .int .i64 (takeRV l cols pos).2.1, .int .i64 (takeRV l cols pos).2.2]) ∧ Rws W p' n' c' hs (takeRV l cols pos).1 ∧ Ext w W := fun hx hn => bad hx (by rw [hV, hn])
  refine (takeNumber_ok w2 p n c l pos h.len h.cap.1 h.le (h.lies.ext e1)).mono ?_
  rintro e w7 ⟨rfl, e2⟩
  unfold takeV
  cases hN : takeN l pos with
  | none => exact ⟨0, 0, 20, rfl, fun _ => bad2 (e1.trans e2) (by unfold takeRws; rw [hN]; rfl), fun hx => absurd hx.1 (by decide)⟩
  | some r =>
    obtain ⟨N, k⟩ := r
    obtain ⟨_, hN64, _, hkl, _⟩ := takeN_spec hN
    have hS : takeRws l cols pos = if N ≤ 1024 then takeRowsN l cols N k else none := by unfold takeRws; rw [hN]; rfl
    refine ⟨_, _, _, rfl, fun hx => bad2 (e1.trans e2) (by rw [hS, if_neg (by omega)]), fun hx => ?_⟩
    have hN24 : N ≤ 1024 := by omega
    rw [if_pos hN24] at hS
    refine ⟨fun pos er q m d i W => ∃ (j z : Nat) (R : List (List Val)), i = (j : Int) ∧ pos = (z : Int) ∧ er = 0 ∧ j ≤ N ∧ R.length = j ∧ takeRowsN l cols j k = some (R, z) ∧ Pts 65 24 3 rowEn w W q m d R, fun _ _ _ _ _ i _ => N - i.toNat, ⟨0, k, [], rfl, rfl, rfl, Nat.zero_le _, rfl, rfl, Pts.none (e1.trans e2)⟩, ?_⟩
    rintro pos1 er1 q m d i W ⟨j, z, R, rfl, rfl, rfl, hj, rfl, hdone, Q⟩
    have hmR : m = R.length := by obtain ⟨_, _, _, h3, _⟩ := Q.heads; omega
    subst hmR
    obtain ⟨d1, d2, d3, d4, d5⟩ := takeRowsN_spec hdone hkl
    refine ⟨fun hlt => ?_, fun hge => ?_⟩
    · have hsnoc := takeRowsN_snoc (l := l) (cols := cols) (n := R.length) (p := k)
      rw [hdone] at hsnoc
      simp only [Option.bind_some] at hsnoc
      have hno : takeRowF l cols z = none → takeRws l cols pos = none := by
        intro hc
        rw [hS, takeRowsN_fail (n := R.length + 1) (by rw [hsnoc, hc]; rfl) (by omega)]
      have hno2 : ∀ {k' : Nat}, k' ≤ cols.length → takeRow l k' z = none → takeRws l cols pos = none := fun hk' hx => hno (by unfold takeRowF; rw [takeRow_fail hx hk']; rfl)
      refine ⟨by omega, Int.le_refl _, by omega, by omega, ?_⟩
      intro b24 w25 h24
      have K0 := (Hold.start (Ext.rfl (w := W))).litRow (s := 3) (cap := cn) h24 (by unfold maxLen; omega) (by rw [size_madeCells])
      generalize hZ : (madeCells #[Value.int .i64 0, .int .i64 0, .string ⟨#[]⟩] (cn * 3)).toList = Z at K0
      have hZl : Z.length = cn * 3 := by rw [← hZ, Array.length_toList, size_madeCells]
      refine ⟨fun pos er i W2 => ∃ (y : Nat) (done : List Val), i = (done.length : Int) ∧ pos = (y : Int) ∧ er = 0 ∧ done.length ≤ cn ∧ takeRow l done.length z = some (done, y) ∧ Hold W W2 [] [⟨65, 3, some ⟨b24, 0, none⟩, cn, cn, rowEn done ++ Z.drop (done.length * 3)⟩], fun _ _ i _ => cn - i.toNat, ⟨z, [], rfl, rfl, rfl, Nat.zero_le _, rfl, by simpa [rowEn] using K0⟩, ?_⟩
      clear K0
      rintro pos2 er2 i2 W2 ⟨y, done2, rfl, rfl, rfl, hk, hdone2, K⟩
      refine ⟨fun hlt2 => ?_, fun hge2 => ?_⟩
      · have hsn2 := takeRow_snoc (l := l) (n := done2.length) (p := z)
        rw [hdone2] at hsn2
        simp only [Option.bind_some] at hsn2
        refine (vtake_ok _ (h.ext (Q.ext.trans K.ext)) (pos := (y : Int))).mono ?_
        rintro e W3 ⟨rfl, eS⟩
        replace K := K.step eS
        simp only [Int.toNat_natCast, Nat.zero_add]
        unfold takeVV
        have store : ∀ v : Val, ∃ b, some ⟨b24, 0, none⟩ = some (Addr.mk b 0 none) ∧ (∀ q, q < 3 → (∃ u, W3.cell? ⟨b, done2.length * 3 + q, none⟩ = some u) ∧ W3.frozen? ⟨b, done2.length * 3 + q, none⟩ = false) ∧
            ∀ W', Put W3 b (done2.length * 3) v.cs W' → Hold W W' [] [⟨65, 3, some ⟨b24, 0, none⟩, cn, cn, rowEn (done2 ++ [v]) ++ Z.drop ((done2 ++ [v]).length * 3)⟩] := by
          intro v
          obtain ⟨b, hb, h1, h2⟩ := K.putRow 0 (us := v.cs) (j := done2.length) rfl (by omega) rfl
          refine ⟨b, hb, h1, fun W' hp => ?_⟩
          have := h2 W' hp
          have hlen : (rowEn done2).length = done2.length * 3 := flatVals_len done2
          have e1 : (rowEn done2 ++ Z.drop (done2.length * 3)).take (done2.length * 3) = rowEn done2 := by rw [← hlen, List.take_left]
          have e2 : (rowEn done2 ++ Z.drop (done2.length * 3)).drop (done2.length * 3 + 3) = Z.drop ((done2 ++ [v]).length * 3) := by
            rw [← List.drop_drop]
            rw [show (rowEn done2 ++ Z.drop (done2.length * 3)).drop (done2.length * 3) = Z.drop (done2.length * 3) by rw [← hlen, List.drop_left]]
            rw [List.drop_drop, List.length_append]
            congr 1
            simp only [List.length_cons, List.length_nil]; omega
          rw [e1, e2] at this
          have e3 : rowEn (done2 ++ [v]) = rowEn done2 ++ v.cs := by unfold rowEn; rw [List.flatMap_append]; simp
          rw [e3]
          exact this
        cases hv : takeVal l (y : Int) with
        | none =>
          obtain ⟨b, hb, h1, h2⟩ := store nullV
          refine ⟨0, 0, ⟨#[]⟩, 0, 20, rfl, b, 0, hb, by omega, hlt2, ?_⟩
          simp only [Nat.zero_add]
          refine ⟨(h1 0 (by decide)).1, (h1 0 (by decide)).2, (h1 1 (by decide)).1, (h1 1 (by decide)).2, (h1 2 (by decide)).1, (h1 2 (by decide)).2, ?_⟩
          intro w47 hP
          have K2 := h2 w47 hP
          exact ⟨fun _ => bad2 (Q.ext.trans K2.ext) (hno2 (k' := done2.length + 1) (by omega) (by rw [hsn2, hv]; rfl)), fun hx => absurd hx (by decide)⟩
        | some r =>
          obtain ⟨v, y2⟩ := r
          obtain ⟨b, hb, h1, h2⟩ := store v
          refine ⟨v.k, v.n, v.s, _, _, rfl, b, 0, hb, by omega, hlt2, ?_⟩
          simp only [Nat.zero_add]
          refine ⟨(h1 0 (by decide)).1, (h1 0 (by decide)).2, (h1 1 (by decide)).1, (h1 1 (by decide)).2, (h1 2 (by decide)).1, (h1 2 (by decide)).2, ?_⟩
          intro w47 hP
          have K2 := h2 w47 hP
          rw [hv] at hsn2
          simp only [Option.map_some] at hsn2
          refine ⟨fun hx => absurd rfl hx, fun _ => ?_⟩
          rw [i64_next (by omega)]
          have hll : (done2 ++ [v]).length = done2.length + 1 := by simp
          refine ⟨⟨y2, done2 ++ [v], by rw [hll], rfl, by trivial, by omega, by rw [hll]; exact hsn2, K2⟩, by simp only [Int.toNat_natCast]; omega⟩
      · have hkn : done2.length = cn := by omega
        have hZd : Z.drop (done2.length * 3) = [] := List.drop_eq_nil_of_le (by rw [hZl, hkn]; exact Nat.le_refl _)
        rw [hZd, List.append_nil] at K
        have hvs : Vs W2 (some ⟨b24, 0, none⟩) cn cn done2 := (K.row 0 rfl).ls Val.cs_length (by decide)
        refine (sfits0_ok (hc.ext (Q.ext.trans K.ext)) hvs).mono ?_
        rintro e W3 ⟨rfl, eS⟩
        have hrow : takeRow l cols.length z = some (done2, y) := by rw [hcl, ← hkn]; exact hdone2
        refine ⟨_, rfl, fun hf => bad2 ((Q.ext.trans K.ext).trans eS) (hno (by unfold takeRowF; rw [hrow]; simp only [Option.bind_some]; rw [hf]; rfl)), fun hf => ?_⟩
        intro b57 w58 h57
        have hrF : takeRowF l cols z = some (done2, y) := by unfold takeRowF; rw [hrow]; simp only [Option.bind_some]; rw [if_pos hf]
        rw [hrF] at hsnoc
        simp only [Option.map_some] at hsnoc
        replace K := K.step eS
        obtain ⟨p', c', w63, hrun, Q2⟩ := Q.push (ty := 39) (t' := 39) (P := Tryd.prog) (y := done2) undRows tyRow rfl rfl K.ext (K.row 0 rfl) h57 (by omega)
        refine ⟨_, _, _, _, hrun, ?_⟩
        have ei : IntKind.u64.wrap ((R.length : Int) + 1) = ((R.length + 1 : Nat) : Int) := by rw [show (R.length : Int) + 1 = ((R.length + 1 : Nat) : Int) by omega, u64_nat (by omega)]
        rw [ei]
        have hll : (R ++ [done2]).length = R.length + 1 := by simp
        refine ⟨⟨R.length + 1, y, R ++ [done2], rfl, rfl, rfl, by omega, hll, hsnoc, Q2⟩, by simp only [Int.toNat_natCast]; omega⟩
    · have hjN : R.length = N := by omega
      rw [← hjN, hdone] at hS
      obtain ⟨hs, hR⟩ := pts_rws Q
      have e : takeRV l cols pos = (R, (z : Int), 0) := by rw [hV, hS]
      rw [e]
      exact ⟨_, _, _, hs, rfl, hR, Q.ext⟩

set_option maxHeartbeats 4000000 in
theorem r5takerows_ok (w : World) {p cp : Option Addr} {n c cn cc : Nat} {l : List UInt8} {cols : List Col} (h : In w p n c l) (hc : Cols w cp cn cc cols) (hcs : ∀ x ∈ cols, x.name.size ≤ 9223372036854775807) {pos : Int} (hpos : pos ≤ 9223372036854775807) :
    Calls Tryd.prog 27 #[.slice p n c, .int .i64 pos, .slice cp cn cc] w fun e w' => ∃ p' n' c' hs, e = .returned (.tuple #[.slice p' n' c', .int .i64 (takeRV l cols pos).2.1, .int .i64 (takeRV l cols pos).2.2]) ∧ Rws w' p' n' c' hs (takeRV l cols pos).1 ∧ Ext w w' := by
  have hl := h.len
  have hcl := hc.len
  have hn : n ≤ 9223372036854775807 := h.le
  have bad : ∀ {W : World} {x : Int}, Ext w W → takeRV l cols pos = ([], 0, x) → ∃ p' n' c' hs, Ending.returned (Value.tuple #[.slice none 0 0, .int .i64 0, .int .i64 x]) = .returned (.tuple #[.slice p' n' c', .int .i64 (takeRV l cols pos).2.1, .int .i64 (takeRV l cols pos).2.2]) ∧ Rws W p' n' c' hs (takeRV l cols pos).1 ∧ Ext w W := by
    intro W x hx e
    rw [e]
    exact ⟨none, 0, 0, [], rfl, Rws.nothing _, hx⟩
  apply r5takerows_vc
  unfold r5takerows_T
  refine (r5right_ok hc hcs).mono ?_
  rintro e w2 ⟨rfl, e1⟩
  refine ⟨_, rfl, fun hf => bad e1 (by unfold takeRV; rw [hf]; rfl), fun ht => ?_⟩
  obtain ⟨r1, r2, _⟩ := right_all ht
  have hV : takeRV l cols pos = (match takeRws l cols pos with | some (R, k) => (R, (k : Int), 0) | none => ([], 0, 52)) := by unfold takeRV; rw [if_pos ht]
  have bad2 : ∀ {W : World}, Ext w W → takeRws l cols pos = none → ∃ p' n' c' hs, Ending.returned (Value.tuple #[.slice none 0 0, .int .i64 0, .int .i64 52]) = .returned (.tuple #[.slice p' n' c', .int .i64 (takeRV l cols pos).2.1, .int .i64 (takeRV l cols pos).2.2]) ∧ Rws W p' n' c' hs (takeRV l cols pos).1 ∧ Ext w W := fun hx hn => bad hx (by rw [hV, hn])
  refine (refTakeNumber_ok w2 p n c l pos hpos h.len h.le (h.lies.ext e1)).mono ?_
  rintro e w7 ⟨rfl, e2⟩
  unfold takeV
  cases hN : takeN l pos with
  | none => exact ⟨0, 0, 20, rfl, fun _ => bad2 (e1.trans e2) (by unfold takeRws; rw [hN]; rfl), fun hx => absurd hx.1 (by decide)⟩
  | some r =>
    obtain ⟨N, k⟩ := r
    obtain ⟨_, hN64, _, hkl, _⟩ := takeN_spec hN
    have hS : takeRws l cols pos = if N ≤ 1024 then takeRowsN l cols N k else none := by unfold takeRws; rw [hN]; rfl
    refine ⟨_, _, _, rfl, fun hx => bad2 (e1.trans e2) (by rw [hS, if_neg (by omega)]), fun hx => ?_⟩
    have hN24 : N ≤ 1024 := by omega
    rw [if_pos hN24] at hS
    have eN : IntKind.i64.wrap ((N : Nat) : Int) = ((N : Nat) : Int) := i64_fit (by omega) (by omega)
    rw [eN]
    refine ⟨fun pos q m d i W => ∃ (j z : Nat) (R : List (List Val)), i = (j : Int) ∧ pos = (z : Int) ∧ j ≤ N ∧ R.length = j ∧ takeRowsN l cols j k = some (R, z) ∧ Pts 65 24 3 rowEn w W q m d R, fun _ _ _ _ i _ => N - i.toNat, ⟨0, k, [], rfl, rfl, Nat.zero_le _, rfl, rfl, Pts.none (e1.trans e2)⟩, ?_⟩
    rintro pos1 q m d i W ⟨j, z, R, rfl, rfl, hj, rfl, hdone, Q⟩
    have hmR : m = R.length := by obtain ⟨_, _, _, h3, _⟩ := Q.heads; omega
    subst hmR
    obtain ⟨d1, d2, d3, d4, d5⟩ := takeRowsN_spec hdone hkl
    refine ⟨fun hlt => ?_, fun hge => ?_⟩
    · have hsnoc := takeRowsN_snoc (l := l) (cols := cols) (n := R.length) (p := k)
      rw [hdone] at hsnoc
      simp only [Option.bind_some] at hsnoc
      have hno : takeRowF l cols z = none → takeRws l cols pos = none := by
        intro hc
        rw [hS, takeRowsN_fail (n := R.length + 1) (by rw [hsnoc, hc]; rfl) (by omega)]
      have hno2 : ∀ {k' : Nat}, k' ≤ cols.length → takeRow l k' z = none → takeRws l cols pos = none := fun hk' hx => hno (by unfold takeRowF; rw [takeRow_fail hx hk']; rfl)
      have K0 := (Hold.start (Ext.rfl (w := W))).nilRow 65 3
      refine ⟨fun q m d pos i W2 => ∃ (y : Nat) (done : List Val), i = (done.length : Int) ∧ pos = (y : Int) ∧ done.length ≤ cn ∧ m = done.length ∧ takeRow l done.length z = some (done, y) ∧ Hold W W2 [] [⟨65, 3, q, m, d, rowEn done⟩], fun _ _ _ _ i _ => cn - i.toNat, ⟨z, [], rfl, rfl, Nat.zero_le _, rfl, rfl, K0⟩, ?_⟩
      clear K0
      rintro q2 m2 d2 pos2 i2 W2 ⟨y, done2, rfl, rfl, hk, rfl, hdone2, H⟩
      refine ⟨fun hlt2 => ?_, fun hge2 => ?_⟩
      · have hsn2 := takeRow_snoc (l := l) (n := done2.length) (p := z)
        rw [hdone2] at hsn2
        simp only [Option.bind_some] at hsn2
        refine (rvtake_ok _ (h.ext (Q.ext.trans H.ext)) (pos := (y : Int))).mono ?_
        rintro e W3 ⟨rfl, eS⟩
        replace H := H.step eS
        unfold takeVV
        cases hv : takeVal l (y : Int) with
        | none =>
          refine ⟨0, 0, ⟨#[]⟩, 0, 20, rfl, ?_⟩
          repeat (first
            | (intro _ _ hS; replace H := H.new hS; clear hS)
            | (intro _ hS; (first | replace H := H.put 0 rfl hS | replace H := H.put 1 rfl hS | replace H := H.put 2 rfl hS | replace H := H.put 3 rfl hS | replace H := H.put 4 rfl hS | replace H := H.put 5 rfl hS | replace H := H.put 6 rfl hS | replace H := H.put 7 rfl hS); clear hS; try simp only [setA, List.setIfInBounds_toArray, List.set_cons_zero, List.set_cons_succ, Nat.zero_add, Nat.reduceAdd] at H)
            | (intro _ hS; replace H := H.step (Drew.ext hS); clear hS)
            | (first | refine ⟨⟨_, H.get 0 rfl rfl⟩, ?_⟩ | refine ⟨⟨_, H.get 1 rfl rfl⟩, ?_⟩ | refine ⟨⟨_, H.get 2 rfl rfl⟩, ?_⟩ | refine ⟨⟨_, H.get 3 rfl rfl⟩, ?_⟩ | refine ⟨⟨_, H.get 4 rfl rfl⟩, ?_⟩ | refine ⟨⟨_, H.get 5 rfl rfl⟩, ?_⟩ | refine ⟨⟨_, H.get 6 rfl rfl⟩, ?_⟩ | refine ⟨⟨_, H.get 7 rfl rfl⟩, ?_⟩)
            | (first | refine ⟨H.frz 0 rfl, ?_⟩ | refine ⟨H.frz 1 rfl, ?_⟩ | refine ⟨H.frz 2 rfl, ?_⟩ | refine ⟨H.frz 3 rfl, ?_⟩ | refine ⟨H.frz 4 rfl, ?_⟩ | refine ⟨H.frz 5 rfl, ?_⟩ | refine ⟨H.frz 6 rfl, ?_⟩ | refine ⟨H.frz 7 rfl, ?_⟩)
            | (first | refine ⟨_, H.get 0 rfl rfl, ?_⟩ | refine ⟨_, H.get 1 rfl rfl, ?_⟩ | refine ⟨_, H.get 2 rfl rfl, ?_⟩ | refine ⟨_, H.get 3 rfl rfl, ?_⟩ | refine ⟨_, H.get 4 rfl rfl, ?_⟩ | refine ⟨_, H.get 5 rfl rfl, ?_⟩ | refine ⟨_, H.get 6 rfl rfl, ?_⟩ | refine ⟨_, H.get 7 rfl rfl, ?_⟩)
            | (first | refine ⟨_, _, _, H.get 0 rfl rfl, ?_⟩ | refine ⟨_, _, _, H.get 1 rfl rfl, ?_⟩ | refine ⟨_, _, _, H.get 2 rfl rfl, ?_⟩ | refine ⟨_, _, _, H.get 3 rfl rfl, ?_⟩ | refine ⟨_, _, _, H.get 4 rfl rfl, ?_⟩ | refine ⟨_, _, _, H.get 5 rfl rfl, ?_⟩ | refine ⟨_, _, _, H.get 6 rfl rfl, ?_⟩ | refine ⟨_, _, _, H.get 7 rfl rfl, ?_⟩))
          exact ⟨fun _ => bad2 (Q.ext.trans H.ext) (hno2 (k' := done2.length + 1) (by omega) (by rw [hsn2, hv]; rfl)), fun hx => absurd hx (by decide)⟩
        | some r =>
          obtain ⟨v, y2⟩ := r
          refine ⟨v.k, v.n, v.s, _, _, rfl, ?_⟩
          rw [hv] at hsn2
          simp only [Option.map_some] at hsn2
          repeat (first
            | (intro _ _ hS; replace H := H.new hS; clear hS)
            | (intro _ hS; (first | replace H := H.put 0 rfl hS | replace H := H.put 1 rfl hS | replace H := H.put 2 rfl hS | replace H := H.put 3 rfl hS | replace H := H.put 4 rfl hS | replace H := H.put 5 rfl hS | replace H := H.put 6 rfl hS | replace H := H.put 7 rfl hS); clear hS; try simp only [setA, List.setIfInBounds_toArray, List.set_cons_zero, List.set_cons_succ, Nat.zero_add, Nat.reduceAdd] at H)
            | (intro _ hS; replace H := H.step (Drew.ext hS); clear hS)
            | (first | refine ⟨⟨_, H.get 0 rfl rfl⟩, ?_⟩ | refine ⟨⟨_, H.get 1 rfl rfl⟩, ?_⟩ | refine ⟨⟨_, H.get 2 rfl rfl⟩, ?_⟩ | refine ⟨⟨_, H.get 3 rfl rfl⟩, ?_⟩ | refine ⟨⟨_, H.get 4 rfl rfl⟩, ?_⟩ | refine ⟨⟨_, H.get 5 rfl rfl⟩, ?_⟩ | refine ⟨⟨_, H.get 6 rfl rfl⟩, ?_⟩ | refine ⟨⟨_, H.get 7 rfl rfl⟩, ?_⟩)
            | (first | refine ⟨H.frz 0 rfl, ?_⟩ | refine ⟨H.frz 1 rfl, ?_⟩ | refine ⟨H.frz 2 rfl, ?_⟩ | refine ⟨H.frz 3 rfl, ?_⟩ | refine ⟨H.frz 4 rfl, ?_⟩ | refine ⟨H.frz 5 rfl, ?_⟩ | refine ⟨H.frz 6 rfl, ?_⟩ | refine ⟨H.frz 7 rfl, ?_⟩)
            | (first | refine ⟨_, H.get 0 rfl rfl, ?_⟩ | refine ⟨_, H.get 1 rfl rfl, ?_⟩ | refine ⟨_, H.get 2 rfl rfl, ?_⟩ | refine ⟨_, H.get 3 rfl rfl, ?_⟩ | refine ⟨_, H.get 4 rfl rfl, ?_⟩ | refine ⟨_, H.get 5 rfl rfl, ?_⟩ | refine ⟨_, H.get 6 rfl rfl, ?_⟩ | refine ⟨_, H.get 7 rfl rfl, ?_⟩)
            | (first | refine ⟨_, _, _, H.get 0 rfl rfl, ?_⟩ | refine ⟨_, _, _, H.get 1 rfl rfl, ?_⟩ | refine ⟨_, _, _, H.get 2 rfl rfl, ?_⟩ | refine ⟨_, _, _, H.get 3 rfl rfl, ?_⟩ | refine ⟨_, _, _, H.get 4 rfl rfl, ?_⟩ | refine ⟨_, _, _, H.get 5 rfl rfl, ?_⟩ | refine ⟨_, _, _, H.get 6 rfl rfl, ?_⟩ | refine ⟨_, _, _, H.get 7 rfl rfl, ?_⟩))
          refine ⟨fun hx => absurd rfl hx, fun _ => ?_⟩
          repeat (first
            | (intro _ _ hS; replace H := H.new hS; clear hS)
            | (intro _ hS; (first | replace H := H.put 0 rfl hS | replace H := H.put 1 rfl hS | replace H := H.put 2 rfl hS | replace H := H.put 3 rfl hS | replace H := H.put 4 rfl hS | replace H := H.put 5 rfl hS | replace H := H.put 6 rfl hS | replace H := H.put 7 rfl hS); clear hS; try simp only [setA, List.setIfInBounds_toArray, List.set_cons_zero, List.set_cons_succ, Nat.zero_add, Nat.reduceAdd] at H)
            | (intro _ hS; replace H := H.step (Drew.ext hS); clear hS)
            | (first | refine ⟨⟨_, H.get 0 rfl rfl⟩, ?_⟩ | refine ⟨⟨_, H.get 1 rfl rfl⟩, ?_⟩ | refine ⟨⟨_, H.get 2 rfl rfl⟩, ?_⟩ | refine ⟨⟨_, H.get 3 rfl rfl⟩, ?_⟩ | refine ⟨⟨_, H.get 4 rfl rfl⟩, ?_⟩ | refine ⟨⟨_, H.get 5 rfl rfl⟩, ?_⟩ | refine ⟨⟨_, H.get 6 rfl rfl⟩, ?_⟩ | refine ⟨⟨_, H.get 7 rfl rfl⟩, ?_⟩)
            | (first | refine ⟨H.frz 0 rfl, ?_⟩ | refine ⟨H.frz 1 rfl, ?_⟩ | refine ⟨H.frz 2 rfl, ?_⟩ | refine ⟨H.frz 3 rfl, ?_⟩ | refine ⟨H.frz 4 rfl, ?_⟩ | refine ⟨H.frz 5 rfl, ?_⟩ | refine ⟨H.frz 6 rfl, ?_⟩ | refine ⟨H.frz 7 rfl, ?_⟩)
            | (first | refine ⟨_, H.get 0 rfl rfl, ?_⟩ | refine ⟨_, H.get 1 rfl rfl, ?_⟩ | refine ⟨_, H.get 2 rfl rfl, ?_⟩ | refine ⟨_, H.get 3 rfl rfl, ?_⟩ | refine ⟨_, H.get 4 rfl rfl, ?_⟩ | refine ⟨_, H.get 5 rfl rfl, ?_⟩ | refine ⟨_, H.get 6 rfl rfl, ?_⟩ | refine ⟨_, H.get 7 rfl rfl, ?_⟩)
            | (first | refine ⟨_, _, _, H.get 0 rfl rfl, ?_⟩ | refine ⟨_, _, _, H.get 1 rfl rfl, ?_⟩ | refine ⟨_, _, _, H.get 2 rfl rfl, ?_⟩ | refine ⟨_, _, _, H.get 3 rfl rfl, ?_⟩ | refine ⟨_, _, _, H.get 4 rfl rfl, ?_⟩ | refine ⟨_, _, _, H.get 5 rfl rfl, ?_⟩ | refine ⟨_, _, _, H.get 6 rfl rfl, ?_⟩ | refine ⟨_, _, _, H.get 7 rfl rfl, ?_⟩))
          obtain ⟨p', c', w59, hrun, H1⟩ := H.append (ty := 24) (P := Tryd.prog) (q := some ⟨_, 0, none⟩) (m := 1) (d' := 1) (news := v.cs) 0 rfl undRow tyVal rfl (by decide) (H.blk 0 rfl).at rfl (fun e => by cases e) v.cs_one (by show ((done2.length + 1) + (done2.length + 1) / 4 + 192) * 32 ≤ 281474976710656; omega) (by unfold maxLen; omega)
          refine ⟨_, _, _, _, hrun, ?_⟩
          rw [i64_next (by omega)]
          have hll : (done2 ++ [v]).length = done2.length + 1 := by simp
          refine ⟨⟨y2, done2 ++ [v], by rw [hll], rfl, by omega, hll.symm, by rw [hll]; exact hsn2, ?_⟩, by simp only [Int.toNat_natCast]; omega⟩
          have e3 : rowEn (done2 ++ [v]) = rowEn done2 ++ v.cs := by unfold rowEn; rw [List.flatMap_append]; simp
          rw [e3]
          exact H1.tail.tail
      · have hkn : done2.length = cn := by omega
        have hvs : Vs W2 q2 done2.length d2 done2 := (H.row 0 rfl).ls Val.cs_length (by decide)
        refine (r5fits_ok (hc.ext (Q.ext.trans H.ext)) hcs hvs).mono ?_
        rintro e W3 ⟨rfl, eS⟩
        have hfC : fitsC cols done2 = fitsL cols done2 := by unfold fitsC; rw [ht]; rfl
        rw [hfC]
        have hrow : takeRow l cols.length z = some (done2, y) := by rw [hcl, ← hkn]; exact hdone2
        refine ⟨_, rfl, fun hf => bad2 ((Q.ext.trans H.ext).trans eS) (hno (by unfold takeRowF; rw [hrow]; simp only [Option.bind_some]; rw [hf]; rfl)), fun hf => ?_⟩
        intro b57 w58 h57
        have hrF : takeRowF l cols z = some (done2, y) := by unfold takeRowF; rw [hrow]; simp only [Option.bind_some]; rw [if_pos hf]
        rw [hrF] at hsnoc
        simp only [Option.map_some] at hsnoc
        replace H := H.step eS
        obtain ⟨p', c', w63, hrun, Q2⟩ := Q.push (ty := 39) (t' := 39) (P := Tryd.prog) (y := done2) undRows tyRow rfl rfl H.ext (H.row 0 rfl) h57 (by omega)
        refine ⟨_, _, _, _, hrun, ?_⟩
        rw [i64_next (by omega)]
        have hll : (R ++ [done2]).length = R.length + 1 := by simp
        refine ⟨⟨R.length + 1, y, R ++ [done2], rfl, rfl, by omega, hll, hsnoc, Q2⟩, by simp only [Int.toNat_natCast]; omega⟩
    · have hjN : R.length = N := by omega
      rw [← hjN, hdone] at hS
      obtain ⟨hs, hR⟩ := pts_rws Q
      have e : takeRV l cols pos = (R, (z : Int), 0) := by rw [hV, hS]
      rw [e]
      exact ⟨_, _, _, hs, rfl, hR, Q.ext⟩
end Go.Proofs.YtiojkfckaalooaaDoor

/- The contracts of the words that hold rows against one another. -/
namespace Go.Proofs.YtiojkfckaalooaaDoor
open Go Go.Vc Go.RowKit
set_option maxRecDepth 20000

theorem samerow_ok (w : World) {p q : Option Addr} {n c m d : Nat} {a b : List Val} (ha : Vs w p n c a) (hb : Vs w q m d b) :
    Calls Tryd.prog 53 #[.slice p n c, .slice q m d] w fun e w' => e = .returned (.bool (decide (a = b))) ∧ Ext w w' := by
  apply samerow_vc
  unfold samerow_T
  have la := ha.len
  have lb := hb.len
  have hm : n ≤ 9223372036854775807 := ha.le
  refine ⟨fun h => ⟨?_, .rfl⟩, fun h => ?_⟩
  · have : a ≠ b := fun e => by subst e; omega
    simp [this]
  refine ⟨fun i w' => ∃ k : Nat, i = (k : Int) ∧ k ≤ n ∧ a.take k = b.take k ∧ Ext w w', fun i _ => n - i.toNat, ⟨0, rfl, Nat.zero_le _, by simp, .rfl⟩, ?_⟩
  rintro i w' ⟨k, rfl, hk, he, hx⟩
  refine ⟨fun hlt w9 h9 => ?_, fun hge => ⟨?_, hx⟩⟩
  · have hx9 := hx.trans h9.ext
    have ga : a[k]? = some (a[k]'(by omega)) := List.getElem?_eq_getElem _
    have gb : b[k]? = some (b[k]'(by omega)) := List.getElem?_eq_getElem _
    obtain ⟨b1, o1, hp, c0, c1, c2⟩ := (ha.ext hx9).val ga
    obtain ⟨b2, o2, hq, d0, d1, d2⟩ := (hb.ext hx9).val gb
    simp only [Int.toNat_natCast]
    refine ⟨b1, o1, hp, by omega, by omega, _, c0, _, c1, _, c2, b2, o2, hq, by omega, by omega, _, d0, _, d1, _, d2, fun hne => ⟨?_, hx9⟩, fun heq => ?_⟩
    · have : a ≠ b := fun e => by
        subst e
        rcases hne with h | h | h <;> exact h rfl
      simp [this]
    · rw [i64_next (by omega)]
      refine ⟨⟨k + 1, rfl, by omega, ?_, hx9⟩, by simp only [Int.toNat_natCast]; omega⟩
      rw [take_snoc ga, take_snoc gb, he, Val.ext'.2 heq]
  · have : k = n := by omega
    subst this
    rw [List.take_of_length_le (by omega), List.take_of_length_le (by omega)] at he
    simp [he]
end Go.Proofs.YtiojkfckaalooaaDoor

/- The contracts of the words that hold rows against one another. -/
namespace Go.Proofs.YtiojkfckaalooaaDoor
open Go Go.Vc Go.RowKit
set_option maxRecDepth 20000

theorem samerows_ok (w : World) {p q : Option Addr} {n c m d : Nat} {hs ks : List Sl} {a b : List (List Val)} (ha : Rws w p n c hs a) (hb : Rws w q m d ks b) :
    Calls Tryd.prog 28 #[.slice p n c, .slice q m d] w fun e w' => e = .returned (.bool (decide (a = b))) ∧ Ext w w' := by
  apply samerows_vc
  unfold samerows_T
  have la := ha.len
  have lb := hb.len
  have hm : n ≤ 9223372036854775807 := ha.le
  refine ⟨fun h => ⟨?_, .rfl⟩, fun h => ?_⟩
  · have : a ≠ b := fun e => by subst e; omega
    simp [this]
  refine ⟨fun i w' => ∃ k : Nat, i = (k : Int) ∧ k ≤ n ∧ a.take k = b.take k ∧ Ext w w', fun i _ => n - i.toNat, ⟨0, rfl, Nat.zero_le _, by simp, .rfl⟩, ?_⟩
  rintro i w' ⟨k, rfl, hk, he, hx⟩
  refine ⟨fun hlt w9 h9 => ?_, fun hge => ⟨?_, hx⟩⟩
  · have hx9 := hx.trans h9.ext
    have ga : a[k]? = some (a[k]'(by omega)) := List.getElem?_eq_getElem _
    have gb : b[k]? = some (b[k]'(by omega)) := List.getElem?_eq_getElem _
    obtain ⟨x, hx1, hx2, b1, o1, hp, c0⟩ := (ha.ext hx9).get ga
    obtain ⟨y, hy1, hy2, b2, o2, hq, d0⟩ := (hb.ext hx9).get gb
    simp only [Int.toNat_natCast]
    refine ⟨b1, o1, hp, by omega, by omega, _, _, _, c0, b2, o2, hq, by omega, by omega, _, _, _, d0, (samerow_ok w9 hx2 hy2).mono ?_⟩
    rintro e w22 ⟨rfl, e22⟩
    have hx22 := hx9.trans e22
    refine ⟨_, rfl, fun hf => ⟨?_, hx22⟩, fun ht => ?_⟩
    · have : a ≠ b := fun e => by subst e; simp at hf
      simp [this]
    · rw [i64_next (by omega)]
      refine ⟨⟨k + 1, rfl, by omega, ?_, hx22⟩, by simp only [Int.toNat_natCast]; omega⟩
      rw [take_snoc ga, take_snoc gb, he, of_decide_eq_true ht]
  · have : k = n := by omega
    subst this
    rw [List.take_of_length_le (by omega), List.take_of_length_le (by omega)] at he
    simp [he]
end Go.Proofs.YtiojkfckaalooaaDoor

/- The laws of schema: Fits, Parts, Lays, Rows, One. -/
namespace Go.Vc
open Go Go.RowKit
end Go.Vc
namespace Go.Proofs.YtiojkfckaalooaaDoor
open Go Go.Vc Go.RowKit
set_option maxRecDepth 20000
attribute [local irreducible] Calls Put Drew New

theorem lawRows_ok {w : World} (hT : WTab w) {p cp rp : Option Addr} {n c cn cc rn rc : Nat} {l : List UInt8} {cols : List Col} {hs : List Sl} {L : List (List Val)} (h : In w p n c l) (hn : n ≤ 140737488351232) (hc : Cols w cp cn cc cols) (hcs : ∀ x ∈ cols, x.name.size ≤ 9223372036854775807) (hr : Rws w rp rn rc hs L) (hv : ∀ x ∈ L, ∀ v ∈ x, v.fit) {pos : Int} (hpos : pos ≤ 9223372036854775807) :
    Calls Tryd.prog 6 #[.slice p n c, .slice cp cn cc, .slice rp rn rc, .int .i64 pos] w fun e w' => e = .returned (.bool true) ∧ Ext w w' := by
  apply lawRows_vc
  unfold lawRows_T
  refine (shown05_ok hT).mono ?_
  rintro e w2 ⟨rfl, e1⟩
  refine ⟨_, rfl, ?_⟩
  refine (slayrows_ok w2 (h.ext e1) (hc.ext e1) (hr.ext e1) hv (by omega)).mono ?_
  rintro e w5 ⟨p6, n7, c8, rfl, ho, eS⟩
  replace e1 := e1.trans eS
  refine ⟨_, _, _, _, rfl, ?_⟩
  refine (r5layrows_ok w5 (h.ext e1) (hc.ext e1) hcs (hr.ext e1) hv (by omega)).mono ?_
  rintro e w11 ⟨p12, n13, c14, rfl, ho2, eT⟩
  replace e1 := e1.trans eT
  refine ⟨_, _, _, _, rfl, ?_⟩
  refine (stakerows_ok w11 (h.ext e1) (hc.ext e1) hcs hpos).mono ?_
  rintro e w17 ⟨p18, n19, c20, hs1, rfl, ht, eU⟩
  replace e1 := e1.trans eU
  refine ⟨_, _, _, _, _, rfl, ?_⟩
  refine (r5takerows_ok w17 (h.ext e1) (hc.ext e1) hcs hpos).mono ?_
  rintro e w24 ⟨p25, n26, c27, hs2, rfl, ht2, eV⟩
  replace e1 := e1.trans eV
  refine ⟨_, _, _, _, _, rfl, fun _ => ?_, fun hx => by cases hx⟩
  refine ⟨_, (((ho.ext eT).ext eU).ext eV).bytes, _, ((ho2.ext eU).ext eV).bytes, fun _ => ?_, fun hx => ?_⟩
  · refine (samerows_ok w24 (ht.ext eV) ht2).mono ?_
    rintro e w35 ⟨rfl, eW⟩
    refine ⟨_, rfl, ?_, e1.trans eW⟩
    simp
  · exfalso
    rcases hx with hx | hx <;> exact hx rfl
end Go.Proofs.YtiojkfckaalooaaDoor

/- Tables of tables: what a row's list says of their cells. -/
namespace Go.Vc
open Go

theorem cells_of_arr {H α : Type} {enc : TypeId × Value → H} {P : Program} {w : World} {base : Nat} {sp : Nat → Bool} {held : Bool} {fuel : Nat} {t e : TypeId} {n s : Nat} {cs : List Value} {zs : List α} {p : List MemPlace} {D : α → DataW H} {C : α → List Value}
    (ht : P.underlying t = some (.array n e)) (hce : P.cellsOf e = s) (hct : P.cellsOf t = n * s) (hs : ∀ z, (C z).length = s) (h0 : 0 < s)
    (inner : ∀ fuel cs z p, cs.length = s → DataW.trod enc P w base sp held fuel e cs = some (D z, p) → cs = C z)
    (h : DataW.trod enc P w base sp held fuel t cs = some (.agg (zs.map D), p)) : cs = zs.flatMap C := by
  cases fuel with
  | zero => simp [DataW.trod] at h
  | succ fuel =>
    simp only [DataW.trod, ht, hce, hct] at h
    split at h
    · rename_i hl
      obtain ⟨xs, hm, hx⟩ := Option.map_eq_some_iff.1 h
      have hxs : xs.map (·.1) = zs.map D := by
        have := congrArg Prod.fst hx
        simpa using this
      have hxl : xs.length = n := by simpa using Lib.mapM_length hm
      have hzl : zs.length = n := by
        have := congrArg List.length hxs
        simp at this
        omega
      have key : ∀ i, i < n → ∃ z, zs[i]? = some z ∧ (cs.drop (i * s)).take s = C z := by
        intro i hi
        obtain ⟨b, hb, hf⟩ := Lib.mapM_at hm i i (by simp [hi])
        have h2 : (xs.map (·.1))[i]? = some b.1 := by simp [hb]
        rw [hxs, List.getElem?_map] at h2
        obtain ⟨z, hz, he⟩ := Option.map_eq_some_iff.1 h2
        refine ⟨z, hz, inner fuel _ z b.2 ?_ ?_⟩
        · have hmul : (i + 1) * s ≤ n * s := Nat.mul_le_mul_right _ (by omega)
          have e1 : (i + 1) * s = i * s + s := Nat.succ_mul i s
          simp only [List.length_take, List.length_drop]
          omega
        · rw [hf, he]
      -- both lists, piece by piece
      have go : ∀ (m : Nat) (zs : List α) (cs : List Value), zs.length = m → cs.length = m * s → (∀ i, i < m → ∃ z, zs[i]? = some z ∧ (cs.drop (i * s)).take s = C z) → cs = zs.flatMap C := by
        intro m
        induction m with
        | zero =>
          intro zs cs hz hc _
          rw [List.length_eq_zero_iff] at hz
          rw [Nat.zero_mul, List.length_eq_zero_iff] at hc
          rw [hz, hc]; rfl
        | succ m ih =>
          intro zs cs hz hc hk
          match zs, hz with
          | z :: r, hz =>
            have hcm : (m + 1) * s = m * s + s := Nat.succ_mul m s
            obtain ⟨z', hz', h1⟩ := hk 0 (by omega)
            cases hz'
            rw [Nat.zero_mul, List.drop_zero] at h1
            have := ih r (cs.drop s) (by simpa using hz) (by rw [List.length_drop]; omega) (fun i hi => by
              obtain ⟨y, hy, h2⟩ := hk (i + 1) (by omega)
              refine ⟨y, by simpa using hy, ?_⟩
              rw [List.drop_drop, ← h2]
              congr 2
              rw [Nat.succ_mul]; omega)
            rw [List.flatMap_cons, ← h1, ← this, List.take_append_drop]
      exact go n zs cs hzl (by simpa using hl) key
    · cases h
end Go.Vc

/- A row's list of tables, looked up by name; rows of three numbers. -/
namespace Go.Vc
open Go

theorem laid_get {P : Program} {w : World} : ∀ {laid : List (String × DataW Unit)} {ps : List MemPlace}, DataW.LaidVars P w laid ps → ∀ {n : String} {d : DataW Unit}, (n, d) ∈ laid →
    ∃ g t cs fuel p, P.globalNamed n = some g ∧ (P.globals[g]?).map (·.type) = some t ∧ w.var? P n = some cs ∧ DataW.trod (fun _ => ()) P w 0 (fun _ => true) false fuel t cs.toList = some (d, p)
  | [], _, _, n, d, hm => by cases hm
  | (m, e) :: r, ps, h, n, d, hm => by
    obtain ⟨g, t, cs, fuel, p, q, h1, h2, h3, h4, h5, _⟩ := h
    rcases List.mem_cons.1 hm with hm | hm
    · cases hm; exact ⟨g, t, cs, fuel, p, h1, h2, h3, h4⟩
    · exact laid_get h5 hm
end Go.Vc

/- The tables, the arguments, the walks of law05's five laws. -/
namespace Go.Proofs.YtiojkfckaalooaaDoor
open Go Go.Vc Go.RowKit
set_option maxRecDepth 20000
attribute [local irreducible] Calls Put Drew New

theorem uStr : Tryd.prog.underlying 9 = some .string := by kernel_rfl
theorem uWords : Tryd.prog.underlying 77 = some (.array 4 9) := by kernel_rfl
def wordsL : List (List UInt8) := [[110, 117, 108, 108], [105, 110, 116], [98, 111, 111, 108], [116, 101, 120, 116]]
theorem laid_words : Rows.laid_stackyard_schema_words (H := Unit) = .agg (wordsL.map fun l => .lit (.string l)) := by kernel_rfl
theorem wtab_of {L : List (String × DataW Unit)} {W : World} (hm : ("stackyard/schema.words", Rows.laid_stackyard_schema_words) ∈ L) (h : laidMet Tryd.prog L W) : WTab W := by
  obtain ⟨ps, hl, _⟩ := h
  obtain ⟨g, t, cs, fuel, p, hg, ht, hv, hd⟩ := laid_get hl (n := "stackyard/schema.words") (d := Rows.laid_stackyard_schema_words) hm
  obtain rfl : g = 0 := Option.some.inj (hg.symm.trans (by kernel_rfl))
  obtain rfl : t = 77 := Option.some.inj (ht.symm.trans (by kernel_rfl))
  rw [laid_words] at hd
  have hc := cells_of_arr (C := fun l => txt (bS l)) (s := 1) uWords (by kernel_rfl) (by kernel_rfl) (fun _ => rfl) (by decide) (fun fuel cs z p hl h => by
    obtain ⟨s, rfl, hx, _⟩ := DataW.trod_string uStr h
    have h1 := congrArg Prod.fst hx
    simp only [DataW.lit.injEq, Lit.string.injEq] at h1
    rw [h1]
    show [Value.string s] = [Value.string (bS (tB s))]
    rw [bS_tB]) hd
  have hcs : cs = wordsA := by apply Array.ext'; rw [hc]; rfl
  intro k v hk
  rw [World.var?_cell hg hv, hcs, Nat.zero_add]; exact hk
theorem list3 {cs : List Value} (h : cs.length = 3) : ∃ a b d, cs = [a, b, d] := by
  match cs, h with
  | [a, b, d], _ => exact ⟨a, b, d, rfl⟩
theorem arg_value {w : World} {cs : List Value} (h : Arg Tryd.prog w 65 cs) : ∃ v : Val, cs = v.cs ∧ v.fit :=
  arg_val (ti := 3) (tn := 2) (ts := 9) (by kernel_rfl) (by kernel_rfl) (by kernel_rfl) (by kernel_rfl) (by kernel_rfl) (by kernel_rfl) (by kernel_rfl) (by kernel_rfl) h
theorem arg_col {w : World} {cs : List Value} (h : Arg Tryd.prog w 53 cs) : ∃ c : Col, cs = c.cs ∧ c.name.size ≤ 140737488351232 := by
  obtain ⟨hl, hf⟩ := Arg.fields (l := [(9, 0), (3, 1), (4, 2)]) (by kernel_rfl) h
  have h3 : Tryd.prog.cellsOf 53 = 3 := by kernel_rfl
  rw [h3] at hl
  obtain ⟨a, b, d, rfl⟩ := list3 hl
  have f1 := hf (9, 0) (by simp)
  have f2 := hf (3, 1) (by simp)
  have f3 := hf (4, 2) (by simp)
  have c1 : Tryd.prog.cellsOf 9 = 1 := by kernel_rfl
  have c2 : Tryd.prog.cellsOf 3 = 1 := by kernel_rfl
  have c3 : Tryd.prog.cellsOf 4 = 1 := by kernel_rfl
  simp only [c1, c2, c3] at f1 f2 f3
  obtain ⟨s, e1, hs⟩ := Arg.string (by kernel_rfl) f1
  obtain ⟨n, e2, _⟩ := Arg.int (k := .i64) (by kernel_rfl) f2
  obtain ⟨v, e3⟩ := Arg.bool (by kernel_rfl) f3
  simp at e1 e2 e3
  subst e1 e2 e3
  exact ⟨⟨s, n, v⟩, rfl, hs⟩
theorem arg_cols {w : World} {v : Value} (h : Arg Tryd.prog w 22 [v]) : ∃ p n c cols, v = .slice p n c ∧ Cols w p n c cols ∧ ∀ x ∈ cols, x.name.size ≤ 9223372036854775807 := by
  obtain ⟨p, n, c, l, e, h1, h2, _⟩ := arg_ls (e := 53) (enc := Col.cs) (Q := fun x => x.name.size ≤ 140737488351232) (by kernel_rfl) (by decide +kernel) (fun x hx => arg_col hx) (fun _ => by kernel_rfl) h
  exact ⟨p, n, c, l, e, h1, fun x hx => by have := h2 x hx; omega⟩
theorem arg_row {w : World} {v : Value} (h : Arg Tryd.prog w 24 [v]) : ∃ p n c row, v = .slice p n c ∧ Vs w p n c row ∧ ∀ x ∈ row, x.fit := by
  obtain ⟨p, n, c, l, e, h1, h2, _⟩ := arg_ls (e := 65) (enc := Val.cs) (Q := Val.fit) (by kernel_rfl) (by decide +kernel) (fun x hx => arg_value hx) (fun _ => by kernel_rfl) h
  exact ⟨p, n, c, l, e, h1, h2⟩
theorem list_pick {α β : Type} {Q : α → β → Prop} : ∀ {hs : List α}, (∀ x ∈ hs, ∃ r, Q x r) → ∃ L : List β, L.length = hs.length ∧ ∀ (i : Nat) x r, hs[i]? = some x → L[i]? = some r → Q x r
  | [], _ => ⟨[], rfl, fun i x r h => by simp at h⟩
  | x :: hs, h => by
    obtain ⟨r, hr⟩ := h x (by simp)
    obtain ⟨L, hlen, hL⟩ := list_pick (hs := hs) fun y hy => h y (by simp [hy])
    refine ⟨r :: L, by simp [hlen], fun i y s hy hs' => ?_⟩
    cases i with
    | zero => cases hy; cases hs'; exact hr
    | succ i => exact hL i y s (by simpa using hy) (by simpa using hs')
theorem arg_rows {w : World} {v : Value} (h : Arg Tryd.prog w 39 [v]) : ∃ p n c hs L, v = .slice p n c ∧ Rws w p n c hs L ∧ (∀ r ∈ L, ∀ x ∈ r, x.fit) := by
  obtain ⟨p, n, c, l, rfl, hl, hf, _⟩ := arg_ls (e := 24) (enc := Sl.cs) (Q := fun x => ∃ r, Vs w x.p x.n x.c r ∧ ∀ v ∈ r, v.fit) (by kernel_rfl) (by decide +kernel)
    (fun x hx => by
      obtain ⟨p, n, c, css, he, _⟩ := Arg.slice (e := 65) (by kernel_rfl) (by decide +kernel) hx
      subst he
      obtain ⟨p', n', c', r, he, h1, h2⟩ := arg_row hx
      cases he
      exact ⟨⟨p, n, c⟩, rfl, r, h1, h2⟩) (fun a => by rw [Sl.cs_length]; kernel_rfl) h
  obtain ⟨L, hL, hq⟩ := list_pick hf
  refine ⟨p, n, c, l, L, rfl, ⟨hl, fun i x r hx hr => (hq i x r hx hr).1, by rw [hL, hl.len]⟩, fun r hr u hu => ?_⟩
  obtain ⟨i, hi⟩ := List.mem_iff_getElem?.1 hr
  have hlt := (List.getElem?_eq_some_iff.1 hi).1
  exact (hq i _ r (List.getElem?_eq_getElem (by omega)) hi).2 u hu
theorem u8u : Tryd.prog.underlying 5 = some (.int .u8) := by kernel_rfl
theorem arg_byte {w : World} {cs : List Value} (h : Arg Tryd.prog w 5 cs) : ∃ x : Nat, cs = [.int .u8 (x : Int)] ∧ x < 256 := by
  obtain ⟨n, rfl, hwf⟩ := Arg.int u8u h
  obtain ⟨a0, a1⟩ := wf_u8 hwf
  exact ⟨n.toNat, by rw [show ((n.toNat : Nat) : Int) = n by omega], by omega⟩
theorem arg_bytes {w : World} {v : Value} (h : Arg Tryd.prog w 28 [v]) : ∃ p n c l, v = .slice p n c ∧ In w p n c l ∧ n ≤ 140737488351232 := by
  obtain ⟨p, n, c, l, rfl, hl, hq, hb⟩ := arg_ls (e := 5) (enc := fun x : Nat => [.int .u8 (x : Int)]) (Q := fun x => x < 256) undB (by decide +kernel) (fun x hx => arg_byte hx) (fun _ => by kernel_rfl) h
  have hB : Tryd.prog.bytesOf 5 = 1 := by kernel_rfl
  rw [hB] at hb
  have hf : (l.flatMap fun x : Nat => [Value.int .u8 (x : Int)]) = vN .u8 l := by
    unfold vN
    clear hl hq
    induction l with
    | nil => rfl
    | cons x r ih => rw [List.flatMap_cons, ih]; rfl
  have hlies := hl.lies
  rw [hf, vN_bytes hq] at hlies
  have := hl.cap
  exact ⟨p, n, c, l.map UInt8.ofNat, rfl, ⟨by rw [List.length_map]; exact hl.len, hl.cap, hlies, hl.nil⟩, by omega⟩
theorem arg_int {w : World} {v : Value} (h : Arg Tryd.prog w 3 [v]) : ∃ n : Int, v = .int .i64 n ∧ n ≤ 9223372036854775807 := by
  obtain ⟨n, e, hwf⟩ := Arg.int (k := .i64) (by kernel_rfl) h
  cases e
  exact ⟨n, rfl, (wf_i64 hwf).2⟩

/-! ### The walks -/
theorem rows_walk (W : World) (hT : WTab W) (v0 v1 v2 v3 : Value) (a0 : Arg Tryd.prog W 28 [v0]) (a1 : Arg Tryd.prog W 22 [v1]) (a2 : Arg Tryd.prog W 39 [v2]) (a3 : Arg Tryd.prog W 3 [v3]) :
    Calls Tryd.prog 6 #[v0, v1, v2, v3] W fun e w' => e = .returned (.bool true) ∧ Ext W w' := by
  obtain ⟨p, n, c, l, rfl, h, hn⟩ := arg_bytes a0
  obtain ⟨cp, cn, cc, cols, rfl, hc, hs⟩ := arg_cols a1
  obtain ⟨rp, rn, rc, hs1, L, rfl, hr, hv⟩ := arg_rows a2
  obtain ⟨pos, rfl, hp⟩ := arg_int a3
  exact lawRows_ok hT h hn hc hs hr hv hp
theorem tabs_rows {W : World} (h : laidMetH Tryd.prog Rows.schemaRowsRow.laid W) : WTab W := wtab_of (L := Rows.schemaRowsRow.laid) (by simp [Rows.schemaRowsRow]) h
end Go.Proofs.YtiojkfckaalooaaDoor

/- Three closed facts of the seat's program, asked once: they want much memory. -/
namespace Go.Proofs.YtiojkfckaalooaaDoor
set_option maxRecDepth 100000 in
theorem Tryd.entersB : (Tryd.prog.mayEnter && (false == Tryd.prog.liftsFinal) && (Tryd.prog.make == some .cut)) = true := by kernel_rfl
theorem Tryd.enters : Tryd.prog.mayEnter = true ∧ Tryd.prog.liftsFinal = false ∧ Tryd.prog.make = some .cut := by
  have h := Tryd.entersB
  simp only [Bool.and_eq_true, beq_iff_eq] at h
  exact ⟨h.1.1, h.1.2.symm, h.2⟩
end Go.Proofs.YtiojkfckaalooaaDoor
