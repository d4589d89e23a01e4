/- Texts of the proof, one behind the other. -/
import Derived.Test.YtiojkfckaalooaaDoorMc
import Derived.Lib.LaidTab
import Derived.Test.YtiojkfckaalooaaDoorRows
import Derived.JoinedOf
set_option linter.unusedVariables false
set_option linter.unusedSimpArgs false
/- The contracts of rows' bytes: taking, by the program and by the document. Printed by mksl4.py. -/
namespace Go.Vc
open Go Go.RowKit
def takeRV (l : List UInt8) (cols : List Col) (pos : Int) : List (List Val) × Int × Int :=
  if rightC cols then (match takeRws l cols pos with
    | some (R, k) => (R, (k : Int), 0)
    | none => ([], 0, 52)) else ([], 0, 50)
def rowEn (r : List Val) : List Value := r.flatMap Val.cs
theorem flatVals_len (r : List Val) : (r.flatMap Val.cs).length = r.length * 3 := by
  induction r with
  | nil => rfl
  | cons c r ih => rw [List.flatMap_cons, List.length_append, ih, List.length_cons]; show 3 + _ = _; omega
end Go.Vc
namespace Go.Proofs.YtiojkfckaalooaaDoor
open Go Go.Vc Go.RowKit
set_option maxRecDepth 20000
attribute [local irreducible] Calls Put Drew New

theorem undRows : Tryd.prog.underlying 39 = some (.slice 24) := by kernel_rfl
theorem tyRow : tyOf Tryd.prog 24 = some { agg := false, ls := [.slc], zero := .slice none 0 0, bytes := 24, big := false, n := 1 } := by kernel_rfl
theorem pts_rws {w0 W : World} {p : Option Addr} {n c : Nat} {R : List (List Val)} (h : Pts 65 24 3 rowEn w0 W p n c R) : ∃ hs, Rws W p n c hs R := by
  obtain ⟨hs, h1, h2, h3, h4⟩ := h.heads
  exact ⟨hs, h2.ls Sl.cs_length (by decide), fun i x r hx hr => (h4 i x r hx hr).ls Val.cs_length (by decide), h3⟩

set_option maxHeartbeats 4000000 in
theorem stakerows_ok (w : World) {p cp : Option Addr} {n c cn cc : Nat} {l : List UInt8} {cols : List Col} (h : In w p n c l) (hc : Cols w cp cn cc cols) (hcs : ∀ x ∈ cols, x.name.size ≤ 9223372036854775807) {pos : Int} (hpos : pos ≤ 9223372036854775807) :
    Calls Tryd.prog 26 #[.slice p n c, .int .i64 pos, .slice cp cn cc] w fun e w' => ∃ p' n' c' hs, e = .returned (.tuple #[.slice p' n' c', .int .i64 (takeRV l cols pos).2.1, .int .i64 (takeRV l cols pos).2.2]) ∧ Rws w' p' n' c' hs (takeRV l cols pos).1 ∧ Ext w w' := by
  have hl := h.len
  have hcl := hc.len
  have hn : n ≤ 9223372036854775807 := h.le
  have bad : ∀ {W : World} {x : Int}, Ext w W → takeRV l cols pos = ([], 0, x) → ∃ p' n' c' hs, Ending.returned (Value.tuple #[.slice none 0 0, .int .i64 0, .int .i64 x]) = .returned (.tuple #[.slice p' n' c', .int .i64 (takeRV l cols pos).2.1, .int .i64 (takeRV l cols pos).2.2]) ∧ Rws W p' n' c' hs (takeRV l cols pos).1 ∧ Ext w W := by
    intro W x hx e
    rw [e]
    exact ⟨none, 0, 0, [], rfl, Rws.nothing _, hx⟩
  apply stakerows_vc
  unfold stakerows_T
  refine (sright_ok hc).mono ?_
  rintro e w2 ⟨rfl, e1⟩
  refine ⟨_, rfl, fun hf => bad e1 (by unfold takeRV; rw [hf]; rfl), fun ht => ?_⟩
  obtain ⟨r1, r2, _⟩ := right_all ht
  have hV : takeRV l cols pos = (match takeRws l cols pos with | some (R, k) => (R, (k : Int), 0) | none => ([], 0, 52)) := by unfold takeRV; rw [if_pos ht]
  have bad2 : ∀ {W : World}, Ext w W → takeRws l cols pos = none → ∃ p' n' c' hs, Ending.returned (Value.tuple #[.slice none 0 0, .int .i64 0, .int .i64 52]) = .returned (.tuple #[.slice p' n' c', .int .i64 (takeRV l cols pos).2.1, .int .i64 (takeRV l cols pos).2.2]) ∧ Rws W p' n' c' hs (takeRV l cols pos).1 ∧ Ext w W := fun hx hn => bad hx (by rw [hV, hn])
  refine (takeNumber_ok w2 p n c l pos h.len h.cap.1 h.le (h.lies.ext e1)).mono ?_
  rintro e w7 ⟨rfl, e2⟩
  unfold takeV
  cases hN : takeN l pos with
  | none => exact ⟨0, 0, 20, rfl, fun _ => bad2 (e1.trans e2) (by unfold takeRws; rw [hN]; rfl), fun hx => absurd hx.1 (by decide)⟩
  | some r =>
    obtain ⟨N, k⟩ := r
    obtain ⟨_, hN64, _, hkl, _⟩ := takeN_spec hN
    have hS : takeRws l cols pos = if N ≤ 1024 then takeRowsN l cols N k else none := by unfold takeRws; rw [hN]; rfl
    refine ⟨_, _, _, rfl, fun hx => bad2 (e1.trans e2) (by rw [hS, if_neg (by omega)]), fun hx => ?_⟩
    have hN24 : N ≤ 1024 := by omega
    rw [if_pos hN24] at hS
    refine ⟨fun pos er q m d i W => ∃ (j z : Nat) (R : List (List Val)), i = (j : Int) ∧ pos = (z : Int) ∧ er = 0 ∧ j ≤ N ∧ R.length = j ∧ takeRowsN l cols j k = some (R, z) ∧ Pts 65 24 3 rowEn w W q m d R, fun _ _ _ _ _ i _ => N - i.toNat, ⟨0, k, [], rfl, rfl, rfl, Nat.zero_le _, rfl, rfl, Pts.none (e1.trans e2)⟩, ?_⟩
    rintro pos1 er1 q m d i W ⟨j, z, R, rfl, rfl, rfl, hj, rfl, hdone, Q⟩
    have hmR : m = R.length := by obtain ⟨_, _, _, h3, _⟩ := Q.heads; omega
    subst hmR
    obtain ⟨d1, d2, d3, d4, d5⟩ := takeRowsN_spec hdone hkl
    refine ⟨fun hlt => ?_, fun hge => ?_⟩
    · have hsnoc := takeRowsN_snoc (l := l) (cols := cols) (n := R.length) (p := k)
      rw [hdone] at hsnoc
      simp only [Option.bind_some] at hsnoc
      have hno : takeRowF l cols z = none → takeRws l cols pos = none := by
        intro hc
        rw [hS, takeRowsN_fail (n := R.length + 1) (by rw [hsnoc, hc]; rfl) (by omega)]
      have hno2 : ∀ {k' : Nat}, k' ≤ cols.length → takeRow l k' z = none → takeRws l cols pos = none := fun hk' hx => hno (by unfold takeRowF; rw [takeRow_fail hx hk']; rfl)
      refine ⟨by omega, Int.le_refl _, by omega, by omega, ?_⟩
      intro b24 w25 h24
      have K0 := (Hold.start (Ext.rfl (w := W))).litRow (s := 3) (cap := cn) h24 (by unfold maxLen; omega) (by rw [size_madeCells])
      generalize hZ : (madeCells #[Value.int .i64 0, .int .i64 0, .string ⟨#[]⟩] (cn * 3)).toList = Z at K0
      have hZl : Z.length = cn * 3 := by rw [← hZ, Array.length_toList, size_madeCells]
      refine ⟨fun pos er i W2 => ∃ (y : Nat) (done : List Val), i = (done.length : Int) ∧ pos = (y : Int) ∧ er = 0 ∧ done.length ≤ cn ∧ takeRow l done.length z = some (done, y) ∧ Hold W W2 [] [⟨65, 3, some ⟨b24, 0, none⟩, cn, cn, rowEn done ++ Z.drop (done.length * 3)⟩], fun _ _ i _ => cn - i.toNat, ⟨z, [], rfl, rfl, rfl, Nat.zero_le _, rfl, by simpa [rowEn] using K0⟩, ?_⟩
      clear K0
      rintro pos2 er2 i2 W2 ⟨y, done2, rfl, rfl, rfl, hk, hdone2, K⟩
      refine ⟨fun hlt2 => ?_, fun hge2 => ?_⟩
      · have hsn2 := takeRow_snoc (l := l) (n := done2.length) (p := z)
        rw [hdone2] at hsn2
        simp only [Option.bind_some] at hsn2
        refine (vtake_ok _ (h.ext (Q.ext.trans K.ext)) (pos := (y : Int))).mono ?_
        rintro e W3 ⟨rfl, eS⟩
        replace K := K.step eS
        simp only [Int.toNat_natCast, Nat.zero_add]
        unfold takeVV
        have store : ∀ v : Val, ∃ b, some ⟨b24, 0, none⟩ = some (Addr.mk b 0 none) ∧ (∀ q, q < 3 → (∃ u, W3.cell? ⟨b, done2.length * 3 + q, none⟩ = some u) ∧ W3.frozen? ⟨b, done2.length * 3 + q, none⟩ = false) ∧
            ∀ W', Put W3 b (done2.length * 3) v.cs W' → Hold W W' [] [⟨65, 3, some ⟨b24, 0, none⟩, cn, cn, rowEn (done2 ++ [v]) ++ Z.drop ((done2 ++ [v]).length * 3)⟩] := by
          intro v
          obtain ⟨b, hb, h1, h2⟩ := K.putRow 0 (us := v.cs) (j := done2.length) rfl (by omega) rfl
          refine ⟨b, hb, h1, fun W' hp => ?_⟩
          have := h2 W' hp
          have hlen : (rowEn done2).length = done2.length * 3 := flatVals_len done2
          have e1 : (rowEn done2 ++ Z.drop (done2.length * 3)).take (done2.length * 3) = rowEn done2 := by rw [← hlen, List.take_left]
          have e2 : (rowEn done2 ++ Z.drop (done2.length * 3)).drop (done2.length * 3 + 3) = Z.drop ((done2 ++ [v]).length * 3) := by
            rw [← List.drop_drop]
            rw [show (rowEn done2 ++ Z.drop (done2.length * 3)).drop (done2.length * 3) = Z.drop (done2.length * 3) by rw [← hlen, List.drop_left]]
            rw [List.drop_drop, List.length_append]
            congr 1
            simp only [List.length_cons, List.length_nil]; omega
          rw [e1, e2] at this
          have e3 : rowEn (done2 ++ [v]) = rowEn done2 ++ v.cs := by unfold rowEn; rw [List.flatMap_append]; simp
          rw [e3]
          exact this
        cases hv : takeVal l (y : Int) with
        | none =>
          obtain ⟨b, hb, h1, h2⟩ := store nullV
          refine ⟨0, 0, ⟨#[]⟩, 0, 20, rfl, b, 0, hb, by omega, hlt2, ?_⟩
          simp only [Nat.zero_add]
          refine ⟨(h1 0 (by decide)).1, (h1 0 (by decide)).2, (h1 1 (by decide)).1, (h1 1 (by decide)).2, (h1 2 (by decide)).1, (h1 2 (by decide)).2, ?_⟩
          intro w47 hP
          have K2 := h2 w47 hP
          exact ⟨fun _ => bad2 (Q.ext.trans K2.ext) (hno2 (k' := done2.length + 1) (by omega) (by rw [hsn2, hv]; rfl)), fun hx => absurd hx (by decide)⟩
        | some r =>
          obtain ⟨v, y2⟩ := r
          obtain ⟨b, hb, h1, h2⟩ := store v
          refine ⟨v.k, v.n, v.s, _, _, rfl, b, 0, hb, by omega, hlt2, ?_⟩
          simp only [Nat.zero_add]
          refine ⟨(h1 0 (by decide)).1, (h1 0 (by decide)).2, (h1 1 (by decide)).1, (h1 1 (by decide)).2, (h1 2 (by decide)).1, (h1 2 (by decide)).2, ?_⟩
          intro w47 hP
          have K2 := h2 w47 hP
          rw [hv] at hsn2
          simp only [Option.map_some] at hsn2
          refine ⟨fun hx => absurd rfl hx, fun _ => ?_⟩
          rw [i64_next (by omega)]
          have hll : (done2 ++ [v]).length = done2.length + 1 := by simp
          refine ⟨⟨y2, done2 ++ [v], by rw [hll], rfl, by trivial, by omega, by rw [hll]; exact hsn2, K2⟩, by simp only [Int.toNat_natCast]; omega⟩
      · have hkn : done2.length = cn := by omega
        have hZd : Z.drop (done2.length * 3) = [] := List.drop_eq_nil_of_le (by rw [hZl, hkn]; exact Nat.le_refl _)
        rw [hZd, List.append_nil] at K
        have hvs : Vs W2 (some ⟨b24, 0, none⟩) cn cn done2 := (K.row 0 rfl).ls Val.cs_length (by decide)
        refine (sfits0_ok (hc.ext (Q.ext.trans K.ext)) hvs).mono ?_
        rintro e W3 ⟨rfl, eS⟩
        have hrow : takeRow l cols.length z = some (done2, y) := by rw [hcl, ← hkn]; exact hdone2
        refine ⟨_, rfl, fun hf => bad2 ((Q.ext.trans K.ext).trans eS) (hno (by unfold takeRowF; rw [hrow]; simp only [Option.bind_some]; rw [hf]; rfl)), fun hf => ?_⟩
        intro b57 w58 h57
        have hrF : takeRowF l cols z = some (done2, y) := by unfold takeRowF; rw [hrow]; simp only [Option.bind_some]; rw [if_pos hf]
        rw [hrF] at hsnoc
        simp only [Option.map_some] at hsnoc
        replace K := K.step eS
        obtain ⟨p', c', w63, hrun, Q2⟩ := Q.push (ty := 39) (t' := 39) (P := Tryd.prog) (y := done2) undRows tyRow rfl rfl K.ext (K.row 0 rfl) h57 (by omega)
        refine ⟨_, _, _, _, hrun, ?_⟩
        have ei : IntKind.u64.wrap ((R.length : Int) + 1) = ((R.length + 1 : Nat) : Int) := by rw [show (R.length : Int) + 1 = ((R.length + 1 : Nat) : Int) by omega, u64_nat (by omega)]
        rw [ei]
        have hll : (R ++ [done2]).length = R.length + 1 := by simp
        refine ⟨⟨R.length + 1, y, R ++ [done2], rfl, rfl, rfl, by omega, hll, hsnoc, Q2⟩, by simp only [Int.toNat_natCast]; omega⟩
    · have hjN : R.length = N := by omega
      rw [← hjN, hdone] at hS
      obtain ⟨hs, hR⟩ := pts_rws Q
      have e : takeRV l cols pos = (R, (z : Int), 0) := by rw [hV, hS]
      rw [e]
      exact ⟨_, _, _, hs, rfl, hR, Q.ext⟩

end Go.Proofs.YtiojkfckaalooaaDoor

/- The contracts of the words that hold rows against one another. -/
namespace Go.Proofs.YtiojkfckaalooaaDoor
open Go Go.Vc Go.RowKit
set_option maxRecDepth 20000

end Go.Proofs.YtiojkfckaalooaaDoor

/- The contracts of the words that hold rows against one another. -/
namespace Go.Proofs.YtiojkfckaalooaaDoor
open Go Go.Vc Go.RowKit
set_option maxRecDepth 20000

end Go.Proofs.YtiojkfckaalooaaDoor

/- The laws of schema: Fits, Parts, Lays, Rows, One. -/
namespace Go.Vc
open Go Go.RowKit
theorem takeSch_spec {l : List UInt8} {pos : Int} {cs : List Col} {k : Nat} (h : takeSch l pos = some (cs, k)) : rightC cs = true ∧ 0 ≤ pos ∧ k ≤ l.length ∧ (l.take k).drop pos.toNat = schB cs := by
  unfold takeSch at h
  cases hN : takeN l pos with
  | none => rw [hN] at h; cases h
  | some r =>
    obtain ⟨N, j⟩ := r
    rw [hN] at h
    simp only [Option.bind_some] at h
    split at h
    · cases hc : takeCols l N j with
      | none => rw [hc] at h; cases h
      | some q =>
        obtain ⟨cs', k'⟩ := q
        rw [hc] at h
        simp only [Option.bind_some] at h
        split at h
        · rename_i hr
          cases h
          obtain ⟨a1, _, a3, a4, _⟩ := takeN_spec hN
          have ab := takeN_back hN
          obtain ⟨b1, b2, b3, b4, _⟩ := takeCols_spec hc a4
          refine ⟨hr, a1, b3, ?_⟩
          rw [take_two (b := j) (by omega) b2, ab, b4, ← b1]; rfl
        · cases h
    · cases h
theorem takeRws_spec {l : List UInt8} {cols : List Col} {pos : Int} {R : List (List Val)} {k : Nat} (h : takeRws l cols pos = some (R, k)) : R.length ≤ 1024 ∧ (∀ r ∈ R, fitsL cols r = true ∧ ∀ v ∈ r, v.Ok ∧ v.fit) ∧ 0 ≤ pos ∧ k ≤ l.length ∧ (l.take k).drop pos.toNat = rowsB R := by
  unfold takeRws at h
  cases hN : takeN l pos with
  | none => rw [hN] at h; cases h
  | some r =>
    obtain ⟨N, j⟩ := r
    rw [hN] at h
    simp only [Option.bind_some] at h
    split at h
    · rename_i hN24
      obtain ⟨a1, _, a3, a4, _⟩ := takeN_spec hN
      have ab := takeN_back hN
      obtain ⟨b1, b2, b3, b4, b5⟩ := takeRowsN_spec h a4
      refine ⟨by omega, b5, a1, b3, ?_⟩
      rw [take_two (b := j) (by omega) b2, ab, b4, ← b1]; rfl
    · cases h
end Go.Vc
namespace Go.Proofs.YtiojkfckaalooaaDoor
open Go Go.Vc Go.RowKit
set_option maxRecDepth 20000
attribute [local irreducible] Calls Put Drew New

theorem in_cut {w : World} {p : Option Addr} {n c : Nat} {l : List UInt8} (h : In w p n c l) {k : Nat} (hk : k ≤ n) : In w p k c (l.take k) := by
  have hl := h.len
  refine ⟨by rw [List.length_take]; omega, ⟨Nat.le_trans hk h.cap.1, h.cap.2⟩, ?_, fun e => ⟨by have := (h.nil e).1; omega, (h.nil e).2⟩⟩
  have := h.lies.take k
  have e : vB (l.take k) = (vB l).take k := by simp [vB, List.map_take]
  rw [e]; exact this
/-- The second half of 'one': rows. -/
theorem rows_one {l : List UInt8} {cols : List Col} (h0 : (takeRV l cols 0).2.2 = 0) : ∃ k : Nat, (takeRV l cols 0).2.1 = (k : Int) ∧ k ≤ l.length ∧ layR [] cols (takeRV l cols 0).1 = (l.take k, 0) ∧ ∀ x ∈ (takeRV l cols 0).1, ∀ v ∈ x, v.fit := by
  unfold takeRV at h0
  split at h0
  · rename_i ht
    cases hr : takeRws l cols 0 with
    | none => rw [hr] at h0; exact absurd h0 (by decide)
    | some q =>
      obtain ⟨R, k⟩ := q
      obtain ⟨a1, a2, _, a4, a5⟩ := takeRws_spec hr
      have e : takeRV l cols 0 = (R, (k : Int), 0) := by unfold takeRV; rw [if_pos ht, hr]
      rw [e]
      refine ⟨k, rfl, a4, ?_, fun x hx v hv => ((a2 x hx).2 v hv).2⟩
      unfold layR
      rw [if_pos ht, if_pos ⟨a1, fun r hr => (a2 r hr).1⟩]
      have : l.take k = rowsB R := by simpa using a5
      rw [this]; rfl
  · exact absurd h0 (by decide)
set_option maxHeartbeats 2000000 in
theorem lawOne_ok {w : World} (hT : WTab w) {p cp : Option Addr} {n c cn cc : Nat} {l : List UInt8} {cols : List Col} (h : In w p n c l) (hc : Cols w cp cn cc cols) (hcs : ∀ x ∈ cols, x.name.size ≤ 9223372036854775807) :
    Calls Tryd.prog 7 #[.slice p n c, .slice cp cn cc] w fun e w' => e = .returned (.bool true) ∧ Ext w w' := by
  have hl := h.len
  have hcap := h.cap
  apply lawOne_vc
  unfold lawOne_T
  refine (shown05_ok hT).mono ?_
  rintro e w2 ⟨rfl, e1⟩
  refine ⟨_, rfl, ?_⟩
  refine (stake_ok w2 (h.ext e1) (pos := 0) (by decide)).mono ?_
  rintro e w5 ⟨p6, n7, c8, rfl, ht, eS⟩
  replace e1 := e1.trans eS
  refine ⟨_, _, _, _, _, rfl, fun h0 => ?_, fun h0 => ?_⟩
  · cases hs : takeSch l 0 with
    | none => have e : takeSV l 0 = ([], 0, 52) := by unfold takeSV; rw [hs]
              rw [e] at h0; exact absurd h0 (by decide)
    | some q =>
      obtain ⟨cs, k⟩ := q
      obtain ⟨a1, _, a3, a4⟩ := takeSch_spec hs
      have e : takeSV l 0 = (cs, (k : Int), 0) := by unfold takeSV; rw [hs]
      rw [e] at ht ⊢
      have hk : l.take k = schB cs := by simpa using a4
      refine (slay_ok w5 (In.nothing _) ht (by decide)).mono ?_
      rintro e w13 ⟨p14, n15, c16, rfl, ho, eT⟩
      replace e1 := e1.trans eT
      have hL : layS [] cs = (l.take k, 0) := by unfold layS; rw [if_pos a1, hk]; rfl
      rw [hL] at ho ⊢
      refine ⟨_, _, _, _, rfl, ?_⟩
      intro w18 hD
      have eD := Drew.ext hD
      have e2 := e1.trans eD
      have hcut := in_cut (h.ext e2) (k := k) (by omega)
      refine ⟨fun hx => absurd rfl hx, fun _ => ⟨_, (ho.ext eD).bytes, (by show (0 : Int) ≤ (k : Int); omega), (by show (k : Int) ≤ (c : Int); omega), _, (by show BytesAt _ _ ((k : Int)).toNat _; rw [Int.toNat_natCast]; exact hcut.bytes), fun hx => absurd rfl hx, fun _ => ?_⟩⟩
      refine (stakerows_ok w18 (h.ext e2) (hc.ext e2) hcs (pos := 0) (by decide)).mono ?_
      rintro e w27 ⟨p28, n29, c30, hs1, rfl, hR, eU⟩
      replace e2 := e2.trans eU
      refine ⟨_, _, _, _, _, rfl, fun hx => ⟨rfl, e2⟩, fun h0 => ?_⟩
      obtain ⟨k2, b1, b2, b3, b4⟩ := rows_one h0
      refine (slayrows_ok w27 (In.nothing _) (hc.ext e2) hR b4 (by decide)).mono ?_
      rintro e w36 ⟨p37, n38, c39, rfl, ho2, eV⟩
      rw [b3] at ho2 ⊢
      refine ⟨_, _, _, _, rfl, ?_⟩
      intro w41 hD2
      have e3 := (e2.trans eV).trans (Drew.ext hD2)
      have hcut2 := in_cut (h.ext e3) (k := k2) (by omega)
      rw [b1]
      refine ⟨fun _ => ⟨_, (ho2.ext (Drew.ext hD2)).bytes, by omega, by omega, _, (by rw [Int.toNat_natCast]; exact hcut2.bytes), ?_, e3⟩, fun hx => ?_⟩
      · rw [sEq_self]
      · exfalso
        rcases hx with hx | hx
        · cases hx
        · exact hx rfl
  · refine (stakerows_ok w5 (h.ext e1) (hc.ext e1) hcs (pos := 0) (by decide)).mono ?_
    rintro e w27 ⟨p28, n29, c30, hs1, rfl, hR, eU⟩
    have e2 := e1.trans eU
    refine ⟨_, _, _, _, _, rfl, fun hx => ⟨rfl, e2⟩, fun h0 => ?_⟩
    obtain ⟨k2, b1, b2, b3, b4⟩ := rows_one h0
    refine (slayrows_ok w27 (In.nothing _) (hc.ext e2) hR b4 (by decide)).mono ?_
    rintro e w36 ⟨p37, n38, c39, rfl, ho2, eV⟩
    rw [b3] at ho2 ⊢
    refine ⟨_, _, _, _, rfl, ?_⟩
    intro w41 hD2
    have e3 := (e2.trans eV).trans (Drew.ext hD2)
    have hcut2 := in_cut (h.ext e3) (k := k2) (by omega)
    rw [b1]
    refine ⟨fun _ => ⟨_, (ho2.ext (Drew.ext hD2)).bytes, by omega, by omega, _, (by rw [Int.toNat_natCast]; exact hcut2.bytes), ?_, e3⟩, fun hx => ?_⟩
    · rw [sEq_self]
    · exfalso
      rcases hx with hx | hx
      · cases hx
      · exact hx rfl
end Go.Proofs.YtiojkfckaalooaaDoor

/- Tables of tables: what a row's list says of their cells. -/
namespace Go.Vc
open Go

theorem cells_of_arr {H α : Type} {enc : TypeId × Value → H} {P : Program} {w : World} {base : Nat} {sp : Nat → Bool} {held : Bool} {fuel : Nat} {t e : TypeId} {n s : Nat} {cs : List Value} {zs : List α} {p : List MemPlace} {D : α → DataW H} {C : α → List Value}
    (ht : P.underlying t = some (.array n e)) (hce : P.cellsOf e = s) (hct : P.cellsOf t = n * s) (hs : ∀ z, (C z).length = s) (h0 : 0 < s)
    (inner : ∀ fuel cs z p, cs.length = s → DataW.trod enc P w base sp held fuel e cs = some (D z, p) → cs = C z)
    (h : DataW.trod enc P w base sp held fuel t cs = some (.agg (zs.map D), p)) : cs = zs.flatMap C := by
  cases fuel with
  | zero => simp [DataW.trod] at h
  | succ fuel =>
    simp only [DataW.trod, ht, hce, hct] at h
    split at h
    · rename_i hl
      obtain ⟨xs, hm, hx⟩ := Option.map_eq_some_iff.1 h
      have hxs : xs.map (·.1) = zs.map D := by
        have := congrArg Prod.fst hx
        simpa using this
      have hxl : xs.length = n := by simpa using Lib.mapM_length hm
      have hzl : zs.length = n := by
        have := congrArg List.length hxs
        simp at this
        omega
      have key : ∀ i, i < n → ∃ z, zs[i]? = some z ∧ (cs.drop (i * s)).take s = C z := by
        intro i hi
        obtain ⟨b, hb, hf⟩ := Lib.mapM_at hm i i (by simp [hi])
        have h2 : (xs.map (·.1))[i]? = some b.1 := by simp [hb]
        rw [hxs, List.getElem?_map] at h2
        obtain ⟨z, hz, he⟩ := Option.map_eq_some_iff.1 h2
        refine ⟨z, hz, inner fuel _ z b.2 ?_ ?_⟩
        · have hmul : (i + 1) * s ≤ n * s := Nat.mul_le_mul_right _ (by omega)
          have e1 : (i + 1) * s = i * s + s := Nat.succ_mul i s
          simp only [List.length_take, List.length_drop]
          omega
        · rw [hf, he]
      -- both lists, piece by piece
      have go : ∀ (m : Nat) (zs : List α) (cs : List Value), zs.length = m → cs.length = m * s → (∀ i, i < m → ∃ z, zs[i]? = some z ∧ (cs.drop (i * s)).take s = C z) → cs = zs.flatMap C := by
        intro m
        induction m with
        | zero =>
          intro zs cs hz hc _
          rw [List.length_eq_zero_iff] at hz
          rw [Nat.zero_mul, List.length_eq_zero_iff] at hc
          rw [hz, hc]; rfl
        | succ m ih =>
          intro zs cs hz hc hk
          match zs, hz with
          | z :: r, hz =>
            have hcm : (m + 1) * s = m * s + s := Nat.succ_mul m s
            obtain ⟨z', hz', h1⟩ := hk 0 (by omega)
            cases hz'
            rw [Nat.zero_mul, List.drop_zero] at h1
            have := ih r (cs.drop s) (by simpa using hz) (by rw [List.length_drop]; omega) (fun i hi => by
              obtain ⟨y, hy, h2⟩ := hk (i + 1) (by omega)
              refine ⟨y, by simpa using hy, ?_⟩
              rw [List.drop_drop, ← h2]
              congr 2
              rw [Nat.succ_mul]; omega)
            rw [List.flatMap_cons, ← h1, ← this, List.take_append_drop]
      exact go n zs cs hzl (by simpa using hl) key
    · cases h
end Go.Vc

/- A row's list of tables, looked up by name; rows of three numbers. -/
namespace Go.Vc
open Go

theorem laid_get {P : Program} {w : World} : ∀ {laid : List (String × DataW Unit)} {ps : List MemPlace}, DataW.LaidVars P w laid ps → ∀ {n : String} {d : DataW Unit}, (n, d) ∈ laid →
    ∃ g t cs fuel p, P.globalNamed n = some g ∧ (P.globals[g]?).map (·.type) = some t ∧ w.var? P n = some cs ∧ DataW.trod (fun _ => ()) P w 0 (fun _ => true) false fuel t cs.toList = some (d, p)
  | [], _, _, n, d, hm => by cases hm
  | (m, e) :: r, ps, h, n, d, hm => by
    obtain ⟨g, t, cs, fuel, p, q, h1, h2, h3, h4, h5, _⟩ := h
    rcases List.mem_cons.1 hm with hm | hm
    · cases hm; exact ⟨g, t, cs, fuel, p, h1, h2, h3, h4⟩
    · exact laid_get h5 hm
end Go.Vc

/- The tables, the arguments, the walks of law05's five laws. -/
namespace Go.Proofs.YtiojkfckaalooaaDoor
open Go Go.Vc Go.RowKit
set_option maxRecDepth 20000
attribute [local irreducible] Calls Put Drew New

theorem uStr : Tryd.prog.underlying 9 = some .string := by kernel_rfl
theorem uWords : Tryd.prog.underlying 77 = some (.array 4 9) := by kernel_rfl
def wordsL : List (List UInt8) := [[110, 117, 108, 108], [105, 110, 116], [98, 111, 111, 108], [116, 101, 120, 116]]
theorem laid_words : Rows.laid_stackyard_schema_words (H := Unit) = .agg (wordsL.map fun l => .lit (.string l)) := by kernel_rfl
theorem wtab_of {L : List (String × DataW Unit)} {W : World} (hm : ("stackyard/schema.words", Rows.laid_stackyard_schema_words) ∈ L) (h : laidMet Tryd.prog L W) : WTab W := by
  obtain ⟨ps, hl, _⟩ := h
  obtain ⟨g, t, cs, fuel, p, hg, ht, hv, hd⟩ := laid_get hl (n := "stackyard/schema.words") (d := Rows.laid_stackyard_schema_words) hm
  obtain rfl : g = 0 := Option.some.inj (hg.symm.trans (by kernel_rfl))
  obtain rfl : t = 77 := Option.some.inj (ht.symm.trans (by kernel_rfl))
  rw [laid_words] at hd
  have hc := cells_of_arr (C := fun l => txt (bS l)) (s := 1) uWords (by kernel_rfl) (by kernel_rfl) (fun _ => rfl) (by decide) (fun fuel cs z p hl h => by
    obtain ⟨s, rfl, hx, _⟩ := DataW.trod_string uStr h
    have h1 := congrArg Prod.fst hx
    simp only [DataW.lit.injEq, Lit.string.injEq] at h1
    rw [h1]
    show [Value.string s] = [Value.string (bS (tB s))]
    rw [bS_tB]) hd
  have hcs : cs = wordsA := by apply Array.ext'; rw [hc]; rfl
  intro k v hk
  rw [World.var?_cell hg hv, hcs, Nat.zero_add]; exact hk
theorem list3 {cs : List Value} (h : cs.length = 3) : ∃ a b d, cs = [a, b, d] := by
  match cs, h with
  | [a, b, d], _ => exact ⟨a, b, d, rfl⟩
theorem arg_col {w : World} {cs : List Value} (h : Arg Tryd.prog w 53 cs) : ∃ c : Col, cs = c.cs ∧ c.name.size ≤ 140737488351232 := by
  obtain ⟨hl, hf⟩ := Arg.fields (l := [(9, 0), (3, 1), (4, 2)]) (by kernel_rfl) h
  have h3 : Tryd.prog.cellsOf 53 = 3 := by kernel_rfl
  rw [h3] at hl
  obtain ⟨a, b, d, rfl⟩ := list3 hl
  have f1 := hf (9, 0) (by simp)
  have f2 := hf (3, 1) (by simp)
  have f3 := hf (4, 2) (by simp)
  have c1 : Tryd.prog.cellsOf 9 = 1 := by kernel_rfl
  have c2 : Tryd.prog.cellsOf 3 = 1 := by kernel_rfl
  have c3 : Tryd.prog.cellsOf 4 = 1 := by kernel_rfl
  simp only [c1, c2, c3] at f1 f2 f3
  obtain ⟨s, e1, hs⟩ := Arg.string (by kernel_rfl) f1
  obtain ⟨n, e2, _⟩ := Arg.int (k := .i64) (by kernel_rfl) f2
  obtain ⟨v, e3⟩ := Arg.bool (by kernel_rfl) f3
  simp at e1 e2 e3
  subst e1 e2 e3
  exact ⟨⟨s, n, v⟩, rfl, hs⟩
theorem arg_cols {w : World} {v : Value} (h : Arg Tryd.prog w 22 [v]) : ∃ p n c cols, v = .slice p n c ∧ Cols w p n c cols ∧ ∀ x ∈ cols, x.name.size ≤ 9223372036854775807 := by
  obtain ⟨p, n, c, l, e, h1, h2, _⟩ := arg_ls (e := 53) (enc := Col.cs) (Q := fun x => x.name.size ≤ 140737488351232) (by kernel_rfl) (by decide +kernel) (fun x hx => arg_col hx) (fun _ => by kernel_rfl) h
  exact ⟨p, n, c, l, e, h1, fun x hx => by have := h2 x hx; omega⟩
theorem u8u : Tryd.prog.underlying 5 = some (.int .u8) := by kernel_rfl
theorem arg_byte {w : World} {cs : List Value} (h : Arg Tryd.prog w 5 cs) : ∃ x : Nat, cs = [.int .u8 (x : Int)] ∧ x < 256 := by
  obtain ⟨n, rfl, hwf⟩ := Arg.int u8u h
  obtain ⟨a0, a1⟩ := wf_u8 hwf
  exact ⟨n.toNat, by rw [show ((n.toNat : Nat) : Int) = n by omega], by omega⟩
theorem arg_bytes {w : World} {v : Value} (h : Arg Tryd.prog w 28 [v]) : ∃ p n c l, v = .slice p n c ∧ In w p n c l ∧ n ≤ 140737488351232 := by
  obtain ⟨p, n, c, l, rfl, hl, hq, hb⟩ := arg_ls (e := 5) (enc := fun x : Nat => [.int .u8 (x : Int)]) (Q := fun x => x < 256) undB (by decide +kernel) (fun x hx => arg_byte hx) (fun _ => by kernel_rfl) h
  have hB : Tryd.prog.bytesOf 5 = 1 := by kernel_rfl
  rw [hB] at hb
  have hf : (l.flatMap fun x : Nat => [Value.int .u8 (x : Int)]) = vN .u8 l := by
    unfold vN
    clear hl hq
    induction l with
    | nil => rfl
    | cons x r ih => rw [List.flatMap_cons, ih]; rfl
  have hlies := hl.lies
  rw [hf, vN_bytes hq] at hlies
  have := hl.cap
  exact ⟨p, n, c, l.map UInt8.ofNat, rfl, ⟨by rw [List.length_map]; exact hl.len, hl.cap, hlies, hl.nil⟩, by omega⟩
/-! ### The walks -/
theorem one_walk (W : World) (hT : WTab W) (v0 v1 : Value) (a0 : Arg Tryd.prog W 28 [v0]) (a1 : Arg Tryd.prog W 22 [v1]) :
    Calls Tryd.prog 7 #[v0, v1] W fun e w' => e = .returned (.bool true) ∧ Ext W w' := by
  obtain ⟨p, n, c, l, rfl, h, hn⟩ := arg_bytes a0
  obtain ⟨cp, cn, cc, cols, rfl, hc, hs⟩ := arg_cols a1
  exact lawOne_ok hT h hc hs
theorem tabs_one {W : World} (h : laidMetH Tryd.prog Rows.schemaOneRow.laid W) : WTab W := wtab_of (L := Rows.schemaOneRow.laid) (by simp [Rows.schemaOneRow]) h
end Go.Proofs.YtiojkfckaalooaaDoor

/- Three closed facts of the seat's program, asked once: they want much memory. -/
namespace Go.Proofs.YtiojkfckaalooaaDoor
set_option maxRecDepth 100000 in
theorem Tryd.entersB : (Tryd.prog.mayEnter && (false == Tryd.prog.liftsFinal) && (Tryd.prog.make == some .cut)) = true := by kernel_rfl
theorem Tryd.enters : Tryd.prog.mayEnter = true ∧ Tryd.prog.liftsFinal = false ∧ Tryd.prog.make = some .cut := by
  have h := Tryd.entersB
  simp only [Bool.and_eq_true, beq_iff_eq] at h
  exact ⟨h.1.1, h.1.2.symm, h.2⟩
end Go.Proofs.YtiojkfckaalooaaDoor
