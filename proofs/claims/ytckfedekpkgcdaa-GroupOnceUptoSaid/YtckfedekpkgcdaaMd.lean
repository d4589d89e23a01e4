/- Texts of the proof, one behind the other. -/
import Derived.Test.YtckfedekpkgcdaaMc
import Derived.Test.YtckfedekpkgcdaaRows
import Derived.JoinedOf
set_option linter.unusedVariables false
set_option linter.unusedSimpArgs false
/- The document's Once; the law of rows without those that came already. -/
namespace Go.Proofs.Ytckfedekpkgcdaa
open Go Go.Vc Go.RowKit
set_option maxRecDepth 20000
attribute [local irreducible] Calls Put Drew New

section
variable {w : World} {p : Option Addr} {n c : Nat} {hs : List Sl} {rows : List (List Val)}
set_option maxHeartbeats 4000000 in
theorem r14once_ok (hR : Rws w p n c hs rows) (hn : n ≤ 1000) : Calls Try.prog 22 #[.slice p n c] w (Onced w (onceP rows)) := by
  apply r14once_vc
  unfold r14once_T
  have hl := hR.len
  refine ⟨fun i W => ∃ k : Nat, i = (k : Int) ∧ k ≤ n ∧ (rows.take k).all rightL = true ∧ Ext w W, fun i _ => n - i.toNat, ⟨0, rfl, Nat.zero_le _, rfl, .rfl⟩, ?_⟩
  rintro i W ⟨k, rfl, hk, hall, hx⟩
  refine ⟨fun hlt => ?_, fun hge => ?_⟩
  · have g : rows[k]? = some (rows[k]'(by omega)) := List.getElem?_eq_getElem _
    generalize rows[k]'(by omega) = r at g
    have hm := List.mem_of_getElem? g
    obtain ⟨x, hxx, hv, b, o, hp, hc⟩ := (hR.ext hx).get g
    simp only [Int.toNat_natCast]
    refine ⟨b, o, hp, by omega, by omega, _, _, _, hc, (r14right_ok W hv).mono ?_⟩
    rintro e W2 ⟨rfl, e2⟩
    refine ⟨_, rfl, fun hb => ?_, fun hb => ?_⟩
    · rw [once_bad hm hb]
      exact ⟨_, _, _, _, rfl, .nothing _, hx.trans e2⟩
    · rw [i64_next (by omega)]
      exact ⟨⟨k + 1, rfl, by omega, by rw [all_take g, hall, hb]; rfl, hx.trans e2⟩, by simp only [Int.toNat_natCast]; omega⟩
  have hkn : k = n := by omega
  rw [List.take_of_length_le (by omega)] at hall
  have hone : onceP rows = (dd rows, 0) := by unfold onceP; rw [if_pos hall]
  rw [hone]
  refine ⟨fun q m d i W => ∃ (k : Nat) (heads : List Sl), i = (k : Int) ∧ k ≤ n ∧ m = (dd (rows.take k)).length ∧ heads.length = m ∧ (∀ (i : Nat) h r, heads[i]? = some h → (dd (rows.take k))[i]? = some r → Vs w h.p h.n h.c r) ∧ Hold w W [] (hdR 29 q m d heads :: []), fun _ _ _ i _ => n - i.toNat,
    ⟨0, [], rfl, Nat.zero_le _, rfl, rfl, by simp, (Hold.start hx).nilRow _ _⟩, ?_⟩
  rintro q m d i W2 ⟨k, heads, rfl, hk, rfl, hhl, hrows, H⟩
  have out : ∀ {W3 : World}, Ext W2 W3 → Rws W3 q (dd (rows.take k)).length d heads (dd (rows.take k)) := fun e => ⟨((H.ownM (m := hdR 29 q (dd (rows.take k)).length d heads) List.mem_cons_self).ls Sl.cs_length (by decide)).ext e, fun i h r hh hr => (hrows i h r hh hr).ext (H.ext.trans e), rfl⟩
  have hdl := dd_len (rows := rows) k (by omega)
  refine ⟨fun hlt => ?_, fun hge => ?_⟩
  · have g : rows[k]? = some (rows[k]'(by omega)) := List.getElem?_eq_getElem _
    generalize rows[k]'(by omega) = row at g
    obtain ⟨x, hxx, hv, b, o, hp, hc⟩ := hR.get g
    simp only [Int.toNat_natCast]
    refine ⟨fun met j W3 => ∃ a : Nat, j = (a : Int) ∧ a ≤ (dd (rows.take k)).length ∧ met = decide (row ∈ (dd (rows.take k)).take a) ∧ Ext W2 W3, fun _ j _ => (dd (rows.take k)).length - j.toNat, ⟨0, rfl, Nat.zero_le _, by simp, .rfl⟩, ?_⟩
    rintro met j W3 ⟨a, rfl, ha, rfl, e3⟩
    refine ⟨fun hlt2 w34 h34 => ?_, fun hge2 => ?_⟩
    · have e34 := e3.trans h34.ext
      have ga : (dd (rows.take k))[a]? = some ((dd (rows.take k))[a]'(by omega)) := List.getElem?_eq_getElem _
      generalize (dd (rows.take k))[a]'(by omega) = y at ga
      obtain ⟨z, hz, hzv, b2, o2, hp2, hc2⟩ := (out e34).get ga
      have E34 := H.ext.trans e34
      simp only [Int.toNat_natCast]
      refine ⟨b2, o2, hp2, by omega, by omega, _, _, _, hc2, b, o, hp, by omega, by omega, _, _, _, cell_ext hc E34, (samerow_ok w34 hzv (hv.ext E34)).mono ?_⟩
      rintro e w47 ⟨rfl, e47⟩
      refine ⟨_, rfl, ?_⟩
      rw [i64_next (by omega)]
      refine ⟨⟨a + 1, rfl, by omega, ?_, e34.trans e47⟩, by simp only [Int.toNat_natCast]; omega⟩
      rw [List.take_add_one, ga, Bool.eq_iff_iff, Bool.or_eq_true, decide_eq_true_eq, decide_eq_true_eq, decide_eq_true_eq, List.mem_append]
      simp [eq_comm]
    · have haa : a = (dd (rows.take k)).length := by omega
      rw [List.take_of_length_le (by omega)]
      have E3 := H.ext.trans e3
      have H3 := H.step e3
      have htk := dd_take g
      refine ⟨fun hno => ?_, fun hyes => ?_⟩
      · have hnd : ¬ row ∈ dd (rows.take k) := of_decide_eq_false hno
        rw [if_neg hnd] at htk
        refine ⟨b, o, hp, by omega, by omega, _, _, _, cell_ext hc E3, fun b56 w57 h56 => ?_⟩
        have H57 := H3.step h56.ext
        obtain ⟨p59, c61, w62, hrun, H62⟩ := H57.append (ty := 32) (P := Try.prog) (s := 1) (q := some ⟨b56, 0, none⟩) (m := 1) (d' := 1) (news := x.cs) 0 rfl undRows tyRow rfl (by decide) (Blk.new h56).at rfl (fun e => by cases e)
          (Sl.cs_one _) (by show (((dd (rows.take k)).length + 1) + ((dd (rows.take k)).length + 1) / 4 + 192) * 24 ≤ _; omega) (by unfold maxLen; omega)
        refine ⟨p59, _, c61, w62, hrun, ?_⟩
        rw [i64_next (by omega)]
        refine ⟨⟨k + 1, heads ++ [x], rfl, by omega, by rw [htk]; simp, by simp [hhl], ?_, ?_⟩, by simp only [Int.toNat_natCast]; omega⟩
        · intro i h r hh hr
          rw [htk] at hr
          rcases Nat.lt_or_ge i heads.length with hi | hi
          · rw [List.getElem?_append_left hi] at hh
            rw [List.getElem?_append_left (by omega)] at hr
            exact hrows i h r hh hr
          · rw [List.getElem?_append_right hi] at hh
            rw [List.getElem?_append_right (by omega)] at hr
            have : i - heads.length = 0 := by have := (List.getElem?_eq_some_iff.1 hh).1; simp at this; omega
            rw [this] at hh
            rw [← hhl, this] at hr
            cases hh; cases hr
            exact hv
        · have : hdR 29 p59 ((dd (rows.take k)).length + 1) c61 (heads ++ [x]) = (⟨29, 1, p59, (dd (rows.take k)).length + 1, c61, heads.flatMap Sl.cs ++ x.cs⟩ : Row) := by unfold hdR; rw [List.flatMap_append, List.flatMap_cons, List.flatMap_nil, List.append_nil]
          rw [this]
          exact H62
      · have hyd : row ∈ dd (rows.take k) := of_decide_eq_true hyes
        rw [if_pos hyd] at htk
        rw [i64_next (by omega)]
        exact ⟨⟨k + 1, heads, rfl, by omega, by rw [htk], hhl, by rw [htk]; exact hrows, H3⟩, by simp only [Int.toNat_natCast]; omega⟩
  · have hkn : k = n := by omega
    have ho := out .rfl
    rw [List.take_of_length_le (by omega)] at ho ⊢
    exact ⟨_, _, _, heads, rfl, ho, H.ext⟩
end
theorem mmI_min (n k : Nat) : mmI false (n : Int) (k : Int) = ((min n k : Nat) : Int) := by unfold mmI; dsimp only; split <;> omega
theorem once_ok (w : World) {p : Option Addr} {n c : Nat} {hs : List Sl} {L : List (List Val)} (hR : Rws w p n c hs L) (hf : ∀ r ∈ L, ∀ v ∈ r, v.fit) (hsz : ∀ r ∈ L, r.length ≤ 1048576) :
    Calls Try.prog 8 #[.slice p n c] w fun e w' => e = .returned (.bool true) ∧ Ext w w' := by
  apply law14Once_vc
  unfold law14Once_T
  refine (shown14_ok w).mono ?_
  rintro e w2 ⟨rfl, e2⟩
  have hM := mmI_min n 500
  rw [show ((500 : Nat) : Int) = 500 from rfl] at hM
  rw [hM, Int.toNat_natCast]
  have hcap := hR.heads.cap
  have hT := hR.take (k := min n 500) (by omega)
  have hfT : ∀ r ∈ L.take (min n 500), ∀ v ∈ r, v.fit := fun r hr => hf r (List.mem_of_mem_take hr)
  have hsT : ∀ r ∈ L.take (min n 500), r.length ≤ 1048576 := fun r hr => hsz r (List.mem_of_mem_take hr)
  refine ⟨_, rfl, by omega, by omega, (gonce_ok (hT.ext e2) hfT hsT (by omega)).mono ?_⟩
  rintro e w5 ⟨q, m, d, ks, rfl, h1, e5⟩
  refine ⟨_, _, _, _, rfl, (r14once_ok (hT.ext (e2.trans e5)) (by omega)).mono ?_⟩
  rintro e w11 ⟨q2, m2, d2, ks2, rfl, h2, e11⟩
  refine ⟨_, _, _, _, rfl, fun _ => (samerows_ok w11 (h1.ext e11) h2).mono ?_, fun h => (by cases h)⟩
  rintro e w18 ⟨rfl, e18⟩
  exact ⟨_, rfl, by rw [decide_eq_true rfl, decide_eq_true rfl]; rfl, ((e2.trans e5).trans e11).trans e18⟩
theorem once_walk (W : World) (v0 : Value) (a0 : Arg Try.prog W 32 [v0]) (b0 : ∀ p n c, v0 = .slice p n c → Bulk W 32 [.slice p n c]) : Calls Try.prog 8 #[v0] W fun e w' => e = .returned (.bool true) ∧ Ext W w' := by
  obtain ⟨p, n, c, hs, L, rfl, hv, hf⟩ := arg_rows a0
  exact once_ok W hv hf (Rws.small hv (b0 p n c rfl))
end Go.Proofs.Ytckfedekpkgcdaa

/- Three closed facts of the seat's program, asked once: they want much memory. -/
namespace Go.Proofs.Ytckfedekpkgcdaa
set_option maxRecDepth 100000 in
theorem Try.entersB : (Try.prog.mayEnter && (false == Try.prog.liftsFinal) && (Try.prog.make == some .cut)) = true := by kernel_rfl
theorem Try.enters : Try.prog.mayEnter = true ∧ Try.prog.liftsFinal = false ∧ Try.prog.make = some .cut := by
  have h := Try.entersB
  simp only [Bool.and_eq_true, beq_iff_eq] at h
  exact ⟨h.1.1, h.1.2.symm, h.2⟩
end Go.Proofs.Ytckfedekpkgcdaa
