/- The walk of WireBack, for bytes of at most a million. -/
import Derived.Test.YtdclhgcgpcddlaaLaws2
import Derived.Test.YtdclhgcgpcddlaaRows
import Derived.Deep.Slices
namespace Go.Proofs.Ytdclhgcgpcddlaa
open Go Go.Vc Go.RowKit

/-- A slice's length is at most what its reading weighs. -/
theorem slice_bulk {H : Type} {enc : TypeId × Value → H} {P : Program} {W : World} {base : Nat} {spare : Nat → Bool} {held : Bool} {t e : TypeId} {p : Option Addr} {n c : Nat} {d : DataW H} {ps : List MemPlace} {m : Nat}
    (ht : P.underlying t = some (.slice e)) (h : DataW.trod enc P W base spare held m t [.slice p n c] = some (d, ps)) : n ≤ Rows.uptoBulk d := by
  have len : ∀ l : List (DataW H), l.length ≤ Rows.uptoBulkAll l := by
    intro l
    induction l with
    | nil => simp [Rows.uptoBulkAll]
    | cons x r ih =>
      have : 1 ≤ Rows.uptoBulk x := by
        cases x with
        | lit l => cases l <;> simp [Rows.uptoBulk]
        | nil => simp [Rows.uptoBulk]
        | ptr d => simp [Rows.uptoBulk]
        | slice elems spare => simp [Rows.uptoBulk]
        | agg parts => simp [Rows.uptoBulk]
        | iface t d => simp [Rows.uptoBulk]
        | map entries => simp [Rows.uptoBulk]
        | held h => simp [Rows.uptoBulk]
      simp only [Rows.uptoBulkAll, List.length_cons]; omega
  rcases Go.Deep.open_slice ht h with ⟨e1, _⟩ | ⟨a, n', cap, m', k, D, Pl, e1, _, _, _, _, e2, _⟩
  · cases e1; omega
  · cases e1
    obtain ⟨rfl, _⟩ := Prod.mk.inj e2
    have := len ((List.range n).map D)
    simp only [List.length_map, List.length_range] at this
    simp only [Rows.uptoBulk]; omega

theorem back_walk (w : World) (v0 v1 v2 v3 v4 : Value) (h0 : Arg Try.prog w 30 [v0]) (h1 : Arg Try.prog w 48 [v1]) (h2 : Arg Try.prog w 2 [v2]) (h3 : Arg Try.prog w 9 [v3]) (h4 : Arg Try.prog w 30 [v4])
    (b0 : ∀ p n c, v0 = .slice p n c → n ≤ 1048576) (b4 : ∀ p n c, v4 = .slice p n c → n ≤ 1048576) : Calls Try.prog 15 #[v0, v1, v2, v3, v4] w fun e w' => e = .returned (.bool true) ∧ Ext w w' := by
  obtain ⟨pa, an, ac, ahead, rfl, ha, _, _⟩ := arg_bytes h0
  obtain ⟨v, rfl, hv⟩ := arg_u64 h1
  obtain ⟨x, rfl, x0, x1⟩ := arg_i64 h2
  obtain ⟨s, rfl, hs⟩ := arg_string h3
  obtain ⟨pb, bn, bc, behind, rfl, hb, _, _⟩ := arg_bytes h4
  have ha1 := b0 _ _ _ rfl
  have hb1 := b4 _ _ _ rfl
  have hal := ha.len
  have hbl := hb.len
  apply lawBack_vc
  unfold lawBack_T
  have hM : mmI false (s.size : Int) 100000 = ((min s.size 100000 : Nat) : Int) := by unfold mmI; dsimp only; split <;> omega
  rw [hM, Int.toNat_natCast]
  refine (shown2_ok w).mono ?_
  rintro e wa ⟨rfl, ea⟩
  refine ⟨true, rfl, by omega, by omega, (number_out wa (ha.ext ea) (by omega) hv).mono ?_⟩
  rintro e wb ⟨q1, n1, c1, rfl, o1, eb⟩
  have eb' := ea.trans eb
  have hn1 := o1.1
  have hu1 := uvar_len10 hv
  have hz := zig_lt x0 x1
  have hu2 := uvar_len10 hz
  rw [List.length_append] at hn1
  refine ⟨q1, n1, c1, rfl, (signed_out wb o1.inn (by omega) x0 x1).mono ?_⟩
  rintro e wc ⟨q2, n2, c2, rfl, o2, ec⟩
  have ec' := eb'.trans ec
  have hn2 := o2.1
  rw [List.length_append, List.length_append] at hn2
  refine ⟨q2, n2, c2, rfl, (text_out wc o2.inn (by omega)).mono ?_⟩
  rintro e wd ⟨q3, n3, c3, rfl, o3, ed⟩
  have ed' := ec'.trans ed
  obtain ⟨t, ht⟩ : ∃ t, t = tB (s.extract 0 (min s.size 100000)) := ⟨_, rfl⟩
  have htl : t.length = min s.size 100000 := by rw [ht, tB_extract, List.drop_zero, List.length_take, tB_length]; omega
  have hts : (s.extract 0 (min s.size 100000)).size = t.length := by rw [ht, tB_length]
  obtain ⟨pre, hpre⟩ : ∃ pre, pre = ahead ++ uvar v ++ uvar (zigN x) := ⟨_, rfl⟩
  have hprel : pre.length = an + (uvar v).length + (uvar (zigN x)).length := by rw [hpre]; simp [hal]; omega
  have hu3 : (uvar t.length).length ≤ 10 := uvar_len10 (by omega)
  have eT : textL (ahead ++ uvar v ++ uvar (zigN x)) (tB (s.extract 0 (min s.size 100000))) = (pre ++ (uvar t.length ++ t), 0) := by
    unfold textL
    rw [← ht, if_pos (by omega), ← hpre]
  rw [eT] at o3
  have hn3 := o3.1
  simp only [List.length_append] at hn3
  rw [eT]
  refine ⟨q3, n3, c3, _, rfl, ?_⟩
  have es : IntKind.i64.wrap ((n3 : Int) + (bn : Int)) = ((n3 + bn : Nat) : Int) := by rw [i64_fit (by omega) (by omega)]; omega
  rw [es, Int.toNat_natCast]
  refine ⟨by omega, by omega, by omega, by omega, fun b20 w21 h20 => ?_⟩
  have hmade := made_bytes h20 (by simp [maxLen]; omega)
  have hxn := h20.ext
  obtain ⟨p4, c4, w26, hrun, hm4, hg4⟩ := append_bytes hmade (o3.2.ext hxn).at (by rw [← o3.1]) (o3.2.ext hxn).isNil hxn.size (by omega)
  have x26 : Ext wd w26 := hmade.below hg4 hxn (Nat.le_refl _) hxn.size
  rw [List.nil_append, Nat.zero_add] at hm4
  rw [Nat.zero_add] at hrun
  refine ⟨p4, n3, c4, w26, hrun, ?_⟩
  obtain ⟨p5, c5, w30, hrun2, hm5, hg5⟩ := append_bytes hm4 (hb.ext (ed'.trans x26)).lies hb.len hb.nil x26.size (by omega)
  have x30 : Ext wd w30 := hm4.below hg5 x26 (Nat.le_refl _) x26.size
  refine ⟨p5, _, c5, w30, hrun2, ?_⟩
  obtain ⟨L, hL⟩ : ∃ L, L = pre ++ (uvar t.length ++ t) ++ behind := ⟨_, rfl⟩
  rw [← hL] at hm5
  have hLl : L.length = n3 + bn := by rw [hL]; simp only [List.length_append]; omega
  have hLm : n3 + bn ≤ maxLen := by simp [maxLen]; omega
  have k1 : takeN L an = some (v, an + (uvar v).length) := by
    rw [hL, hpre, ← hal]
    have := takeN_uvar hv ahead (uvar (zigN x) ++ (uvar t.length ++ t) ++ behind)
    simpa [List.append_assoc] using this
  have k2 : takeN L ((an + (uvar v).length : Nat) : Int) = some (zigN x, pre.length) := by
    have := takeN_uvar hz (ahead ++ uvar v) ((uvar t.length ++ t) ++ behind)
    rw [List.length_append, hal] at this
    rw [hL, hpre, ← hprel] at *
    simpa [List.append_assoc, hprel] using this
  have k3 : takeN L (pre.length : Int) = some (t.length, pre.length + (uvar t.length).length) := by
    have := takeN_uvar (n := t.length) (by omega) pre (t ++ behind)
    rw [hL]
    simpa [List.append_assoc] using this
  have eV : takeV L an = .tuple #[.int .u64 (v : Int), .int .i64 ((an + (uvar v).length : Nat) : Int), .int .i64 0] := by unfold takeV; rw [k1]
  have eS : takeS L ((an + (uvar v).length : Nat) : Int) = .tuple #[.int .i64 x, .int .i64 (pre.length : Int), .int .i64 0] := by unfold takeS; rw [k2]; simp only [unzig_zig]
  have eTt : takeT L (pre.length : Int) (t.length : Int) = .tuple #[.string ⟨t.toArray⟩, .int .i64 (n3 : Int), .int .i64 0] := by
    unfold takeT
    rw [k3]
    simp only
    rw [if_pos ⟨by omega, by omega, by omega⟩]
    have e1 : (L.drop (pre.length + (uvar t.length).length)).take t.length = t := by
      rw [hL, show pre ++ (uvar t.length ++ t) ++ behind = (pre ++ uvar t.length) ++ (t ++ behind) by simp [List.append_assoc], List.drop_left' (by simp), List.take_left]
    have e2 : pre.length + (uvar t.length).length + t.length = n3 := by omega
    rw [e1, e2]
  refine (takeNumber_ok w30 p5 _ c5 L an hLl hm5.cap.1 hLm hm5.at).mono ?_
  rintro e w32 ⟨rfl, e32⟩
  refine ⟨_, _, _, by rw [eV], (takeSigned_ok w32 p5 _ c5 L _ hLl hm5.cap.1 hLm (hm5.ext e32).at).mono ?_⟩
  rintro e w37 ⟨rfl, e37⟩
  rw [hts]
  have hin : In w37 p5 (n3 + bn) c5 L := ⟨hLl, hm5.cap, ((hm5.ext e32).ext e37).at, hm5.isNil⟩
  refine ⟨_, _, _, by rw [eS], (takeText_ok w37 hin (by omega)).mono ?_⟩
  rintro e w42 ⟨rfl, e42⟩
  refine ⟨_, _, _, by rw [eTt], ?_, ed'.trans (((x30.trans e32).trans e37).trans e42)⟩
  have : (⟨t.toArray⟩ : ByteArray) = s.extract 0 (min s.size 100000) := by rw [ht, mk_tB]
  rw [this]
  simp [sEq_self]
end Go.Proofs.Ytdclhgcgpcddlaa
