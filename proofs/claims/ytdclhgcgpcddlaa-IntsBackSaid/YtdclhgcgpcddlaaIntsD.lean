/- Lists of numbers in few bytes: the program's Encode. -/
import Derived.Test.YtdclhgcgpcddlaaIntsC
namespace Go.Proofs.Ytdclhgcgpcddlaa
open Go Go.Vc Go.RowKit

set_option maxRecDepth 100000 in
theorem encode_ok (w : World) {p : Option Addr} {n c : Nat} {l : List Int} (h : Is w p n c l) (form : Int) :
    Calls Try.prog 48 #[.int .i64 form, .slice p n c] w fun e w' => ∃ q m d, e = .returned (.tuple #[.slice q m d, .int .i64 (encE form l)]) ∧ OutB w.heap.size 5 w' q m d (encB form l) ∧ Ext w w' := by
  have hlen := h.len
  apply encode_vc
  unfold encode_T
  refine ⟨fun hbad => ?_, fun hok b3 w4 h3 b6 w7 h6 => ?_⟩
  · have hno : ¬ ((0 ≤ form ∧ form ≤ 3) ∧ l.length ≤ 4096) := by omega
    exact ⟨none, 0, 0, by rw [encE, if_neg hno], by rw [encB, if_neg hno]; exact ⟨rfl, Mine.nil _ _ _ _⟩, .rfl⟩
  have hyes : (0 ≤ form ∧ form ≤ 3) ∧ l.length ≤ 4096 := by omega
  have eE : encE form l = 0 := by rw [encE, if_pos hyes]
  have eB : encB form l = encL form.toNat l := by rw [encB, if_pos hyes]
  have eF : IntKind.u8.wrap form = (((UInt8.ofNat form.toNat).toNat : Nat) : Int) := by
    have := u8_of (n := form.toNat) (by omega)
    rwa [Int.toNat_of_nonneg hok.1.1] at this
  rw [eE, eB]
  rw [eF] at h3
  have H4 : Hold w w4 [] [⟨5, 1, some ⟨b3, 0, none⟩, 1, 1, vB [UInt8.ofNat form.toNat]⟩] := (Hold.start (.rfl : Ext w w)).litRow (s := 1) (cap := 1) h3 (by simp [maxLen]) rfl
  have H7 := H4.new h6
  refine ⟨⟨_, (H7.blk 0 rfl).one⟩, (H7.blk 0 rfl).frozen 0, fun w10 hput => ?_⟩
  have H10 := H7.box 0 rfl hput
  -- how the box's bytes are handed back
  have fin : ∀ W q m d bs, Hold w W [(b6, .cells #[.slice q m d] 30)] [⟨5, 1, q, m, d, vB bs⟩] → bs.length = m → ∃ p39 n40 c41, W.cell? ⟨b6, 0, none⟩ = some (.slice p39 n40 c41) ∧
      ∃ q m d, Ending.returned (.tuple #[.slice p39 n40 c41, .int .i64 0]) = Ending.returned (.tuple #[.slice q m d, .int .i64 0]) ∧ OutB w.heap.size 5 W q m d bs ∧ Ext w W := by
    intro W q m d bs H hm
    exact ⟨q, m, d, (H.blk 0 rfl).one, q, m, d, rfl, ⟨hm, H.row 0 rfl⟩, H.ext⟩
  have enc0 : l = [] → encL form.toNat l = [UInt8.ofNat form.toNat] := by
    rintro rfl
    have h4 : form = 0 ∨ form = 1 ∨ form = 2 ∨ form = 3 := by omega
    rcases h4 with rfl | rfl | rfl | rfl
    · rfl
    · show 1 :: runB (runsW []) = _; rw [runsW_nil]; rfl
    · rfl
    · rfl
  refine ⟨fun h0 => ?_, fun h0 => ?_⟩
  · have hl : l = [] := List.eq_nil_of_length_eq_zero (by omega)
    rw [enc0 hl]
    exact fin w10 _ 1 1 _ H10 rfl
  have hl : l ≠ [] := by rintro rfl; simp at hlen; omega
  obtain ⟨x0, hx0⟩ : ∃ x, l[0]? = some x := ⟨_, List.getElem?_eq_getElem (by omega)⟩
  have e0 : l.getD 0 0 = x0 := by simp [List.getD_eq_getElem?_getD, hx0]
  -- packed numbers are put into the box
  have pk : ∀ W (v : Value), Hold w W [(b6, .cells #[v] 30)] [] → ∀ q m d bs W2, OutB W.heap.size 5 W2 q m d bs → Ext W W2 →
      (∃ u, W2.cell? ⟨b6, 0, none⟩ = some u) ∧ W2.frozen? ⟨b6, 0, none⟩ = false ∧ ∀ W3, Put W2 b6 0 [.slice q m d] W3 → Hold w W3 [(b6, .cells #[.slice q m d] 30)] [⟨5, 1, q, m, d, vB bs⟩] := by
    intro W v H q m d bs W2 o e
    have H2 := H.addRow e o.2
    exact ⟨⟨_, (H2.blk 0 rfl).one⟩, (H2.blk 0 rfl).frozen 0, fun W3 hp => H2.box 0 rfl hp⟩
  have h4 : form = 0 ∨ form = 1 ∨ form = 2 ∨ form = 3 := by omega
  rcases h4 with rfl | rfl | rfl | rfl
  · -- plain
    refine ⟨fun _ => ?_, fun h => absurd rfl h⟩
    refine ⟨fun i W => ∃ (k : Nat) (q : Option Addr) (m d : Nat), i = (k : Int) ∧ k ≤ n ∧ Hold w W [(b6, .cells #[.slice q m d] 30)] [⟨5, 1, q, m, d, vB (0 :: plainL (l.take k))⟩] ∧ (0 :: plainL (l.take k) : List UInt8).length = m, fun i _ => n - i.toNat,
      ⟨0, _, _, _, rfl, Nat.zero_le _, H10, rfl⟩, ?_⟩
    rintro i W ⟨k, q, m, d, rfl, hk, H, hm⟩
    refine ⟨fun hlt => ?_, fun hge => ?_⟩
    · obtain ⟨x, hxk⟩ : ∃ x, l[k]? = some x := ⟨_, List.getElem?_eq_getElem (by omega)⟩
      have hxf := h.fit x (List.mem_of_getElem? hxk)
      obtain ⟨b, o', hp, hc⟩ := (h.ext H.ext).lies.getZ hxk
      have hrow := H.row 0 rfl
      have hin : In W q m d (0 :: plainL (l.take k)) := ⟨hm, hrow.cap, hrow.at, hrow.isNil⟩
      have hpl := plainL_len (l := l.take k) fun y hy => h.fit y (List.mem_of_mem_take hy)
      have hm' := hm
      simp only [List.length_cons, List.length_take] at hm' hpl
      refine ⟨b, o', hp, by omega, by omega, x, by rw [Int.toNat_natCast]; exact hc, q, m, d, (H.blk 0 rfl).one, (signed_out W hin (by omega) hxf.1 hxf.2).mono ?_⟩
      rintro e w31 ⟨q2, m2, d2, rfl, o2, e31⟩
      have H2 := H.noRow.addRow e31 o2.2
      rw [i64_next (by omega)]
      refine ⟨q2, m2, d2, rfl, ⟨_, (H2.blk 0 rfl).one⟩, (H2.blk 0 rfl).frozen 0, fun w36 hp => ⟨⟨k + 1, q2, m2, d2, rfl, by omega, ?_, ?_⟩, by simp only [Int.toNat_natCast]; omega⟩⟩
      · rw [plainL_snoc hxk, ← List.cons_append]
        exact H2.box 0 rfl hp
      · rw [plainL_snoc hxk, ← List.cons_append]
        exact o2.1
    · have : k = n := by omega
      subst this
      rw [List.take_of_length_le (by omega)] at H hm
      exact fin W q m d _ H hm
  · -- runs
    refine ⟨fun h => by omega, fun _ => ⟨fun _ => (inRuns_ok w10).mono ?_, fun h => absurd rfl h⟩⟩
    rintro e w45 ⟨b1, rfl, hH⟩
    have H45 := hH _ _ _ H10
    refine ⟨_, rfl, 77, _, rfl, by kernel_rfl, fun r d0 l' w1 hb hround => ?_⟩
    have H1 := H45.began hb
    refine (runs_rounds w h (by omega) (fun f v W => ∃ (R : List (Nat × Int)) (q : Option Addr) (m d : Nat), runsW l = R ++ runsW (l.drop f) ∧ (runB R).length ≤ 20 * f ∧
        Hold w W [(l', .loop (r 0)), (d0, .deferred (some [])), (b1, .cells #[v] 63), (b6, .cells #[.slice q m d] 30)] [⟨5, 1, q, m, d, vB (1 :: runB R)⟩] ∧ (1 :: runB R : List UInt8).length = m ∧ f ≤ n) w1 ?_ ?_ ?_ ?_ ?_ ?_).mono ?_
    · exact ⟨[], _, 1, 1, by simp, by simp [runB], H1, rfl, Nat.zero_le _⟩
    · rintro f v W ⟨R, q, m, d, hR, hRl, H, hm, hf⟩
      exact H.blk 2 rfl
    · rintro f v W ⟨R, q, m, d, hR, hRl, H, hm, hf⟩
      exact H.ext
    · rintro f v W W' ⟨R, q, m, d, hR, hRl, H, hm, hf⟩ hd
      exact ⟨R, q, m, d, hR, hRl, H.step hd.ext, hm, hf⟩
    · rintro f v v' W W' ⟨R, q, m, d, hR, hRl, H, hm, hf⟩ hp
      exact ⟨R, q, m, d, hR, hRl, H.box 2 rfl hp, hm, hf⟩
    · rintro f v W RR m x hrw hfm hx ⟨R, q, m', d, hR, hRl, H, hm, hf⟩ hRR
      refine hround _ _ W RR (H.loop 0 rfl) ⟨H.loop 0 rfl, fun Wb hWb => ?_⟩
      subst hWb
      have Hb := H.turn 0 1 rfl
      have hxf := h.fit x (List.mem_of_getElem? hx)
      have hrow := Hb.row 0 rfl
      have hin : In _ q m' d (1 :: runB R) := ⟨hm, hrow.cap, hrow.at, hrow.isNil⟩
      have hm' := hm
      simp only [List.length_cons] at hm'
      have ew : IntKind.u64.wrap ((m + 1 : Nat) : Int) = ((m + 1 : Nat) : Int) := u64_nat (by omega)
      rw [ew]
      refine ⟨q, m', d, (Hb.blk 3 rfl).one, (number_out _ hin (by omega) (by omega)).mono ?_⟩
      rintro e w65 ⟨q2, m2, d2, rfl, o2, e65⟩
      have hm2 := o2.1
      have hu1 : (uvar (m + 1)).length ≤ 10 := uvar_len10 (by omega)
      have hu2 := sgn_len hxf
      rw [List.length_append, List.length_cons] at hm2
      refine ⟨q2, m2, d2, rfl, (signed_out w65 o2.inn (by omega) hxf.1 hxf.2).mono ?_⟩
      rintro e w70 ⟨q3, m3, d3, rfl, o3, e70⟩
      have H70 := (Hb.noRow.step e65).addRow e70 o3.2
      refine ⟨q3, m3, d3, rfl, ⟨_, (H70.blk 3 rfl).one⟩, (H70.blk 3 rfl).frozen 0, fun w75 hp => ?_⟩
      have H75 := H70.box 3 rfl hp
      have eb : 1 :: runB R ++ uvar (m + 1) ++ uvar (zigN x) = 1 :: runB (R ++ [(m + 1, x)]) := by simp [runB, sgn]
      refine ⟨H75.loop 0 rfl, hRR _ ⟨R ++ [(m + 1, x)], q3, m3, d3, by rw [hR, hrw, List.append_assoc]; rfl, ?_, ?_, ?_, hfm⟩⟩
      · rw [runB_append, List.length_append]
        have : (runB [(m + 1, x)]).length = (uvar (m + 1)).length + (sgn x).length := by simp [runB]
        omega
      · rw [← eb]; exact H75.turn 0 0 rfl
      · rw [← eb]; exact o3.1
    · rintro e W' ⟨rfl, v, R, q, m, d, hR, hRl, H, hm, _⟩
      rw [List.drop_of_length_le (by omega), runsW_nil, List.append_nil] at hR
      have Ht := H.turn 0 2 rfl
      have Hs := Ht.shut 1 rfl
      refine ⟨⟨_, rfl⟩, .inl ⟨H.loop 0 rfl, q, m, d, (Ht.blk 3 rfl).one, Ht.dfr 1 rfl, q, m, d, rfl, ?_, Hs.ext⟩⟩
      show OutB w.heap.size 5 _ q m d (1 :: runB (runsW l))
      rw [hR]
      exact ⟨hm, Hs.row 0 rfl⟩
  · -- steps
    refine ⟨fun h => by omega, fun _ => ⟨fun h => by omega, fun _ => ⟨fun _ => ⟨by omega, by omega, ?_⟩, fun h => absurd rfl h⟩⟩⟩
    have hat := h.lies.slice 1 n c 1 h.cap.1
    rw [Nat.mul_one, Nat.mul_one, vI_take, vI_drop, List.take_of_length_le (by omega)] at hat
    refine ⟨fun ps ns cs i W => ∃ k : Nat, i = (k : Int) ∧ k ≤ n - 1 ∧ ns = k ∧ Hold w W [(b6, .cells #[.slice (some ⟨b3, 0, none⟩) 1 1] 30)] [⟨48, 1, ps, ns, cs, vN .u64 ((stepsL l).take k)⟩], fun _ _ _ i _ => n - i.toNat, ⟨0, rfl, Nat.zero_le _, rfl, H10.noRow.nilRow 48 1⟩, ?_⟩
    rintro ps ns cs i W ⟨k, rfl, hk, rfl, H⟩
    refine ⟨fun hlt => ?_, fun hge => ?_⟩
    · obtain ⟨y, hy⟩ : ∃ y, l[ns + 1]? = some y := ⟨_, List.getElem?_eq_getElem (by omega)⟩
      obtain ⟨x, hx⟩ : ∃ x, l[ns]? = some x := ⟨_, List.getElem?_eq_getElem (by omega)⟩
      have hy' : (l.drop 1)[ns]? = some y := by rw [List.getElem?_drop, Nat.add_comm]; exact hy
      obtain ⟨b1, o1, hp1, hc1⟩ := (hat.ext H.ext).getZ hy'
      obtain ⟨b2, o2, hp2, hc2⟩ := (h.ext H.ext).lies.getZ hx
      rw [i64_next (by omega)]
      refine ⟨b1, o1, hp1, by omega, by omega, y, by rw [Int.toNat_natCast]; exact hc1, b2, o2, hp2, by omega, by omega, x, by rw [Int.toNat_natCast]; exact hc2, (zigP_ok W (wrap_fit _)).mono ?_⟩
      rintro e w107 ⟨rfl, e107⟩
      refine ⟨_, rfl, fun b109 w110 h109 => ?_⟩
      obtain ⟨p', c', w115, hrun, H115⟩ := app_u64 (H.step e107) 0 rfl h109 (by omega)
      refine ⟨p', _, c', w115, hrun, ⟨ns + 1, rfl, by omega, rfl, ?_⟩, by simp only [Int.toNat_natCast]; omega⟩
      rw [take_snoc (stepsL_get hx hy)]
      exact H115
    · have hkn : ns = n - 1 := by omega
      obtain ⟨b1, o1, hp1, hc1⟩ := (h.ext H.ext).lies.getZ hx0
      have hrow := H.row 0 rfl
      rw [List.take_of_length_le (by rw [stepsL_length]; omega)] at hrow
      have hus : Us W ps ns cs (stepsL l) := ⟨by rw [stepsL_length]; omega, hrow.cap, hrow.at, hrow.isNil, stepsL_lt⟩
      refine ⟨b1, o1, hp1, by omega, by omega, x0, hc1, (packed_ok W hus (by omega) eF (h.fit x0 (List.mem_of_getElem? hx0))).mono ?_⟩
      rintro e w121 ⟨q, m, d, rfl, o, e121⟩
      obtain ⟨k1, k2, k3⟩ := pk W _ H.noRow q m d _ w121 o e121
      refine ⟨q, m, d, rfl, k1, k2, fun w126 hp => ?_⟩
      have : encL (2 : Int).toNat l = UInt8.ofNat (2 : Int).toNat :: sgn x0 ++ packedL (stepsL l) := by
        show 2 :: (if l = [] then [] else sgn (l.getD 0 0) ++ packedL (stepsL l)) = _
        rw [if_neg hl, e0]; rfl
      rw [this]
      exact fin w126 q m d _ (k3 w126 hp) o.1
  · -- frame
    refine ⟨fun h => by omega, fun _ => ⟨fun h => by omega, fun _ => ⟨fun h => by omega, fun _ => ⟨fun _ => (minI_ok w10 (h.ext H10.ext) (by omega)).mono ?_, fun h => absurd rfl h⟩⟩⟩⟩
    rintro e w134 ⟨rfl, e134⟩
    have hlow := h.fit _ (lowL_mem hl)
    refine ⟨_, rfl, fun ps ns cs i W => ∃ k : Nat, i = (k : Int) ∧ k ≤ n ∧ ns = k ∧ Hold w W [(b6, .cells #[.slice (some ⟨b3, 0, none⟩) 1 1] 30)] [⟨48, 1, ps, ns, cs, vN .u64 ((frameL l).take k)⟩], fun _ _ _ i _ => n - i.toNat, ⟨0, rfl, Nat.zero_le _, rfl, (H10.step e134).noRow.nilRow 48 1⟩, ?_⟩
    rintro ps ns cs i W ⟨k, rfl, hk, rfl, H⟩
    refine ⟨fun hlt => ?_, fun hge => ?_⟩
    · obtain ⟨x, hxk⟩ : ∃ x, l[ns]? = some x := ⟨_, List.getElem?_eq_getElem (by omega)⟩
      have hxm := List.mem_of_getElem? hxk
      have hxf := h.fit x hxm
      have hge := lowL_le x hxm
      obtain ⟨b, o', hp, hc⟩ := (h.ext H.ext).lies.getZ hxk
      have ev : IntKind.u64.wrap (IntKind.i64.wrap (x - lowL l)) = (((x - lowL l).toNat : Nat) : Int) := by
        unfold i64B at hxf hlow
        rw [u64_wrap, IntKind.wrap_i64]; omega
      rw [i64_next (by omega)]
      refine ⟨b, o', hp, by omega, by omega, x, by rw [Int.toNat_natCast]; exact hc, fun b148 w149 h148 => ?_⟩
      rw [ev] at h148
      obtain ⟨p', c', w154, hrun, H154⟩ := app_u64 H 0 rfl h148 (by omega)
      refine ⟨p', _, c', w154, hrun, ⟨ns + 1, rfl, by omega, rfl, ?_⟩, by simp only [Int.toNat_natCast]; omega⟩
      have hfr : (frameL l)[ns]? = some (x - lowL l).toNat := by simp [frameL, hxk]
      rw [take_snoc hfr]
      exact H154
    · have hkn : ns = n := by omega
      subst hkn
      have hfl : (frameL l).length = ns := by simp [frameL, hlen]
      have hrow := H.row 0 rfl
      rw [List.take_of_length_le (by omega)] at hrow
      have hus : Us W ps ns cs (frameL l) := ⟨hfl, hrow.cap, hrow.at, hrow.isNil, frameL_lt h.fit⟩
      refine (packed_ok W hus (by omega) eF hlow).mono ?_
      rintro e w157 ⟨q, m, d, rfl, o, e157⟩
      obtain ⟨k1, k2, k3⟩ := pk W _ H.noRow q m d _ w157 o e157
      refine ⟨q, m, d, rfl, k1, k2, fun w162 hp => ?_⟩
      have : encL (3 : Int).toNat l = UInt8.ofNat (3 : Int).toNat :: sgn (lowL l) ++ packedL (frameL l) := by
        show 3 :: (if l = [] then [] else sgn (lowL l) ++ packedL (frameL l)) = _
        rw [if_neg hl]; rfl
      rw [this]
      exact fin w162 q m d _ (k3 w162 hp) o.1
end Go.Proofs.Ytdclhgcgpcddlaa
