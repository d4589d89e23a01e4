/- The walks of law 06's statements: words, best, small, near. -/
import Derived.Test.YtdclhgcgpcddlaaIntsE
import Derived.Test.YtdclhgcgpcddlaaV6c
import Derived.Test.YtdclhgcgpcddlaaOpen
namespace Go.Proofs.Ytdclhgcgpcddlaa
open Go Go.Vc Go.RowKit

namespace L6
theorem und30 : Try.prog.underlying 30 = some (.slice 5) := by kernel_rfl
theorem und3 : Try.prog.underlying 3 = some (.int .i64) := by kernel_rfl
theorem und2 : Try.prog.underlying 2 = some (.int .i64) := by kernel_rfl
theorem und5 : Try.prog.underlying 5 = some (.int .u8) := by kernel_rfl
theorem arg_bytes {w : World} {v : Value} (h : Arg Try.prog w 30 [v]) : ∃ p n c l, v = .slice p n c ∧ InB w p n c l ∧ n ≤ 140737488351232 := by
  obtain ⟨p, n, c, css, he, h1, h2, h3, h4, h5, h6, h7⟩ := Arg.slice und30 (by decide +kernel : 0 < Try.prog.cellsOf 5) h
  cases he
  have hb : Try.prog.bytesOf 5 = 1 := by kernel_rfl
  have hsz : Try.prog.cellsOf 5 = 1 := by kernel_rfl
  rw [hb] at h3
  rw [hsz] at h5
  have : ∃ full : List UInt8, css.flatten = vB full ∧ full.length = css.length := by
    clear h4 h6
    induction css with
    | nil => exact ⟨[], rfl, rfl⟩
    | cons x r ih =>
      obtain ⟨full, hf, hl⟩ := ih fun y hy => h5 y (by simp [hy])
      obtain ⟨n, rfl, hwf⟩ := Arg.int und5 (h5 x (by simp)).2
      obtain ⟨a0, a1⟩ := wf_u8 hwf
      refine ⟨UInt8.ofNat n.toNat :: full, ?_, by simp [hl]⟩
      have : (((UInt8.ofNat n.toNat).toNat : Nat) : Int) = n := by simp; omega
      simp only [List.flatten_cons, hf, vB, List.map_cons, this]
      rfl
  obtain ⟨full, hf, hl⟩ := this
  rw [hf] at h6
  exact ⟨p, n, c, full.take n, rfl, ⟨by simp; omega, ⟨h1, h2⟩, by rw [← vB_take]; exact h6.take n, h7⟩, by omega⟩
theorem arg_ints {w : World} {v : Value} (h : Arg Try.prog w 63 [v]) : ∃ p n c l, v = .slice p n c ∧ Is w p n c l ∧ n ≤ 17592186043904 := by
  obtain ⟨p, n, c, css, he, h1, h2, h3, h4, h5, h6, h7⟩ := Arg.slice und63 (by decide +kernel : 0 < Try.prog.cellsOf 2) h
  cases he
  have hb : Try.prog.bytesOf 2 = 8 := by kernel_rfl
  have hsz : Try.prog.cellsOf 2 = 1 := by kernel_rfl
  rw [hb] at h3
  rw [hsz] at h5
  have : ∃ full : List Int, css.flatten = vI .i64 full ∧ full.length = css.length ∧ ∀ x ∈ full, i64B x := by
    clear h4 h6
    induction css with
    | nil => exact ⟨[], rfl, rfl, by simp⟩
    | cons x r ih =>
      obtain ⟨full, hf, hl, ha⟩ := ih fun y hy => h5 y (by simp [hy])
      obtain ⟨n, rfl, hwf⟩ := Arg.int und2 (h5 x (by simp)).2
      refine ⟨n :: full, ?_, by simp [hl], fun y hy => ?_⟩
      · simp only [List.flatten_cons, hf, vI, List.map_cons]
        rfl
      · rcases List.mem_cons.1 hy with rfl | hy
        · exact wf_i64 hwf
        · exact ha y hy
  obtain ⟨full, hf, hl, ha⟩ := this
  rw [hf] at h6
  exact ⟨p, n, c, full.take n, rfl, ⟨by simp; omega, ⟨h1, h2⟩, by rw [← vI_take]; exact h6.take n, h7, fun x hx => ha x (List.mem_of_mem_take hx)⟩, by omega⟩
theorem arg_int {w : World} {v : Value} (h : Arg Try.prog w 3 [v]) : ∃ n : Int, v = .int .i64 n ∧ i64B n := by
  obtain ⟨n, he, hwf⟩ := Arg.int und3 h
  cases he
  exact ⟨n, rfl, wf_i64 hwf⟩
theorem arg_i64 {w : World} {v : Value} (h : Arg Try.prog w 2 [v]) : ∃ n : Int, v = .int .i64 n ∧ i64B n := by
  obtain ⟨n, he, hwf⟩ := Arg.int und2 h
  cases he
  exact ⟨n, rfl, wf_i64 hwf⟩

theorem bestV_tup (l : List Int) : ∃ a b : Int, bestV l = .tuple #[.int .i64 a, .int .i64 b] ∧ (l.length ≤ 4096 → a = bestF l ∧ b = 0) ∧ (¬ l.length ≤ 4096 → b = 2) := by
  unfold bestV
  split
  · exact ⟨_, _, rfl, fun _ => ⟨rfl, rfl⟩, fun h => absurd ‹_› h⟩
  · exact ⟨_, _, rfl, fun h => absurd h ‹_›, fun _ => rfl⟩

theorem words_walk (w : World) (v0 v1 : Value) (h0 : Arg Try.prog w 3 [v0]) (h1 : Arg Try.prog w 63 [v1]) : Calls Try.prog 16 #[v0, v1] w fun e w' => e = .returned (.bool true) ∧ Ext w w' := by
  obtain ⟨form, rfl, hf⟩ := arg_int h0
  obtain ⟨p, n, c, l, rfl, hl, hn⟩ := arg_ints h1
  obtain ⟨a, b, hV, _, _⟩ := bestV_tup l
  apply law6Words_vc
  unfold law6Words_T
  refine (shown6_ok w).mono ?_
  rintro e wa ⟨rfl, ea⟩
  refine ⟨true, rfl, (encode_ok wa (hl.ext ea) form).mono ?_⟩
  rintro e wb ⟨q1, m1, d1, rfl, o1, eb⟩
  have eb' := ea.trans eb
  refine ⟨q1, m1, d1, _, rfl, (rencode_ok wb (hl.ext eb') form).mono ?_⟩
  rintro e wc ⟨q2, m2, d2, rfl, o2, ec⟩
  have ec' := eb'.trans ec
  refine ⟨q2, m2, d2, _, rfl, (best_ok wc (hl.ext ec')).mono ?_⟩
  rintro e wd ⟨rfl, ed⟩
  have ed' := ec'.trans ed
  refine ⟨a, b, by rw [hV], (rbest_ok wd (hl.ext ed')).mono ?_⟩
  rintro e we ⟨rfl, ee⟩
  exact ⟨a, b, by rw [hV], fun _ => ⟨_, (((o1.ext ec).ext ed).ext ee).bytes, _, ((o2.ext ed).ext ee).bytes, by simp [sEq_self], ed'.trans ee⟩, fun h => Bool.noConfusion h⟩

/-- No form is shorter than the best one; those before it are longer. -/
theorem best_le (l : List Int) (f : Nat) (hf : f ≤ 3) : (encL (bestF l).toNat l).length ≤ (encL f l).length ∧ ((encL f l).length = (encL (bestF l).toNat l).length → bestF l ≤ (f : Int)) := by
  obtain ⟨a, ha⟩ : ∃ a, a = (encL 0 l).length := ⟨_, rfl⟩
  obtain ⟨b, hb⟩ : ∃ a, a = (encL 1 l).length := ⟨_, rfl⟩
  obtain ⟨c, hc⟩ : ∃ a, a = (encL 2 l).length := ⟨_, rfl⟩
  obtain ⟨d, hd⟩ : ∃ a, a = (encL 3 l).length := ⟨_, rfl⟩
  have hF : bestF l = argmin4 a b c d := by unfold bestF; rw [ha, hb, hc, hd]
  have h4 : f = 0 ∨ f = 1 ∨ f = 2 ∨ f = 3 := by omega
  rw [hF]
  unfold argmin4
  split
  · rw [show (0 : Int).toNat = 0 from rfl]; rcases h4 with rfl | rfl | rfl | rfl <;> omega
  · split
    · rw [show (1 : Int).toNat = 1 from rfl]; rcases h4 with rfl | rfl | rfl | rfl <;> omega
    · split
      · rw [show (2 : Int).toNat = 2 from rfl]; rcases h4 with rfl | rfl | rfl | rfl <;> omega
      · rw [show (3 : Int).toNat = 3 from rfl]; rcases h4 with rfl | rfl | rfl | rfl <;> omega
theorem enc_in {l : List Int} {f : Int} (h : 0 ≤ f ∧ f ≤ 3) (hl : l.length ≤ 4096) : encE f l = 0 ∧ encB f l = encL f.toNat l := by
  unfold encE encB; rw [if_pos ⟨h, hl⟩, if_pos ⟨h, hl⟩]; exact ⟨rfl, rfl⟩

theorem best_walk (w : World) (v0 : Value) (h0 : Arg Try.prog w 63 [v0]) : Calls Try.prog 17 #[v0] w fun e w' => e = .returned (.bool true) ∧ Ext w w' := by
  obtain ⟨p, n, c, l, rfl, hl, hn⟩ := arg_ints h0
  have hlen := hl.len
  obtain ⟨a, b, hV, hV1, hV2⟩ := bestV_tup l
  apply law6Best_vc
  unfold law6Best_T
  refine (shown6_ok w).mono ?_
  rintro e wa ⟨rfl, ea⟩
  refine ⟨true, rfl, (best_ok wa (hl.ext ea)).mono ?_⟩
  rintro e wb ⟨rfl, eb⟩
  have eb' := ea.trans eb
  refine ⟨a, b, by rw [hV], fun hne => ?_, fun h0 => ?_⟩
  · have : ¬ l.length ≤ 4096 := fun h => hne (hV1 h).2
    exact ⟨by rw [decide_eq_true (by omega)]; rfl, eb'⟩
  · have hle : l.length ≤ 4096 := Classical.byContradiction fun h => by rw [hV2 h] at h0; cases h0
    obtain ⟨rfl, _⟩ := hV1 hle
    obtain ⟨e1, e2⟩ := enc_in (bestF_range l) hle
    refine (encode_ok wb (hl.ext eb') _).mono ?_
    rintro e wc ⟨q1, m1, d1, rfl, o1, ec⟩
    have ec' := eb'.trans ec
    rw [e2] at o1
    have hm1 := o1.1
    refine ⟨q1, m1, d1, _, rfl, fun h => absurd e1 h, fun _ => ?_⟩
    refine ⟨fun i W => ∃ k : Nat, i = (k : Int) ∧ k ≤ 4 ∧ Ext w W, fun i _ => 4 - i.toNat, ⟨0, rfl, by omega, ec'⟩, ?_⟩
    rintro i W ⟨k, rfl, hk, hx⟩
    refine ⟨fun hlt => (encode_ok W (hl.ext hx) _).mono ?_, fun _ => ⟨rfl, hx⟩⟩
    rintro e wd ⟨q2, m2, d2, rfl, o2, ed⟩
    have hx2 := hx.trans ed
    obtain ⟨e3, e4⟩ := enc_in (l := l) (f := (k : Int)) (by omega) hle
    rw [e4, Int.toNat_natCast] at o2
    have hm2 := o2.1
    obtain ⟨b1, b2⟩ := best_le l k (by omega)
    refine ⟨q2, m2, d2, _, rfl, fun h => ?_, fun _ => ⟨fun h => ?_, fun _ => ?_⟩⟩
    · rcases h with h | h
      · exact absurd e3 h
      · omega
    · have := b2 (by omega); omega
    · rw [i64_next (by omega)]
      exact ⟨⟨k + 1, rfl, by omega, hx2⟩, by simp only [Int.toNat_natCast]; omega⟩

theorem small_len {n : Nat} {x : Int} (hn : n ≤ 4096) (hx : i64B x) : (encL 1 (List.replicate n x)).length ≤ 13 := by
  show (1 :: runB (runsW (List.replicate n x)) : List UInt8).length ≤ 13
  cases n with
  | zero => rw [show List.replicate 0 x = [] from rfl, runsW_nil]; simp [runB]
  | succ m =>
    have hr := runsW_run (l := List.replicate (m + 1) x) (x := x) (f := 0) (m := m) (fun i hi => by rw [List.getElem?_replicate, if_pos (by omega)]) (fun y hy => by rw [List.getElem?_replicate, if_neg (by omega)] at hy; cases hy)
    rw [List.drop_zero, List.drop_of_length_le (by simp), runsW_nil] at hr
    rw [hr]
    have h1 : (uvar (m + 1)).length ≤ 2 := uvar_len 1 (m + 1) (by omega)
    have h2 := sgn_len hx
    simp only [runB, List.flatMap_cons, List.flatMap_nil, List.length_cons, List.length_append, List.length_nil]
    omega

theorem small_walk (w : World) (v0 v1 : Value) (h0 : Arg Try.prog w 2 [v0]) (h1 : Arg Try.prog w 3 [v1]) : Calls Try.prog 18 #[v0, v1] w fun e w' => e = .returned (.bool true) ∧ Ext w w' := by
  obtain ⟨x, rfl, hx⟩ := arg_i64 h0
  obtain ⟨n, rfl, hn⟩ := arg_int h1
  apply law6Small_vc
  unfold law6Small_T
  refine (shown6_ok w).mono ?_
  rintro e wa ⟨rfl, ea⟩
  refine ⟨true, rfl, fun _ => ⟨rfl, ea⟩, fun hr => ?_⟩
  obtain ⟨n, rfl⟩ := Int.eq_ofNat_of_zero_le hr.1
  rw [Int.toNat_natCast]
  refine ⟨by omega, by omega, by omega, by omega, fun b6 w7 h6 => ?_⟩
  let L : Nat → List Int := fun k => (List.range n).map fun i => if i < k then x else 0
  have hL0 : madeCells #[.int .i64 0] n = (vI .i64 (L 0)).toArray := by
    apply Array.ext'
    apply List.ext_getElem?
    intro i
    simp only [madeCells, vI, L]
    by_cases h : i < n
    · simp [h, Nat.mod_one]
    · rw [List.getElem?_eq_none (by simp; omega), List.getElem?_eq_none (by simp; omega)]
  rw [hL0] at h6
  have H7 := (Hold.start ea).new h6
  refine ⟨fun i W => ∃ k : Nat, i = (k : Int) ∧ k ≤ n ∧ Hold w W [(b6, .cells (vI .i64 (L k)).toArray 2)] [], fun i _ => n - i.toNat, ⟨0, rfl, Nat.zero_le _, H7⟩, ?_⟩
  rintro i W ⟨k, rfl, hk, H⟩
  refine ⟨fun hlt => ?_, fun hge => ?_⟩
  · have hsz : k < (vI .i64 (L k)).toArray.size := by simp [vI, L]; omega
    refine ⟨b6, 0, rfl, by omega, by omega, ⟨(vI .i64 (L k)).toArray[k], by rw [Int.toNat_natCast, Nat.zero_add, (H.blk 0 rfl).cell]; exact Array.getElem?_eq_getElem hsz⟩, (H.blk 0 rfl).frozen _, fun w18 hput => ?_⟩
    rw [Int.toNat_natCast, Nat.zero_add] at hput
    have H18 := H.put 0 rfl hput
    rw [i64_next (by omega)]
    refine ⟨⟨k + 1, rfl, by omega, ?_⟩, by simp only [Int.toNat_natCast]; omega⟩
    have : vI .i64 (L (k + 1)) = (vI .i64 (L k)).set k (.int .i64 x) := by
      apply List.ext_getElem?
      intro i
      rw [List.getElem?_set]
      simp only [vI, L, List.length_map, List.length_range, List.getElem?_map]
      by_cases hi : i < n
      · by_cases hik : k = i
        · subst hik
          rw [if_pos rfl, if_pos hi, List.getElem?_range hi]
          simp
        · rw [if_neg hik, List.getElem?_range hi]
          simp only [Option.map_some]
          by_cases h : i < k
          · rw [if_pos h, if_pos (by omega)]
          · rw [if_neg h, if_neg (by omega)]
      · rw [List.getElem?_eq_none (by simp; omega)]
        split
        · omega
        · simp
    rw [this, ← List.setIfInBounds_toArray]
    exact H18
  · have hkn : k = n := by omega
    subst hkn
    have hLn : L k = List.replicate k x := by
      apply List.ext_getElem?
      intro i
      by_cases hi : i < k
      · simp [L, hi]
      · rw [List.getElem?_eq_none (by simp [L]; omega), List.getElem?_eq_none (by simp; omega)]
    have his : Is W (some ⟨b6, 0, none⟩) k k (List.replicate k x) := by
      refine ⟨by simp, ⟨Nat.le_refl _, by simp [maxLen]; omega⟩, ?_, (fun e => by cases e), fun y hy => ?_⟩
      · have := (H.blk 0 rfl).at
        rw [← hLn]; simpa using this
      · rw [List.eq_of_mem_replicate hy]; exact hx
    have hle : (List.replicate k x).length ≤ 4096 := by simp; omega
    obtain ⟨a, b, hV, hV1, _⟩ := bestV_tup (List.replicate k x)
    obtain ⟨rfl, rfl⟩ := hV1 hle
    refine (best_ok W his).mono ?_
    rintro e wb ⟨rfl, eb⟩
    obtain ⟨e1, e2⟩ := enc_in (bestF_range (List.replicate k x)) hle
    refine ⟨_, _, by rw [hV], (encode_ok wb (his.ext eb) _).mono ?_⟩
    rintro e wc ⟨q1, m1, d1, rfl, o1, ec⟩
    rw [e2] at o1
    have hm1 := o1.1
    have h13 := small_len (n := k) (x := x) (by omega) hx
    have hb := (best_le (List.replicate k x) 1 (by omega)).1
    refine ⟨q1, m1, d1, _, rfl, ?_, (H.ext.trans eb).trans ec⟩
    rw [e1, decide_eq_true (by omega : (m1 : Int) ≤ 13)]
    simp

theorem near_len {l : List Int} {low : Int} (hl : l.length ≤ 1000) (hf : ∀ x ∈ l, i64B x) (hr : ∀ x ∈ l, low ≤ x ∧ x < low + 256) : (encL 3 l).length ≤ l.length + 12 := by
  show (3 :: (if l = [] then [] else sgn (lowL l) ++ packedL (frameL l)) : List UInt8).length ≤ _
  by_cases h0 : l = []
  · rw [if_pos h0]; simp
  · rw [if_neg h0]
    have h1 := sgn_len (hf _ (lowL_mem h0))
    have h2 := hr _ (lowL_mem h0)
    have hfl : (frameL l).length = l.length := by simp [frameL]
    have hw : widthN (frameL l) ≤ 8 := widthN_le.2 fun x hx => by
      obtain ⟨y, hy, rfl⟩ := List.mem_map.1 hx
      have := hr y hy
      have := lowL_le y hy
      omega
    have hok := packOk_width (s := frameL l) (by omega) (frameL_lt hf)
    have hmul := Nat.mul_le_mul_left l.length hw
    simp only [packedL, packB, hok, if_true, List.length_cons, List.length_append, bytesOf_length, Int.toNat_natCast, hfl]
    omega

theorem near_walk (w : World) (v0 v1 : Value) (h0 : Arg Try.prog w 2 [v0]) (h1 : Arg Try.prog w 30 [v1]) : Calls Try.prog 19 #[v0, v1] w fun e w' => e = .returned (.bool true) ∧ Ext w w' := by
  obtain ⟨low, rfl, hlow⟩ := arg_i64 h0
  obtain ⟨p, n, c, b, rfl, hb, hn⟩ := arg_bytes h1
  have hlen := hb.len
  have hcap := hb.cap
  apply law6Near_vc
  unfold law6Near_T
  have hM : mmI false (n : Int) 1000 = ((min n 1000 : Nat) : Int) := by unfold mmI; dsimp only; split <;> omega
  rw [hM, Int.toNat_natCast]
  obtain ⟨m, hm⟩ : ∃ m, m = min n 1000 := ⟨_, rfl⟩
  rw [← hm]
  refine (shown6_ok w).mono ?_
  rintro e wa ⟨rfl, ea⟩
  refine ⟨true, rfl, by omega, by omega, fun _ => ⟨rfl, ea⟩, fun hle => ?_⟩
  unfold i64B at hlow
  let L : Nat → List Int := fun k => (b.take k).map fun y => low + ((y.toNat : Nat) : Int)
  refine ⟨fun ps ns cs i W => ∃ k : Nat, i = (k : Int) ∧ k ≤ m ∧ ns = k ∧ Hold w W [] [⟨2, 1, ps, ns, cs, vI .i64 (L k)⟩], fun _ _ _ i _ => m - i.toNat, ⟨0, rfl, Nat.zero_le _, rfl, (Hold.start ea).nilRow 2 1⟩, ?_⟩
  rintro ps ns cs i W ⟨k, rfl, hk, rfl, H⟩
  refine ⟨fun hlt => ?_, fun hge => ?_⟩
  · obtain ⟨y, hy⟩ : ∃ y, b[ns]? = some y := ⟨_, List.getElem?_eq_getElem (by omega)⟩
    have hyl := y.toNat_lt
    have hby : b[ns]'(by omega) = y := (List.getElem?_eq_some_iff.1 hy).2
    obtain ⟨b1, o1, hp, hc⟩ := (hb.ext H.ext).lies.getB (i := ns) (by omega)
    rw [hby] at hc
    have ev : IntKind.i64.wrap (low + IntKind.i64.wrap ((y.toNat : Nat) : Int)) = low + ((y.toNat : Nat) : Int) := by rw [i64_nat (by omega), i64_fit (by omega) (by omega)]
    rw [i64_next (by omega)]
    refine ⟨b1, o1, hp, by omega, by omega, _, by rw [Int.toNat_natCast]; exact hc, fun b18 w19 h18 => ?_⟩
    rw [ev] at h18
    obtain ⟨p', c', w24, hrun, H24⟩ := app_i64 H 0 rfl h18 (by omega)
    refine ⟨p', _, c', w24, hrun, ⟨ns + 1, rfl, by omega, rfl, ?_⟩, by simp only [Int.toNat_natCast]; omega⟩
    have : L (ns + 1) = L ns ++ [low + ((y.toNat : Nat) : Int)] := by simp only [L]; rw [take_snoc hy]; simp
    rw [this]
    exact H24
  · have hkm : ns = m := by omega
    subst hkm
    have hLl : (L ns).length = ns := by simp [L]; omega
    have hLr : ∀ x ∈ L ns, low ≤ x ∧ x < low + 256 := by
      intro x hx
      obtain ⟨y, _, rfl⟩ := List.mem_map.1 hx
      have := y.toNat_lt
      omega
    have hLf : ∀ x ∈ L ns, i64B x := fun x hx => by have := hLr x hx; unfold i64B; omega
    have hrow := H.row 0 rfl
    have his : Is W ps ns cs (L ns) := ⟨hLl, hrow.cap, hrow.at, hrow.isNil, hLf⟩
    have hle' : (L ns).length ≤ 4096 := by omega
    obtain ⟨a, b, hV, hV1, _⟩ := bestV_tup (L ns)
    obtain ⟨rfl, rfl⟩ := hV1 hle'
    refine (best_ok W his).mono ?_
    rintro e wb ⟨rfl, eb⟩
    obtain ⟨e1, e2⟩ := enc_in (bestF_range (L ns)) hle'
    refine ⟨_, _, by rw [hV], (encode_ok wb (his.ext eb) _).mono ?_⟩
    rintro e wc ⟨q1, m1, d1, rfl, o1, ec⟩
    rw [e2] at o1
    have hm1 := o1.1
    have h12 := near_len (l := L ns) (low := low) (by omega) hLf hLr
    have hbl := (best_le (L ns) 3 (by omega)).1
    refine ⟨q1, m1, d1, _, rfl, ?_, (H.ext.trans eb).trans ec⟩
    rw [e1, i64_fit (by omega) (by omega), decide_eq_true (by omega : (m1 : Int) ≤ (ns : Int) + 12)]
    simp
end L6
end Go.Proofs.Ytdclhgcgpcddlaa
